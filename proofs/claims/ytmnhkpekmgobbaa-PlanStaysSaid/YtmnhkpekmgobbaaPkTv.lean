/-
  What the proof of PlanStays leans on, part 22. (Many texts laid together by program.)
-/
import Derived.Test.YtmnhkpekmgobbaaPkTu
import Derived.Test.YtmnhkpekmgobbaaProg
import Derived.ProofKit
set_option linter.unnecessarySimpa false
set_option linter.unusedSimpArgs false
set_option linter.unusedVariables false
namespace Go.Proofs.Ytmnhkpekmgobbaa
namespace NM
open AM
def tm (n : Nat) : Opd := .tmp n
def ki (n : Int) : Opd := .const (.int .i64 n)
def vI : Sh := .v (.int .i64)
def o1 (d : Nat) (p : AOp) (a : Nat) : AOper := ⟨some d, p, none, a, none⟩
def o2 (d : Nat) (p : AOp) (g a : Nat) : AOper := ⟨some d, p, some (g, false), a, none⟩
def o3 (d : Nat) (p : AOp) (g a : Nat) : AOper := ⟨some d, p, some (g, true), a, none⟩
def o4 (d : Nat) (p : AOp) (a : Nat) (l : List Nat) : AOper := ⟨some d, p, none, a, some (l, none)⟩
def iz : AVal := .int .i64 0
def vv (n : Nat) : Bool × Opd := (false, .tmp n)
def vw (n : Nat) : Bool × Opd := (true, .tmp n)
def fc (n : Nat) : Opd := .func n
def kf : Opd := .const (.bool false)
def kt : Opd := .const (.bool true)
def oM (d x a : Nat) : AOper := ⟨some d, .move (.tmp x), none, a, none⟩
def oN (d x g a : Nat) : AOper := ⟨some d, .move (.tmp x), some (g, false), a, none⟩
def oF (d k x a : Nat) : AOper := ⟨some d, .fieldAddr k (.tmp x), none, a, none⟩
def oL (d x a : Nat) : AOper := ⟨some d, .load false 1 (.tmp x), none, a, none⟩
def oT (d n x a : Nat) : AOper := ⟨some d, .load true n (.tmp x), none, a, none⟩
def oS (n x y a : Nat) : AOper := ⟨none, .store n (.tmp x) (.tmp y), none, a, none⟩
def oX (d x i a : Nat) : AOper := ⟨some d, .extract (.tmp x) i, none, a, none⟩
def oB (d : Nat) (o : BinOp) (x y a : Nat) : AOper := ⟨some d, .bin o (.tmp x) (.tmp y), none, a, none⟩
def oC (d : Nat) (o : BinOp) (x : Nat) (y : Int) (a : Nat) : AOper := ⟨some d, .bin o (.tmp x) (ki y), none, a, none⟩
abbrev Taa : Type := ((Int × ((List (List Int)) × (Unit × Unit))) × ((List (List Step)) × Unit))
abbrev Tab : Type := ((Int × (Unit × (Unit × Unit))) × ((List (List Int)) × ((List (List Step)) × Unit)))
abbrev Tac : Type := (Int × ((List (List Int)) × (Unit × Unit)))
abbrev Tad : Type := (((Int × Unit) × ((Int × Unit) × ((Int × Unit) × Unit))) × Unit)
abbrev Tae : Type := ((((List Res) × ((List (List Int)) × ((List Queue) × (Int × (Int × (Int × (Int × (Int × (Int × (Int × (Int × (Int × (Int × (Int × (Int × (Int × (Int × (Int × Unit)))))))))))))))))) × Unit) × Unit)
abbrev Taf : Type := ((Unit × (Int × Unit)) ⊕ ((Unit × (Int × Unit)) × Tab))
abbrev Tag : Type := ((List (List Step)) × ((List (List Step)) × Unit))
abbrev Tah : Type := (((Int × (Int × (List Share))) × (Bool × Unit)) × Taa)
abbrev Tai : Type := ((Unit × (Unit × (Unit × (Bool × (Int × Unit))))) × (Tac × (Tac × ((Int × (Int × ((List Share) × Unit))) × Tag))))
abbrev Taj : Type := ((Unit × (Unit × (Int × Unit))) × (Tac × ((List (List Step)) × ((List Int) × Unit))))
abbrev Tak : Type := (Unit × (Unit × (Unit × (Int × Unit))))
abbrev Tal : Type := (Spec × (Int × ((List Run) × (List Booking))))
abbrev Tam : Type := ((Unit × (Unit × (Int × Unit))) × (Spec × Tab))
abbrev Tan : Type := (((List Share) × (Bool × Unit)) × Taa)
abbrev Tao : Type := ((Int × (Int × (Int × Int))) × ((Int × (Int × (Int × Int))) × Unit))
abbrev Tap : Type := ((Unit × (Unit × (Unit × (Bool × (Unit × (Unit × Unit)))))) × (Tac × (Tac × ((Int × (Int × ((List Share) × Unit))) × ((Int × (Int × (Res × Int))) × ((Int × (Int × (List Share))) × Tag))))))
abbrev Taq : Type := ((Unit × (Int × Unit)) × (Spec × Unit))
end NM
end Go.Proofs.Ytmnhkpekmgobbaa
section
set_option maxRecDepth 100000
set_option maxHeartbeats 4000000
namespace Go.Proofs.Ytmnhkpekmgobbaa
namespace NM
open AM Go.RowKit
def n101 : NFunc := ⟨23,.seq (.region 1 [
 o1 0 (.alloc [.zsl,.zsl,.zsl,iz,iz,iz,iz,iz,iz,iz,iz,iz,iz,iz,iz,iz,iz,iz]) 0] []) (.seq (.region 1 [
 o1 4 (.build [.zsl,.zsl,.zsl,iz,iz,iz,iz,iz,iz,iz,iz,iz,iz,iz,iz,iz,iz,iz] [(3,1,(ki 3)),(8,1,(ki 4)),(9,1,(ki 1)),(10,1,(ki 12)),(11,1,(ki 100)),(12,1,(ki 50)),(13,1,(ki 5)),(14,1,(ki 4)),(15,1,(ki 3)),(16,1,(ki 6)),(17,1,(ki 4))]) 0,
 o1 1 (.alloc [.zsl,.zsl,.zsl,iz,iz,iz,iz,iz,iz,iz,iz,iz,iz,iz,iz,iz,iz,iz]) 0,
 oS 18 1 4 1] []) (.seq (.region 1 [
 o1 5 (.build [iz,iz,iz,iz] [(0,1,(ki 4)),(1,1,(ki 8)),(3,1,(ki 1))]) 0,
 o1 6 (.build [iz,iz,iz,iz] [(0,1,(ki 8)),(1,1,(ki 8)),(2,1,(ki 1))]) 0,
 o1 7 (.buildSlice 4 2 true [iz,iz,iz,iz] [(0,(tm 5)),(1,(tm 6))]) 0,
 oF 8 0 1 1,
 oS 1 8 7 1] []) (.seq (.region 3 [
 o1 9 (.buildSlice 1 2 true [iz] [(0,(ki 0)),(1,(ki 1))]) 0,
 o1 10 (.buildSlice 1 1 true [iz] [(0,(ki 1))]) 1,
 o1 11 (.buildSlice 1 2 true [.zsl] [(0,(tm 9)),(1,(tm 10))]) 2,
 oF 12 1 1 3,
 oS 1 12 11 3] []) (.seq (.region 1 [
 o1 13 (.build [iz,.zsl,iz,iz,iz,iz] [(2,1,(ki 8)),(3,1,(ki 4)),(4,1,(ki 3)),(5,1,(ki 1))]) 0,
 o1 2 (.alloc [iz,.zsl,iz,iz,iz,iz]) 0,
 oS 6 2 13 1] []) (.seq (.region 2 [
 o1 14 (.buildSlice 1 2 true [iz] [(0,(ki 0)),(1,(ki 1))]) 0,
 o1 15 (.build [iz,.zsl,iz,iz,iz,iz] [(0,1,(ki 1)),(1,1,(tm 14)),(2,1,(ki 4)),(3,1,(ki 2)),(4,1,(ki 2)),(5,1,(ki 5))]) 1,
 o1 3 (.alloc [iz,.zsl,iz,iz,iz,iz]) 1,
 oS 6 3 15 2] []) (.seq (.region 1 [
 oT 16 6 2 0,
 oT 17 6 3 0,
 o1 18 (.buildSlice 6 2 true [iz,.zsl,iz,iz,iz,iz] [(0,(tm 16)),(1,(tm 17))]) 0,
 oF 19 2 1 1,
 oS 1 19 18 1] []) (.seq (.region 0 [
 o1 20 (.build [iz,iz,iz,iz] [(0,1,(ki 1)),(1,1,(ki 2)),(2,1,(ki 10)),(3,1,(ki 3))]) 0,
 oF 21 4 1 0,
 oS 4 21 20 0] []) (.seq (.region 0 [
 oT 22 18 1 0,
 oS 18 0 22 0] []) (.ret))))))))),[.cell true 18 0],true⟩
def s101 : Sig := ⟨.nil,[],((.v .spec),[]),[]⟩
def F101 (L : Lp)   : Option Spec :=
 some (Spec.mk [Res.mk 4 8 0 1,Res.mk 8 8 1 0] [[0,1],[1]] [Queue.mk 0 [] 8 4 3 1,Queue.mk 1 [0,1] 4 2 2 5] 3 (Weights.mk 1 2 10 3) 4 1 12 100 50 5 4 3 6 4)
theorem e101 (L : Lp)  (x : s101.args.den) (h : denH s101.heap) : nrun [] L n101 s101 x h = F101 L   := by kernel_rfl
def f101 : Option Spec := F101 (@LN LOOPS) 
@[reducible] def t101 : Ent := ⟨101,s101,fun x h => f101 ⟩
theorem k101 : chkNF Try.prog Try.f101 n101 = true := by kernel_rfl
theorem ok101 : NOk Try.prog t101 := NOk.body (T := []) mixed nall_nil (oneEach_of (by kernel_rfl)) Try.func101 k101 (by kernel_rfl) (fun x h => e101 _  x h)
def n208 : NFunc := ⟨12,.seq (.region 4 [
 o1 5 (.box 1 (tm 1)) 0,
 o1 6 (.box 1 (tm 2)) 1,
 o1 7 (.box 1 (tm 3)) 2,
 o1 8 (.alloc [.str [],.nilfn]) 3] []) (.seq (.region 0 [
 oM 9 0 0,
 o1 10 (.makeFunc 222 [(tm 6),(tm 5),(tm 7)]) 0,
 o1 11 (.build [.str [],.nilfn] [(0,1,(tm 9)),(1,1,(tm 10))]) 0,
 oS 2 8 11 0] []) (.ret)),[.cell true 2 8],true⟩
def s208 : Sig := ⟨(.cons (.v .str) (.cons (.v (.int .i64)) (.cons (.v (.int .i64)) (.cons (.v (.int .i64)) .nil)))),[],((.agg (.cons (.v .str) (.cons (.fn 222 (.cons (.iptr (.cons (.v (.int .i64)) .nil) 0) (.cons (.iptr (.cons (.v (.int .i64)) .nil) 0) (.cons (.iptr (.cons (.v (.int .i64)) .nil) 0) .nil)))) .nil))),[]),[]⟩
def F208 (L : Lp)  (word0 : (List UInt8)) (an1 : Int) (lo2 : Int) (hi3 : Int) : Option ((List UInt8) × Tad) :=
 some (word0,((lo2,()),(an1,()),(hi3,()),()),())
theorem e208 (L : Lp)  (x : s208.args.den) (h : denH s208.heap) : nrun [] L n208 s208 x h = F208 L  x.1 x.2.1 x.2.2.1 x.2.2.2.1 := by kernel_rfl
def f208 : (List UInt8) → Int → Int → Int → Option ((List UInt8) × Tad) := F208 (@LN LOOPS) 
@[reducible] def t208 : Ent := ⟨208,s208,fun x h => f208 x.1 x.2.1 x.2.2.1 x.2.2.2.1⟩
theorem k208 : chkNF Try.prog Try.f208 n208 = true := by kernel_rfl
theorem ok208 : NOk Try.prog t208 := NOk.body (T := []) mixed nall_nil (oneEach_of (by kernel_rfl)) Try.func208 k208 (by kernel_rfl) (fun x h => e208 _  x h)
def n184 : NFunc := ⟨44,.seq (.region 1 [
 o1 1 (.box 18 (tm 0)) 0,
 o1 2 (.move (.const (.zsl))) 1] []) (.seq (.region 41 [
 o4 3 (.makeFunc 204 [(tm 1)]) 0 [],
 o4 4 (.build [.str [],.nilfn] [(0,1,(.const (.str [78,111,100,101,115]))),(1,1,(tm 3))]) 0 [],
 o4 5 (.makeFunc 206 [(tm 1)]) 0 [],
 o4 6 (.build [.str [],.nilfn] [(0,1,(.const (.str [80,97,114,116,115]))),(1,1,(tm 5))]) 0 [],
 o4 7 (.fieldAddr 3 (tm 1)) 0 [],
 o4 8 (.load false 1 (tm 7)) 0 [],
 o4 9 (.call (fc 208) [(false,(.const (.str [85,115,101,114,115]))),(vv 8),(false,(ki 1)),(false,(ki 8))] true 4) 0 [],
 o4 10 (.makeFunc 209 [(tm 1)]) 4 [],
 o4 11 (.build [.str [],.nilfn] [(0,1,(.const (.str [81,117,101,117,101,115]))),(1,1,(tm 10))]) 4 [],
 o4 12 (.makeFunc 211 [(tm 1)]) 4 [],
 o4 13 (.build [.str [],.nilfn] [(0,1,(.const (.str [87,101,105,103,104,116,115]))),(1,1,(tm 12))]) 4 [],
 o4 14 (.fieldAddr 8 (tm 1)) 4 [],
 o4 15 (.load false 1 (tm 14)) 4 [],
 o4 16 (.call (fc 208) [(false,(.const (.str [68,101,99,97,121]))),(vv 15),(false,(ki 1)),(false,(ki 16))] true 4) 4 [0,1,2,3],
 o4 17 (.makeFunc 213 [(tm 1)]) 8 [],
 o4 18 (.build [.str [],.nilfn] [(0,1,(.const (.str [77,111,100,101]))),(1,1,(tm 17))]) 8 [],
 o4 19 (.fieldAddr 10 (tm 1)) 8 [],
 o4 20 (.load false 1 (tm 19)) 8 [],
 o4 21 (.call (fc 208) [(false,(.const (.str [74,111,98,115]))),(vv 20),(false,(ki 1)),(false,(ki 256))] true 4) 8 [0,1,2,3,4,5,6,7],
 o4 22 (.fieldAddr 11 (tm 1)) 12 [],
 o4 23 (.load false 1 (tm 22)) 12 [],
 o4 24 (.call (fc 208) [(false,(.const (.str [73,100,115]))),(vv 23),(false,(ki 1)),(false,(ki 1048576))] true 4) 12 [0,1,2,3,4,5,6,7,8,9,10,11],
 o4 25 (.fieldAddr 12 (tm 1)) 16 [],
 o4 26 (.load false 1 (tm 25)) 16 [],
 o4 27 (.call (fc 208) [(false,(.const (.str [86,101,114,115,105,111,110,115]))),(vv 26),(false,(ki 1)),(false,(ki 65536))] true 4) 16 [0,1,2,3,4,5,6,7,8,9,10,11,12,13,14,15],
 o4 28 (.fieldAddr 13 (tm 1)) 20 [],
 o4 29 (.load false 1 (tm 28)) 20 [],
 o4 30 (.call (fc 208) [(false,(.const (.str [76,105,110,103,101,114]))),(vv 29),(false,(ki 0)),(false,(ki 65536))] true 4) 20 [0,1,2,3,4,5,6,7,8,9,10,11,12,13,14,15,16,17,18,19],
 o4 31 (.fieldAddr 14 (tm 1)) 24 [],
 o4 32 (.load false 1 (tm 31)) 24 [],
 o4 33 (.call (fc 208) [(false,(.const (.str [75,101,101,112]))),(vv 32),(false,(ki 1)),(false,(ki 16))] true 4) 24 [0,1,2,3,4,5,6,7,8,9,10,11,12,13,14,15,16,17,18,19,20,21,22,23],
 o4 34 (.fieldAddr 15 (tm 1)) 28 [],
 o4 35 (.load false 1 (tm 34)) 28 [],
 o4 36 (.call (fc 208) [(false,(.const (.str [73,110]))),(vv 35),(false,(ki 1)),(false,(ki 8))] true 4) 28 [0,1,2,3,4,5,6,7,8,9,10,11,12,13,14,15,16,17,18,19,20,21,22,23,24,25,26,27],
 o4 37 (.fieldAddr 16 (tm 1)) 32 [],
 o4 38 (.load false 1 (tm 37)) 32 [],
 o4 39 (.call (fc 208) [(false,(.const (.str [79,117,116]))),(vv 38),(false,(ki 1)),(false,(ki 16))] true 4) 32 [0,1,2,3,4,5,6,7,8,9,10,11,12,13,14,15,16,17,18,19,20,21,22,23,24,25,26,27,28,29,30,31],
 o4 40 (.fieldAddr 17 (tm 1)) 36 [],
 o4 41 (.load false 1 (tm 40)) 36 [],
 o4 42 (.call (fc 208) [(false,(.const (.str [67,97,99,104,101]))),(vv 41),(false,(ki 0)),(false,(ki 16))] false 4) 36 [0,1,2,3,4,5,6,7,8,9,10,11,12,13,14,15,16,17,18,19,20,21,22,23,24,25,26,27,28,29,30,31,32,33,34,35],
 o4 43 (.buildSlice 2 15 true [.str [],.nilfn] [(0,(tm 4)),(1,(tm 6)),(2,(tm 9)),(3,(tm 11)),(4,(tm 13)),(5,(tm 16)),(6,(tm 18)),(7,(tm 21)),(8,(tm 24)),(9,(tm 27)),(10,(tm 30)),(11,(tm 33)),(12,(tm 36)),(13,(tm 39)),(14,(tm 42))]) 40 [0,1,2,3,4,5,6,7,8,9,10,11,12,13,14,15,16,17,18,19,20,21,22,23,24,25,26,27,28,29,30,31,32,33,34,35,36,37,38,39],
 o4 2 (.move (tm 43)) 41 [0,1,2,3,4,5,6,7,8,9,10,11,12,13,14,15,16,17,18,19,20,21,22,23,24,25,26,27,28,29,30,31,32,33,34,35,36,37,38,39,40]] []) (.ret)),[.tmp 2],true⟩
def s184 : Sig := ⟨(.cons (.v .spec) .nil),[],((.rows 2 (.cons (.cons (.v .str) (.cons (.fn 204 (.cons (.iptr (.cons (.v (.list .res)) (.cons (.v (.list (.list (.int .i64)))) (.cons (.v (.list .queue)) (.cons (.v (.int .i64)) (.cons (.v (.int .i64)) (.cons (.v (.int .i64)) (.cons (.v (.int .i64)) (.cons (.v (.int .i64)) (.cons (.v (.int .i64)) (.cons (.v (.int .i64)) (.cons (.v (.int .i64)) (.cons (.v (.int .i64)) (.cons (.v (.int .i64)) (.cons (.v (.int .i64)) (.cons (.v (.int .i64)) (.cons (.v (.int .i64)) (.cons (.v (.int .i64)) (.cons (.v (.int .i64)) .nil)))))))))))))))))) 0) .nil)) .nil)) (.cons (.cons (.v .str) (.cons (.fn 206 (.cons (.iptr (.cons (.v (.list .res)) (.cons (.v (.list (.list (.int .i64)))) (.cons (.v (.list .queue)) (.cons (.v (.int .i64)) (.cons (.v (.int .i64)) (.cons (.v (.int .i64)) (.cons (.v (.int .i64)) (.cons (.v (.int .i64)) (.cons (.v (.int .i64)) (.cons (.v (.int .i64)) (.cons (.v (.int .i64)) (.cons (.v (.int .i64)) (.cons (.v (.int .i64)) (.cons (.v (.int .i64)) (.cons (.v (.int .i64)) (.cons (.v (.int .i64)) (.cons (.v (.int .i64)) (.cons (.v (.int .i64)) .nil)))))))))))))))))) 0) .nil)) .nil)) (.cons (.cons (.v .str) (.cons (.fn 222 (.cons (.iptr (.cons (.v (.int .i64)) .nil) 0) (.cons (.iptr (.cons (.v (.int .i64)) .nil) 0) (.cons (.iptr (.cons (.v (.int .i64)) .nil) 0) .nil)))) .nil)) (.cons (.cons (.v .str) (.cons (.fn 209 (.cons (.iptr (.cons (.v (.list .res)) (.cons (.v (.list (.list (.int .i64)))) (.cons (.v (.list .queue)) (.cons (.v (.int .i64)) (.cons (.v (.int .i64)) (.cons (.v (.int .i64)) (.cons (.v (.int .i64)) (.cons (.v (.int .i64)) (.cons (.v (.int .i64)) (.cons (.v (.int .i64)) (.cons (.v (.int .i64)) (.cons (.v (.int .i64)) (.cons (.v (.int .i64)) (.cons (.v (.int .i64)) (.cons (.v (.int .i64)) (.cons (.v (.int .i64)) (.cons (.v (.int .i64)) (.cons (.v (.int .i64)) .nil)))))))))))))))))) 0) .nil)) .nil)) (.cons (.cons (.v .str) (.cons (.fn 211 (.cons (.iptr (.cons (.v (.list .res)) (.cons (.v (.list (.list (.int .i64)))) (.cons (.v (.list .queue)) (.cons (.v (.int .i64)) (.cons (.v (.int .i64)) (.cons (.v (.int .i64)) (.cons (.v (.int .i64)) (.cons (.v (.int .i64)) (.cons (.v (.int .i64)) (.cons (.v (.int .i64)) (.cons (.v (.int .i64)) (.cons (.v (.int .i64)) (.cons (.v (.int .i64)) (.cons (.v (.int .i64)) (.cons (.v (.int .i64)) (.cons (.v (.int .i64)) (.cons (.v (.int .i64)) (.cons (.v (.int .i64)) .nil)))))))))))))))))) 0) .nil)) .nil)) (.cons (.cons (.v .str) (.cons (.fn 222 (.cons (.iptr (.cons (.v (.int .i64)) .nil) 0) (.cons (.iptr (.cons (.v (.int .i64)) .nil) 0) (.cons (.iptr (.cons (.v (.int .i64)) .nil) 0) .nil)))) .nil)) (.cons (.cons (.v .str) (.cons (.fn 213 (.cons (.iptr (.cons (.v (.list .res)) (.cons (.v (.list (.list (.int .i64)))) (.cons (.v (.list .queue)) (.cons (.v (.int .i64)) (.cons (.v (.int .i64)) (.cons (.v (.int .i64)) (.cons (.v (.int .i64)) (.cons (.v (.int .i64)) (.cons (.v (.int .i64)) (.cons (.v (.int .i64)) (.cons (.v (.int .i64)) (.cons (.v (.int .i64)) (.cons (.v (.int .i64)) (.cons (.v (.int .i64)) (.cons (.v (.int .i64)) (.cons (.v (.int .i64)) (.cons (.v (.int .i64)) (.cons (.v (.int .i64)) .nil)))))))))))))))))) 0) .nil)) .nil)) (.cons (.cons (.v .str) (.cons (.fn 222 (.cons (.iptr (.cons (.v (.int .i64)) .nil) 0) (.cons (.iptr (.cons (.v (.int .i64)) .nil) 0) (.cons (.iptr (.cons (.v (.int .i64)) .nil) 0) .nil)))) .nil)) (.cons (.cons (.v .str) (.cons (.fn 222 (.cons (.iptr (.cons (.v (.int .i64)) .nil) 0) (.cons (.iptr (.cons (.v (.int .i64)) .nil) 0) (.cons (.iptr (.cons (.v (.int .i64)) .nil) 0) .nil)))) .nil)) (.cons (.cons (.v .str) (.cons (.fn 222 (.cons (.iptr (.cons (.v (.int .i64)) .nil) 0) (.cons (.iptr (.cons (.v (.int .i64)) .nil) 0) (.cons (.iptr (.cons (.v (.int .i64)) .nil) 0) .nil)))) .nil)) (.cons (.cons (.v .str) (.cons (.fn 222 (.cons (.iptr (.cons (.v (.int .i64)) .nil) 0) (.cons (.iptr (.cons (.v (.int .i64)) .nil) 0) (.cons (.iptr (.cons (.v (.int .i64)) .nil) 0) .nil)))) .nil)) (.cons (.cons (.v .str) (.cons (.fn 222 (.cons (.iptr (.cons (.v (.int .i64)) .nil) 0) (.cons (.iptr (.cons (.v (.int .i64)) .nil) 0) (.cons (.iptr (.cons (.v (.int .i64)) .nil) 0) .nil)))) .nil)) (.cons (.cons (.v .str) (.cons (.fn 222 (.cons (.iptr (.cons (.v (.int .i64)) .nil) 0) (.cons (.iptr (.cons (.v (.int .i64)) .nil) 0) (.cons (.iptr (.cons (.v (.int .i64)) .nil) 0) .nil)))) .nil)) (.cons (.cons (.v .str) (.cons (.fn 222 (.cons (.iptr (.cons (.v (.int .i64)) .nil) 0) (.cons (.iptr (.cons (.v (.int .i64)) .nil) 0) (.cons (.iptr (.cons (.v (.int .i64)) .nil) 0) .nil)))) .nil)) (.cons (.cons (.v .str) (.cons (.fn 222 (.cons (.iptr (.cons (.v (.int .i64)) .nil) 0) (.cons (.iptr (.cons (.v (.int .i64)) .nil) 0) (.cons (.iptr (.cons (.v (.int .i64)) .nil) 0) .nil)))) .nil)) .nil)))))))))))))))),[]),[]⟩
@[reducible] def y184 : Type := (((List UInt8) × Tae) × (((List UInt8) × Tae) × (((List UInt8) × Tad) × (((List UInt8) × Tae) × (((List UInt8) × Tae) × (((List UInt8) × Tad) × (((List UInt8) × Tae) × (((List UInt8) × Tad) × (((List UInt8) × Tad) × (((List UInt8) × Tad) × (((List UInt8) × Tad) × (((List UInt8) × Tad) × (((List UInt8) × Tad) × (((List UInt8) × Tad) × (((List UInt8) × Tad) × Unit)))))))))))))))
def F184 (L : Lp) (g208 : (List UInt8) → Int → Int → Int → Option ((List UInt8) × Tad)) (as0 : Spec) : Option y184 :=
 Option.bind (g208 ([85,115,101,114,115] : List UInt8) as0.users 1 8) fun r1 =>
 Option.bind (g208 ([68,101,99,97,121] : List UInt8) as0.decay 1 16) fun r2 =>
 Option.bind (g208 ([74,111,98,115] : List UInt8) as0.jobs 1 256) fun r3 =>
 Option.bind (g208 ([73,100,115] : List UInt8) as0.ids 1 1048576) fun r4 =>
 Option.bind (g208 ([86,101,114,115,105,111,110,115] : List UInt8) as0.versions 1 65536) fun r5 =>
 Option.bind (g208 ([76,105,110,103,101,114] : List UInt8) as0.linger 0 65536) fun r6 =>
 Option.bind (g208 ([75,101,101,112] : List UInt8) as0.keep 1 16) fun r7 =>
 Option.bind (g208 ([73,110] : List UInt8) as0.inn 1 8) fun r8 =>
 Option.bind (g208 ([79,117,116] : List UInt8) as0.out 1 16) fun r9 =>
 Option.bind (g208 ([67,97,99,104,101] : List UInt8) as0.cache 0 16) fun r10 =>
 some ((([78,111,100,101,115] : List UInt8),((as0.nodes,as0.parts,as0.queues,as0.users,as0.weights.age,as0.weights.size,as0.weights.qos,as0.weights.share,as0.decay,as0.mode,as0.jobs,as0.ids,as0.versions,as0.linger,as0.keep,as0.inn,as0.out,as0.cache,()),()),()),((([80,97,114,116,115] : List UInt8),((as0.nodes,as0.parts,as0.queues,as0.users,as0.weights.age,as0.weights.size,as0.weights.qos,as0.weights.share,as0.decay,as0.mode,as0.jobs,as0.ids,as0.versions,as0.linger,as0.keep,as0.inn,as0.out,as0.cache,()),()),()),((r1.1,((r1.2.1.1.1,()),(r1.2.1.2.1.1,()),(r1.2.1.2.2.1.1,()),()),()),((([81,117,101,117,101,115] : List UInt8),((as0.nodes,as0.parts,as0.queues,as0.users,as0.weights.age,as0.weights.size,as0.weights.qos,as0.weights.share,as0.decay,as0.mode,as0.jobs,as0.ids,as0.versions,as0.linger,as0.keep,as0.inn,as0.out,as0.cache,()),()),()),((([87,101,105,103,104,116,115] : List UInt8),((as0.nodes,as0.parts,as0.queues,as0.users,as0.weights.age,as0.weights.size,as0.weights.qos,as0.weights.share,as0.decay,as0.mode,as0.jobs,as0.ids,as0.versions,as0.linger,as0.keep,as0.inn,as0.out,as0.cache,()),()),()),((r2.1,((r2.2.1.1.1,()),(r2.2.1.2.1.1,()),(r2.2.1.2.2.1.1,()),()),()),((([77,111,100,101] : List UInt8),((as0.nodes,as0.parts,as0.queues,as0.users,as0.weights.age,as0.weights.size,as0.weights.qos,as0.weights.share,as0.decay,as0.mode,as0.jobs,as0.ids,as0.versions,as0.linger,as0.keep,as0.inn,as0.out,as0.cache,()),()),()),((r3.1,((r3.2.1.1.1,()),(r3.2.1.2.1.1,()),(r3.2.1.2.2.1.1,()),()),()),((r4.1,((r4.2.1.1.1,()),(r4.2.1.2.1.1,()),(r4.2.1.2.2.1.1,()),()),()),((r5.1,((r5.2.1.1.1,()),(r5.2.1.2.1.1,()),(r5.2.1.2.2.1.1,()),()),()),((r6.1,((r6.2.1.1.1,()),(r6.2.1.2.1.1,()),(r6.2.1.2.2.1.1,()),()),()),((r7.1,((r7.2.1.1.1,()),(r7.2.1.2.1.1,()),(r7.2.1.2.2.1.1,()),()),()),((r8.1,((r8.2.1.1.1,()),(r8.2.1.2.1.1,()),(r8.2.1.2.2.1.1,()),()),()),((r9.1,((r9.2.1.1.1,()),(r9.2.1.2.1.1,()),(r9.2.1.2.2.1.1,()),()),()),((r10.1,((r10.2.1.1.1,()),(r10.2.1.2.1.1,()),(r10.2.1.2.2.1.1,()),()),()),())))))))))))))))
theorem e184 (L : Lp) (g208 : (List UInt8) → Int → Int → Int → Option ((List UInt8) × Tad)) (x : s184.args.den) (h : denH s184.heap) : nrun [⟨208,s208,fun x h => g208 x.1 x.2.1 x.2.2.1 x.2.2.2.1⟩] L n184 s184 x h = F184 L g208 x.1 := by kernel_rfl
def f184 : Spec → Option y184 := F184 (@LN LOOPS) f208
@[reducible] def t184 : Ent := ⟨184,s184,fun x h => f184 x.1⟩
theorem k184 : chkNF Try.prog Try.f184 n184 = true := by kernel_rfl
theorem ok184 : NOk Try.prog t184 := NOk.body (T := [t208]) mixed (nall_cons ok208 nall_nil) (oneEach_of (by kernel_rfl)) Try.func184 k184 (by kernel_rfl) (fun x h => e184 _ _ x h)
def n160 : NFunc := ⟨12,.seq (.region 2 [
 o1 1 (.box 4 (tm 0)) 0,
 o1 2 (.alloc [iz,iz,iz,iz]) 1] []) (.seq (.region 0 [
 oF 3 0 1 0,
 oL 4 3 0,
 oF 5 1 1 0,
 oL 6 5 0,
 oF 7 2 1 0,
 oL 8 7 0,
 oF 9 3 1 0,
 oL 10 9 0,
 o1 11 (.build [iz,iz,iz,iz] [(0,1,(tm 4)),(1,1,(tm 6)),(2,1,(tm 8)),(3,1,(tm 10))]) 0,
 oS 4 2 11 0] []) (.ret)),[.cell true 4 2],true⟩
def s160 : Sig := ⟨(.cons (.v .res) .nil),[],((.v (.pair (.int .i64) (.pair (.int .i64) (.pair (.int .i64) (.int .i64))))),[]),[]⟩
def F160 (L : Lp)  (a0 : Res) : Option (Int × (Int × (Int × Int))) :=
 some (a0.cpu,(a0.mem,(a0.gpu,a0.lic)))
theorem e160 (L : Lp)  (x : s160.args.den) (h : denH s160.heap) : nrun [] L n160 s160 x h = F160 L  x.1 := by kernel_rfl
def f160 : Res → Option (Int × (Int × (Int × Int))) := F160 (@LN LOOPS) 
@[reducible] def t160 : Ent := ⟨160,s160,fun x h => f160 x.1⟩
theorem k160 : chkNF Try.prog Try.f160 n160 = true := by kernel_rfl
theorem ok160 : NOk Try.prog t160 := NOk.body (T := []) mixed nall_nil (oneEach_of (by kernel_rfl)) Try.func160 k160 (by kernel_rfl) (fun x h => e160 _  x h)
def n108 : NFunc := ⟨17,.seq (.region 1 [
 o1 1 (.box 4 (tm 0)) 0,
 o1 2 (.move kf) 1] []) (.seq (.seq (.region 4 [
 oT 5 4 1 0,
 o1 6 (.call (fc 160) [(vv 5)] false 4) 0,
 o1 7 (.move (ki 0)) 4] []) (.block 0 (.loopU [6,7] 5 (.seq (.region 0 [
 oC 8 .lss 7 4 0] []) (.seq (.cond (tm 8) (.skip) (.exit 0)) (.seq (.block 1 (.seq (.region 0 [
 o1 9 (.indexVal false 4 1 (tm 6) (tm 7)) 0,
 oM 4 9 0] []) (.seq (.region 0 [
 oM 10 4 0,
 oC 11 .lss 10 0 0,
 oM 12 11 0,
 oN 13 4 12 0,
 o2 14 (.bin .gtr (tm 13) (ki 1048576)) 12 0,
 o1 15 (.pick (tm 12) kt (tm 14)) 0] []) (.cond (tm 15) (.seq (.region 0 [
 o1 2 (.move kf) 0] []) (.ret)) (.skip))))) (.region 0 [
 oC 16 .add 7 1 0,
 oM 7 16 0] []))))))) (.seq (.region 0 [
 o1 2 (.move kt) 0] []) (.ret))),[.tmp 2],true⟩
def s108 : Sig := ⟨(.cons (.v .res) .nil),[],((.v .bool),[]),[]⟩
def F108 (L : Lp) (g160 : Res → Option (Int × (Int × (Int × Int)))) (a0 : Res) : Option Bool :=
 Option.bind (g160 a0) fun r1 =>
 cond (decide (r1.1 < 0))
 (some false)
 (cond (decide (1048576 < r1.1))
 (some false)
 (cond (decide (r1.2.1 < 0))
 (some false)
 (cond (decide (1048576 < r1.2.1))
 (some false)
 (cond (decide (r1.2.2.1 < 0))
 (some false)
 (cond (decide (1048576 < r1.2.2.1))
 (some false)
 (cond (decide (r1.2.2.2 < 0))
 (some false)
 (cond (decide (1048576 < r1.2.2.2))
 (some false)
 (some true))))))))
theorem e108 (L : Lp) (g160 : Res → Option (Int × (Int × (Int × Int)))) (x : s108.args.den) (h : denH s108.heap) : nrun [⟨160,s160,fun x h => g160 x.1⟩] L n108 s108 x h = F108 L g160 x.1 := by kernel_rfl
def f108 : Res → Option Bool := F108 (@LN LOOPS) f160
@[reducible] def t108 : Ent := ⟨108,s108,fun x h => f108 x.1⟩
theorem k108 : chkNF Try.prog Try.f108 n108 = true := by kernel_rfl
theorem ok108 : NOk Try.prog t108 := NOk.body (T := [t160]) mixed (nall_cons ok160 nall_nil) (oneEach_of (by kernel_rfl)) Try.func108 k108 (by kernel_rfl) (fun x h => e108 _ _ x h)
def n205 : NFunc := ⟨26,.seq (.region 1 [
 o1 1 (.box 18 (tm 0)) 0,
 o1 2 (.move kf) 1] []) (.seq (.seq (.region 0 [
 oF 5 0 1 0,
 oL 6 5 0,
 o1 7 (.len (tm 6)) 0,
 oC 8 .lss 7 1 0,
 oM 9 8 0,
 o2 10 (.fieldAddr 0 (tm 1)) 9 0,
 o2 11 (.load false 1 (tm 10)) 9 0,
 o2 12 (.len (tm 11)) 9 0,
 o2 13 (.bin .gtr (tm 12) (ki 16)) 9 0,
 o1 14 (.pick (tm 9) kt (tm 13)) 0] []) (.cond (tm 14) (.seq (.region 0 [
 o1 2 (.move kf) 0] []) (.ret)) (.skip))) (.seq (.seq (.region 0 [
 oF 15 0 1 0,
 oL 16 15 0,
 o1 17 (.len (tm 16)) 0,
 o1 18 (.move (ki 0)) 0] []) (.block 0 (.loop [16,17,18] ⟨[(18,vI)],[16,17],[]⟩ (.seq (.region 0 [
 oB 19 .lss 18 17 0] []) (.seq (.cond (tm 19) (.skip) (.exit 0)) (.seq (.block 1 (.seq (.region 1 [
 o1 20 (.indexSl 4 (tm 16) (tm 18)) 0,
 oT 21 4 20 0,
 o1 4 (.alloc [iz,iz,iz,iz]) 0,
 oS 4 4 21 1] []) (.seq (.region 4 [
 oT 22 4 4 0,
 o1 23 (.call (fc 108) [(vv 22)] false 4) 0,
 o1 24 (.un .not (tm 23)) 4] []) (.cond (tm 24) (.seq (.region 0 [
 o1 2 (.move kf) 0] []) (.ret)) (.skip))))) (.region 0 [
 oC 25 .add 18 1 0,
 oM 18 25 0] []))))))) (.seq (.region 0 [
 o1 2 (.move kt) 0] []) (.ret)))),[.tmp 2],true⟩
def s205 : Sig := ⟨(.cons (.v .spec) .nil),[],((.v .bool),[]),[]⟩
def l205_0 (g108 : Res → Option Bool) (as0 : Spec) (nx2 : ((Int × Unit) × Unit) → Option Bool) (z3 : Int) : Option Bool :=
 cond (decide (z3 < (List.length as0.nodes : Int)))
 (cond (decide (0 ≤ z3))
 (Option.bind (as0.nodes[Int.toNat z3]?) fun y4 =>
 Option.bind (g108 y4) fun r5 =>
 cond (!r5)
 (some false)
 (nx2 ((IntKind.wrap .i64 (z3 + 1),()),())))
 (none))
 (some true)
def F205 (L : Lp) (g108 : Res → Option Bool) (as0 : Spec) : Option Bool :=
 cond (decide ((List.length as0.nodes : Int) < 1))
 (some false)
 (cond (decide (16 < (List.length as0.nodes : Int)))
 (some false)
 (L (fun (s1 : ((Int × Unit) × Unit)) nx2 => l205_0 g108 as0 nx2 s1.1.1) ((0,()),())))
theorem e205 (L : Lp) (g108 : Res → Option Bool) (x : s205.args.den) (h : denH s205.heap) : nrun [⟨108,s108,fun x h => g108 x.1⟩] L n205 s205 x h = F205 L g108 x.1 := by kernel_rfl
def f205 : Spec → Option Bool := F205 (@LN LOOPS) f108
@[reducible] def t205 : Ent := ⟨205,s205,fun x h => f205 x.1⟩
theorem k205 : chkNF Try.prog Try.f205 n205 = true := by kernel_rfl
theorem ok205 : NOk Try.prog t205 := NOk.body (T := [t108]) mixed (nall_cons ok108 nall_nil) (oneEach_of (by kernel_rfl)) Try.func205 k205 (by kernel_rfl) (fun x h => e205 _ _ x h)
def n204 : NFunc := ⟨4,.seq (.region 0 [
 o1 1 (.move kf) 0] []) (.seq (.region 4 [
 oT 2 18 0 0,
 o1 3 (.call (fc 205) [(vv 2)] false 4) 0,
 oM 1 3 4] []) (.ret)),[.tmp 1],true⟩
def s204 : Sig := ⟨(.cons (.iptr (.cons (.v (.list .res)) (.cons (.v (.list (.list (.int .i64)))) (.cons (.v (.list .queue)) (.cons (.v (.int .i64)) (.cons (.v (.int .i64)) (.cons (.v (.int .i64)) (.cons (.v (.int .i64)) (.cons (.v (.int .i64)) (.cons (.v (.int .i64)) (.cons (.v (.int .i64)) (.cons (.v (.int .i64)) (.cons (.v (.int .i64)) (.cons (.v (.int .i64)) (.cons (.v (.int .i64)) (.cons (.v (.int .i64)) (.cons (.v (.int .i64)) (.cons (.v (.int .i64)) (.cons (.v (.int .i64)) .nil)))))))))))))))))) 0) .nil),[],((.v .bool),[]),[]⟩
def F204 (L : Lp) (g205 : Spec → Option Bool) (a0 : (List Res)) (a1 : (List (List Int))) (a2 : (List Queue)) (a3 : Int) (a4 : Int) (a5 : Int) (a6 : Int) (a7 : Int) (a8 : Int) (a9 : Int) (a10 : Int) (a11 : Int) (a12 : Int) (a13 : Int) (a14 : Int) (a15 : Int) (a16 : Int) (a17 : Int) : Option Bool :=
 Option.bind (g205 (Spec.mk a0 a1 a2 a3 (Weights.mk a4 a5 a6 a7) a8 a9 a10 a11 a12 a13 a14 a15 a16 a17)) fun r18 =>
 some r18
theorem e204 (L : Lp) (g205 : Spec → Option Bool) (x : s204.args.den) (h : denH s204.heap) : nrun [⟨205,s205,fun x h => g205 x.1⟩] L n204 s204 x h = F204 L g205 x.1.1 x.1.2.1 x.1.2.2.1 x.1.2.2.2.1 x.1.2.2.2.2.1 x.1.2.2.2.2.2.1 x.1.2.2.2.2.2.2.1 x.1.2.2.2.2.2.2.2.1 x.1.2.2.2.2.2.2.2.2.1 x.1.2.2.2.2.2.2.2.2.2.1 x.1.2.2.2.2.2.2.2.2.2.2.1 x.1.2.2.2.2.2.2.2.2.2.2.2.1 x.1.2.2.2.2.2.2.2.2.2.2.2.2.1 x.1.2.2.2.2.2.2.2.2.2.2.2.2.2.1 x.1.2.2.2.2.2.2.2.2.2.2.2.2.2.2.1 x.1.2.2.2.2.2.2.2.2.2.2.2.2.2.2.2.1 x.1.2.2.2.2.2.2.2.2.2.2.2.2.2.2.2.2.1 x.1.2.2.2.2.2.2.2.2.2.2.2.2.2.2.2.2.2.1 := by kernel_rfl
def f204 : (List Res) → (List (List Int)) → (List Queue) → Int → Int → Int → Int → Int → Int → Int → Int → Int → Int → Int → Int → Int → Int → Int → Option Bool := F204 (@LN LOOPS) f205
@[reducible] def t204 : Ent := ⟨204,s204,fun x h => f204 x.1.1 x.1.2.1 x.1.2.2.1 x.1.2.2.2.1 x.1.2.2.2.2.1 x.1.2.2.2.2.2.1 x.1.2.2.2.2.2.2.1 x.1.2.2.2.2.2.2.2.1 x.1.2.2.2.2.2.2.2.2.1 x.1.2.2.2.2.2.2.2.2.2.1 x.1.2.2.2.2.2.2.2.2.2.2.1 x.1.2.2.2.2.2.2.2.2.2.2.2.1 x.1.2.2.2.2.2.2.2.2.2.2.2.2.1 x.1.2.2.2.2.2.2.2.2.2.2.2.2.2.1 x.1.2.2.2.2.2.2.2.2.2.2.2.2.2.2.1 x.1.2.2.2.2.2.2.2.2.2.2.2.2.2.2.2.1 x.1.2.2.2.2.2.2.2.2.2.2.2.2.2.2.2.2.1 x.1.2.2.2.2.2.2.2.2.2.2.2.2.2.2.2.2.2.1⟩
theorem k204 : chkNF Try.prog Try.f204 n204 = true := by kernel_rfl
theorem ok204 : NOk Try.prog t204 := NOk.body (T := [t205]) mixed (nall_cons ok205 nall_nil) (oneEach_of (by kernel_rfl)) Try.func204 k204 (by kernel_rfl) (fun x h => e204 _ _ x h)
def n221 : NFunc := ⟨24,.seq (.region 0 [
 o1 4 (.move kf) 0] []) (.seq (.region 0 [
 o1 5 (.move (.const (.int .i64 (-1)))) 0] []) (.seq (.seq (.region 0 [
 oM 8 0 0,
 o1 9 (.len (tm 8)) 0,
 o1 10 (.move (ki 0)) 0] []) (.block 0 (.loop [1,5,8,9,10] ⟨[(5,vI),(10,vI)],[1,8,9],[]⟩ (.seq (.region 0 [
 oB 11 .lss 10 9 0] []) (.seq (.cond (tm 11) (.skip) (.exit 0)) (.seq (.block 1 (.seq (.region 0 [
 o1 12 (.indexSl 1 (tm 8) (tm 10)) 0,
 oL 13 12 0,
 oM 7 13 0] []) (.seq (.seq (.region 0 [
 oM 14 7 0,
 oM 15 5 0,
 oB 16 .leq 14 15 0,
 oM 17 16 0,
 oN 18 7 17 0,
 oN 19 1 17 0,
 o2 20 (.bin .geq (tm 18) (tm 19)) 17 0,
 o1 21 (.pick (tm 17) kt (tm 20)) 0] []) (.cond (tm 21) (.seq (.region 0 [
 o1 4 (.move kf) 0] []) (.ret)) (.skip))) (.region 0 [
 oM 22 7 0,
 oM 5 22 0] [])))) (.region 0 [
 oC 23 .add 10 1 0,
 oM 10 23 0] []))))))) (.seq (.region 0 [
 o1 4 (.move kt) 0] []) (.ret)))),[.tmp 4],true⟩
def s221 : Sig := ⟨(.cons (.v (.list (.int .i64))) (.cons (.v (.int .i64)) .nil)),[],((.v .bool),[]),[]⟩
def l221_0 (al0 : (List Int)) (end1 : Int) (nx3 : ((Int × (Int × Unit)) × Unit) → Option Bool) (last4 : Int) (z5 : Int) : Option Bool :=
 cond (decide (z5 < (List.length al0 : Int)))
 (cond (decide (0 ≤ z5))
 (Option.bind (al0[Int.toNat z5]?) fun y6 =>
 cond (decide (y6 ≤ last4))
 (some false)
 (cond (decide (end1 ≤ y6))
 (some false)
 (nx3 ((y6,IntKind.wrap .i64 (z5 + 1),()),()))))
 (none))
 (some true)
def F221 (L : Lp)  (al0 : (List Int)) (end1 : Int) : Option Bool :=
 L (fun (s2 : ((Int × (Int × Unit)) × Unit)) nx3 => l221_0 al0 end1 nx3 s2.1.1 s2.1.2.1) (((-1),0,()),())
theorem e221 (L : Lp)  (x : s221.args.den) (h : denH s221.heap) : nrun [] L n221 s221 x h = F221 L  x.1 x.2.1 := by kernel_rfl
def f221 : (List Int) → Int → Option Bool := F221 (@LN LOOPS) 
@[reducible] def t221 : Ent := ⟨221,s221,fun x h => f221 x.1 x.2.1⟩
theorem k221 : chkNF Try.prog Try.f221 n221 = true := by kernel_rfl
theorem ok221 : NOk Try.prog t221 := NOk.body (T := []) mixed nall_nil (oneEach_of (by kernel_rfl)) Try.func221 k221 (by kernel_rfl) (fun x h => e221 _  x h)
def n207 : NFunc := ⟨34,.seq (.region 1 [
 o1 1 (.box 18 (tm 0)) 0,
 o1 2 (.move kf) 1] []) (.seq (.seq (.region 0 [
 oF 5 1 1 0,
 oL 6 5 0,
 o1 7 (.len (tm 6)) 0,
 oC 8 .lss 7 1 0,
 oM 9 8 0,
 o2 10 (.fieldAddr 1 (tm 1)) 9 0,
 o2 11 (.load false 1 (tm 10)) 9 0,
 o2 12 (.len (tm 11)) 9 0,
 o2 13 (.bin .gtr (tm 12) (ki 8)) 9 0,
 o1 14 (.pick (tm 9) kt (tm 13)) 0] []) (.cond (tm 14) (.seq (.region 0 [
 o1 2 (.move kf) 0] []) (.ret)) (.skip))) (.seq (.seq (.region 0 [
 oF 15 1 1 0,
 oL 16 15 0,
 o1 17 (.len (tm 16)) 0,
 o1 18 (.move (ki 0)) 0] []) (.block 0 (.loop [1,16,17,18] ⟨[(1,(.ptr 0 0 0)),(18,vI)],[16,17],[.one false .spec]⟩ (.seq (.region 0 [
 oB 19 .lss 18 17 0] []) (.seq (.cond (tm 19) (.skip) (.exit 0)) (.seq (.block 1 (.seq (.region 0 [
 o1 20 (.indexSl 1 (tm 16) (tm 18)) 0,
 oL 21 20 0,
 oM 4 21 0] []) (.seq (.region 4 [
 oM 22 4 0,
 o1 23 (.len (tm 22)) 0,
 oC 24 .lss 23 1 0,
 oM 25 24 0,
 oN 26 4 25 0,
 o2 27 (.fieldAddr 0 (tm 1)) 25 0,
 o2 28 (.load false 1 (tm 27)) 25 0,
 o2 29 (.len (tm 28)) 25 0,
 o2 30 (.call (fc 221) [(vv 26),(vv 29)] false 4) 25 0,
 o2 31 (.un .not (tm 30)) 25 4,
 o1 32 (.pick (tm 25) kt (tm 31)) 4] []) (.cond (tm 32) (.seq (.region 0 [
 o1 2 (.move kf) 0] []) (.ret)) (.skip))))) (.region 0 [
 oC 33 .add 18 1 0,
 oM 18 33 0] []))))))) (.seq (.region 0 [
 o1 2 (.move kt) 0] []) (.ret)))),[.tmp 2],true⟩
def s207 : Sig := ⟨(.cons (.v .spec) .nil),[],((.v .bool),[]),[]⟩
def l207_0 (g221 : (List Int) → Int → Option Bool) (as0 : Spec) (nx2 : Taq → Option Bool) (z3 : Int) (z4 : Spec) : Option Bool :=
 cond (decide (z3 < (List.length as0.parts : Int)))
 (cond (decide (0 ≤ z3))
 (Option.bind (as0.parts[Int.toNat z3]?) fun y5 =>
 cond (decide ((List.length y5 : Int) < 1))
 (some false)
 (Option.bind (g221 y5 (List.length z4.nodes : Int)) fun r6 =>
 cond (!r6)
 (some false)
 (nx2 (((),IntKind.wrap .i64 (z3 + 1),()),(z4,())))))
 (none))
 (some true)
def F207 (L : Lp) (g221 : (List Int) → Int → Option Bool) (as0 : Spec) : Option Bool :=
 cond (decide ((List.length as0.parts : Int) < 1))
 (some false)
 (cond (decide (8 < (List.length as0.parts : Int)))
 (some false)
 (L (fun (s1 : Taq) nx2 => l207_0 g221 as0 nx2 s1.1.2.1 s1.2.1) (((),0,()),(as0,()))))
theorem e207 (L : Lp) (g221 : (List Int) → Int → Option Bool) (x : s207.args.den) (h : denH s207.heap) : nrun [⟨221,s221,fun x h => g221 x.1 x.2.1⟩] L n207 s207 x h = F207 L g221 x.1 := by kernel_rfl
def f207 : Spec → Option Bool := F207 (@LN LOOPS) f221
@[reducible] def t207 : Ent := ⟨207,s207,fun x h => f207 x.1⟩
theorem k207 : chkNF Try.prog Try.f207 n207 = true := by kernel_rfl
theorem ok207 : NOk Try.prog t207 := NOk.body (T := [t221]) mixed (nall_cons ok221 nall_nil) (oneEach_of (by kernel_rfl)) Try.func207 k207 (by kernel_rfl) (fun x h => e207 _ _ x h)
def n206 : NFunc := ⟨4,.seq (.region 0 [
 o1 1 (.move kf) 0] []) (.seq (.region 4 [
 oT 2 18 0 0,
 o1 3 (.call (fc 207) [(vv 2)] false 4) 0,
 oM 1 3 4] []) (.ret)),[.tmp 1],true⟩
def s206 : Sig := ⟨(.cons (.iptr (.cons (.v (.list .res)) (.cons (.v (.list (.list (.int .i64)))) (.cons (.v (.list .queue)) (.cons (.v (.int .i64)) (.cons (.v (.int .i64)) (.cons (.v (.int .i64)) (.cons (.v (.int .i64)) (.cons (.v (.int .i64)) (.cons (.v (.int .i64)) (.cons (.v (.int .i64)) (.cons (.v (.int .i64)) (.cons (.v (.int .i64)) (.cons (.v (.int .i64)) (.cons (.v (.int .i64)) (.cons (.v (.int .i64)) (.cons (.v (.int .i64)) (.cons (.v (.int .i64)) (.cons (.v (.int .i64)) .nil)))))))))))))))))) 0) .nil),[],((.v .bool),[]),[]⟩
def F206 (L : Lp) (g207 : Spec → Option Bool) (a0 : (List Res)) (a1 : (List (List Int))) (a2 : (List Queue)) (a3 : Int) (a4 : Int) (a5 : Int) (a6 : Int) (a7 : Int) (a8 : Int) (a9 : Int) (a10 : Int) (a11 : Int) (a12 : Int) (a13 : Int) (a14 : Int) (a15 : Int) (a16 : Int) (a17 : Int) : Option Bool :=
 Option.bind (g207 (Spec.mk a0 a1 a2 a3 (Weights.mk a4 a5 a6 a7) a8 a9 a10 a11 a12 a13 a14 a15 a16 a17)) fun r18 =>
 some r18
theorem e206 (L : Lp) (g207 : Spec → Option Bool) (x : s206.args.den) (h : denH s206.heap) : nrun [⟨207,s207,fun x h => g207 x.1⟩] L n206 s206 x h = F206 L g207 x.1.1 x.1.2.1 x.1.2.2.1 x.1.2.2.2.1 x.1.2.2.2.2.1 x.1.2.2.2.2.2.1 x.1.2.2.2.2.2.2.1 x.1.2.2.2.2.2.2.2.1 x.1.2.2.2.2.2.2.2.2.1 x.1.2.2.2.2.2.2.2.2.2.1 x.1.2.2.2.2.2.2.2.2.2.2.1 x.1.2.2.2.2.2.2.2.2.2.2.2.1 x.1.2.2.2.2.2.2.2.2.2.2.2.2.1 x.1.2.2.2.2.2.2.2.2.2.2.2.2.2.1 x.1.2.2.2.2.2.2.2.2.2.2.2.2.2.2.1 x.1.2.2.2.2.2.2.2.2.2.2.2.2.2.2.2.1 x.1.2.2.2.2.2.2.2.2.2.2.2.2.2.2.2.2.1 x.1.2.2.2.2.2.2.2.2.2.2.2.2.2.2.2.2.2.1 := by kernel_rfl
def f206 : (List Res) → (List (List Int)) → (List Queue) → Int → Int → Int → Int → Int → Int → Int → Int → Int → Int → Int → Int → Int → Int → Int → Option Bool := F206 (@LN LOOPS) f207
@[reducible] def t206 : Ent := ⟨206,s206,fun x h => f206 x.1.1 x.1.2.1 x.1.2.2.1 x.1.2.2.2.1 x.1.2.2.2.2.1 x.1.2.2.2.2.2.1 x.1.2.2.2.2.2.2.1 x.1.2.2.2.2.2.2.2.1 x.1.2.2.2.2.2.2.2.2.1 x.1.2.2.2.2.2.2.2.2.2.1 x.1.2.2.2.2.2.2.2.2.2.2.1 x.1.2.2.2.2.2.2.2.2.2.2.2.1 x.1.2.2.2.2.2.2.2.2.2.2.2.2.1 x.1.2.2.2.2.2.2.2.2.2.2.2.2.2.1 x.1.2.2.2.2.2.2.2.2.2.2.2.2.2.2.1 x.1.2.2.2.2.2.2.2.2.2.2.2.2.2.2.2.1 x.1.2.2.2.2.2.2.2.2.2.2.2.2.2.2.2.2.1 x.1.2.2.2.2.2.2.2.2.2.2.2.2.2.2.2.2.2.1⟩
theorem k206 : chkNF Try.prog Try.f206 n206 = true := by kernel_rfl
theorem ok206 : NOk Try.prog t206 := NOk.body (T := [t207]) mixed (nall_cons ok207 nall_nil) (oneEach_of (by kernel_rfl)) Try.func206 k206 (by kernel_rfl) (fun x h => e206 _ _ x h)
def n222 : NFunc := ⟨12,.seq (.region 0 [
 o1 3 (.move kf) 0] []) (.seq (.region 0 [
 oL 4 0 0,
 oL 5 1 0,
 oB 6 .leq 4 5 0,
 oM 7 6 0,
 o3 8 (.load false 1 (tm 1)) 7 0,
 o3 9 (.load false 1 (tm 2)) 7 0,
 o3 10 (.bin .leq (tm 8) (tm 9)) 7 0,
 o1 11 (.pick (tm 7) (tm 10) kf) 0,
 oM 3 11 0] []) (.ret)),[.tmp 3],true⟩
def s222 : Sig := ⟨(.cons (.iptr (.cons (.v (.int .i64)) .nil) 0) (.cons (.iptr (.cons (.v (.int .i64)) .nil) 0) (.cons (.iptr (.cons (.v (.int .i64)) .nil) 0) .nil))),[],((.v .bool),[]),[]⟩
def F222 (L : Lp)  (a0 : Int) (a1 : Int) (a2 : Int) : Option Bool :=
 cond (decide (a0 ≤ a1))
 (some (decide (a1 ≤ a2)))
 (some false)
theorem e222 (L : Lp)  (x : s222.args.den) (h : denH s222.heap) : nrun [] L n222 s222 x h = F222 L  x.1.1 x.2.1.1 x.2.2.1.1 := by kernel_rfl
def f222 : Int → Int → Int → Option Bool := F222 (@LN LOOPS) 
@[reducible] def t222 : Ent := ⟨222,s222,fun x h => f222 x.1.1 x.2.1.1 x.2.2.1.1⟩
theorem k222 : chkNF Try.prog Try.f222 n222 = true := by kernel_rfl
theorem ok222 : NOk Try.prog t222 := NOk.body (T := []) mixed nall_nil (oneEach_of (by kernel_rfl)) Try.func222 k222 (by kernel_rfl) (fun x h => e222 _  x h)
def n210 : NFunc := ⟨69,.seq (.region 1 [
 o1 1 (.box 18 (tm 0)) 0,
 o1 2 (.move kf) 1] []) (.seq (.seq (.region 0 [
 oF 7 2 1 0,
 oL 8 7 0,
 o1 9 (.len (tm 8)) 0,
 oC 10 .lss 9 1 0,
 oM 11 10 0,
 o2 12 (.fieldAddr 2 (tm 1)) 11 0,
 o2 13 (.load false 1 (tm 12)) 11 0,
 o2 14 (.len (tm 13)) 11 0,
 o2 15 (.bin .gtr (tm 14) (ki 8)) 11 0,
 o1 16 (.pick (tm 11) kt (tm 15)) 0] []) (.cond (tm 16) (.seq (.region 0 [
 o1 2 (.move kf) 0] []) (.ret)) (.skip))) (.seq (.seq (.region 0 [
 oF 17 2 1 0,
 oL 18 17 0,
 o1 19 (.len (tm 18)) 0,
 o1 20 (.move (ki 0)) 0] []) (.block 0 (.loop [1,18,19,20] ⟨[(1,(.ptr 0 0 0)),(20,vI)],[18,19],[.one false .spec]⟩ (.seq (.region 0 [
 oB 21 .lss 20 19 0] []) (.seq (.cond (tm 21) (.skip) (.exit 0)) (.seq (.block 1 (.seq (.region 1 [
 o1 22 (.indexSl 6 (tm 18) (tm 20)) 0,
 oT 23 6 22 0,
 o1 4 (.alloc [iz,.zsl,iz,iz,iz,iz]) 0,
 oS 6 4 23 1] []) (.seq (.seq (.region 4 [
 oF 24 0 4 0,
 oL 25 24 0,
 oC 26 .lss 25 0 0,
 oM 27 26 0,
 o2 28 (.fieldAddr 0 (tm 4)) 27 0,
 o2 29 (.load false 1 (tm 28)) 27 0,
 o2 30 (.fieldAddr 1 (tm 1)) 27 0,
 o2 31 (.load false 1 (tm 30)) 27 0,
 o2 32 (.len (tm 31)) 27 0,
 o2 33 (.bin .geq (tm 29) (tm 32)) 27 0,
 o1 34 (.pick (tm 27) kt (tm 33)) 0,
 oM 35 34 0,
 o2 36 (.fieldAddr 1 (tm 4)) 35 0,
 o2 37 (.load false 1 (tm 36)) 35 0,
 o2 38 (.fieldAddr 3 (tm 1)) 35 0,
 o2 39 (.load false 1 (tm 38)) 35 0,
 o2 40 (.call (fc 221) [(vv 37),(vv 39)] false 4) 35 0,
 o2 41 (.un .not (tm 40)) 35 4,
 o1 42 (.pick (tm 35) kt (tm 41)) 4] []) (.cond (tm 42) (.seq (.region 0 [
 o1 2 (.move kf) 0] []) (.ret)) (.skip))) (.seq (.seq (.region 0 [
 oF 43 2 4 0,
 oL 44 43 0,
 oF 45 3 4 0,
 oL 46 45 0,
 oF 47 4 4 0,
 oL 48 47 0,
 o1 49 (.build [iz,iz,iz] [(0,1,(tm 44)),(1,1,(tm 46)),(2,1,(tm 48))]) 0,
 o1 50 (.move (ki 0)) 0] []) (.block 2 (.loopU [1,4,18,19,20,49,50] 4 (.seq (.region 0 [
 oC 51 .lss 50 3 0] []) (.seq (.cond (tm 51) (.skip) (.exit 2)) (.seq (.block 3 (.seq (.region 0 [
 o1 52 (.indexVal false 3 1 (tm 49) (tm 50)) 0,
 oM 6 52 0] []) (.seq (.region 0 [
 oM 53 6 0,
 oC 54 .lss 53 1 0,
 oM 55 54 0,
 oN 56 6 55 0,
 o2 57 (.bin .gtr (tm 56) (ki 256)) 55 0,
 o1 58 (.pick (tm 55) kt (tm 57)) 0] []) (.cond (tm 58) (.seq (.region 0 [
 o1 2 (.move kf) 0] []) (.ret)) (.skip))))) (.region 0 [
 oC 59 .add 50 1 0,
 oM 50 59 0] []))))))) (.seq (.region 0 [
 oF 60 5 4 0,
 oL 61 60 0,
 oC 62 .lss 61 0 0,
 oM 63 62 0,
 o2 64 (.fieldAddr 5 (tm 4)) 63 0,
 o2 65 (.load false 1 (tm 64)) 63 0,
 o2 66 (.bin .gtr (tm 65) (ki 100)) 63 0,
 o1 67 (.pick (tm 63) kt (tm 66)) 0] []) (.cond (tm 67) (.seq (.region 0 [
 o1 2 (.move kf) 0] []) (.ret)) (.skip))))))) (.region 0 [
 oC 68 .add 20 1 0,
 oM 20 68 0] []))))))) (.seq (.region 0 [
 o1 2 (.move kt) 0] []) (.ret)))),[.tmp 2],true⟩
def s210 : Sig := ⟨(.cons (.v .spec) .nil),[],((.v .bool),[]),[]⟩
def l210_0 (g221 : (List Int) → Int → Option Bool) (as0 : Spec) (nx2 : Taq → Option Bool) (z3 : Int) (z4 : Spec) : Option Bool :=
 cond (decide (z3 < (List.length as0.queues : Int)))
 (cond (decide (0 ≤ z3))
 (Option.bind (as0.queues[Int.toNat z3]?) fun y5 =>
 cond (decide (y5.part < 0))
 (some false)
 (cond (decide ((List.length z4.parts : Int) ≤ y5.part))
 (some false)
 (Option.bind (g221 y5.users z4.users) fun r6 =>
 cond (!r6)
 (some false)
 (cond (decide (y5.maxJobs < 1))
 (some false)
 (cond (decide (256 < y5.maxJobs))
 (some false)
 (cond (decide (y5.maxRun < 1))
 (some false)
 (cond (decide (256 < y5.maxRun))
 (some false)
 (cond (decide (y5.maxUser < 1))
 (some false)
 (cond (decide (256 < y5.maxUser))
 (some false)
 (cond (decide (y5.qos < 0))
 (some false)
 (cond (decide (100 < y5.qos))
 (some false)
 (nx2 (((),IntKind.wrap .i64 (z3 + 1),()),(z4,()))))))))))))))
 (none))
 (some true)
def F210 (L : Lp) (g221 : (List Int) → Int → Option Bool) (as0 : Spec) : Option Bool :=
 cond (decide ((List.length as0.queues : Int) < 1))
 (some false)
 (cond (decide (8 < (List.length as0.queues : Int)))
 (some false)
 (L (fun (s1 : Taq) nx2 => l210_0 g221 as0 nx2 s1.1.2.1 s1.2.1) (((),0,()),(as0,()))))
theorem e210 (L : Lp) (g221 : (List Int) → Int → Option Bool) (x : s210.args.den) (h : denH s210.heap) : nrun [⟨221,s221,fun x h => g221 x.1 x.2.1⟩] L n210 s210 x h = F210 L g221 x.1 := by kernel_rfl
def f210 : Spec → Option Bool := F210 (@LN LOOPS) f221
@[reducible] def t210 : Ent := ⟨210,s210,fun x h => f210 x.1⟩
theorem k210 : chkNF Try.prog Try.f210 n210 = true := by kernel_rfl
theorem ok210 : NOk Try.prog t210 := NOk.body (T := [t221]) mixed (nall_cons ok221 nall_nil) (oneEach_of (by kernel_rfl)) Try.func210 k210 (by kernel_rfl) (fun x h => e210 _ _ x h)
def n209 : NFunc := ⟨4,.seq (.region 0 [
 o1 1 (.move kf) 0] []) (.seq (.region 4 [
 oT 2 18 0 0,
 o1 3 (.call (fc 210) [(vv 2)] false 4) 0,
 oM 1 3 4] []) (.ret)),[.tmp 1],true⟩
def s209 : Sig := ⟨(.cons (.iptr (.cons (.v (.list .res)) (.cons (.v (.list (.list (.int .i64)))) (.cons (.v (.list .queue)) (.cons (.v (.int .i64)) (.cons (.v (.int .i64)) (.cons (.v (.int .i64)) (.cons (.v (.int .i64)) (.cons (.v (.int .i64)) (.cons (.v (.int .i64)) (.cons (.v (.int .i64)) (.cons (.v (.int .i64)) (.cons (.v (.int .i64)) (.cons (.v (.int .i64)) (.cons (.v (.int .i64)) (.cons (.v (.int .i64)) (.cons (.v (.int .i64)) (.cons (.v (.int .i64)) (.cons (.v (.int .i64)) .nil)))))))))))))))))) 0) .nil),[],((.v .bool),[]),[]⟩
def F209 (L : Lp) (g210 : Spec → Option Bool) (a0 : (List Res)) (a1 : (List (List Int))) (a2 : (List Queue)) (a3 : Int) (a4 : Int) (a5 : Int) (a6 : Int) (a7 : Int) (a8 : Int) (a9 : Int) (a10 : Int) (a11 : Int) (a12 : Int) (a13 : Int) (a14 : Int) (a15 : Int) (a16 : Int) (a17 : Int) : Option Bool :=
 Option.bind (g210 (Spec.mk a0 a1 a2 a3 (Weights.mk a4 a5 a6 a7) a8 a9 a10 a11 a12 a13 a14 a15 a16 a17)) fun r18 =>
 some r18
theorem e209 (L : Lp) (g210 : Spec → Option Bool) (x : s209.args.den) (h : denH s209.heap) : nrun [⟨210,s210,fun x h => g210 x.1⟩] L n209 s209 x h = F209 L g210 x.1.1 x.1.2.1 x.1.2.2.1 x.1.2.2.2.1 x.1.2.2.2.2.1 x.1.2.2.2.2.2.1 x.1.2.2.2.2.2.2.1 x.1.2.2.2.2.2.2.2.1 x.1.2.2.2.2.2.2.2.2.1 x.1.2.2.2.2.2.2.2.2.2.1 x.1.2.2.2.2.2.2.2.2.2.2.1 x.1.2.2.2.2.2.2.2.2.2.2.2.1 x.1.2.2.2.2.2.2.2.2.2.2.2.2.1 x.1.2.2.2.2.2.2.2.2.2.2.2.2.2.1 x.1.2.2.2.2.2.2.2.2.2.2.2.2.2.2.1 x.1.2.2.2.2.2.2.2.2.2.2.2.2.2.2.2.1 x.1.2.2.2.2.2.2.2.2.2.2.2.2.2.2.2.2.1 x.1.2.2.2.2.2.2.2.2.2.2.2.2.2.2.2.2.2.1 := by kernel_rfl
def f209 : (List Res) → (List (List Int)) → (List Queue) → Int → Int → Int → Int → Int → Int → Int → Int → Int → Int → Int → Int → Int → Int → Int → Option Bool := F209 (@LN LOOPS) f210
@[reducible] def t209 : Ent := ⟨209,s209,fun x h => f209 x.1.1 x.1.2.1 x.1.2.2.1 x.1.2.2.2.1 x.1.2.2.2.2.1 x.1.2.2.2.2.2.1 x.1.2.2.2.2.2.2.1 x.1.2.2.2.2.2.2.2.1 x.1.2.2.2.2.2.2.2.2.1 x.1.2.2.2.2.2.2.2.2.2.1 x.1.2.2.2.2.2.2.2.2.2.2.1 x.1.2.2.2.2.2.2.2.2.2.2.2.1 x.1.2.2.2.2.2.2.2.2.2.2.2.2.1 x.1.2.2.2.2.2.2.2.2.2.2.2.2.2.1 x.1.2.2.2.2.2.2.2.2.2.2.2.2.2.2.1 x.1.2.2.2.2.2.2.2.2.2.2.2.2.2.2.2.1 x.1.2.2.2.2.2.2.2.2.2.2.2.2.2.2.2.2.1 x.1.2.2.2.2.2.2.2.2.2.2.2.2.2.2.2.2.2.1⟩
theorem k209 : chkNF Try.prog Try.f209 n209 = true := by kernel_rfl
theorem ok209 : NOk Try.prog t209 := NOk.body (T := [t210]) mixed (nall_cons ok210 nall_nil) (oneEach_of (by kernel_rfl)) Try.func209 k209 (by kernel_rfl) (fun x h => e209 _ _ x h)
def n212 : NFunc := ⟨24,.seq (.region 1 [
 o1 1 (.box 4 (tm 0)) 0,
 o1 2 (.move kf) 1] []) (.seq (.seq (.region 0 [
 oF 5 0 1 0,
 oL 6 5 0,
 oF 7 1 1 0,
 oL 8 7 0,
 oF 9 2 1 0,
 oL 10 9 0,
 oF 11 3 1 0,
 oL 12 11 0,
 o1 13 (.build [iz,iz,iz,iz] [(0,1,(tm 6)),(1,1,(tm 8)),(2,1,(tm 10)),(3,1,(tm 12))]) 0,
 o1 14 (.move (ki 0)) 0] []) (.block 0 (.loopU [13,14] 5 (.seq (.region 0 [
 oC 15 .lss 14 4 0] []) (.seq (.cond (tm 15) (.skip) (.exit 0)) (.seq (.block 1 (.seq (.region 0 [
 o1 16 (.indexVal false 4 1 (tm 13) (tm 14)) 0,
 oM 4 16 0] []) (.seq (.region 0 [
 oM 17 4 0,
 oC 18 .lss 17 0 0,
 oM 19 18 0,
 oN 20 4 19 0,
 o2 21 (.bin .gtr (tm 20) (ki 1000)) 19 0,
 o1 22 (.pick (tm 19) kt (tm 21)) 0] []) (.cond (tm 22) (.seq (.region 0 [
 o1 2 (.move kf) 0] []) (.ret)) (.skip))))) (.region 0 [
 oC 23 .add 14 1 0,
 oM 14 23 0] []))))))) (.seq (.region 0 [
 o1 2 (.move kt) 0] []) (.ret))),[.tmp 2],true⟩
def s212 : Sig := ⟨(.cons (.v .weights) .nil),[],((.v .bool),[]),[]⟩
def F212 (L : Lp)  (w0 : Weights) : Option Bool :=
 cond (decide (w0.age < 0))
 (some false)
 (cond (decide (1000 < w0.age))
 (some false)
 (cond (decide (w0.size < 0))
 (some false)
 (cond (decide (1000 < w0.size))
 (some false)
 (cond (decide (w0.qos < 0))
 (some false)
 (cond (decide (1000 < w0.qos))
 (some false)
 (cond (decide (w0.share < 0))
 (some false)
 (cond (decide (1000 < w0.share))
 (some false)
 (some true))))))))
theorem e212 (L : Lp)  (x : s212.args.den) (h : denH s212.heap) : nrun [] L n212 s212 x h = F212 L  x.1 := by kernel_rfl
def f212 : Weights → Option Bool := F212 (@LN LOOPS) 
@[reducible] def t212 : Ent := ⟨212,s212,fun x h => f212 x.1⟩
theorem k212 : chkNF Try.prog Try.f212 n212 = true := by kernel_rfl
theorem ok212 : NOk Try.prog t212 := NOk.body (T := []) mixed nall_nil (oneEach_of (by kernel_rfl)) Try.func212 k212 (by kernel_rfl) (fun x h => e212 _  x h)
def n211 : NFunc := ⟨5,.seq (.region 0 [
 o1 1 (.move kf) 0] []) (.seq (.region 4 [
 oF 2 4 0 0,
 oT 3 4 2 0,
 o1 4 (.call (fc 212) [(vv 3)] false 4) 0,
 oM 1 4 4] []) (.ret)),[.tmp 1],true⟩
def s211 : Sig := ⟨(.cons (.iptr (.cons (.v (.list .res)) (.cons (.v (.list (.list (.int .i64)))) (.cons (.v (.list .queue)) (.cons (.v (.int .i64)) (.cons (.v (.int .i64)) (.cons (.v (.int .i64)) (.cons (.v (.int .i64)) (.cons (.v (.int .i64)) (.cons (.v (.int .i64)) (.cons (.v (.int .i64)) (.cons (.v (.int .i64)) (.cons (.v (.int .i64)) (.cons (.v (.int .i64)) (.cons (.v (.int .i64)) (.cons (.v (.int .i64)) (.cons (.v (.int .i64)) (.cons (.v (.int .i64)) (.cons (.v (.int .i64)) .nil)))))))))))))))))) 0) .nil),[],((.v .bool),[]),[]⟩
def F211 (L : Lp) (g212 : Weights → Option Bool) (a0 : (List Res)) (a1 : (List (List Int))) (a2 : (List Queue)) (a3 : Int) (a4 : Int) (a5 : Int) (a6 : Int) (a7 : Int) (a8 : Int) (a9 : Int) (a10 : Int) (a11 : Int) (a12 : Int) (a13 : Int) (a14 : Int) (a15 : Int) (a16 : Int) (a17 : Int) : Option Bool :=
 Option.bind (g212 (Weights.mk a4 a5 a6 a7)) fun r18 =>
 some r18
theorem e211 (L : Lp) (g212 : Weights → Option Bool) (x : s211.args.den) (h : denH s211.heap) : nrun [⟨212,s212,fun x h => g212 x.1⟩] L n211 s211 x h = F211 L g212 x.1.1 x.1.2.1 x.1.2.2.1 x.1.2.2.2.1 x.1.2.2.2.2.1 x.1.2.2.2.2.2.1 x.1.2.2.2.2.2.2.1 x.1.2.2.2.2.2.2.2.1 x.1.2.2.2.2.2.2.2.2.1 x.1.2.2.2.2.2.2.2.2.2.1 x.1.2.2.2.2.2.2.2.2.2.2.1 x.1.2.2.2.2.2.2.2.2.2.2.2.1 x.1.2.2.2.2.2.2.2.2.2.2.2.2.1 x.1.2.2.2.2.2.2.2.2.2.2.2.2.2.1 x.1.2.2.2.2.2.2.2.2.2.2.2.2.2.2.1 x.1.2.2.2.2.2.2.2.2.2.2.2.2.2.2.2.1 x.1.2.2.2.2.2.2.2.2.2.2.2.2.2.2.2.2.1 x.1.2.2.2.2.2.2.2.2.2.2.2.2.2.2.2.2.2.1 := by kernel_rfl
def f211 : (List Res) → (List (List Int)) → (List Queue) → Int → Int → Int → Int → Int → Int → Int → Int → Int → Int → Int → Int → Int → Int → Int → Option Bool := F211 (@LN LOOPS) f212
@[reducible] def t211 : Ent := ⟨211,s211,fun x h => f211 x.1.1 x.1.2.1 x.1.2.2.1 x.1.2.2.2.1 x.1.2.2.2.2.1 x.1.2.2.2.2.2.1 x.1.2.2.2.2.2.2.1 x.1.2.2.2.2.2.2.2.1 x.1.2.2.2.2.2.2.2.2.1 x.1.2.2.2.2.2.2.2.2.2.1 x.1.2.2.2.2.2.2.2.2.2.2.1 x.1.2.2.2.2.2.2.2.2.2.2.2.1 x.1.2.2.2.2.2.2.2.2.2.2.2.2.1 x.1.2.2.2.2.2.2.2.2.2.2.2.2.2.1 x.1.2.2.2.2.2.2.2.2.2.2.2.2.2.2.1 x.1.2.2.2.2.2.2.2.2.2.2.2.2.2.2.2.1 x.1.2.2.2.2.2.2.2.2.2.2.2.2.2.2.2.2.1 x.1.2.2.2.2.2.2.2.2.2.2.2.2.2.2.2.2.2.1⟩
theorem k211 : chkNF Try.prog Try.f211 n211 = true := by kernel_rfl
theorem ok211 : NOk Try.prog t211 := NOk.body (T := [t212]) mixed (nall_cons ok212 nall_nil) (oneEach_of (by kernel_rfl)) Try.func211 k211 (by kernel_rfl) (fun x h => e211 _ _ x h)
def n213 : NFunc := ⟨10,.seq (.region 0 [
 o1 1 (.move kf) 0] []) (.seq (.region 0 [
 oF 2 9 0 0,
 oL 3 2 0,
 oC 4 .eql 3 1 0,
 oM 5 4 0,
 o2 6 (.fieldAddr 9 (tm 0)) 5 0,
 o2 7 (.load false 1 (tm 6)) 5 0,
 o2 8 (.bin .eql (tm 7) (ki 2)) 5 0,
 o1 9 (.pick (tm 5) kt (tm 8)) 0,
 oM 1 9 0] []) (.ret)),[.tmp 1],true⟩
def s213 : Sig := ⟨(.cons (.iptr (.cons (.v (.list .res)) (.cons (.v (.list (.list (.int .i64)))) (.cons (.v (.list .queue)) (.cons (.v (.int .i64)) (.cons (.v (.int .i64)) (.cons (.v (.int .i64)) (.cons (.v (.int .i64)) (.cons (.v (.int .i64)) (.cons (.v (.int .i64)) (.cons (.v (.int .i64)) (.cons (.v (.int .i64)) (.cons (.v (.int .i64)) (.cons (.v (.int .i64)) (.cons (.v (.int .i64)) (.cons (.v (.int .i64)) (.cons (.v (.int .i64)) (.cons (.v (.int .i64)) (.cons (.v (.int .i64)) .nil)))))))))))))))))) 0) .nil),[],((.v .bool),[]),[]⟩
def F213 (L : Lp)  (a0 : (List Res)) (a1 : (List (List Int))) (a2 : (List Queue)) (a3 : Int) (a4 : Int) (a5 : Int) (a6 : Int) (a7 : Int) (a8 : Int) (a9 : Int) (a10 : Int) (a11 : Int) (a12 : Int) (a13 : Int) (a14 : Int) (a15 : Int) (a16 : Int) (a17 : Int) : Option Bool :=
 cond (decide (a9 = 1))
 (some true)
 (some (decide (a9 = 2)))
theorem e213 (L : Lp)  (x : s213.args.den) (h : denH s213.heap) : nrun [] L n213 s213 x h = F213 L  x.1.1 x.1.2.1 x.1.2.2.1 x.1.2.2.2.1 x.1.2.2.2.2.1 x.1.2.2.2.2.2.1 x.1.2.2.2.2.2.2.1 x.1.2.2.2.2.2.2.2.1 x.1.2.2.2.2.2.2.2.2.1 x.1.2.2.2.2.2.2.2.2.2.1 x.1.2.2.2.2.2.2.2.2.2.2.1 x.1.2.2.2.2.2.2.2.2.2.2.2.1 x.1.2.2.2.2.2.2.2.2.2.2.2.2.1 x.1.2.2.2.2.2.2.2.2.2.2.2.2.2.1 x.1.2.2.2.2.2.2.2.2.2.2.2.2.2.2.1 x.1.2.2.2.2.2.2.2.2.2.2.2.2.2.2.2.1 x.1.2.2.2.2.2.2.2.2.2.2.2.2.2.2.2.2.1 x.1.2.2.2.2.2.2.2.2.2.2.2.2.2.2.2.2.2.1 := by kernel_rfl
def f213 : (List Res) → (List (List Int)) → (List Queue) → Int → Int → Int → Int → Int → Int → Int → Int → Int → Int → Int → Int → Int → Int → Int → Option Bool := F213 (@LN LOOPS) 
@[reducible] def t213 : Ent := ⟨213,s213,fun x h => f213 x.1.1 x.1.2.1 x.1.2.2.1 x.1.2.2.2.1 x.1.2.2.2.2.1 x.1.2.2.2.2.2.1 x.1.2.2.2.2.2.2.1 x.1.2.2.2.2.2.2.2.1 x.1.2.2.2.2.2.2.2.2.1 x.1.2.2.2.2.2.2.2.2.2.1 x.1.2.2.2.2.2.2.2.2.2.2.1 x.1.2.2.2.2.2.2.2.2.2.2.2.1 x.1.2.2.2.2.2.2.2.2.2.2.2.2.1 x.1.2.2.2.2.2.2.2.2.2.2.2.2.2.1 x.1.2.2.2.2.2.2.2.2.2.2.2.2.2.2.1 x.1.2.2.2.2.2.2.2.2.2.2.2.2.2.2.2.1 x.1.2.2.2.2.2.2.2.2.2.2.2.2.2.2.2.2.1 x.1.2.2.2.2.2.2.2.2.2.2.2.2.2.2.2.2.2.1⟩
theorem k213 : chkNF Try.prog Try.f213 n213 = true := by kernel_rfl
theorem ok213 : NOk Try.prog t213 := NOk.body (T := []) mixed nall_nil (oneEach_of (by kernel_rfl)) Try.func213 k213 (by kernel_rfl) (fun x h => e213 _  x h)
def n156 : NFunc := ⟨19,.seq (.region 1 [
 o1 1 (.box 18 (tm 0)) 0,
 o1 2 (.move (.const (.str []))) 1] []) (.seq (.seq (.region 4 [
 oT 5 18 1 0,
 o1 6 (.call (fc 184) [(vv 5)] false 4) 0,
 o1 7 (.len (tm 6)) 4,
 o1 8 (.move (ki 0)) 4] []) (.block 0 (.loopU [6,7,8] 16 (.seq (.region 0 [
 oB 9 .lss 8 7 0] []) (.seq (.cond (tm 9) (.skip) (.exit 0)) (.seq (.block 1 (.seq (.region 1 [
 o1 10 (.indexSl 2 (tm 6) (tm 8)) 0,
 oT 11 2 10 0,
 o1 4 (.alloc [.str [],.nilfn]) 0,
 oS 2 4 11 1] []) (.seq (.region 4 [
 oF 12 1 4 0,
 oL 13 12 0,
 o1 14 (.call (tm 13) [] false 4) 0,
 o1 15 (.un .not (tm 14)) 4] []) (.cond (tm 15) (.seq (.region 0 [
 oF 16 0 4 0,
 oL 17 16 0,
 oM 2 17 0] []) (.ret)) (.skip))))) (.region 0 [
 oC 18 .add 8 1 0,
 oM 8 18 0] []))))))) (.seq (.region 0 [
 o1 2 (.move (.const (.str []))) 0] []) (.ret))),[.tmp 2],true⟩
def s156 : Sig := ⟨(.cons (.v .spec) .nil),[],((.v .str),[]),[]⟩
def F156 (L : Lp) (g184 : Spec → Option y184) (g204 : (List Res) → (List (List Int)) → (List Queue) → Int → Int → Int → Int → Int → Int → Int → Int → Int → Int → Int → Int → Int → Int → Int → Option Bool) (g206 : (List Res) → (List (List Int)) → (List Queue) → Int → Int → Int → Int → Int → Int → Int → Int → Int → Int → Int → Int → Int → Int → Int → Option Bool) (g222 : Int → Int → Int → Option Bool) (g209 : (List Res) → (List (List Int)) → (List Queue) → Int → Int → Int → Int → Int → Int → Int → Int → Int → Int → Int → Int → Int → Int → Int → Option Bool) (g211 : (List Res) → (List (List Int)) → (List Queue) → Int → Int → Int → Int → Int → Int → Int → Int → Int → Int → Int → Int → Int → Int → Int → Option Bool) (g213 : (List Res) → (List (List Int)) → (List Queue) → Int → Int → Int → Int → Int → Int → Int → Int → Int → Int → Int → Int → Int → Int → Int → Option Bool) (as0 : Spec) : Option (List UInt8) :=
 Option.bind (g184 as0) fun r1 =>
 Option.bind (g204 r1.1.2.1.1.1 r1.1.2.1.1.2.1 r1.1.2.1.1.2.2.1 r1.1.2.1.1.2.2.2.1 r1.1.2.1.1.2.2.2.2.1 r1.1.2.1.1.2.2.2.2.2.1 r1.1.2.1.1.2.2.2.2.2.2.1 r1.1.2.1.1.2.2.2.2.2.2.2.1 r1.1.2.1.1.2.2.2.2.2.2.2.2.1 r1.1.2.1.1.2.2.2.2.2.2.2.2.2.1 r1.1.2.1.1.2.2.2.2.2.2.2.2.2.2.1 r1.1.2.1.1.2.2.2.2.2.2.2.2.2.2.2.1 r1.1.2.1.1.2.2.2.2.2.2.2.2.2.2.2.2.1 r1.1.2.1.1.2.2.2.2.2.2.2.2.2.2.2.2.2.1 r1.1.2.1.1.2.2.2.2.2.2.2.2.2.2.2.2.2.2.1 r1.1.2.1.1.2.2.2.2.2.2.2.2.2.2.2.2.2.2.2.1 r1.1.2.1.1.2.2.2.2.2.2.2.2.2.2.2.2.2.2.2.2.1 r1.1.2.1.1.2.2.2.2.2.2.2.2.2.2.2.2.2.2.2.2.2.1) fun r2 =>
 cond (!r2)
 (some r1.1.1)
 (Option.bind (g206 r1.2.1.2.1.1.1 r1.2.1.2.1.1.2.1 r1.2.1.2.1.1.2.2.1 r1.2.1.2.1.1.2.2.2.1 r1.2.1.2.1.1.2.2.2.2.1 r1.2.1.2.1.1.2.2.2.2.2.1 r1.2.1.2.1.1.2.2.2.2.2.2.1 r1.2.1.2.1.1.2.2.2.2.2.2.2.1 r1.2.1.2.1.1.2.2.2.2.2.2.2.2.1 r1.2.1.2.1.1.2.2.2.2.2.2.2.2.2.1 r1.2.1.2.1.1.2.2.2.2.2.2.2.2.2.2.1 r1.2.1.2.1.1.2.2.2.2.2.2.2.2.2.2.2.1 r1.2.1.2.1.1.2.2.2.2.2.2.2.2.2.2.2.2.1 r1.2.1.2.1.1.2.2.2.2.2.2.2.2.2.2.2.2.2.1 r1.2.1.2.1.1.2.2.2.2.2.2.2.2.2.2.2.2.2.2.1 r1.2.1.2.1.1.2.2.2.2.2.2.2.2.2.2.2.2.2.2.2.1 r1.2.1.2.1.1.2.2.2.2.2.2.2.2.2.2.2.2.2.2.2.2.1 r1.2.1.2.1.1.2.2.2.2.2.2.2.2.2.2.2.2.2.2.2.2.2.1) fun r3 =>
 cond (!r3)
 (some r1.2.1.1)
 (Option.bind (g222 r1.2.2.1.2.1.1.1 r1.2.2.1.2.1.2.1.1 r1.2.2.1.2.1.2.2.1.1) fun r4 =>
 cond (!r4)
 (some r1.2.2.1.1)
 (Option.bind (g209 r1.2.2.2.1.2.1.1.1 r1.2.2.2.1.2.1.1.2.1 r1.2.2.2.1.2.1.1.2.2.1 r1.2.2.2.1.2.1.1.2.2.2.1 r1.2.2.2.1.2.1.1.2.2.2.2.1 r1.2.2.2.1.2.1.1.2.2.2.2.2.1 r1.2.2.2.1.2.1.1.2.2.2.2.2.2.1 r1.2.2.2.1.2.1.1.2.2.2.2.2.2.2.1 r1.2.2.2.1.2.1.1.2.2.2.2.2.2.2.2.1 r1.2.2.2.1.2.1.1.2.2.2.2.2.2.2.2.2.1 r1.2.2.2.1.2.1.1.2.2.2.2.2.2.2.2.2.2.1 r1.2.2.2.1.2.1.1.2.2.2.2.2.2.2.2.2.2.2.1 r1.2.2.2.1.2.1.1.2.2.2.2.2.2.2.2.2.2.2.2.1 r1.2.2.2.1.2.1.1.2.2.2.2.2.2.2.2.2.2.2.2.2.1 r1.2.2.2.1.2.1.1.2.2.2.2.2.2.2.2.2.2.2.2.2.2.1 r1.2.2.2.1.2.1.1.2.2.2.2.2.2.2.2.2.2.2.2.2.2.2.1 r1.2.2.2.1.2.1.1.2.2.2.2.2.2.2.2.2.2.2.2.2.2.2.2.1 r1.2.2.2.1.2.1.1.2.2.2.2.2.2.2.2.2.2.2.2.2.2.2.2.2.1) fun r5 =>
 cond (!r5)
 (some r1.2.2.2.1.1)
 (Option.bind (g211 r1.2.2.2.2.1.2.1.1.1 r1.2.2.2.2.1.2.1.1.2.1 r1.2.2.2.2.1.2.1.1.2.2.1 r1.2.2.2.2.1.2.1.1.2.2.2.1 r1.2.2.2.2.1.2.1.1.2.2.2.2.1 r1.2.2.2.2.1.2.1.1.2.2.2.2.2.1 r1.2.2.2.2.1.2.1.1.2.2.2.2.2.2.1 r1.2.2.2.2.1.2.1.1.2.2.2.2.2.2.2.1 r1.2.2.2.2.1.2.1.1.2.2.2.2.2.2.2.2.1 r1.2.2.2.2.1.2.1.1.2.2.2.2.2.2.2.2.2.1 r1.2.2.2.2.1.2.1.1.2.2.2.2.2.2.2.2.2.2.1 r1.2.2.2.2.1.2.1.1.2.2.2.2.2.2.2.2.2.2.2.1 r1.2.2.2.2.1.2.1.1.2.2.2.2.2.2.2.2.2.2.2.2.1 r1.2.2.2.2.1.2.1.1.2.2.2.2.2.2.2.2.2.2.2.2.2.1 r1.2.2.2.2.1.2.1.1.2.2.2.2.2.2.2.2.2.2.2.2.2.2.1 r1.2.2.2.2.1.2.1.1.2.2.2.2.2.2.2.2.2.2.2.2.2.2.2.1 r1.2.2.2.2.1.2.1.1.2.2.2.2.2.2.2.2.2.2.2.2.2.2.2.2.1 r1.2.2.2.2.1.2.1.1.2.2.2.2.2.2.2.2.2.2.2.2.2.2.2.2.2.1) fun r6 =>
 cond (!r6)
 (some r1.2.2.2.2.1.1)
 (Option.bind (g222 r1.2.2.2.2.2.1.2.1.1.1 r1.2.2.2.2.2.1.2.1.2.1.1 r1.2.2.2.2.2.1.2.1.2.2.1.1) fun r7 =>
 cond (!r7)
 (some r1.2.2.2.2.2.1.1)
 (Option.bind (g213 r1.2.2.2.2.2.2.1.2.1.1.1 r1.2.2.2.2.2.2.1.2.1.1.2.1 r1.2.2.2.2.2.2.1.2.1.1.2.2.1 r1.2.2.2.2.2.2.1.2.1.1.2.2.2.1 r1.2.2.2.2.2.2.1.2.1.1.2.2.2.2.1 r1.2.2.2.2.2.2.1.2.1.1.2.2.2.2.2.1 r1.2.2.2.2.2.2.1.2.1.1.2.2.2.2.2.2.1 r1.2.2.2.2.2.2.1.2.1.1.2.2.2.2.2.2.2.1 r1.2.2.2.2.2.2.1.2.1.1.2.2.2.2.2.2.2.2.1 r1.2.2.2.2.2.2.1.2.1.1.2.2.2.2.2.2.2.2.2.1 r1.2.2.2.2.2.2.1.2.1.1.2.2.2.2.2.2.2.2.2.2.1 r1.2.2.2.2.2.2.1.2.1.1.2.2.2.2.2.2.2.2.2.2.2.1 r1.2.2.2.2.2.2.1.2.1.1.2.2.2.2.2.2.2.2.2.2.2.2.1 r1.2.2.2.2.2.2.1.2.1.1.2.2.2.2.2.2.2.2.2.2.2.2.2.1 r1.2.2.2.2.2.2.1.2.1.1.2.2.2.2.2.2.2.2.2.2.2.2.2.2.1 r1.2.2.2.2.2.2.1.2.1.1.2.2.2.2.2.2.2.2.2.2.2.2.2.2.2.1 r1.2.2.2.2.2.2.1.2.1.1.2.2.2.2.2.2.2.2.2.2.2.2.2.2.2.2.1 r1.2.2.2.2.2.2.1.2.1.1.2.2.2.2.2.2.2.2.2.2.2.2.2.2.2.2.2.1) fun r8 =>
 cond (!r8)
 (some r1.2.2.2.2.2.2.1.1)
 (Option.bind (g222 r1.2.2.2.2.2.2.2.1.2.1.1.1 r1.2.2.2.2.2.2.2.1.2.1.2.1.1 r1.2.2.2.2.2.2.2.1.2.1.2.2.1.1) fun r9 =>
 cond (!r9)
 (some r1.2.2.2.2.2.2.2.1.1)
 (Option.bind (g222 r1.2.2.2.2.2.2.2.2.1.2.1.1.1 r1.2.2.2.2.2.2.2.2.1.2.1.2.1.1 r1.2.2.2.2.2.2.2.2.1.2.1.2.2.1.1) fun r10 =>
 cond (!r10)
 (some r1.2.2.2.2.2.2.2.2.1.1)
 (Option.bind (g222 r1.2.2.2.2.2.2.2.2.2.1.2.1.1.1 r1.2.2.2.2.2.2.2.2.2.1.2.1.2.1.1 r1.2.2.2.2.2.2.2.2.2.1.2.1.2.2.1.1) fun r11 =>
 cond (!r11)
 (some r1.2.2.2.2.2.2.2.2.2.1.1)
 (Option.bind (g222 r1.2.2.2.2.2.2.2.2.2.2.1.2.1.1.1 r1.2.2.2.2.2.2.2.2.2.2.1.2.1.2.1.1 r1.2.2.2.2.2.2.2.2.2.2.1.2.1.2.2.1.1) fun r12 =>
 cond (!r12)
 (some r1.2.2.2.2.2.2.2.2.2.2.1.1)
 (Option.bind (g222 r1.2.2.2.2.2.2.2.2.2.2.2.1.2.1.1.1 r1.2.2.2.2.2.2.2.2.2.2.2.1.2.1.2.1.1 r1.2.2.2.2.2.2.2.2.2.2.2.1.2.1.2.2.1.1) fun r13 =>
 cond (!r13)
 (some r1.2.2.2.2.2.2.2.2.2.2.2.1.1)
 (Option.bind (g222 r1.2.2.2.2.2.2.2.2.2.2.2.2.1.2.1.1.1 r1.2.2.2.2.2.2.2.2.2.2.2.2.1.2.1.2.1.1 r1.2.2.2.2.2.2.2.2.2.2.2.2.1.2.1.2.2.1.1) fun r14 =>
 cond (!r14)
 (some r1.2.2.2.2.2.2.2.2.2.2.2.2.1.1)
 (Option.bind (g222 r1.2.2.2.2.2.2.2.2.2.2.2.2.2.1.2.1.1.1 r1.2.2.2.2.2.2.2.2.2.2.2.2.2.1.2.1.2.1.1 r1.2.2.2.2.2.2.2.2.2.2.2.2.2.1.2.1.2.2.1.1) fun r15 =>
 cond (!r15)
 (some r1.2.2.2.2.2.2.2.2.2.2.2.2.2.1.1)
 (Option.bind (g222 r1.2.2.2.2.2.2.2.2.2.2.2.2.2.2.1.2.1.1.1 r1.2.2.2.2.2.2.2.2.2.2.2.2.2.2.1.2.1.2.1.1 r1.2.2.2.2.2.2.2.2.2.2.2.2.2.2.1.2.1.2.2.1.1) fun r16 =>
 cond (!r16)
 (some r1.2.2.2.2.2.2.2.2.2.2.2.2.2.2.1.1)
 (some ([] : List UInt8))))))))))))))))
theorem e156 (L : Lp) (g184 : Spec → Option y184) (g204 : (List Res) → (List (List Int)) → (List Queue) → Int → Int → Int → Int → Int → Int → Int → Int → Int → Int → Int → Int → Int → Int → Int → Option Bool) (g206 : (List Res) → (List (List Int)) → (List Queue) → Int → Int → Int → Int → Int → Int → Int → Int → Int → Int → Int → Int → Int → Int → Int → Option Bool) (g222 : Int → Int → Int → Option Bool) (g209 : (List Res) → (List (List Int)) → (List Queue) → Int → Int → Int → Int → Int → Int → Int → Int → Int → Int → Int → Int → Int → Int → Int → Option Bool) (g211 : (List Res) → (List (List Int)) → (List Queue) → Int → Int → Int → Int → Int → Int → Int → Int → Int → Int → Int → Int → Int → Int → Int → Option Bool) (g213 : (List Res) → (List (List Int)) → (List Queue) → Int → Int → Int → Int → Int → Int → Int → Int → Int → Int → Int → Int → Int → Int → Int → Option Bool) (x : s156.args.den) (h : denH s156.heap) : nrun [⟨184,s184,fun x h => g184 x.1⟩,⟨204,s204,fun x h => g204 x.1.1 x.1.2.1 x.1.2.2.1 x.1.2.2.2.1 x.1.2.2.2.2.1 x.1.2.2.2.2.2.1 x.1.2.2.2.2.2.2.1 x.1.2.2.2.2.2.2.2.1 x.1.2.2.2.2.2.2.2.2.1 x.1.2.2.2.2.2.2.2.2.2.1 x.1.2.2.2.2.2.2.2.2.2.2.1 x.1.2.2.2.2.2.2.2.2.2.2.2.1 x.1.2.2.2.2.2.2.2.2.2.2.2.2.1 x.1.2.2.2.2.2.2.2.2.2.2.2.2.2.1 x.1.2.2.2.2.2.2.2.2.2.2.2.2.2.2.1 x.1.2.2.2.2.2.2.2.2.2.2.2.2.2.2.2.1 x.1.2.2.2.2.2.2.2.2.2.2.2.2.2.2.2.2.1 x.1.2.2.2.2.2.2.2.2.2.2.2.2.2.2.2.2.2.1⟩,⟨206,s206,fun x h => g206 x.1.1 x.1.2.1 x.1.2.2.1 x.1.2.2.2.1 x.1.2.2.2.2.1 x.1.2.2.2.2.2.1 x.1.2.2.2.2.2.2.1 x.1.2.2.2.2.2.2.2.1 x.1.2.2.2.2.2.2.2.2.1 x.1.2.2.2.2.2.2.2.2.2.1 x.1.2.2.2.2.2.2.2.2.2.2.1 x.1.2.2.2.2.2.2.2.2.2.2.2.1 x.1.2.2.2.2.2.2.2.2.2.2.2.2.1 x.1.2.2.2.2.2.2.2.2.2.2.2.2.2.1 x.1.2.2.2.2.2.2.2.2.2.2.2.2.2.2.1 x.1.2.2.2.2.2.2.2.2.2.2.2.2.2.2.2.1 x.1.2.2.2.2.2.2.2.2.2.2.2.2.2.2.2.2.1 x.1.2.2.2.2.2.2.2.2.2.2.2.2.2.2.2.2.2.1⟩,⟨222,s222,fun x h => g222 x.1.1 x.2.1.1 x.2.2.1.1⟩,⟨209,s209,fun x h => g209 x.1.1 x.1.2.1 x.1.2.2.1 x.1.2.2.2.1 x.1.2.2.2.2.1 x.1.2.2.2.2.2.1 x.1.2.2.2.2.2.2.1 x.1.2.2.2.2.2.2.2.1 x.1.2.2.2.2.2.2.2.2.1 x.1.2.2.2.2.2.2.2.2.2.1 x.1.2.2.2.2.2.2.2.2.2.2.1 x.1.2.2.2.2.2.2.2.2.2.2.2.1 x.1.2.2.2.2.2.2.2.2.2.2.2.2.1 x.1.2.2.2.2.2.2.2.2.2.2.2.2.2.1 x.1.2.2.2.2.2.2.2.2.2.2.2.2.2.2.1 x.1.2.2.2.2.2.2.2.2.2.2.2.2.2.2.2.1 x.1.2.2.2.2.2.2.2.2.2.2.2.2.2.2.2.2.1 x.1.2.2.2.2.2.2.2.2.2.2.2.2.2.2.2.2.2.1⟩,⟨211,s211,fun x h => g211 x.1.1 x.1.2.1 x.1.2.2.1 x.1.2.2.2.1 x.1.2.2.2.2.1 x.1.2.2.2.2.2.1 x.1.2.2.2.2.2.2.1 x.1.2.2.2.2.2.2.2.1 x.1.2.2.2.2.2.2.2.2.1 x.1.2.2.2.2.2.2.2.2.2.1 x.1.2.2.2.2.2.2.2.2.2.2.1 x.1.2.2.2.2.2.2.2.2.2.2.2.1 x.1.2.2.2.2.2.2.2.2.2.2.2.2.1 x.1.2.2.2.2.2.2.2.2.2.2.2.2.2.1 x.1.2.2.2.2.2.2.2.2.2.2.2.2.2.2.1 x.1.2.2.2.2.2.2.2.2.2.2.2.2.2.2.2.1 x.1.2.2.2.2.2.2.2.2.2.2.2.2.2.2.2.2.1 x.1.2.2.2.2.2.2.2.2.2.2.2.2.2.2.2.2.2.1⟩,⟨213,s213,fun x h => g213 x.1.1 x.1.2.1 x.1.2.2.1 x.1.2.2.2.1 x.1.2.2.2.2.1 x.1.2.2.2.2.2.1 x.1.2.2.2.2.2.2.1 x.1.2.2.2.2.2.2.2.1 x.1.2.2.2.2.2.2.2.2.1 x.1.2.2.2.2.2.2.2.2.2.1 x.1.2.2.2.2.2.2.2.2.2.2.1 x.1.2.2.2.2.2.2.2.2.2.2.2.1 x.1.2.2.2.2.2.2.2.2.2.2.2.2.1 x.1.2.2.2.2.2.2.2.2.2.2.2.2.2.1 x.1.2.2.2.2.2.2.2.2.2.2.2.2.2.2.1 x.1.2.2.2.2.2.2.2.2.2.2.2.2.2.2.2.1 x.1.2.2.2.2.2.2.2.2.2.2.2.2.2.2.2.2.1 x.1.2.2.2.2.2.2.2.2.2.2.2.2.2.2.2.2.2.1⟩] L n156 s156 x h = F156 L g184 g204 g206 g222 g209 g211 g213 x.1 := by kernel_rfl
def f156 : Spec → Option (List UInt8) := F156 (@LN LOOPS) f184 f204 f206 f222 f209 f211 f213
@[reducible] def t156 : Ent := ⟨156,s156,fun x h => f156 x.1⟩
theorem k156 : chkNF Try.prog Try.f156 n156 = true := by kernel_rfl
theorem ok156 : NOk Try.prog t156 := NOk.body (T := [t184,t204,t206,t222,t209,t211,t213]) mixed (nall_cons ok184 (nall_cons ok204 (nall_cons ok206 (nall_cons ok222 (nall_cons ok209 (nall_cons ok211 (nall_cons ok213 nall_nil))))))) (oneEach_of (by kernel_rfl)) Try.func156 k156 (by kernel_rfl) (fun x h => e156 _ _ _ _ _ _ _ _ x h)
def n103 : NFunc := ⟨6,.seq (.region 1 [
 o1 1 (.box 18 (tm 0)) 0,
 o1 2 (.move kf) 1] []) (.seq (.region 4 [
 oT 3 18 1 0,
 o1 4 (.call (fc 156) [(vv 3)] false 4) 0,
 o1 5 (.bin .eql (tm 4) (.const (.str []))) 4,
 oM 2 5 4] []) (.ret)),[.tmp 2],true⟩
def s103 : Sig := ⟨(.cons (.v .spec) .nil),[],((.v .bool),[]),[]⟩
def F103 (L : Lp) (g156 : Spec → Option (List UInt8)) (as0 : Spec) : Option Bool :=
 Option.bind (g156 as0) fun r1 =>
 some (decide (r1 = ([] : List UInt8)))
theorem e103 (L : Lp) (g156 : Spec → Option (List UInt8)) (x : s103.args.den) (h : denH s103.heap) : nrun [⟨156,s156,fun x h => g156 x.1⟩] L n103 s103 x h = F103 L g156 x.1 := by kernel_rfl
def f103 : Spec → Option Bool := F103 (@LN LOOPS) f156
@[reducible] def t103 : Ent := ⟨103,s103,fun x h => f103 x.1⟩
theorem k103 : chkNF Try.prog Try.f103 n103 = true := by kernel_rfl
theorem ok103 : NOk Try.prog t103 := NOk.body (T := [t156]) mixed (nall_cons ok156 nall_nil) (oneEach_of (by kernel_rfl)) Try.func103 k103 (by kernel_rfl) (fun x h => e103 _ _ x h)
def n167 : NFunc := ⟨41,.seq (.region 1 [
 o1 2 (.box 4 (tm 0)) 0,
 o1 4 (.move kf) 1] []) (.seq (.region 0 [
 oF 5 0 2 0,
 oL 6 5 0,
 oC 7 .geq 6 1 0,
 oM 8 7 0,
 o3 9 (.fieldAddr 0 (tm 2)) 8 0,
 o3 10 (.load false 1 (tm 9)) 8 0,
 o3 11 (.bin .leq (tm 10) (ki 281474976710656)) 8 0,
 o1 12 (.pick (tm 8) (tm 11) kf) 0,
 oM 13 12 0,
 o3 14 (.fieldAddr 1 (tm 2)) 13 0,
 o3 15 (.load false 1 (tm 14)) 13 0,
 o3 16 (.bin .geq (tm 15) (ki 0)) 13 0,
 o1 17 (.pick (tm 13) (tm 16) kf) 0,
 oM 18 17 0,
 o3 19 (.fieldAddr 1 (tm 2)) 18 0,
 o3 20 (.load false 1 (tm 19)) 18 0,
 o3 21 (.move (tm 1)) 18 0,
 o3 22 (.bin .lss (tm 20) (tm 21)) 18 0,
 o1 23 (.pick (tm 18) (tm 22) kf) 0,
 oM 24 23 0,
 o3 25 (.fieldAddr 2 (tm 2)) 24 0,
 o3 26 (.load false 1 (tm 25)) 24 0,
 o3 27 (.bin .geq (tm 26) (ki 0)) 24 0,
 o1 28 (.pick (tm 24) (tm 27) kf) 0,
 oM 29 28 0,
 o3 30 (.fieldAddr 2 (tm 2)) 29 0,
 o3 31 (.load false 1 (tm 30)) 29 0,
 o3 32 (.fieldAddr 3 (tm 2)) 29 0,
 o3 33 (.load false 1 (tm 32)) 29 0,
 o3 34 (.bin .lss (tm 31) (tm 33)) 29 0,
 o1 35 (.pick (tm 29) (tm 34) kf) 0,
 oM 36 35 0,
 o3 37 (.fieldAddr 3 (tm 2)) 36 0,
 o3 38 (.load false 1 (tm 37)) 36 0,
 o3 39 (.bin .leq (tm 38) (ki 1099511627776)) 36 0,
 o1 40 (.pick (tm 36) (tm 39) kf) 0,
 oM 4 40 0] []) (.ret)),[.tmp 4],true⟩
def s167 : Sig := ⟨(.cons (.v .booking) (.cons (.v (.int .i64)) .nil)),[],((.v .bool),[]),[]⟩
def F167 (L : Lp)  (b0 : Booking) (nodes1 : Int) : Option Bool :=
 cond (decide (1 ≤ b0.id))
 (cond (decide (b0.id ≤ 281474976710656))
 (cond (decide (0 ≤ b0.node))
 (cond (decide (b0.node < nodes1))
 (cond (decide (0 ≤ b0.fro))
 (cond (decide (b0.fro < b0.to))
 (some (decide (b0.to ≤ 1099511627776)))
 (some false))
 (some false))
 (some false))
 (some false))
 (some false))
 (some false)
theorem e167 (L : Lp)  (x : s167.args.den) (h : denH s167.heap) : nrun [] L n167 s167 x h = F167 L  x.1 x.2.1 := by kernel_rfl
def f167 : Booking → Int → Option Bool := F167 (@LN LOOPS) 
@[reducible] def t167 : Ent := ⟨167,s167,fun x h => f167 x.1 x.2.1⟩
theorem k167 : chkNF Try.prog Try.f167 n167 = true := by kernel_rfl
theorem ok167 : NOk Try.prog t167 := NOk.body (T := []) mixed nall_nil (oneEach_of (by kernel_rfl)) Try.func167 k167 (by kernel_rfl) (fun x h => e167 _  x h)
def n168 : NFunc := ⟨33,.seq (.region 0 [
 o1 8 (.move kf) 0] []) (.seq (.seq (.region 0 [
 oM 11 0 0,
 o1 12 (.len (tm 11)) 0,
 o1 13 (.move (ki 0)) 0] []) (.block 0 (.loop [1,2,3,11,12,13] ⟨[(13,vI)],[1,2,3,11,12],[]⟩ (.seq (.region 0 [
 oB 14 .lss 13 12 0] []) (.seq (.cond (tm 14) (.skip) (.exit 0)) (.seq (.block 1 (.seq (.region 1 [
 o1 15 (.indexSl 4 (tm 11) (tm 13)) 0,
 oT 16 4 15 0,
 o1 10 (.alloc [iz,iz,iz,iz]) 0,
 oS 4 10 16 1] []) (.seq (.region 0 [
 oF 17 1 10 0,
 oL 18 17 0,
 oM 19 1 0,
 oB 20 .eql 18 19 0,
 oM 21 20 0,
 o3 22 (.fieldAddr 2 (tm 10)) 21 0,
 o3 23 (.load false 1 (tm 22)) 21 0,
 o3 24 (.move (tm 2)) 21 0,
 o3 25 (.minmax true (tm 23) (tm 24)) 21 0,
 o3 26 (.fieldAddr 3 (tm 10)) 21 0,
 o3 27 (.load false 1 (tm 26)) 21 0,
 o3 28 (.move (tm 3)) 21 0,
 o3 29 (.minmax false (tm 27) (tm 28)) 21 0,
 o3 30 (.bin .lss (tm 25) (tm 29)) 21 0,
 o1 31 (.pick (tm 21) (tm 30) kf) 0] []) (.cond (tm 31) (.seq (.region 0 [
 o1 8 (.move kt) 0] []) (.ret)) (.skip))))) (.region 0 [
 oC 32 .add 13 1 0,
 oM 13 32 0] []))))))) (.seq (.region 0 [
 o1 8 (.move kf) 0] []) (.ret))),[.tmp 8],true⟩
def s168 : Sig := ⟨(.cons (.v (.list .booking)) (.cons (.v (.int .i64)) (.cons (.v (.int .i64)) (.cons (.v (.int .i64)) .nil)))),[],((.v .bool),[]),[]⟩
def l168_0 (al0 : (List Booking)) (node1 : Int) (from2 : Int) (to3 : Int) (nx5 : ((Int × Unit) × Unit) → Option Bool) (z6 : Int) : Option Bool :=
 cond (decide (z6 < (List.length al0 : Int)))
 (cond (decide (0 ≤ z6))
 (Option.bind (al0[Int.toNat z6]?) fun y7 =>
 cond (decide (y7.node = node1))
 (cond (decide ((if from2 > y7.fro then from2 else y7.fro) < (if to3 < y7.to then to3 else y7.to)))
 (some true)
 (nx5 ((IntKind.wrap .i64 (z6 + 1),()),())))
 (nx5 ((IntKind.wrap .i64 (z6 + 1),()),())))
 (none))
 (some false)
def F168 (L : Lp)  (al0 : (List Booking)) (node1 : Int) (from2 : Int) (to3 : Int) : Option Bool :=
 L (fun (s4 : ((Int × Unit) × Unit)) nx5 => l168_0 al0 node1 from2 to3 nx5 s4.1.1) ((0,()),())
theorem e168 (L : Lp)  (x : s168.args.den) (h : denH s168.heap) : nrun [] L n168 s168 x h = F168 L  x.1 x.2.1 x.2.2.1 x.2.2.2.1 := by kernel_rfl
def f168 : (List Booking) → Int → Int → Int → Option Bool := F168 (@LN LOOPS) 
@[reducible] def t168 : Ent := ⟨168,s168,fun x h => f168 x.1 x.2.1 x.2.2.1 x.2.2.2.1⟩
theorem k168 : chkNF Try.prog Try.f168 n168 = true := by kernel_rfl
theorem ok168 : NOk Try.prog t168 := NOk.body (T := []) mixed nall_nil (oneEach_of (by kernel_rfl)) Try.func168 k168 (by kernel_rfl) (fun x h => e168 _  x h)
def n121 : NFunc := ⟨49,.seq (.region 0 [
 o1 4 (.move kf) 0] []) (.seq (.seq (.region 0 [
 oM 7 0 0,
 o1 8 (.len (tm 7)) 0,
 oC 9 .gtr 8 16 0] []) (.cond (tm 9) (.seq (.region 0 [
 o1 4 (.move kf) 0] []) (.ret)) (.skip))) (.seq (.seq (.region 0 [
 oM 10 0 0,
 o1 11 (.len (tm 10)) 0,
 o1 12 (.move (ki 0)) 0] []) (.block 0 (.loop [0,1,10,11,12] ⟨[(12,vI)],[0,1,10,11],[]⟩ (.seq (.region 0 [
 oB 13 .lss 12 11 0] []) (.seq (.cond (tm 13) (.skip) (.exit 0)) (.seq (.block 1 (.seq (.region 1 [
 oM 14 12 0,
 o1 15 (.indexSl 4 (tm 10) (tm 12)) 0,
 oT 16 4 15 0,
 o1 6 (.alloc [iz,iz,iz,iz]) 0,
 oM 5 14 1,
 oS 4 6 16 1] []) (.seq (.region 8 [
 o4 17 (.load true 4 (tm 6)) 0 [],
 o4 18 (.move (tm 1)) 0 [],
 o4 19 (.call (fc 167) [(vv 17),(vv 18)] false 4) 0 [],
 o4 20 (.un .not (tm 19)) 4 [0,1,2,3],
 o4 21 (.move (tm 20)) 4 [0,1,2,3],
 ⟨(some 22),.move (tm 5),(some (21,false)),4,(some ([0,1,2,3],none))⟩,
 ⟨(some 23),.bin .gtr (tm 22) (ki 0),(some (21,false)),4,(some ([0,1,2,3],none))⟩,
 ⟨(some 24),.move (tm 23),(some (21,false)),4,(some ([0,1,2,3],none))⟩,
 ⟨(some 25),.fieldAddr 0 (tm 6),(some (24,true)),4,(some ([0,1,2,3],none))⟩,
 ⟨(some 26),.load false 1 (tm 25),(some (24,true)),4,(some ([0,1,2,3],none))⟩,
 ⟨(some 27),.move (tm 0),(some (24,true)),4,(some ([0,1,2,3],none))⟩,
 ⟨(some 28),.move (tm 5),(some (24,true)),4,(some ([0,1,2,3],none))⟩,
 ⟨(some 29),.bin .sub (tm 28) (ki 1),(some (24,true)),4,(some ([0,1,2,3],none))⟩,
 ⟨(some 30),.indexSl 4 (tm 27) (tm 29),(some (24,true)),4,(some ([0,1,2,3],none))⟩,
 ⟨(some 31),.fieldAddr 0 (tm 30),(some (24,true)),4,(some ([0,1,2,3],none))⟩,
 ⟨(some 32),.load false 1 (tm 31),(some (24,true)),4,(some ([0,1,2,3],none))⟩,
 ⟨(some 33),.bin .leq (tm 26) (tm 32),(some (24,true)),4,(some ([0,1,2,3],none))⟩,
 ⟨(some 34),.pick (tm 24) (tm 33) kf,(some (21,false)),4,(some ([0,1,2,3],none))⟩,
 o4 35 (.pick (tm 21) kt (tm 34)) 4 [0,1,2,3],
 o4 36 (.move (tm 35)) 4 [0,1,2,3],
 ⟨(some 37),.move (tm 0),(some (36,false)),4,(some ([0,1,2,3],none))⟩,
 ⟨(some 38),.move (tm 5),(some (36,false)),4,(some ([0,1,2,3],none))⟩,
 ⟨(some 39),.slice 4 (tm 37) none (some (tm 38)) none,(some (36,false)),4,(some ([0,1,2,3],none))⟩,
 ⟨(some 40),.fieldAddr 1 (tm 6),(some (36,false)),4,(some ([0,1,2,3],none))⟩,
 ⟨(some 41),.load false 1 (tm 40),(some (36,false)),4,(some ([0,1,2,3],none))⟩,
 ⟨(some 42),.fieldAddr 2 (tm 6),(some (36,false)),4,(some ([0,1,2,3],none))⟩,
 ⟨(some 43),.load false 1 (tm 42),(some (36,false)),4,(some ([0,1,2,3],none))⟩,
 ⟨(some 44),.fieldAddr 3 (tm 6),(some (36,false)),4,(some ([0,1,2,3],none))⟩,
 ⟨(some 45),.load false 1 (tm 44),(some (36,false)),4,(some ([0,1,2,3],none))⟩,
 ⟨(some 46),.call (fc 168) [(vv 39),(vv 41),(vv 43),(vv 45)] false 4,(some (36,false)),4,(some ([0,1,2,3],none))⟩,
 o4 47 (.pick (tm 36) kt (tm 46)) 8 [0,1,2,3,4,5,6,7]] []) (.cond (tm 47) (.seq (.region 0 [
 o1 4 (.move kf) 0] []) (.ret)) (.skip))))) (.region 0 [
 oC 48 .add 12 1 0,
 oM 12 48 0] []))))))) (.seq (.region 0 [
 o1 4 (.move kt) 0] []) (.ret)))),[.tmp 4],true⟩
def s121 : Sig := ⟨(.cons (.v (.list .booking)) (.cons (.v (.int .i64)) .nil)),[],((.v .bool),[]),[]⟩
def l121_0 (g167 : Booking → Int → Option Bool) (g168 : (List Booking) → Int → Int → Int → Option Bool) (al0 : (List Booking)) (nodes1 : Int) (nx3 : ((Int × Unit) × Unit) → Option Bool) (z4 : Int) : Option Bool :=
 cond (decide (z4 < (List.length al0 : Int)))
 (cond (decide (0 ≤ z4))
 (Option.bind (al0[Int.toNat z4]?) fun y5 =>
 Option.bind (g167 y5 nodes1) fun r6 =>
 cond (!r6)
 (some false)
 (cond (decide (0 < z4))
 (cond (decide (0 ≤ (IntKind.wrap .i64 (z4 - 1))))
 (Option.bind (al0[Int.toNat (IntKind.wrap .i64 (z4 - 1))]?) fun y7 =>
 cond (decide (y5.id ≤ y7.id))
 (some false)
 (cond (decide (0 ≤ z4))
 (cond (decide ((Int.toNat z4) ≤ (List.length al0)))
 (Option.bind (g168 (List.take (Int.toNat z4) al0) y5.node y5.fro y5.to) fun r8 =>
 cond r8
 (some false)
 (nx3 ((IntKind.wrap .i64 (z4 + 1),()),())))
 (none))
 (none)))
 (none))
 (cond (decide (0 ≤ z4))
 (cond (decide ((Int.toNat z4) ≤ (List.length al0)))
 (Option.bind (g168 (List.take (Int.toNat z4) al0) y5.node y5.fro y5.to) fun r9 =>
 cond r9
 (some false)
 (nx3 ((IntKind.wrap .i64 (z4 + 1),()),())))
 (none))
 (none))))
 (none))
 (some true)
def F121 (L : Lp) (g167 : Booking → Int → Option Bool) (g168 : (List Booking) → Int → Int → Int → Option Bool) (al0 : (List Booking)) (nodes1 : Int) : Option Bool :=
 cond (decide (16 < (List.length al0 : Int)))
 (some false)
 (L (fun (s2 : ((Int × Unit) × Unit)) nx3 => l121_0 g167 g168 al0 nodes1 nx3 s2.1.1) ((0,()),()))
theorem e121 (L : Lp) (g167 : Booking → Int → Option Bool) (g168 : (List Booking) → Int → Int → Int → Option Bool) (x : s121.args.den) (h : denH s121.heap) : nrun [⟨167,s167,fun x h => g167 x.1 x.2.1⟩,⟨168,s168,fun x h => g168 x.1 x.2.1 x.2.2.1 x.2.2.2.1⟩] L n121 s121 x h = F121 L g167 g168 x.1 x.2.1 := by kernel_rfl
def f121 : (List Booking) → Int → Option Bool := F121 (@LN LOOPS) f167 f168
@[reducible] def t121 : Ent := ⟨121,s121,fun x h => f121 x.1 x.2.1⟩
theorem k121 : chkNF Try.prog Try.f121 n121 = true := by kernel_rfl
theorem ok121 : NOk Try.prog t121 := NOk.body (T := [t167,t168]) mixed (nall_cons ok167 (nall_cons ok168 nall_nil)) (oneEach_of (by kernel_rfl)) Try.func121 k121 (by kernel_rfl) (fun x h => e121 _ _ _ x h)
def n107 : NFunc := ⟨37,.seq (.region 0 [
 o1 4 (.move kf) 0] []) (.seq (.region 0 [
 o1 5 (.move (.const (.int .i64 (-1)))) 0] []) (.seq (.seq (.region 0 [
 oM 8 0 0,
 o1 9 (.len (tm 8)) 0,
 o1 10 (.move (ki 0)) 0] []) (.block 0 (.loop [1,5,8,9,10] ⟨[(5,vI),(10,vI)],[1,8,9],[]⟩ (.seq (.region 0 [
 oB 11 .lss 10 9 0] []) (.seq (.cond (tm 11) (.skip) (.exit 0)) (.seq (.block 1 (.seq (.region 1 [
 o1 12 (.indexSl 2 (tm 8) (tm 10)) 0,
 oT 13 2 12 0,
 o1 7 (.alloc [iz,iz]) 0,
 oS 2 7 13 1] []) (.seq (.seq (.region 0 [
 oF 14 0 7 0,
 oL 15 14 0,
 oM 16 5 0,
 oB 17 .leq 15 16 0,
 oM 18 17 0,
 o2 19 (.fieldAddr 0 (tm 7)) 18 0,
 o2 20 (.load false 1 (tm 19)) 18 0,
 oN 21 1 18 0,
 o2 22 (.bin .geq (tm 20) (tm 21)) 18 0,
 o1 23 (.pick (tm 18) kt (tm 22)) 0,
 oM 24 23 0,
 o2 25 (.fieldAddr 1 (tm 7)) 24 0,
 o2 26 (.load false 1 (tm 25)) 24 0,
 o2 27 (.bin .lss (tm 26) (ki 1)) 24 0,
 o1 28 (.pick (tm 24) kt (tm 27)) 0,
 oM 29 28 0,
 o2 30 (.fieldAddr 1 (tm 7)) 29 0,
 o2 31 (.load false 1 (tm 30)) 29 0,
 o2 32 (.bin .gtr (tm 31) (ki 64)) 29 0,
 o1 33 (.pick (tm 29) kt (tm 32)) 0] []) (.cond (tm 33) (.seq (.region 0 [
 o1 4 (.move kf) 0] []) (.ret)) (.skip))) (.region 0 [
 oF 34 0 7 0,
 oL 35 34 0,
 oM 5 35 0] [])))) (.region 0 [
 oC 36 .add 10 1 0,
 oM 10 36 0] []))))))) (.seq (.region 0 [
 o1 4 (.move kt) 0] []) (.ret)))),[.tmp 4],true⟩
def s107 : Sig := ⟨(.cons (.v (.list .share)) (.cons (.v (.int .i64)) .nil)),[],((.v .bool),[]),[]⟩
def l107_0 (al0 : (List Share)) (nodes1 : Int) (nx3 : ((Int × (Int × Unit)) × Unit) → Option Bool) (last4 : Int) (z5 : Int) : Option Bool :=
 cond (decide (z5 < (List.length al0 : Int)))
 (cond (decide (0 ≤ z5))
 (Option.bind (al0[Int.toNat z5]?) fun y6 =>
 cond (decide (y6.node ≤ last4))
 (some false)
 (cond (decide (nodes1 ≤ y6.node))
 (some false)
 (cond (decide (y6.many < 1))
 (some false)
 (cond (decide (64 < y6.many))
 (some false)
 (nx3 ((y6.node,IntKind.wrap .i64 (z5 + 1),()),()))))))
 (none))
 (some true)
def F107 (L : Lp)  (al0 : (List Share)) (nodes1 : Int) : Option Bool :=
 L (fun (s2 : ((Int × (Int × Unit)) × Unit)) nx3 => l107_0 al0 nodes1 nx3 s2.1.1 s2.1.2.1) (((-1),0,()),())
theorem e107 (L : Lp)  (x : s107.args.den) (h : denH s107.heap) : nrun [] L n107 s107 x h = F107 L  x.1 x.2.1 := by kernel_rfl
def f107 : (List Share) → Int → Option Bool := F107 (@LN LOOPS) 
@[reducible] def t107 : Ent := ⟨107,s107,fun x h => f107 x.1 x.2.1⟩
theorem k107 : chkNF Try.prog Try.f107 n107 = true := by kernel_rfl
theorem ok107 : NOk Try.prog t107 := NOk.body (T := []) mixed nall_nil (oneEach_of (by kernel_rfl)) Try.func107 k107 (by kernel_rfl) (fun x h => e107 _  x h)
def n122 : NFunc := ⟨38,.seq (.region 0 [
 o1 6 (.move kf) 0] []) (.seq (.seq (.region 0 [
 oM 9 0 0,
 o1 10 (.len (tm 9)) 0,
 o1 11 (.move (ki 0)) 0] []) (.block 0 (.loop [1,2,9,10,11] ⟨[(11,vI)],[1,2,9,10],[]⟩ (.seq (.region 0 [
 oB 12 .lss 11 10 0] []) (.seq (.cond (tm 12) (.skip) (.exit 0)) (.seq (.block 1 (.seq (.region 1 [
 o1 13 (.indexSl 6 (tm 9) (tm 11)) 0,
 oT 14 6 13 0,
 o1 8 (.alloc [iz,iz,iz,iz,.zsl,iz]) 0,
 oS 6 8 14 1] []) (.seq (.region 8 [
 oF 15 4 8 0,
 oL 16 15 0,
 oM 17 2 0,
 o1 18 (.call (fc 107) [(vv 16),(vv 17)] false 4) 0,
 o1 19 (.un .not (tm 18)) 4,
 oM 20 19 4,
 o2 21 (.fieldAddr 0 (tm 8)) 20 4,
 o2 22 (.load true 4 (tm 21)) 20 4,
 o2 23 (.call (fc 108) [(vv 22)] false 4) 20 4,
 o2 24 (.un .not (tm 23)) 20 8,
 o1 25 (.pick (tm 20) kt (tm 24)) 8,
 oM 26 25 8,
 o2 27 (.fieldAddr 5 (tm 8)) 26 8,
 o2 28 (.load false 1 (tm 27)) 26 8,
 oN 29 1 26 8,
 o2 30 (.bin .leq (tm 28) (tm 29)) 26 8,
 o1 31 (.pick (tm 26) kt (tm 30)) 8,
 oM 32 31 8,
 o2 33 (.fieldAddr 5 (tm 8)) 32 8,
 o2 34 (.load false 1 (tm 33)) 32 8,
 o2 35 (.bin .gtr (tm 34) (ki 281474976710656)) 32 8,
 o1 36 (.pick (tm 32) kt (tm 35)) 8] []) (.cond (tm 36) (.seq (.region 0 [
 o1 6 (.move kf) 0] []) (.ret)) (.skip))))) (.region 0 [
 oC 37 .add 11 1 0,
 oM 11 37 0] []))))))) (.seq (.region 0 [
 o1 6 (.move kt) 0] []) (.ret))),[.tmp 6],true⟩
def s122 : Sig := ⟨(.cons (.v (.list .run)) (.cons (.v (.int .i64)) (.cons (.v (.int .i64)) .nil))),[],((.v .bool),[]),[]⟩
def l122_0 (g107 : (List Share) → Int → Option Bool) (g108 : Res → Option Bool) (runs0 : (List Run)) (now1 : Int) (nodes2 : Int) (nx4 : ((Int × Unit) × Unit) → Option Bool) (z5 : Int) : Option Bool :=
 cond (decide (z5 < (List.length runs0 : Int)))
 (cond (decide (0 ≤ z5))
 (Option.bind (runs0[Int.toNat z5]?) fun y6 =>
 Option.bind (g107 y6.shares nodes2) fun r7 =>
 cond (!r7)
 (some false)
 (Option.bind (g108 y6.need) fun r8 =>
 cond (!r8)
 (some false)
 (cond (decide (y6.til ≤ now1))
 (some false)
 (cond (decide (281474976710656 < y6.til))
 (some false)
 (nx4 ((IntKind.wrap .i64 (z5 + 1),()),()))))))
 (none))
 (some true)
def F122 (L : Lp) (g107 : (List Share) → Int → Option Bool) (g108 : Res → Option Bool) (runs0 : (List Run)) (now1 : Int) (nodes2 : Int) : Option Bool :=
 L (fun (s3 : ((Int × Unit) × Unit)) nx4 => l122_0 g107 g108 runs0 now1 nodes2 nx4 s3.1.1) ((0,()),())
theorem e122 (L : Lp) (g107 : (List Share) → Int → Option Bool) (g108 : Res → Option Bool) (x : s122.args.den) (h : denH s122.heap) : nrun [⟨107,s107,fun x h => g107 x.1 x.2.1⟩,⟨108,s108,fun x h => g108 x.1⟩] L n122 s122 x h = F122 L g107 g108 x.1 x.2.1 x.2.2.1 := by kernel_rfl
def f122 : (List Run) → Int → Int → Option Bool := F122 (@LN LOOPS) f107 f108
@[reducible] def t122 : Ent := ⟨122,s122,fun x h => f122 x.1 x.2.1 x.2.2.1⟩
theorem k122 : chkNF Try.prog Try.f122 n122 = true := by kernel_rfl
theorem ok122 : NOk Try.prog t122 := NOk.body (T := [t107,t108]) mixed (nall_cons ok107 (nall_cons ok108 nall_nil)) (oneEach_of (by kernel_rfl)) Try.func122 k122 (by kernel_rfl) (fun x h => e122 _ _ _ x h)
def n123 : NFunc := ⟨8,.seq (.region 0 [
 o1 2 (.move (.const (.zsl))) 0] []) (.seq (.seq (.region 0 [
 oM 3 0 0,
 o1 4 (.eqI false (tm 3) (.const (.zsl))) 0] []) (.cond (tm 4) (.seq (.region 0 [
 o1 2 (.move (.const (.zsl))) 0] []) (.ret)) (.skip))) (.seq (.region 2 [
 o1 5 (.buildSlice 1 0 true [iz] []) 0,
 oM 6 0 1,
 o1 7 (.append 1 8 true (tm 5) (tm 6)) 1,
 oM 2 7 2] []) (.ret))),[.tmp 2],false⟩
def s123 : Sig := ⟨(.cons (.v (.list (.int .i64))) .nil),[],((.slw 0 1),[.typed (.int .i64)]),[]⟩
def F123 (L : Lp)  (as0 : (List Int)) : Option (Unit × ((List Int) × Unit)) :=
 cond (List.isEmpty as0)
 (none)
 (cond (smallB (0 + (List.length as0)) 8)
 (some ((),([] ++ as0,())))
 (none))
theorem e123 (L : Lp)  (x : s123.args.den) (h : denH s123.heap) : nrun [] L n123 s123 x h = F123 L  x.1 := by kernel_rfl
def f123 : (List Int) → Option (Unit × ((List Int) × Unit)) := cloneF (F123 (@LN LOOPS))
@[reducible] def t123 : Ent := ⟨123,s123,fun x h => f123 x.1⟩
theorem k123 : chkNF Try.prog Try.f123 n123 = true := by kernel_rfl
theorem c123 (A : Option Addr) (c : Nat) (w : World) : Calls Try.prog 123 #[.slice A 0 c] w (fun e w' => ∃ A',e = .returned (.slice A' 0 0) ∧ Go.RowKit.Below w.heap.size w w') := by
 have hq := fun (u : World) => Lib.run_eql_slice_nil (P := Try.prog) u 60 3 A 0 c 0 0 Try.underlying60
 cases A with
 | none => (go_enter Try.func123,Try.ntmps123; go_wp2; go_ret; exact ⟨_,rfl,Go.RowKit.Below.refl _ _⟩)
 | some ad => (go_enter Try.func123,Try.ntmps123; go_wp2; go_ret; exact ⟨_,rfl,(Go.RowKit.Below.refl _ _).alloc (Nat.le_refl _) _⟩)
theorem b123 : NOk Try.prog ⟨123,s123,fun x h => F123 (@LN LOOPS) x.1⟩ := NOk.body (T := []) mixed nall_nil (oneEach_of (by kernel_rfl)) Try.func123 k123 (by kernel_rfl) (fun x h => e123 _  x h)
theorem ok123 : NOk Try.prog t123 := NOk.clone (t := (.int .i64)) b123 (clone_empty (.int .i64) b123.1 c123)
def n169 : NFunc := ⟨33,.seq (.region 0 [
 o1 2 (.move kf) 0] []) (.seq (.region 0 [
 o1 3 (.move (.const (.int .i64 (-1)))) 0] []) (.seq (.seq (.region 0 [
 oM 6 0 0,
 o1 7 (.len (tm 6)) 0,
 o1 8 (.move (ki 0)) 0] []) (.block 0 (.loop [0,3,6,7,8] ⟨[(3,vI),(8,vI)],[0,6,7],[]⟩ (.seq (.region 0 [
 oB 9 .lss 8 7 0] []) (.seq (.cond (tm 9) (.skip) (.exit 0)) (.seq (.block 1 (.seq (.region 1 [
 o1 10 (.indexSl 5 (tm 6) (tm 8)) 0,
 oT 11 5 10 0,
 o1 5 (.alloc [iz,iz,iz,iz,iz]) 0,
 oS 5 5 11 1] []) (.seq (.seq (.region 4 [
 oF 12 0 5 0,
 oL 13 12 0,
 oM 14 3 0,
 oB 15 .leq 13 14 0,
 oM 16 15 0,
 o2 17 (.fieldAddr 0 (tm 5)) 16 0,
 o2 18 (.load false 1 (tm 17)) 16 0,
 o2 19 (.bin .gtr (tm 18) (ki 281474976710656)) 16 0,
 o1 20 (.pick (tm 16) kt (tm 19)) 0,
 oM 21 20 0,
 o2 22 (.fieldAddr 1 (tm 5)) 21 0,
 o2 23 (.load true 4 (tm 22)) 21 0,
 o2 24 (.call (fc 108) [(vv 23)] false 4) 21 0,
 o2 25 (.un .not (tm 24)) 21 4,
 o1 26 (.pick (tm 21) kt (tm 25)) 4] []) (.cond (tm 26) (.seq (.region 0 [
 o1 2 (.move kf) 0] []) (.ret)) (.skip))) (.region 0 [
 oF 27 0 5 0,
 oL 28 27 0,
 oM 3 28 0] [])))) (.region 0 [
 oC 29 .add 8 1 0,
 oM 8 29 0] []))))))) (.seq (.region 0 [
 oM 30 0 0,
 o1 31 (.len (tm 30)) 0,
 oC 32 .gtr 31 0 0,
 oM 2 32 0] []) (.ret)))),[.tmp 2],true⟩
def s169 : Sig := ⟨(.cons (.v (.list .step)) .nil),[],((.v .bool),[]),[]⟩
def l169_0 (g108 : Res → Option Bool) (al0 : (List Step)) (nx2 : ((Int × (Int × Unit)) × Unit) → Option Bool) (last3 : Int) (z4 : Int) : Option Bool :=
 cond (decide (z4 < (List.length al0 : Int)))
 (cond (decide (0 ≤ z4))
 (Option.bind (al0[Int.toNat z4]?) fun y5 =>
 cond (decide (y5.at_ ≤ last3))
 (some false)
 (cond (decide (281474976710656 < y5.at_))
 (some false)
 (Option.bind (g108 y5.free) fun r6 =>
 cond (!r6)
 (some false)
 (nx2 ((y5.at_,IntKind.wrap .i64 (z4 + 1),()),())))))
 (none))
 (some (decide (0 < (List.length al0 : Int))))
def F169 (L : Lp) (g108 : Res → Option Bool) (al0 : (List Step)) : Option Bool :=
 L (fun (s1 : ((Int × (Int × Unit)) × Unit)) nx2 => l169_0 g108 al0 nx2 s1.1.1 s1.1.2.1) (((-1),0,()),())
theorem e169 (L : Lp) (g108 : Res → Option Bool) (x : s169.args.den) (h : denH s169.heap) : nrun [⟨108,s108,fun x h => g108 x.1⟩] L n169 s169 x h = F169 L g108 x.1 := by kernel_rfl
def f169 : (List Step) → Option Bool := F169 (@LN LOOPS) f108
@[reducible] def t169 : Ent := ⟨169,s169,fun x h => f169 x.1⟩
theorem k169 : chkNF Try.prog Try.f169 n169 = true := by kernel_rfl
theorem ok169 : NOk Try.prog t169 := NOk.body (T := [t108]) mixed (nall_cons ok108 nall_nil) (oneEach_of (by kernel_rfl)) Try.func169 k169 (by kernel_rfl) (fun x h => e169 _ _ x h)
def n124 : NFunc := ⟨15,.seq (.region 1 [
 o1 3 (.box 4 (tm 1)) 0,
 o1 4 (.move (.const (.zsl))) 1,
 o1 5 (.move (ki 0)) 1] []) (.seq (.region 1 [
 oM 7 0 0,
 oT 8 4 3 0,
 o1 9 (.build [iz,iz,iz,iz,iz] [(0,1,(tm 7)),(1,4,(tm 8))]) 0,
 o1 10 (.buildSlice 5 1 true [iz,iz,iz,iz,iz] [(0,(tm 9))]) 0,
 oM 6 10 1] []) (.seq (.seq (.region 4 [
 oM 11 6 0,
 o1 12 (.call (fc 169) [(vv 11)] false 4) 0,
 o1 13 (.un .not (tm 12)) 4] []) (.cond (tm 13) (.seq (.region 0 [
 o1 4 (.move (.const (.zsl))) 0,
 o1 5 (.move (ki 2)) 0] []) (.ret)) (.skip))) (.seq (.region 0 [
 oM 14 6 0,
 oM 4 14 0,
 o1 5 (.move (ki 0)) 0] []) (.ret)))),[.tmp 4,.tmp 5],true⟩
def s124 : Sig := ⟨(.cons (.v (.int .i64)) (.cons (.v .res) .nil)),[],((.tup (.cons (.v (.list .step)) (.cons (.v (.int .i64)) .nil))),[]),[]⟩
def F124 (L : Lp) (g169 : (List Step) → Option Bool) (at0 : Int) (free1 : Res) : Option ((List Step) × (Int × Unit)) :=
 Option.bind (g169 [Step.mk at0 free1]) fun r2 =>
 cond (!r2)
 (some ([],2,()))
 (some ([Step.mk at0 free1],0,()))
theorem e124 (L : Lp) (g169 : (List Step) → Option Bool) (x : s124.args.den) (h : denH s124.heap) : nrun [⟨169,s169,fun x h => g169 x.1⟩] L n124 s124 x h = F124 L g169 x.1 x.2.1 := by kernel_rfl
def f124 : Int → Res → Option ((List Step) × (Int × Unit)) := F124 (@LN LOOPS) f169
@[reducible] def t124 : Ent := ⟨124,s124,fun x h => f124 x.1 x.2.1⟩
theorem k124 : chkNF Try.prog Try.f124 n124 = true := by kernel_rfl
theorem ok124 : NOk Try.prog t124 := NOk.body (T := [t169]) mixed (nall_cons ok169 nall_nil) (oneEach_of (by kernel_rfl)) Try.func124 k124 (by kernel_rfl) (fun x h => e124 _ _ x h)
def s157 : Sig := ⟨(.cons (.v .res) (.cons (.v (.int .i64)) .nil)),[],((.tup (.cons (.v .res) (.cons (.v (.int .i64)) .nil))),[]),[]⟩
def f157 : Res → Int → Option (Res × (Int × Unit)) := vecTimes
@[reducible] def t157 : Ent := ⟨157,s157,fun x h => f157 x.1 x.2.1⟩
theorem ok157 : NOk Try.prog t157 := ext157
def n189 : NFunc := ⟨12,.seq (.region 0 [
 o1 4 (.move kf) 0] []) (.seq (.region 0 [
 o4 5 (.load false 1 (tm 1)) 0 [],
 o4 6 (.move (tm 0)) 0 [],
 o4 7 (.indexSl 5 (tm 5) (tm 6)) 0 [],
 o4 8 (.fieldAddr 0 (tm 7)) 0 [],
 o4 9 (.load false 1 (tm 8)) 0 [],
 o4 10 (.load false 1 (tm 2)) 0 [],
 o4 11 (.bin .gtr (tm 9) (tm 10)) 0 [],
 o4 4 (.move (tm 11)) 0 []] []) (.ret)),[.tmp 4],true⟩
def s189 : Sig := ⟨(.cons (.v (.int .i64)) (.cons (.iptr (.cons (.v (.list .step)) .nil) 0) (.cons (.iptr (.cons (.v (.int .i64)) .nil) 0) .nil))),[],((.v .bool),[]),[]⟩
def F189 (L : Lp)  (i0 : Int) (a1 : (List Step)) (a2 : Int) : Option Bool :=
 cond (decide (0 ≤ i0))
 (Option.bind (a1[Int.toNat i0]?) fun y3 =>
 some (decide (a2 < y3.at_)))
 (none)
theorem e189 (L : Lp)  (x : s189.args.den) (h : denH s189.heap) : nrun [] L n189 s189 x h = F189 L  x.1 x.2.1.1 x.2.2.1.1 := by kernel_rfl
def f189 : Int → (List Step) → Int → Option Bool := F189 (@LN LOOPS) 
@[reducible] def t189 : Ent := ⟨189,s189,fun x h => f189 x.1 x.2.1.1 x.2.2.1.1⟩
theorem k189 : chkNF Try.prog Try.f189 n189 = true := by kernel_rfl
theorem ok189 : NOk Try.prog t189 := NOk.body (T := []) mixed nall_nil (oneEach_of (by kernel_rfl)) Try.func189 k189 (by kernel_rfl) (fun x h => e189 _  x h)
def n136 : NFunc := ⟨26,.seq (.region 0 [
 o1 4 (.move (ki 0)) 0] []) (.seq (.region 0 [
 oM 8 0 0,
 o1 5 (.move (ki 0)) 0,
 oM 6 8 0] []) (.seq (.block 0 (.loop [1,5,6] ⟨[(5,vI),(6,vI)],[1],[]⟩ (.seq (.seq (.region 0 [
 oM 9 5 0,
 oM 10 6 0,
 oB 11 .lss 9 10 0] []) (.cond (tm 11) (.skip) (.exit 0))) (.block 1 (.seq (.region 0 [
 oM 12 5 0,
 oM 13 6 0,
 oB 14 .add 12 13 0,
 o1 15 (.conv .u64 (tm 14)) 0,
 o1 16 (.bin .shr (tm 15) (.const (.int .u64 (1)))) 0,
 o1 17 (.conv .i64 (tm 16)) 0,
 oM 7 17 0] []) (.seq (.region 4 [
 oM 18 1 0,
 oM 19 7 0,
 o1 20 (.call (tm 18) [(vv 19)] false 4) 0,
 o1 21 (.un .not (tm 20)) 4] []) (.cond (tm 21) (.region 0 [
 oM 22 7 0,
 oC 23 .add 22 1 0,
 oM 5 23 0] []) (.region 0 [
 oM 24 7 0,
 oM 6 24 0] [])))))))) (.seq (.region 0 [
 oM 25 5 0,
 oM 4 25 0] []) (.ret)))),[.tmp 4],true⟩
def s136 : Sig := ⟨(.cons (.v (.int .i64)) (.cons (.fn 189 (.cons (.iptr (.cons (.v (.list .step)) .nil) 0) (.cons (.iptr (.cons (.v (.int .i64)) .nil) 0) .nil))) .nil)),[],((.v (.int .i64)),[]),[]⟩
def l136_0 (g189 : Int → (List Step) → Int → Option Bool) (af1 : (List Step)) (af2 : Int) (nx4 : ((Int × (Int × Unit)) × Unit) → Option Int) (i5 : Int) (j6 : Int) : Option Int :=
 cond (decide (i5 < j6))
 (let v7 := Int.fdiv (IntKind.wrap .u64 (IntKind.wrap .i64 (i5 + j6))) (2 ^ (min (Int.toNat 1) 64))
 Option.bind (g189 (IntKind.wrap .i64 (v7)) af1 af2) fun r8 =>
 cond (!r8)
 (nx4 ((IntKind.wrap .i64 ((IntKind.wrap .i64 (v7)) + 1),j6,()),()))
 (nx4 ((i5,IntKind.wrap .i64 (v7),()),())))
 (some i5)
def F136 (L : Lp) (g189 : Int → (List Step) → Int → Option Bool) (an0 : Int) (af1 : (List Step)) (af2 : Int) : Option Int :=
 L (fun (s3 : ((Int × (Int × Unit)) × Unit)) nx4 => l136_0 g189 af1 af2 nx4 s3.1.1 s3.1.2.1) ((0,an0,()),())
theorem e136 (L : Lp) (g189 : Int → (List Step) → Int → Option Bool) (x : s136.args.den) (h : denH s136.heap) : nrun [⟨189,s189,fun x h => g189 x.1 x.2.1.1 x.2.2.1.1⟩] L n136 s136 x h = F136 L g189 x.1 x.2.1.1.1 x.2.1.2.1.1 := by kernel_rfl
def f136 : Int → (List Step) → Int → Option Int := F136 (@LN LOOPS) f189
@[reducible] def t136 : Ent := ⟨136,s136,fun x h => f136 x.1 x.2.1.1.1 x.2.1.2.1.1⟩
theorem k136 : chkNF Try.prog Try.f136 n136 = true := by kernel_rfl
theorem ok136 : NOk Try.prog t136 := NOk.body (T := [t189]) mixed (nall_cons ok189 nall_nil) (oneEach_of (by kernel_rfl)) Try.func136 k136 (by kernel_rfl) (fun x h => e136 _ _ x h)
def n172 : NFunc := ⟨10,.seq (.region 2 [
 o1 2 (.box 1 (tm 0)) 0,
 o1 3 (.box 1 (tm 1)) 1,
 o1 4 (.move (ki 0)) 2] []) (.seq (.region 4 [
 oL 5 2 0,
 o1 6 (.len (tm 5)) 0,
 o1 7 (.makeFunc 189 [(tm 2),(tm 3)]) 0,
 o1 8 (.call (fc 136) [(vv 6),(vv 7)] false 4) 0,
 oC 9 .sub 8 1 4,
 oM 4 9 4] []) (.ret)),[.tmp 4],true⟩
def s172 : Sig := ⟨(.cons (.v (.list .step)) (.cons (.v (.int .i64)) .nil)),[],((.v (.int .i64)),[]),[]⟩
def F172 (L : Lp) (g136 : Int → (List Step) → Int → Option Int) (al0 : (List Step)) (at1 : Int) : Option Int :=
 Option.bind (g136 (List.length al0 : Int) al0 at1) fun r2 =>
 some (IntKind.wrap .i64 (r2 - 1))
theorem e172 (L : Lp) (g136 : Int → (List Step) → Int → Option Int) (x : s172.args.den) (h : denH s172.heap) : nrun [⟨136,s136,fun x h => g136 x.1 x.2.1.1.1 x.2.1.2.1.1⟩] L n172 s172 x h = F172 L g136 x.1 x.2.1 := by kernel_rfl
def f172 : (List Step) → Int → Option Int := F172 (@LN LOOPS) f136
@[reducible] def t172 : Ent := ⟨172,s172,fun x h => f172 x.1 x.2.1⟩
theorem k172 : chkNF Try.prog Try.f172 n172 = true := by kernel_rfl
theorem ok172 : NOk Try.prog t172 := NOk.body (T := [t136]) mixed (nall_cons ok136 nall_nil) (oneEach_of (by kernel_rfl)) Try.func172 k172 (by kernel_rfl) (fun x h => e172 _ _ x h)
def n214 : NFunc := ⟨8,.seq (.region 0 [
 o1 2 (.move (.const (.zsl))) 0] []) (.seq (.seq (.region 0 [
 oM 3 0 0,
 o1 4 (.eqI false (tm 3) (.const (.zsl))) 0] []) (.cond (tm 4) (.seq (.region 0 [
 o1 2 (.move (.const (.zsl))) 0] []) (.ret)) (.skip))) (.seq (.region 2 [
 o1 5 (.buildSlice 5 0 true [iz,iz,iz,iz,iz] []) 0,
 oM 6 0 1,
 o1 7 (.append 5 40 true (tm 5) (tm 6)) 1,
 oM 2 7 2] []) (.ret))),[.tmp 2],false⟩
def s214 : Sig := ⟨(.cons (.v (.list .step)) .nil),[],((.slw 0 5),[.typed .step]),[]⟩
def F214 (L : Lp)  (as0 : (List Step)) : Option (Unit × ((List Step) × Unit)) :=
 cond (List.isEmpty as0)
 (none)
 (cond (smallB (0 + (List.length as0)) 40)
 (some ((),([] ++ as0,())))
 (none))
theorem e214 (L : Lp)  (x : s214.args.den) (h : denH s214.heap) : nrun [] L n214 s214 x h = F214 L  x.1 := by kernel_rfl
def f214 : (List Step) → Option (Unit × ((List Step) × Unit)) := cloneF (F214 (@LN LOOPS))
@[reducible] def t214 : Ent := ⟨214,s214,fun x h => f214 x.1⟩
theorem k214 : chkNF Try.prog Try.f214 n214 = true := by kernel_rfl
theorem c214 (A : Option Addr) (c : Nat) (w : World) : Calls Try.prog 214 #[.slice A 0 c] w (fun e w' => ∃ A',e = .returned (.slice A' 0 0) ∧ Go.RowKit.Below w.heap.size w w') := by
 have hq := fun (u : World) => Lib.run_eql_slice_nil (P := Try.prog) u 220 262 A 0 c 0 0 Try.underlying220
 cases A with
 | none => (go_enter Try.func214,Try.ntmps214; go_wp2; go_ret; exact ⟨_,rfl,Go.RowKit.Below.refl _ _⟩)
 | some ad => (go_enter Try.func214,Try.ntmps214; go_wp2; go_ret; exact ⟨_,rfl,(Go.RowKit.Below.refl _ _).alloc (Nat.le_refl _) _⟩)
theorem b214 : NOk Try.prog ⟨214,s214,fun x h => F214 (@LN LOOPS) x.1⟩ := NOk.body (T := []) mixed nall_nil (oneEach_of (by kernel_rfl)) Try.func214 k214 (by kernel_rfl) (fun x h => e214 _  x h)
theorem ok214 : NOk Try.prog t214 := NOk.clone (t := .step) b214 (clone_empty .step b214.1 c214)
def s215 : Sig := ⟨(.cons (.slw 0 5) (.cons (.v (.int .i64)) (.cons (.slw 1 5) .nil))),[.typed .step,.typed .step],((.slw 2 5),[.dead,.typed .step,.typed .step]),[]⟩
def f215 : Int → (List Step) → (List Step) → Option (Unit × (Unit × ((List Step) × ((List Step) × Unit)))) := insertG 40
@[reducible] def t215 : Ent := ⟨215,s215,fun x h => f215 x.2.1 h.1 h.2.1⟩
theorem ok215 : NOk Try.prog t215 := ext215
def n187 : NFunc := ⟨32,.seq (.region 0 [
 o1 4 (.move (.const (.zsl))) 0] []) (.seq (.region 4 [
 oM 7 0 0,
 oM 8 1 0,
 o1 9 (.call (fc 172) [(vv 7),(vv 8)] false 4) 0,
 oM 5 9 4] []) (.seq (.region 4 [
 oM 10 0 0,
 o1 11 (.call (fc 214) [(vv 10)] false 4) 0,
 oM 6 11 4] []) (.seq (.seq (.region 0 [
 oM 12 0 0,
 oM 13 5 0,
 o1 14 (.indexSl 5 (tm 12) (tm 13)) 0,
 oF 15 0 14 0,
 oL 16 15 0,
 oM 17 1 0,
 oB 18 .eql 16 17 0] []) (.cond (tm 18) (.seq (.region 0 [
 oM 19 6 0,
 oM 4 19 0] []) (.ret)) (.skip))) (.seq (.region 5 [
 oM 20 6 0,
 oM 21 5 0,
 oC 22 .add 21 1 0,
 oM 23 1 0,
 oM 24 0 0,
 oM 25 5 0,
 o1 26 (.indexSl 5 (tm 24) (tm 25)) 0,
 oF 27 1 26 0,
 oT 28 4 27 0,
 o1 29 (.build [iz,iz,iz,iz,iz] [(0,1,(tm 23)),(1,4,(tm 28))]) 0,
 o1 30 (.buildSlice 5 1 true [iz,iz,iz,iz,iz] [(0,(tm 29))]) 0,
 o1 31 (.call (fc 215) [(vw 20),(vv 22),(vw 30)] false 4) 1,
 oM 4 31 5] []) (.ret))))),[.tmp 4],false⟩
def s187 : Sig := ⟨(.cons (.v (.list .step)) (.cons (.v (.int .i64)) .nil)),[],((.slw 0 5),[.typed .step]),[]⟩
def F187 (L : Lp) (g172 : (List Step) → Int → Option Int) (g214 : (List Step) → Option (Unit × ((List Step) × Unit))) (g215 : Int → (List Step) → (List Step) → Option (Unit × (Unit × ((List Step) × ((List Step) × Unit))))) (al0 : (List Step)) (at1 : Int) : Option (Unit × ((List Step) × Unit)) :=
 Option.bind (g172 al0 at1) fun r2 =>
 Option.bind (g214 al0) fun r3 =>
 cond (decide (0 ≤ r2))
 (Option.bind (al0[Int.toNat r2]?) fun y4 =>
 cond (decide (y4.at_ = at1))
 (some ((),(r3.2.1,())))
 (cond (decide (0 ≤ r2))
 (Option.bind (al0[Int.toNat r2]?) fun y5 =>
 Option.bind (g215 (IntKind.wrap .i64 (r2 + 1)) r3.2.1 [Step.mk at1 y5.free]) fun r6 =>
 cond (true && ((decide ((List.length r6.2.2.1) = 1)) && true))
 (some ((),(r6.2.2.2.1,())))
 (none))
 (none)))
 (none)
theorem e187 (L : Lp) (g172 : (List Step) → Int → Option Int) (g214 : (List Step) → Option (Unit × ((List Step) × Unit))) (g215 : Int → (List Step) → (List Step) → Option (Unit × (Unit × ((List Step) × ((List Step) × Unit))))) (x : s187.args.den) (h : denH s187.heap) : nrun [⟨172,s172,fun x h => g172 x.1 x.2.1⟩,⟨214,s214,fun x h => g214 x.1⟩,⟨215,s215,fun x h => g215 x.2.1 h.1 h.2.1⟩] L n187 s187 x h = F187 L g172 g214 g215 x.1 x.2.1 := by kernel_rfl
def f187 : (List Step) → Int → Option (Unit × ((List Step) × Unit)) := F187 (@LN LOOPS) f172 f214 f215
@[reducible] def t187 : Ent := ⟨187,s187,fun x h => f187 x.1 x.2.1⟩
theorem k187 : chkNF Try.prog Try.f187 n187 = true := by kernel_rfl
theorem ok187 : NOk Try.prog t187 := NOk.body (T := [t172,t214,t215]) mixed (nall_cons ok172 (nall_cons ok214 (nall_cons ok215 nall_nil))) (oneEach_of (by kernel_rfl)) Try.func187 k187 (by kernel_rfl) (fun x h => e187 _ _ _ _ x h)
def s109 : Sig := ⟨(.cons (.v .res) (.cons (.v .res) .nil)),[],((.tup (.cons (.v .res) (.cons (.v (.int .i64)) .nil))),[]),[]⟩
def f109 : Res → Res → Option (Res × (Int × Unit)) := vecSub
@[reducible] def t109 : Ent := ⟨109,s109,fun x h => f109 x.1 x.2.1⟩
theorem ok109 : NOk Try.prog t109 := ext109
def n188 : NFunc := ⟨40,.seq (.region 0 [
 o1 2 (.move (.const (.zsl))) 0] []) (.seq (.seq (.region 4 [
 oM 7 0 0,
 o1 8 (.call (fc 169) [(vv 7)] false 4) 0,
 o1 9 (.un .not (tm 8)) 4] []) (.cond (tm 9) (.seq (.region 0 [
 o1 2 (.move (.const (.zsl))) 0] []) (.ret)) (.skip))) (.seq (.region 1 [
 oM 10 0 0,
 o1 11 (.indexSl 5 (tm 10) (ki 0)) 0,
 oT 12 5 11 0,
 o1 13 (.buildSlice 5 1 true [iz,iz,iz,iz,iz] [(0,(tm 12))]) 0,
 oM 3 13 1] []) (.seq (.seq (.region 0 [
 oM 14 0 0,
 o1 15 (.slice 5 (tm 14) (some (ki 1)) none none) 0,
 o1 16 (.len (tm 15)) 0,
 o1 17 (.move (ki 0)) 0] []) (.block 0 (.loop [3,15,16,17] ⟨[(3,(.slw 0 5)),(17,vI)],[15,16],[.typed .step]⟩ (.seq (.region 0 [
 oB 18 .lss 17 16 0] []) (.seq (.cond (tm 18) (.skip) (.exit 0)) (.seq (.block 1 (.seq (.region 1 [
 o1 19 (.indexSl 5 (tm 15) (tm 17)) 0,
 oT 20 5 19 0,
 o1 5 (.alloc [iz,iz,iz,iz,iz]) 0,
 oS 5 5 20 1] []) (.seq (.region 1 [
 oM 21 3 0,
 oM 22 3 0,
 o1 23 (.len (tm 22)) 0,
 oC 24 .sub 23 1 0,
 o1 25 (.indexSl 5 (tm 21) (tm 24)) 0,
 oT 26 5 25 0,
 o1 6 (.alloc [iz,iz,iz,iz,iz]) 0,
 oS 5 6 26 1] []) (.seq (.region 0 [
 oT 27 5 5 0,
 oF 28 0 5 0,
 oL 29 28 0,
 oF 30 1 6 0,
 oT 31 4 30 0,
 o1 32 (.build [iz,iz,iz,iz,iz] [(0,1,(tm 29)),(1,4,(tm 31))]) 0,
 o1 33 (.eqAgg (true,[.int .i64,.int .i64,.int .i64,.int .i64,.int .i64]) (tm 27) (tm 32)) 0] []) (.cond (tm 33) (.region 2 [
 oM 34 3 0,
 oT 35 5 5 0,
 o1 36 (.buildSlice 5 1 true [iz,iz,iz,iz,iz] [(0,(tm 35))]) 0,
 o1 37 (.append 5 40 true (tm 34) (tm 36)) 1,
 oM 3 37 2] []) (.skip)))))) (.region 0 [
 oC 38 .add 17 1 0,
 oM 17 38 0] []))))))) (.seq (.region 0 [
 oM 39 3 0,
 oM 2 39 0] []) (.ret))))),[.tmp 2],true⟩
def s188 : Sig := ⟨(.cons (.v (.list .step)) .nil),[],((.v (.list .step)),[]),[]⟩
def l188_0 (al0 : (List Step)) (nx4 : ((Unit × (Int × Unit)) × ((List Step) × Unit)) → Option (List Step)) (z5 : Int) (z6 : (List Step)) : Option (List Step) :=
 cond (decide (z5 < (List.length (List.drop 1 al0) : Int)))
 (cond (decide (0 ≤ z5))
 (Option.bind ((List.drop 1 al0)[Int.toNat z5]?) fun y7 =>
 cond (decide (0 ≤ (IntKind.wrap .i64 ((List.length z6 : Int) - 1))))
 (cond (decide ((Int.toNat (IntKind.wrap .i64 ((List.length z6 : Int) - 1))) < (List.length z6)))
 (Option.bind (z6[Int.toNat (IntKind.wrap .i64 ((List.length z6 : Int) - 1))]?) fun y8 =>
 cond (!((decide (y7.at_ = y7.at_)) && ((decide (y7.free.cpu = y8.free.cpu)) && ((decide (y7.free.mem = y8.free.mem)) && ((decide (y7.free.gpu = y8.free.gpu)) && ((decide (y7.free.lic = y8.free.lic)) && true))))))
 (cond (smallB ((List.length z6) + 1) 40)
 (nx4 (((),IntKind.wrap .i64 (z5 + 1),()),(z6 ++ [y7],())))
 (none))
 (nx4 (((),IntKind.wrap .i64 (z5 + 1),()),(z6,()))))
 (none))
 (none))
 (none))
 (some z6)
def F188 (L : Lp) (g169 : (List Step) → Option Bool) (al0 : (List Step)) : Option (List Step) :=
 Option.bind (g169 al0) fun r1 =>
 cond (!r1)
 (some [])
 (Option.bind (al0[0]?) fun y2 =>
 cond (decide (1 ≤ (List.length al0)))
 (L (fun (s3 : ((Unit × (Int × Unit)) × ((List Step) × Unit))) nx4 => l188_0 al0 nx4 s3.1.2.1 s3.2.1) (((),0,()),([y2],())))
 (none))
theorem e188 (L : Lp) (g169 : (List Step) → Option Bool) (x : s188.args.den) (h : denH s188.heap) : nrun [⟨169,s169,fun x h => g169 x.1⟩] L n188 s188 x h = F188 L g169 x.1 := by kernel_rfl
def f188 : (List Step) → Option (List Step) := F188 (@LN LOOPS) f169
@[reducible] def t188 : Ent := ⟨188,s188,fun x h => f188 x.1⟩
theorem k188 : chkNF Try.prog Try.f188 n188 = true := by kernel_rfl
theorem ok188 : NOk Try.prog t188 := NOk.body (T := [t169]) mixed (nall_cons ok169 nall_nil) (oneEach_of (by kernel_rfl)) Try.func188 k188 (by kernel_rfl) (fun x h => e188 _ _ x h)
def n170 : NFunc := ⟨79,.seq (.region 1 [
 o1 8 (.box 4 (tm 3)) 0,
 o1 10 (.move (.const (.zsl))) 1,
 o1 11 (.move (ki 0)) 1] []) (.seq (.seq (.region 8 [
 oM 16 0 0,
 o1 17 (.call (fc 169) [(vv 16)] false 4) 0,
 o1 18 (.un .not (tm 17)) 4,
 oM 19 18 4,
 o2 20 (.load true 4 (tm 8)) 19 4,
 o2 21 (.call (fc 108) [(vv 20)] false 4) 19 4,
 o2 22 (.un .not (tm 21)) 19 8,
 o1 23 (.pick (tm 19) kt (tm 22)) 8,
 oM 24 23 8,
 oN 25 1 24 8,
 oN 26 0 24 8,
 o2 27 (.indexSl 5 (tm 26) (ki 0)) 24 8,
 o2 28 (.fieldAddr 0 (tm 27)) 24 8,
 o2 29 (.load false 1 (tm 28)) 24 8,
 o2 30 (.bin .lss (tm 25) (tm 29)) 24 8,
 o1 31 (.pick (tm 24) kt (tm 30)) 8,
 oM 32 31 8,
 oN 33 2 32 8,
 oN 34 1 32 8,
 o2 35 (.bin .leq (tm 33) (tm 34)) 32 8,
 o1 36 (.pick (tm 32) kt (tm 35)) 8,
 oM 37 36 8,
 oN 38 2 37 8,
 o2 39 (.bin .gtr (tm 38) (ki 281474976710656)) 37 8,
 o1 40 (.pick (tm 37) kt (tm 39)) 8] []) (.cond (tm 40) (.seq (.region 0 [
 o1 10 (.move (.const (.zsl))) 0,
 o1 11 (.move (ki 2)) 0] []) (.ret)) (.skip))) (.seq (.region 8 [
 oM 41 0 0,
 oM 42 1 0,
 o1 43 (.call (fc 187) [(vv 41),(vv 42)] false 4) 0,
 oM 44 2 4,
 o1 45 (.call (fc 187) [(vv 43),(vv 44)] false 4) 4,
 oM 12 45 8] []) (.seq (.seq (.region 4 [
 oM 46 12 0,
 oM 47 1 0,
 o1 48 (.call (fc 172) [(vv 46),(vv 47)] false 4) 0,
 oM 13 48 4] []) (.block 0 (.loop [2,4,8,12,13] ⟨[(8,(.ptr 0 0 0)),(12,(.slw 1 5)),(13,vI)],[2,4],[.one false .res,.typed .step]⟩ (.seq (.seq (.region 0 [
 oM 49 12 0,
 oM 50 13 0,
 o1 51 (.indexSl 5 (tm 49) (tm 50)) 0,
 oF 52 0 51 0,
 oL 53 52 0,
 oM 54 2 0,
 oB 55 .lss 53 54 0] []) (.cond (tm 55) (.skip) (.exit 0))) (.seq (.block 1 (.seq (.region 5 [
 o4 59 (.move (tm 4)) 0 [],
 o4 60 (.move (tm 12)) 0 [],
 o4 61 (.move (tm 13)) 0 [],
 o4 62 (.indexSl 5 (tm 60) (tm 61)) 0 [],
 o4 63 (.fieldAddr 1 (tm 62)) 0 [],
 o4 64 (.load true 4 (tm 63)) 0 [],
 o4 65 (.load true 4 (tm 8)) 0 [],
 o4 66 (.call (tm 59) [(vv 64),(vv 65)] true 4) 0 [],
 o4 58 (.move (tm 66)) 4 [0,1,2,3],
 o4 67 (.extract (tm 58) 0) 4 [0,1,2,3],
 o4 68 (.extract (tm 58) 1) 4 [0,1,2,3],
 o4 14 (.alloc [iz,iz,iz,iz]) 4 [],
 ⟨none,.store 4 (tm 14) (tm 67),none,5,(some ([0,1,2,3,4],none))⟩,
 o4 15 (.move (tm 68)) 5 [0,1,2,3,4]] []) (.seq (.seq (.region 0 [
 oM 69 15 0,
 oC 70 .neq 69 0 0] []) (.cond (tm 70) (.seq (.region 0 [
 oM 71 15 0,
 o1 10 (.move (.const (.zsl))) 0,
 oM 11 71 0] []) (.ret)) (.skip))) (.region 0 [
 oM 72 12 0,
 oM 73 13 0,
 oT 74 4 14 0,
 o1 75 (.indexSl 5 (tm 72) (tm 73)) 0,
 oF 76 1 75 0,
 oS 4 76 74 0] [])))) (.region 0 [
 oM 56 13 0,
 oC 57 .add 56 1 0,
 oM 13 57 0] [])))))) (.seq (.region 4 [
 oM 77 12 0,
 o1 78 (.call (fc 188) [(vv 77)] false 4) 0,
 oM 10 78 4,
 o1 11 (.move (ki 0)) 4] []) (.ret))))),[.tmp 10,.tmp 11],true⟩
def s170 : Sig := ⟨(.cons (.v (.list .step)) (.cons (.v (.int .i64)) (.cons (.v (.int .i64)) (.cons (.v .res) (.cons (.fn 109 .nil) .nil))))),[],((.tup (.cons (.v (.list .step)) (.cons (.v (.int .i64)) .nil))),[]),[]⟩
def l170_0 (g109 : Res → Res → Option (Res × (Int × Unit))) (g188 : (List Step) → Option (List Step)) (to2 : Int) (nx11 : ((Unit × (Unit × (Int × Unit))) × (Res × ((List Step) × Unit))) → Option ((List Step) × (Int × Unit))) (i12 : Int) (z13 : Res) (z14 : (List Step)) : Option ((List Step) × (Int × Unit)) :=
 cond (decide (0 ≤ i12))
 (cond (decide ((Int.toNat i12) < (List.length z14)))
 (Option.bind (z14[Int.toNat i12]?) fun y15 =>
 cond (decide (y15.at_ < to2))
 (cond (decide (0 ≤ i12))
 (cond (decide ((Int.toNat i12) < (List.length z14)))
 (Option.bind (z14[Int.toNat i12]?) fun y16 =>
 Option.bind (g109 y16.free z13) fun r17 =>
 cond (!decide (r17.2.1 = 0))
 (some ([],r17.2.1,()))
 (cond (decide (0 ≤ i12))
 (cond (decide ((Int.toNat i12) < (List.length z14)))
 (Option.bind (z14[Int.toNat i12]?) fun y18 =>
 nx11 (((),(),IntKind.wrap .i64 (i12 + 1),()),(z13,List.set z14 (Int.toNat i12) (Step.mk y18.at_ r17.1),())))
 (none))
 (none)))
 (none))
 (none))
 (Option.bind (g188 z14) fun r19 =>
 some (r19,0,())))
 (none))
 (none)
def F170 (L : Lp) (g169 : (List Step) → Option Bool) (g108 : Res → Option Bool) (g187 : (List Step) → Int → Option (Unit × ((List Step) × Unit))) (g172 : (List Step) → Int → Option Int) (g109 : Res → Res → Option (Res × (Int × Unit))) (g188 : (List Step) → Option (List Step)) (al0 : (List Step)) (from1 : Int) (to2 : Int) (need3 : Res) : Option ((List Step) × (Int × Unit)) :=
 Option.bind (g169 al0) fun r4 =>
 cond (!r4)
 (some ([],2,()))
 (Option.bind (g108 need3) fun r5 =>
 cond (!r5)
 (some ([],2,()))
 (Option.bind (al0[0]?) fun y6 =>
 cond (decide (from1 < y6.at_))
 (some ([],2,()))
 (cond (decide (to2 ≤ from1))
 (some ([],2,()))
 (cond (decide (281474976710656 < to2))
 (some ([],2,()))
 (Option.bind (g187 al0 from1) fun r7 =>
 Option.bind (g187 r7.2.1 to2) fun r8 =>
 Option.bind (g172 r8.2.1 from1) fun r9 =>
 L (fun (s10 : ((Unit × (Unit × (Int × Unit))) × (Res × ((List Step) × Unit)))) nx11 => l170_0 g109 g188 to2 nx11 s10.1.2.2.1 s10.2.1 s10.2.2.1) (((),(),r9,()),(need3,r8.2.1,())))))))
theorem e170 (L : Lp) (g169 : (List Step) → Option Bool) (g108 : Res → Option Bool) (g187 : (List Step) → Int → Option (Unit × ((List Step) × Unit))) (g172 : (List Step) → Int → Option Int) (g109 : Res → Res → Option (Res × (Int × Unit))) (g188 : (List Step) → Option (List Step)) (x : s170.args.den) (h : denH s170.heap) : nrun [⟨169,s169,fun x h => g169 x.1⟩,⟨108,s108,fun x h => g108 x.1⟩,⟨187,s187,fun x h => g187 x.1 x.2.1⟩,⟨172,s172,fun x h => g172 x.1 x.2.1⟩,⟨109,s109,fun x h => g109 x.1 x.2.1⟩,⟨188,s188,fun x h => g188 x.1⟩] L n170 s170 x h = F170 L g169 g108 g187 g172 g109 g188 x.1 x.2.1 x.2.2.1 x.2.2.2.1 := by kernel_rfl
def f170 : (List Step) → Int → Int → Res → Option ((List Step) × (Int × Unit)) := F170 (@LN LOOPS) f169 f108 f187 f172 f109 f188
@[reducible] def t170 : Ent := ⟨170,s170,fun x h => f170 x.1 x.2.1 x.2.2.1 x.2.2.2.1⟩
theorem k170 : chkNF Try.prog Try.f170 n170 = true := by kernel_rfl
theorem ok170 : NOk Try.prog t170 := NOk.body (T := [t169,t108,t187,t172,t109,t188]) mixed (nall_cons ok169 (nall_cons ok108 (nall_cons ok187 (nall_cons ok172 (nall_cons ok109 (nall_cons ok188 nall_nil)))))) (oneEach_of (by kernel_rfl)) Try.func170 k170 (by kernel_rfl) (fun x h => e170 _ _ _ _ _ _ _ x h)
def n126 : NFunc := ⟨17,.seq (.region 1 [
 o1 7 (.box 4 (tm 3)) 0,
 o1 8 (.move (.const (.zsl))) 1,
 o1 9 (.move (ki 0)) 1] []) (.seq (.region 4 [
 oM 10 0 0,
 oM 11 1 0,
 oM 12 2 0,
 oT 13 4 7 0,
 o1 14 (.call (fc 170) [(vv 10),(vv 11),(vv 12),(vv 13),(false,(.func 109))] false 4) 0,
 oX 15 14 0 4,
 oX 16 14 1 4,
 oM 8 15 4,
 oM 9 16 4] []) (.ret)),[.tmp 8,.tmp 9],true⟩
def s126 : Sig := ⟨(.cons (.v (.list .step)) (.cons (.v (.int .i64)) (.cons (.v (.int .i64)) (.cons (.v .res) .nil)))),[],((.tup (.cons (.v (.list .step)) (.cons (.v (.int .i64)) .nil))),[]),[]⟩
def F126 (L : Lp) (g170 : (List Step) → Int → Int → Res → Option ((List Step) × (Int × Unit))) (al0 : (List Step)) (from1 : Int) (to2 : Int) (need3 : Res) : Option ((List Step) × (Int × Unit)) :=
 Option.bind (g170 al0 from1 to2 need3) fun r4 =>
 some (r4.1,r4.2.1,())
theorem e126 (L : Lp) (g170 : (List Step) → Int → Int → Res → Option ((List Step) × (Int × Unit))) (x : s126.args.den) (h : denH s126.heap) : nrun [⟨170,s170,fun x h => g170 x.1 x.2.1 x.2.2.1 x.2.2.2.1⟩] L n126 s126 x h = F126 L g170 x.1 x.2.1 x.2.2.1 x.2.2.2.1 := by kernel_rfl
def f126 : (List Step) → Int → Int → Res → Option ((List Step) × (Int × Unit)) := F126 (@LN LOOPS) f170
@[reducible] def t126 : Ent := ⟨126,s126,fun x h => f126 x.1 x.2.1 x.2.2.1 x.2.2.2.1⟩
theorem k126 : chkNF Try.prog Try.f126 n126 = true := by kernel_rfl
theorem ok126 : NOk Try.prog t126 := NOk.body (T := [t170]) mixed (nall_cons ok170 nall_nil) (oneEach_of (by kernel_rfl)) Try.func126 k126 (by kernel_rfl) (fun x h => e126 _ _ x h)
def n125 : NFunc := ⟨79,.seq (.region 1 [
 o1 9 (.box 4 (tm 4)) 0,
 o1 10 (.move (ki 0)) 1] []) (.seq (.region 1 [
 oM 18 3 0,
 o1 19 (.len (tm 18)) 0,
 o1 20 (.makeSlice 1 24 true [.zsl] (tm 19) (tm 19)) 0,
 oM 11 20 1] [⟨20,some (.list .step),none⟩]) (.seq (.seq (.region 0 [
 oM 21 3 0,
 o1 22 (.len (tm 21)) 0,
 o1 23 (.move (ki 0)) 0] []) (.block 0 (.loop [0,1,2,3,9,11,21,22,23] ⟨[(0,(.ptr 0 0 0)),(9,(.ptr 3 0 0)),(11,(.slw 4 1)),(23,vI)],[1,2,3,21,22],[.cell false (.cons vI (.cons (.slw 1 1) (.cons (.slw 2 1) .nil))),.typed (.list (.int .i64)),.typed (.list .step),.one false .res,.typed (.list .step)]⟩ (.seq (.region 0 [
 oB 24 .lss 23 22 0] []) (.seq (.cond (tm 24) (.skip) (.exit 0)) (.seq (.block 1 (.seq (.region 1 [
 oM 25 23 0,
 o1 26 (.indexSl 2 (tm 21) (tm 23)) 0,
 oT 27 2 26 0,
 o1 13 (.alloc [iz,iz]) 0,
 oM 12 25 1,
 oS 2 13 27 1] []) (.seq (.region 5 [
 oT 29 4 9 0,
 oF 30 1 13 0,
 oL 31 30 0,
 o1 32 (.call (fc 157) [(vv 29),(vv 31)] false 4) 0,
 oM 28 32 4,
 oX 33 28 0 4,
 oX 34 28 1 4,
 o1 14 (.alloc [iz,iz,iz,iz]) 4,
 oS 4 14 33 5,
 oM 15 34 5] []) (.seq (.seq (.region 0 [
 oM 35 15 0,
 oC 36 .neq 35 0 0] []) (.cond (tm 36) (.seq (.region 0 [
 oM 37 15 0,
 oM 10 37 0] []) (.ret)) (.skip))) (.seq (.region 4 [
 o4 39 (.move (tm 11)) 0 [],
 o4 40 (.move (tm 12)) 0 [],
 o4 41 (.move (tm 0)) 0 [],
 o4 42 (.nilCheck (tm 41)) 0 [],
 o4 43 (.fieldAddr 2 (tm 42)) 0 [],
 o4 44 (.load false 1 (tm 43)) 0 [],
 o4 45 (.fieldAddr 0 (tm 13)) 0 [],
 o4 46 (.load false 1 (tm 45)) 0 [],
 o4 47 (.indexSl 1 (tm 44) (tm 46)) 0 [],
 o4 48 (.load false 1 (tm 47)) 0 [],
 o4 49 (.move (tm 1)) 0 [],
 o4 50 (.move (tm 2)) 0 [],
 o4 51 (.load true 4 (tm 14)) 0 [],
 o4 52 (.call (fc 126) [(vv 48),(vv 49),(vv 50),(vv 51)] false 4) 0 [],
 o4 38 (.move (tm 52)) 4 [0,1,2,3],
 o4 53 (.extract (tm 38) 0) 4 [0,1,2,3],
 o4 54 (.extract (tm 38) 1) 4 [0,1,2,3],
 o4 55 (.indexSl 1 (tm 39) (tm 40)) 4 [0,1,2,3],
 ⟨none,.store 1 (tm 55) (tm 53),none,4,(some ([0,1,2,3],none))⟩,
 o4 15 (.move (tm 54)) 4 [0,1,2,3]] []) (.seq (.region 0 [
 oM 56 15 0,
 oC 57 .neq 56 0 0] []) (.cond (tm 57) (.seq (.region 0 [
 oM 58 15 0,
 oM 10 58 0] []) (.ret)) (.skip)))))))) (.region 0 [
 oC 59 .add 23 1 0,
 oM 23 59 0] []))))))) (.seq (.seq (.region 0 [
 oM 60 3 0,
 o1 61 (.len (tm 60)) 0,
 o1 62 (.move (ki 0)) 0] []) (.block 2 (.loop [0,11,60,61,62] ⟨[(0,(.ptr 0 0 0)),(11,(.slw 3 1)),(62,vI)],[60,61],[.cell false (.cons vI (.cons (.slw 1 1) (.cons (.slw 2 1) .nil))),.typed (.list (.int .i64)),.typed (.list .step),.typed (.list .step)]⟩ (.seq (.region 0 [
 oB 63 .lss 62 61 0] []) (.seq (.cond (tm 63) (.skip) (.exit 2)) (.seq (.block 3 (.seq (.region 1 [
 oM 64 62 0,
 o1 65 (.indexSl 2 (tm 60) (tm 62)) 0,
 oT 66 2 65 0,
 o1 17 (.alloc [iz,iz]) 0,
 oM 16 64 1,
 oS 2 17 66 1] []) (.region 0 [
 o4 67 (.move (tm 0)) 0 [],
 o4 68 (.nilCheck (tm 67)) 0 [],
 o4 69 (.fieldAddr 2 (tm 68)) 0 [],
 o4 70 (.load false 1 (tm 69)) 0 [],
 o4 71 (.fieldAddr 0 (tm 17)) 0 [],
 o4 72 (.load false 1 (tm 71)) 0 [],
 o4 73 (.move (tm 11)) 0 [],
 o4 74 (.move (tm 16)) 0 [],
 o4 75 (.indexSl 1 (tm 73) (tm 74)) 0 [],
 o4 76 (.load false 1 (tm 75)) 0 [],
 o4 77 (.indexSl 1 (tm 70) (tm 72)) 0 [],
 ⟨none,.store 1 (tm 77) (tm 76),none,0,(some ([],none))⟩] []))) (.region 0 [
 oC 78 .add 62 1 0,
 oM 62 78 0] []))))))) (.seq (.region 0 [
 o1 10 (.move (ki 0)) 0] []) (.ret))))),[.tmp 10],true⟩
def s125 : Sig := ⟨(.cons (.ptr 0 0 0) (.cons (.v (.int .i64)) (.cons (.v (.int .i64)) (.cons (.v (.list .share)) (.cons (.v .res) .nil))))),[.cell false (.cons (.v (.int .i64)) (.cons (.slw 1 1) (.cons (.slw 2 1) .nil))),.typed (.list (.int .i64)),.typed (.list .step)],((.v (.int .i64)),[.cell false (.cons (.v (.int .i64)) (.cons (.slw 1 1) (.cons (.slw 2 1) .nil))),.typed (.list (.int .i64)),.typed (.list .step)]),[]⟩
def l125_0 (al2 : (List Share)) (nx21 : ((Unit × (Unit × (Int × Unit))) × ((Int × (Unit × (Unit × Unit))) × ((List (List Int)) × Tag))) → Option (Int × Tab)) (z22 : Int) (z23 : Int) (z24 : (List (List Int))) (z25 : (List (List Step))) (z26 : (List (List Step))) : Option (Int × Tab) :=
 cond (decide (z22 < (List.length al2 : Int)))
 (cond (decide (0 ≤ z22))
 (Option.bind (al2[Int.toNat z22]?) fun y27 =>
 cond (decide (0 ≤ z22))
 (cond (decide ((Int.toNat z22) < (List.length z26)))
 (Option.bind (z26[Int.toNat z22]?) fun y28 =>
 cond (decide (0 ≤ y27.node))
 (cond (decide ((Int.toNat y27.node) < (List.length z25)))
 (Option.bind (z25[Int.toNat y27.node]?) fun y29 =>
 nx21 (((),(),IntKind.wrap .i64 (z22 + 1),()),((z23,(),(),()),z24,List.set z25 (Int.toNat y27.node) y28,z26,())))
 (none))
 (none))
 (none))
 (none))
 (none))
 (some (0,((z23,(),(),()),z24,z25,())))
def l125_1 (L : Lp) (g157 : Res → Int → Option (Res × (Int × Unit))) (g126 : (List Step) → Int → Int → Res → Option ((List Step) × (Int × Unit))) (from0 : Int) (to1 : Int) (al2 : (List Share)) (nx8 : (Tak × ((Int × (Unit × (Unit × Unit))) × ((List (List Int)) × ((List (List Step)) × (Res × ((List (List Step)) × Unit)))))) → Option (Int × Tab)) (z9 : Int) (z10 : Int) (z11 : (List (List Int))) (z12 : (List (List Step))) (z13 : Res) (z14 : (List (List Step))) : Option (Int × Tab) :=
 cond (decide (z9 < (List.length al2 : Int)))
 (cond (decide (0 ≤ z9))
 (Option.bind (al2[Int.toNat z9]?) fun y15 =>
 Option.bind (g157 z13 y15.many) fun r16 =>
 cond (!decide (r16.2.1 = 0))
 (some (r16.2.1,((z10,(),(),()),z11,z12,())))
 (cond (decide (0 ≤ y15.node))
 (cond (decide ((Int.toNat y15.node) < (List.length z12)))
 (Option.bind (z12[Int.toNat y15.node]?) fun y17 =>
 Option.bind (g126 y17 from0 to1 r16.1) fun r18 =>
 cond (decide (0 ≤ z9))
 (cond (decide ((Int.toNat z9) < (List.length z14)))
 (Option.bind (z14[Int.toNat z9]?) fun y19 =>
 cond (!decide (r18.2.1 = 0))
 (some (r18.2.1,((z10,(),(),()),z11,z12,())))
 (nx8 (((),(),(),IntKind.wrap .i64 (z9 + 1),()),((z10,(),(),()),z11,z12,z13,List.set z14 (Int.toNat z9) r18.1,()))))
 (none))
 (none))
 (none))
 (none)))
 (none))
 (L (fun (s20 : ((Unit × (Unit × (Int × Unit))) × ((Int × (Unit × (Unit × Unit))) × ((List (List Int)) × Tag)))) nx21 => l125_0 al2 nx21 s20.1.2.2.1 s20.2.1.1 s20.2.2.1 s20.2.2.2.1 s20.2.2.2.2.1) (((),(),0,()),((z10,(),(),()),z11,z12,z14,())))
def F125 (L : Lp) (g157 : Res → Int → Option (Res × (Int × Unit))) (g126 : (List Step) → Int → Int → Res → Option ((List Step) × (Int × Unit))) (from0 : Int) (to1 : Int) (al2 : (List Share)) (need3 : Res) (a4 : Int) (a5 : (List (List Int))) (a6 : (List (List Step))) : Option (Int × Tab) :=
 cond (decide (0 ≤ (List.length al2 : Int)))
 (cond (decide (0 ≤ (List.length al2 : Int)))
 (cond ((decide ((Int.toNat (List.length al2 : Int)) ≤ (Int.toNat (List.length al2 : Int)))) && ((decide ((Int.toNat (List.length al2 : Int)) * 24 ≤ 1099511627776)) && (decide ((Int.toNat (List.length al2 : Int)) ≤ 4294967296))))
 (L (fun (s7 : (Tak × ((Int × (Unit × (Unit × Unit))) × ((List (List Int)) × ((List (List Step)) × (Res × ((List (List Step)) × Unit))))))) nx8 => l125_1 L g157 g126 from0 to1 al2 nx8 s7.1.2.2.2.1 s7.2.1.1 s7.2.2.1 s7.2.2.2.1 s7.2.2.2.2.1 s7.2.2.2.2.2.1) (((),(),(),0,()),((a4,(),(),()),a5,a6,need3,(List.replicate (Int.toNat (List.length al2 : Int)) [] : List (List Step)),())))
 (none))
 (none))
 (none)
theorem e125 (L : Lp) (g157 : Res → Int → Option (Res × (Int × Unit))) (g126 : (List Step) → Int → Int → Res → Option ((List Step) × (Int × Unit))) (x : s125.args.den) (h : denH s125.heap) : nrun [⟨157,s157,fun x h => g157 x.1 x.2.1⟩,⟨126,s126,fun x h => g126 x.1 x.2.1 x.2.2.1 x.2.2.2.1⟩] L n125 s125 x h = F125 L g157 g126 x.2.1 x.2.2.1 x.2.2.2.1 x.2.2.2.2.1 h.1.1 h.2.1 h.2.2.1 := by kernel_rfl
def f125 : Int → Int → (List Share) → Res → Int → (List (List Int)) → (List (List Step)) → Option (Int × Tab) := F125 (@LN LOOPS) f157 f126
@[reducible] def t125 : Ent := ⟨125,s125,fun x h => f125 x.2.1 x.2.2.1 x.2.2.2.1 x.2.2.2.2.1 h.1.1 h.2.1 h.2.2.1⟩
theorem k125 : chkNF Try.prog Try.f125 n125 = true := by kernel_rfl
theorem ok125 : NOk Try.prog t125 := NOk.body (T := [t157,t126]) mixed (nall_cons ok157 (nall_cons ok126 nall_nil)) (oneEach_of (by kernel_rfl)) Try.func125 k125 (by kernel_rfl) (fun x h => e125 _ _ _ x h)
def n62 : NFunc := ⟨167,.seq (.region 1 [
 o1 4 (.box 18 (tm 0)) 0,
 o1 8 (.move (.const (.nilp))) 1,
 o1 9 (.move (ki 0)) 1] []) (.seq (.seq (.region 12 [
 oT 24 18 4 0,
 o1 25 (.call (fc 103) [(vv 24)] false 4) 0,
 o1 26 (.un .not (tm 25)) 4,
 oM 27 26 4,
 oN 28 1 27 4,
 o2 29 (.bin .lss (tm 28) (ki 0)) 27 4,
 o1 30 (.pick (tm 27) kt (tm 29)) 4,
 oM 31 30 4,
 oN 32 1 31 4,
 o2 33 (.bin .gtr (tm 32) (ki 1099511627776)) 31 4,
 o1 34 (.pick (tm 31) kt (tm 33)) 4,
 oM 35 34 4,
 oN 36 3 35 4,
 o2 37 (.fieldAddr 0 (tm 4)) 35 4,
 o2 38 (.load false 1 (tm 37)) 35 4,
 o2 39 (.len (tm 38)) 35 4,
 o2 40 (.call (fc 121) [(vv 36),(vv 39)] false 4) 35 4,
 o2 41 (.un .not (tm 40)) 35 8,
 o1 42 (.pick (tm 35) kt (tm 41)) 8,
 oM 43 42 8,
 oN 44 2 43 8,
 oN 45 1 43 8,
 o2 46 (.fieldAddr 0 (tm 4)) 43 8,
 o2 47 (.load false 1 (tm 46)) 43 8,
 o2 48 (.len (tm 47)) 43 8,
 o2 49 (.call (fc 122) [(vv 44),(vv 45),(vv 48)] false 4) 43 8,
 o2 50 (.un .not (tm 49)) 43 12,
 o1 51 (.pick (tm 43) kt (tm 50)) 12] []) (.cond (tm 51) (.seq (.region 0 [
 o1 8 (.move (.const (.nilp))) 0,
 o1 9 (.move (ki 2)) 0] []) (.ret)) (.skip))) (.seq (.region 1 [
 oM 52 1 0,
 o1 53 (.build [iz,.zsl,.zsl] [(0,1,(tm 52))]) 0,
 o1 54 (.box 3 (tm 53)) 0,
 oM 10 54 1] []) (.seq (.seq (.region 0 [
 oF 55 1 4 0,
 oL 56 55 0,
 o1 57 (.len (tm 56)) 0,
 o1 58 (.move (ki 0)) 0] []) (.block 0 (.pre [1,2,3,4,10,56,57,58] [.matC 10 1 1 true] (.loop [1,2,3,4,10,56,57,58] ⟨[(4,(.ptr 0 0 0)),(10,(.ptr 1 0 0)),(58,vI)],[1,2,3,56,57],[.one false .spec,.cell false (.cons vI (.cons (.slw 2 1) (.cons .zsl .nil))),.typed (.list (.int .i64))]⟩ (.seq (.region 0 [
 oB 59 .lss 58 57 0] []) (.seq (.cond (tm 59) (.skip) (.exit 0)) (.seq (.block 1 (.seq (.region 0 [
 o1 60 (.indexSl 1 (tm 56) (tm 58)) 0,
 oL 61 60 0,
 oM 12 61 0] []) (.region 6 [
 o4 62 (.move (tm 10)) 0 [],
 o4 63 (.move (tm 10)) 0 [],
 o4 64 (.nilCheck (tm 63)) 0 [],
 o4 65 (.fieldAddr 1 (tm 64)) 0 [],
 o4 66 (.load false 1 (tm 65)) 0 [],
 o4 67 (.move (tm 12)) 0 [],
 o4 68 (.call (fc 123) [(vv 67)] true 4) 0 [],
 o4 69 (.buildSlice 1 1 true [.zsl] [(0,(tm 68))]) 4 [0,1,2,3],
 o4 70 (.append 1 24 true (tm 66) (tm 69)) 5 [0,1,2,3,4],
 o4 71 (.nilCheck (tm 62)) 6 [0,1,2,3,4,5],
 o4 72 (.fieldAddr 1 (tm 71)) 6 [0,1,2,3,4,5],
 ⟨none,.store 1 (tm 72) (tm 70),none,6,(some ([0,1,2,3,4,5],none))⟩] []))) (.region 0 [
 oC 73 .add 58 1 0,
 oM 58 73 0] [])))))))) (.seq (.seq (.region 0 [
 oF 74 0 4 0,
 oL 75 74 0,
 o1 76 (.len (tm 75)) 0,
 o1 77 (.move (ki 0)) 0] []) (.block 2 (.pre [1,2,3,4,10,75,76,77] [.matC 10 2 1 true] (.loop [1,2,3,4,10,75,76,77] ⟨[(4,(.ptr 0 0 0)),(10,(.ptr 1 0 0)),(77,vI)],[1,2,3,75,76],[.one false .spec,.cell false (.cons vI (.cons (.slw 2 1) (.cons (.slw 3 1) .nil))),.typed (.list (.int .i64)),.typed (.list .step)]⟩ (.seq (.region 0 [
 oB 78 .lss 77 76 0] []) (.seq (.cond (tm 78) (.skip) (.exit 2)) (.seq (.block 3 (.seq (.region 1 [
 o1 79 (.indexSl 4 (tm 75) (tm 77)) 0,
 oT 80 4 79 0,
 o1 14 (.alloc [iz,iz,iz,iz]) 0,
 oS 4 14 80 1] []) (.seq (.region 4 [
 oM 82 1 0,
 oT 83 4 14 0,
 o1 84 (.call (fc 124) [(vv 82),(vv 83)] false 4) 0,
 oM 81 84 4,
 oX 85 81 0 4,
 oX 86 81 1 4,
 oM 15 85 4,
 oM 16 86 4] []) (.seq (.seq (.region 0 [
 oM 87 16 0,
 oC 88 .neq 87 0 0] []) (.cond (tm 88) (.seq (.region 0 [
 oM 89 16 0,
 o1 8 (.move (.const (.nilp))) 0,
 oM 9 89 0] []) (.ret)) (.skip))) (.region 2 [
 oM 90 10 0,
 oM 91 10 0,
 o1 92 (.nilCheck (tm 91)) 0,
 oF 93 2 92 0,
 oL 94 93 0,
 oM 95 15 0,
 o1 96 (.buildSlice 1 1 true [.zsl] [(0,(tm 95))]) 0,
 o1 97 (.append 1 24 true (tm 94) (tm 96)) 1,
 o1 98 (.nilCheck (tm 90)) 2,
 oF 99 2 98 2,
 oS 1 99 97 2] []))))) (.region 0 [
 oC 100 .add 77 1 0,
 oM 77 100 0] [])))))))) (.seq (.seq (.region 0 [
 oM 101 2 0,
 o1 102 (.len (tm 101)) 0,
 o1 103 (.move (ki 0)) 0] []) (.block 4 (.loop [1,3,4,10,101,102,103] ⟨[(4,(.ptr 0 0 0)),(10,(.ptr 1 0 0)),(103,vI)],[1,3,101,102],[.one false .spec,.cell false (.cons vI (.cons (.slw 2 1) (.cons (.slw 3 1) .nil))),.typed (.list (.int .i64)),.typed (.list .step)]⟩ (.seq (.region 0 [
 oB 104 .lss 103 102 0] []) (.seq (.cond (tm 104) (.skip) (.exit 4)) (.seq (.block 5 (.seq (.region 1 [
 o1 105 (.indexSl 6 (tm 101) (tm 103)) 0,
 oT 106 6 105 0,
 o1 18 (.alloc [iz,iz,iz,iz,.zsl,iz]) 0,
 oS 6 18 106 1] []) (.seq (.region 4 [
 oM 107 10 0,
 oM 108 1 0,
 oF 109 5 18 0,
 oL 110 109 0,
 oF 111 4 18 0,
 oL 112 111 0,
 oF 113 0 18 0,
 oT 114 4 113 0,
 o1 115 (.call (fc 125) [(vw 107),(vv 108),(vv 110),(vv 112),(vv 114)] false 4) 0,
 oM 19 115 4] []) (.seq (.region 0 [
 oM 116 19 0,
 oC 117 .neq 116 0 0] []) (.cond (tm 117) (.seq (.region 0 [
 oM 118 19 0,
 o1 8 (.move (.const (.nilp))) 0,
 oM 9 118 0] []) (.ret)) (.skip)))))) (.region 0 [
 oC 119 .add 103 1 0,
 oM 103 119 0] []))))))) (.seq (.seq (.region 0 [
 oM 120 3 0,
 o1 121 (.len (tm 120)) 0,
 o1 122 (.move (ki 0)) 0] []) (.block 6 (.loop [1,4,10,120,121,122] ⟨[(4,(.ptr 0 0 0)),(10,(.ptr 1 0 0)),(122,vI)],[1,120,121],[.one false .spec,.cell false (.cons vI (.cons (.slw 2 1) (.cons (.slw 3 1) .nil))),.typed (.list (.int .i64)),.typed (.list .step)]⟩ (.seq (.region 0 [
 oB 123 .lss 122 121 0] []) (.seq (.cond (tm 123) (.skip) (.exit 6)) (.seq (.block 7 (.seq (.region 1 [
 o1 124 (.indexSl 4 (tm 120) (tm 122)) 0,
 oT 125 4 124 0,
 o1 21 (.alloc [iz,iz,iz,iz]) 0,
 oS 4 21 125 1] []) (.seq (.seq (.region 0 [
 oF 126 3 21 0,
 oL 127 126 0,
 oM 128 1 0,
 oB 129 .leq 127 128 0] []) (.cond (tm 129) (.exit 7) (.skip))) (.seq (.region 4 [
 o4 131 (.move (tm 10)) 0 [],
 o4 132 (.nilCheck (tm 131)) 0 [],
 o4 133 (.fieldAddr 2 (tm 132)) 0 [],
 o4 134 (.load false 1 (tm 133)) 0 [],
 o4 135 (.fieldAddr 1 (tm 21)) 0 [],
 o4 136 (.load false 1 (tm 135)) 0 [],
 o4 137 (.indexSl 1 (tm 134) (tm 136)) 0 [],
 o4 138 (.load false 1 (tm 137)) 0 [],
 o4 139 (.fieldAddr 2 (tm 21)) 0 [],
 o4 140 (.load false 1 (tm 139)) 0 [],
 o4 141 (.move (tm 1)) 0 [],
 o4 142 (.minmax true (tm 140) (tm 141)) 0 [],
 o4 143 (.fieldAddr 3 (tm 21)) 0 [],
 o4 144 (.load false 1 (tm 143)) 0 [],
 o4 145 (.fieldAddr 0 (tm 4)) 0 [],
 o4 146 (.load false 1 (tm 145)) 0 [],
 o4 147 (.fieldAddr 1 (tm 21)) 0 [],
 o4 148 (.load false 1 (tm 147)) 0 [],
 o4 149 (.indexSl 4 (tm 146) (tm 148)) 0 [],
 o4 150 (.load true 4 (tm 149)) 0 [],
 o4 151 (.call (fc 126) [(vv 138),(vv 142),(vv 144),(vv 150)] false 4) 0 [],
 o4 130 (.move (tm 151)) 4 [0,1,2,3],
 o4 152 (.extract (tm 130) 0) 4 [0,1,2,3],
 o4 153 (.extract (tm 130) 1) 4 [0,1,2,3],
 o4 22 (.move (tm 152)) 4 [0,1,2,3],
 o4 23 (.move (tm 153)) 4 [0,1,2,3]] []) (.seq (.seq (.region 0 [
 oM 154 23 0,
 oC 155 .neq 154 0 0] []) (.cond (tm 155) (.seq (.region 0 [
 oM 156 23 0,
 o1 8 (.move (.const (.nilp))) 0,
 oM 9 156 0] []) (.ret)) (.skip))) (.region 0 [
 o4 157 (.move (tm 10)) 0 [],
 o4 158 (.nilCheck (tm 157)) 0 [],
 o4 159 (.fieldAddr 2 (tm 158)) 0 [],
 o4 160 (.load false 1 (tm 159)) 0 [],
 o4 161 (.fieldAddr 1 (tm 21)) 0 [],
 o4 162 (.load false 1 (tm 161)) 0 [],
 o4 163 (.move (tm 22)) 0 [],
 o4 164 (.indexSl 1 (tm 160) (tm 162)) 0 [],
 ⟨none,.store 1 (tm 164) (tm 163),none,0,(some ([],none))⟩] [])))))) (.region 0 [
 oC 165 .add 122 1 0,
 oM 122 165 0] []))))))) (.seq (.region 0 [
 oM 166 10 0,
 oM 8 166 0,
 o1 9 (.move (ki 0)) 0] []) (.ret)))))))),[.tmp 8,.tmp 9],false⟩
def s62 : Sig := ⟨(.cons (.v .spec) (.cons (.v (.int .i64)) (.cons (.v (.list .run)) (.cons (.v (.list .booking)) .nil)))),[],((.tup (.cons .nilp (.cons (.v (.int .i64)) .nil))),[]),[((.tup (.cons (.ptr 0 0 0) (.cons (.v (.int .i64)) .nil))),[.cell false (.cons (.v (.int .i64)) (.cons (.slw 1 1) (.cons (.slw 2 1) .nil))),.typed (.list (.int .i64)),.typed (.list .step)])]⟩
def l62_0 (g126 : (List Step) → Int → Int → Res → Option ((List Step) × (Int × Unit))) (now1 : Int) (books3 : (List Booking)) (nx34 : Tam → Option Taf) (z35 : Int) (z36 : Spec) (z37 : Int) (z38 : (List (List Int))) (z39 : (List (List Step))) : Option Taf :=
 cond (decide (z35 < (List.length books3 : Int)))
 (cond (decide (0 ≤ z35))
 (Option.bind (books3[Int.toNat z35]?) fun y40 =>
 cond (decide (y40.to ≤ now1))
 (nx34 (((),(),IntKind.wrap .i64 (z35 + 1),()),(z36,(z37,(),(),()),z38,z39,())))
 (cond (decide (0 ≤ y40.node))
 (cond (decide ((Int.toNat y40.node) < (List.length z39)))
 (Option.bind (z39[Int.toNat y40.node]?) fun y41 =>
 cond (decide (0 ≤ y40.node))
 (Option.bind (z36.nodes[Int.toNat y40.node]?) fun y42 =>
 Option.bind (g126 y41 (if now1 > y40.fro then now1 else y40.fro) y40.to y42) fun r43 =>
 cond (!decide (r43.2.1 = 0))
 (some (.inl ((),r43.2.1,())))
 (cond (decide (0 ≤ y40.node))
 (cond (decide ((Int.toNat y40.node) < (List.length z39)))
 (Option.bind (z39[Int.toNat y40.node]?) fun y44 =>
 nx34 (((),(),IntKind.wrap .i64 (z35 + 1),()),(z36,(z37,(),(),()),z38,List.set z39 (Int.toNat y40.node) r43.1,())))
 (none))
 (none)))
 (none))
 (none))
 (none)))
 (none))
 (some (.inr (((),0,()),((z37,(),(),()),z38,z39,()))))
def l62_1 (L : Lp) (g125 : Int → Int → (List Share) → Res → Int → (List (List Int)) → (List (List Step)) → Option (Int × Tab)) (g126 : (List Step) → Int → Int → Res → Option ((List Step) × (Int × Unit))) (now1 : Int) (runs2 : (List Run)) (books3 : (List Booking)) (nx25 : Tam → Option Taf) (z26 : Int) (z27 : Spec) (z28 : Int) (z29 : (List (List Int))) (z30 : (List (List Step))) : Option Taf :=
 cond (decide (z26 < (List.length runs2 : Int)))
 (cond (decide (0 ≤ z26))
 (Option.bind (runs2[Int.toNat z26]?) fun y31 =>
 Option.bind (g125 now1 y31.til y31.shares y31.need z28 z29 z30) fun r32 =>
 cond (true && ((decide ((List.length r32.2.2.1) = (List.length z29))) && ((decide ((List.length r32.2.2.2.1) = (List.length z30))) && true)))
 (cond (!decide (r32.1 = 0))
 (some (.inl ((),r32.1,())))
 (nx25 (((),(),IntKind.wrap .i64 (z26 + 1),()),(z27,(r32.2.1.1,(),(),()),r32.2.2.1,r32.2.2.2.1,()))))
 (none))
 (none))
 (L (fun (s33 : Tam) nx34 => l62_0 g126 now1 books3 nx34 s33.1.2.2.1 s33.2.1 s33.2.2.1.1 s33.2.2.2.1 s33.2.2.2.2.1) (((),(),0,()),(z27,(z28,(),(),()),z29,z30,())))
def l62_2 (L : Lp) (g124 : Int → Res → Option ((List Step) × (Int × Unit))) (g125 : Int → Int → (List Share) → Res → Int → (List (List Int)) → (List (List Step)) → Option (Int × Tab)) (g126 : (List Step) → Int → Int → Res → Option ((List Step) × (Int × Unit))) (now1 : Int) (runs2 : (List Run)) (books3 : (List Booking)) (z10 : Spec) (nx16 : Tam → Option Taf) (z17 : Int) (z18 : Spec) (z19 : Int) (z20 : (List (List Int))) (z21 : (List (List Step))) : Option Taf :=
 cond (decide (z17 < (List.length z10.nodes : Int)))
 (cond (decide (0 ≤ z17))
 (Option.bind (z10.nodes[Int.toNat z17]?) fun y22 =>
 Option.bind (g124 now1 y22) fun r23 =>
 cond (!decide (r23.2.1 = 0))
 (some (.inl ((),r23.2.1,())))
 (cond (smallB ((List.length z21) + 1) 24)
 (nx16 (((),(),IntKind.wrap .i64 (z17 + 1),()),(z18,(z19,(),(),()),z20,z21 ++ [r23.1],())))
 (none)))
 (none))
 (L (fun (s24 : Tam) nx25 => l62_1 L g125 g126 now1 runs2 books3 nx25 s24.1.2.2.1 s24.2.1 s24.2.2.1.1 s24.2.2.2.1 s24.2.2.2.2.1) (((),(),0,()),(z18,(z19,(),(),()),z20,z21,())))
def l62_3 (L : Lp) (g123 : (List Int) → Option (Unit × ((List Int) × Unit))) (g124 : Int → Res → Option ((List Step) × (Int × Unit))) (g125 : Int → Int → (List Share) → Res → Int → (List (List Int)) → (List (List Step)) → Option (Int × Tab)) (g126 : (List Step) → Int → Int → Res → Option ((List Step) × (Int × Unit))) (as0 : Spec) (now1 : Int) (runs2 : (List Run)) (books3 : (List Booking)) (nx8 : ((Unit × (Unit × (Int × Unit))) × (Spec × ((Int × (Unit × (Unit × Unit))) × ((List (List Int)) × Unit)))) → Option Taf) (z9 : Int) (z10 : Spec) (z11 : Int) (z12 : (List (List Int))) : Option Taf :=
 cond (decide (z9 < (List.length as0.parts : Int)))
 (cond (decide (0 ≤ z9))
 (Option.bind (as0.parts[Int.toNat z9]?) fun y13 =>
 Option.bind (g123 y13) fun r14 =>
 cond (smallB ((List.length z12) + 1) 24)
 (nx8 (((),(),IntKind.wrap .i64 (z9 + 1),()),(z10,(z11,(),(),()),z12 ++ [r14.2.1],())))
 (none))
 (none))
 (L (fun (s15 : Tam) nx16 => l62_2 L g124 g125 g126 now1 runs2 books3 z10 nx16 s15.1.2.2.1 s15.2.1 s15.2.2.1.1 s15.2.2.2.1 s15.2.2.2.2.1) (((),(),0,()),(z10,(z11,(),(),()),z12,[],())))
def F62 (L : Lp) (g103 : Spec → Option Bool) (g121 : (List Booking) → Int → Option Bool) (g122 : (List Run) → Int → Int → Option Bool) (g123 : (List Int) → Option (Unit × ((List Int) × Unit))) (g124 : Int → Res → Option ((List Step) × (Int × Unit))) (g125 : Int → Int → (List Share) → Res → Int → (List (List Int)) → (List (List Step)) → Option (Int × Tab)) (g126 : (List Step) → Int → Int → Res → Option ((List Step) × (Int × Unit))) (as0 : Spec) (now1 : Int) (runs2 : (List Run)) (books3 : (List Booking)) : Option Taf :=
 Option.bind (g103 as0) fun r4 =>
 cond (!r4)
 (some (.inl ((),2,())))
 (cond (decide (now1 < 0))
 (some (.inl ((),2,())))
 (cond (decide (1099511627776 < now1))
 (some (.inl ((),2,())))
 (Option.bind (g121 books3 (List.length as0.nodes : Int)) fun r5 =>
 cond (!r5)
 (some (.inl ((),2,())))
 (Option.bind (g122 runs2 now1 (List.length as0.nodes : Int)) fun r6 =>
 cond (!r6)
 (some (.inl ((),2,())))
 (L (fun (s7 : ((Unit × (Unit × (Int × Unit))) × (Spec × ((Int × (Unit × (Unit × Unit))) × ((List (List Int)) × Unit))))) nx8 => l62_3 L g123 g124 g125 g126 as0 now1 runs2 books3 nx8 s7.1.2.2.1 s7.2.1 s7.2.2.1.1 s7.2.2.2.1) (((),(),0,()),(as0,(now1,(),(),()),[],())))))))
theorem e62 (L : Lp) (g103 : Spec → Option Bool) (g121 : (List Booking) → Int → Option Bool) (g122 : (List Run) → Int → Int → Option Bool) (g123 : (List Int) → Option (Unit × ((List Int) × Unit))) (g124 : Int → Res → Option ((List Step) × (Int × Unit))) (g125 : Int → Int → (List Share) → Res → Int → (List (List Int)) → (List (List Step)) → Option (Int × Tab)) (g126 : (List Step) → Int → Int → Res → Option ((List Step) × (Int × Unit))) (x : s62.args.den) (h : denH s62.heap) : nrun [⟨103,s103,fun x h => g103 x.1⟩,⟨121,s121,fun x h => g121 x.1 x.2.1⟩,⟨122,s122,fun x h => g122 x.1 x.2.1 x.2.2.1⟩,⟨123,s123,fun x h => g123 x.1⟩,⟨124,s124,fun x h => g124 x.1 x.2.1⟩,⟨125,s125,fun x h => g125 x.2.1 x.2.2.1 x.2.2.2.1 x.2.2.2.2.1 h.1.1 h.2.1 h.2.2.1⟩,⟨126,s126,fun x h => g126 x.1 x.2.1 x.2.2.1 x.2.2.2.1⟩] L n62 s62 x h = F62 L g103 g121 g122 g123 g124 g125 g126 x.1 x.2.1 x.2.2.1 x.2.2.2.1 := by kernel_rfl
def f62 : Spec → Int → (List Run) → (List Booking) → Option Taf := F62 (@LN LOOPS) f103 f121 f122 f123 f124 f125 f126
@[reducible] def t62 : Ent := ⟨62,s62,fun x h => f62 x.1 x.2.1 x.2.2.1 x.2.2.2.1⟩
theorem k62 : chkNF Try.prog Try.f62 n62 = true := by kernel_rfl
theorem ok62 : NOk Try.prog t62 := NOk.body (T := [t103,t121,t122,t123,t124,t125,t126]) mixed (nall_cons ok103 (nall_cons ok121 (nall_cons ok122 (nall_cons ok123 (nall_cons ok124 (nall_cons ok125 (nall_cons ok126 nall_nil))))))) (oneEach_of (by kernel_rfl)) Try.func62 k62 (by kernel_rfl) (fun x h => e62 _ _ _ _ _ _ _ _ x h)
def s151 : Sig := ⟨(.cons (.slw 0 1) .nil),[.typed (.int .i64)],((.tup .nil),[.typed (.int .i64)]),[]⟩
def f151 : (List Int) → Option (Unit × ((List Int) × Unit)) := sortG
@[reducible] def t151 : Ent := ⟨151,s151,fun x h => f151 h.1⟩
theorem ok151 : NOk Try.prog t151 := ext151
def s171 : Sig := ⟨(.cons (.slw 0 1) .nil),[.typed (.int .i64)],((.slw 1 1),[.dead,.typed (.int .i64)]),[]⟩
def f171 : (List Int) → Option (Unit × (Unit × ((List Int) × Unit))) := compactG
@[reducible] def t171 : Ent := ⟨171,s171,fun x h => f171 h.1⟩
theorem ok171 : NOk Try.prog t171 := ext171
def n127 : NFunc := ⟨60,.seq (.region 0 [
 o1 4 (.move (.const (.zsl))) 0] []) (.seq (.seq (.region 0 [
 oM 10 0 0,
 o1 11 (.eqP false (tm 10) (.const (.nilp))) 0,
 oM 12 11 0,
 oN 13 1 12 0,
 o2 14 (.bin .lss (tm 13) (ki 0)) 12 0,
 o1 15 (.pick (tm 12) kt (tm 14)) 0,
 oM 16 15 0,
 oN 17 1 16 0,
 oN 18 0 16 0,
 o2 19 (.nilCheck (tm 18)) 16 0,
 o2 20 (.fieldAddr 1 (tm 19)) 16 0,
 o2 21 (.load false 1 (tm 20)) 16 0,
 o2 22 (.len (tm 21)) 16 0,
 o2 23 (.bin .geq (tm 17) (tm 22)) 16 0,
 o1 24 (.pick (tm 16) kt (tm 23)) 0] []) (.cond (tm 24) (.seq (.region 0 [
 o1 4 (.move (.const (.zsl))) 0] []) (.ret)) (.skip))) (.seq (.region 0 [
 o1 5 (.move (.const (.zsl))) 0] []) (.seq (.seq (.region 0 [
 oM 25 0 0,
 o1 26 (.nilCheck (tm 25)) 0,
 oF 27 1 26 0,
 oL 28 27 0,
 oM 29 1 0,
 o1 30 (.indexSl 1 (tm 28) (tm 29)) 0,
 oL 31 30 0,
 o1 32 (.len (tm 31)) 0,
 o1 33 (.move (ki 0)) 0] []) (.block 0 (.pre [0,5,31,32,33] [.mat 5 1 true] (.loop [0,5,31,32,33] ⟨[(0,(.ptr 0 0 0)),(5,(.slw 2 1)),(33,vI)],[31,32],[.cell false (.cons vI (.cons (.v (.list (.list (.int .i64)))) (.cons (.slw 1 1) .nil))),.typed (.list .step),.typed (.int .i64)]⟩ (.seq (.region 0 [
 oB 34 .lss 33 32 0] []) (.seq (.cond (tm 34) (.skip) (.exit 0)) (.seq (.block 1 (.seq (.region 0 [
 o1 35 (.indexSl 1 (tm 31) (tm 33)) 0,
 oL 36 35 0,
 oM 7 36 0] []) (.seq (.region 0 [
 oM 37 0 0,
 o1 38 (.nilCheck (tm 37)) 0,
 oF 39 2 38 0,
 oL 40 39 0,
 oM 41 7 0,
 o1 42 (.indexSl 1 (tm 40) (tm 41)) 0,
 oL 43 42 0,
 o1 44 (.len (tm 43)) 0,
 o1 45 (.move (ki 0)) 0] []) (.block 2 (.loop [0,5,31,32,33,43,44,45] ⟨[(0,(.ptr 0 0 0)),(5,(.slw 2 1)),(45,vI)],[31,32,33,43,44],[.cell false (.cons vI (.cons (.v (.list (.list (.int .i64)))) (.cons (.slw 1 1) .nil))),.typed (.list .step),.typed (.int .i64)]⟩ (.seq (.region 0 [
 oB 46 .lss 45 44 0] []) (.seq (.cond (tm 46) (.skip) (.exit 2)) (.seq (.block 3 (.seq (.region 1 [
 o1 47 (.indexSl 5 (tm 43) (tm 45)) 0,
 oT 48 5 47 0,
 o1 9 (.alloc [iz,iz,iz,iz,iz]) 0,
 oS 5 9 48 1] []) (.region 2 [
 oM 49 5 0,
 oF 50 0 9 0,
 oL 51 50 0,
 o1 52 (.buildSlice 1 1 true [iz] [(0,(tm 51))]) 0,
 o1 53 (.append 1 8 true (tm 49) (tm 52)) 1,
 oM 5 53 2] []))) (.region 0 [
 oC 54 .add 45 1 0,
 oM 45 54 0] []))))))))) (.region 0 [
 oC 55 .add 33 1 0,
 oM 33 55 0] [])))))))) (.seq (.region 4 [
 oM 56 5 0,
 o1 57 (.call (fc 151) [(vw 56)] false 4) 0] []) (.seq (.region 4 [
 oM 58 5 0,
 o1 59 (.call (fc 171) [(vw 58)] false 4) 0,
 oM 4 59 4] []) (.ret)))))),[.tmp 4],true⟩
def s127 : Sig := ⟨(.cons (.ptr 0 0 0) (.cons (.v (.int .i64)) .nil)),[.cell false (.cons (.v (.int .i64)) (.cons (.v (.list (.list (.int .i64)))) (.cons (.slw 1 1) .nil))),.typed (.list .step)],((.v (.list (.int .i64))),[.cell false (.cons (.v (.int .i64)) (.cons (.v (.list (.list (.int .i64)))) (.cons (.slw 1 1) .nil))),.typed (.list .step)]),[]⟩
def l127_0 (nx6 : (Taj → Option ((List Int) × Taa))) (z7 : Int) (y13 : (List Step)) (nx15 : Taj → Option ((List Int) × Taa)) (z16 : Int) (z17 : Int) (z18 : (List (List Int))) (z19 : (List (List Step))) (z20 : (List Int)) : Option ((List Int) × Taa) :=
 cond (decide (z16 < (List.length y13 : Int)))
 (cond (decide (0 ≤ z16))
 (Option.bind (y13[Int.toNat z16]?) fun y21 =>
 cond (smallB ((List.length z20) + 1) 8)
 (nx15 (((),(),IntKind.wrap .i64 (z16 + 1),()),((z17,z18,(),()),z19,z20 ++ [y21.at_],())))
 (none))
 (none))
 (nx6 (((),(),IntKind.wrap .i64 (z7 + 1),()),((z17,z18,(),()),z19,z20,())))
def l127_1 (L : Lp) (g151 : (List Int) → Option (Unit × ((List Int) × Unit))) (g171 : (List Int) → Option (Unit × (Unit × ((List Int) × Unit)))) (y4 : (List Int)) (nx6 : Taj → Option ((List Int) × Taa)) (z7 : Int) (z8 : Int) (z9 : (List (List Int))) (z10 : (List (List Step))) (z11 : (List Int)) : Option ((List Int) × Taa) :=
 cond (decide (z7 < (List.length y4 : Int)))
 (cond (decide (0 ≤ z7))
 (Option.bind (y4[Int.toNat z7]?) fun y12 =>
 cond (decide (0 ≤ y12))
 (cond (decide ((Int.toNat y12) < (List.length z10)))
 (Option.bind (z10[Int.toNat y12]?) fun y13 =>
 L (fun (s14 : Taj) nx15 => l127_0 nx6 z7 y13 nx15 s14.1.2.2.1 s14.2.1.1 s14.2.1.2.1 s14.2.2.1 s14.2.2.2.1) (((),(),0,()),((z8,z9,(),()),z10,z11,())))
 (none))
 (none))
 (none))
 (Option.bind (g151 z11) fun r22 =>
 cond ((decide ((List.length r22.2.1) = (List.length z11))) && true)
 (Option.bind (g171 r22.2.1) fun r23 =>
 some (r23.2.2.1,((z8,z9,(),()),z10,())))
 (none))
def F127 (L : Lp) (g151 : (List Int) → Option (Unit × ((List Int) × Unit))) (g171 : (List Int) → Option (Unit × (Unit × ((List Int) × Unit)))) (part0 : Int) (a1 : Int) (a2 : (List (List Int))) (a3 : (List (List Step))) : Option ((List Int) × Taa) :=
 cond (decide (part0 < 0))
 (some ([],((a1,a2,(),()),a3,())))
 (cond (decide ((List.length a2 : Int) ≤ part0))
 (some ([],((a1,a2,(),()),a3,())))
 (cond (decide (0 ≤ part0))
 (Option.bind (a2[Int.toNat part0]?) fun y4 =>
 L (fun (s5 : Taj) nx6 => l127_1 L g151 g171 y4 nx6 s5.1.2.2.1 s5.2.1.1 s5.2.1.2.1 s5.2.2.1 s5.2.2.2.1) (((),(),0,()),((a1,a2,(),()),a3,[],())))
 (none)))
theorem e127 (L : Lp) (g151 : (List Int) → Option (Unit × ((List Int) × Unit))) (g171 : (List Int) → Option (Unit × (Unit × ((List Int) × Unit)))) (x : s127.args.den) (h : denH s127.heap) : nrun [⟨151,s151,fun x h => g151 h.1⟩,⟨171,s171,fun x h => g171 h.1⟩] L n127 s127 x h = F127 L g151 g171 x.2.1 h.1.1 h.1.2.1 h.2.1 := by kernel_rfl
def f127 : Int → Int → (List (List Int)) → (List (List Step)) → Option ((List Int) × Taa) := F127 (@LN LOOPS) f151 f171
@[reducible] def t127 : Ent := ⟨127,s127,fun x h => f127 x.2.1 h.1.1 h.1.2.1 h.2.1⟩
theorem k127 : chkNF Try.prog Try.f127 n127 = true := by kernel_rfl
theorem ok127 : NOk Try.prog t127 := NOk.body (T := [t151,t171]) mixed (nall_cons ok151 (nall_cons ok171 nall_nil)) (oneEach_of (by kernel_rfl)) Try.func127 k127 (by kernel_rfl) (fun x h => e127 _ _ _ x h)
def n173 : NFunc := ⟨26,.seq (.region 3 [
 o1 2 (.box 4 (tm 0)) 0,
 o1 3 (.box 4 (tm 1)) 1,
 o1 4 (.alloc [iz,iz,iz,iz]) 2] []) (.seq (.region 0 [
 oF 5 0 2 0,
 oL 6 5 0,
 oF 7 0 3 0,
 oL 8 7 0,
 o1 9 (.minmax false (tm 6) (tm 8)) 0,
 oF 10 1 2 0,
 oL 11 10 0,
 oF 12 1 3 0,
 oL 13 12 0,
 o1 14 (.minmax false (tm 11) (tm 13)) 0,
 oF 15 2 2 0,
 oL 16 15 0,
 oF 17 2 3 0,
 oL 18 17 0,
 o1 19 (.minmax false (tm 16) (tm 18)) 0,
 oF 20 3 2 0,
 oL 21 20 0,
 oF 22 3 3 0,
 oL 23 22 0,
 o1 24 (.minmax false (tm 21) (tm 23)) 0,
 o1 25 (.build [iz,iz,iz,iz] [(0,1,(tm 9)),(1,1,(tm 14)),(2,1,(tm 19)),(3,1,(tm 24))]) 0,
 oS 4 4 25 0] []) (.ret)),[.cell true 4 4],true⟩
def s173 : Sig := ⟨(.cons (.v .res) (.cons (.v .res) .nil)),[],((.v .res),[]),[]⟩
def F173 (L : Lp)  (a0 : Res) (b1 : Res) : Option Res :=
 some (Res.mk (if b1.cpu < a0.cpu then b1.cpu else a0.cpu) (if b1.mem < a0.mem then b1.mem else a0.mem) (if b1.gpu < a0.gpu then b1.gpu else a0.gpu) (if b1.lic < a0.lic then b1.lic else a0.lic))
theorem e173 (L : Lp)  (x : s173.args.den) (h : denH s173.heap) : nrun [] L n173 s173 x h = F173 L  x.1 x.2.1 := by kernel_rfl
def f173 : Res → Res → Option Res := F173 (@LN LOOPS) 
@[reducible] def t173 : Ent := ⟨173,s173,fun x h => f173 x.1 x.2.1⟩
theorem k173 : chkNF Try.prog Try.f173 n173 = true := by kernel_rfl
theorem ok173 : NOk Try.prog t173 := NOk.body (T := []) mixed nall_nil (oneEach_of (by kernel_rfl)) Try.func173 k173 (by kernel_rfl) (fun x h => e173 _  x h)
def n128 : NFunc := ⟨55,.seq (.region 1 [
 o1 6 (.alloc [iz,iz,iz,iz]) 0] []) (.seq (.seq (.region 4 [
 oM 11 0 0,
 o1 12 (.call (fc 169) [(vv 11)] false 4) 0,
 o1 13 (.un .not (tm 12)) 4,
 oM 14 13 4,
 oN 15 1 14 4,
 oN 16 0 14 4,
 o2 17 (.indexSl 5 (tm 16) (ki 0)) 14 4,
 o2 18 (.fieldAddr 0 (tm 17)) 14 4,
 o2 19 (.load false 1 (tm 18)) 14 4,
 o2 20 (.bin .lss (tm 15) (tm 19)) 14 4,
 o1 21 (.pick (tm 14) kt (tm 20)) 4,
 oM 22 21 4,
 oN 23 2 22 4,
 oN 24 1 22 4,
 o2 25 (.bin .leq (tm 23) (tm 24)) 22 4,
 o1 26 (.pick (tm 22) kt (tm 25)) 4] []) (.cond (tm 26) (.seq (.region 0 [
 o1 27 (.build [iz,iz,iz,iz] []) 0,
 oS 4 6 27 0] []) (.ret)) (.skip))) (.seq (.region 4 [
 oM 28 0 0,
 oM 29 1 0,
 o1 30 (.call (fc 172) [(vv 28),(vv 29)] false 4) 0,
 oM 7 30 4] []) (.seq (.region 1 [
 oM 31 0 0,
 oM 32 7 0,
 o1 33 (.indexSl 5 (tm 31) (tm 32)) 0,
 oF 34 1 33 0,
 oT 35 4 34 0,
 o1 8 (.alloc [iz,iz,iz,iz]) 0,
 oS 4 8 35 1] []) (.seq (.seq (.region 0 [
 oM 36 0 0,
 oM 37 7 0,
 oC 38 .add 37 1 0,
 o1 39 (.slice 5 (tm 36) (some (tm 38)) none none) 0,
 o1 40 (.len (tm 39)) 0,
 o1 41 (.move (ki 0)) 0] []) (.block 0 (.loop [2,6,8,39,40,41] ⟨[(6,(.ptr 0 0 0)),(8,(.ptr 1 0 0)),(41,vI)],[2,39,40],[.one false .res,.one false .res]⟩ (.seq (.region 0 [
 oB 42 .lss 41 40 0] []) (.seq (.cond (tm 42) (.skip) (.exit 0)) (.seq (.block 1 (.seq (.region 1 [
 o1 43 (.indexSl 5 (tm 39) (tm 41)) 0,
 oT 44 5 43 0,
 o1 10 (.alloc [iz,iz,iz,iz,iz]) 0,
 oS 5 10 44 1] []) (.seq (.seq (.region 0 [
 oF 45 0 10 0,
 oL 46 45 0,
 oM 47 2 0,
 oB 48 .geq 46 47 0] []) (.cond (tm 48) (.exit 0) (.skip))) (.region 4 [
 oT 49 4 8 0,
 oF 50 1 10 0,
 oT 51 4 50 0,
 o1 52 (.call (fc 173) [(vv 49),(vv 51)] false 4) 0,
 oS 4 8 52 4] [])))) (.region 0 [
 oC 53 .add 41 1 0,
 oM 41 53 0] []))))))) (.seq (.region 0 [
 oT 54 4 8 0,
 oS 4 6 54 0] []) (.ret)))))),[.cell true 4 6],true⟩
def s128 : Sig := ⟨(.cons (.v (.list .step)) (.cons (.v (.int .i64)) (.cons (.v (.int .i64)) .nil))),[],((.v .res),[]),[]⟩
def l128_0 (g173 : Res → Res → Option Res) (al0 : (List Step)) (to2 : Int) (r5 : Int) (nx8 : ((Unit × (Unit × (Int × Unit))) × (Res × (Res × Unit))) → Option Res) (z9 : Int) (z10 : Res) (z11 : Res) : Option Res :=
 cond (decide (z9 < (List.length (List.drop (Int.toNat (IntKind.wrap .i64 (r5 + 1))) al0) : Int)))
 (cond (decide (0 ≤ z9))
 (Option.bind ((List.drop (Int.toNat (IntKind.wrap .i64 (r5 + 1))) al0)[Int.toNat z9]?) fun y12 =>
 cond (decide (to2 ≤ y12.at_))
 (some z11)
 (Option.bind (g173 z11 y12.free) fun r13 =>
 nx8 (((),(),IntKind.wrap .i64 (z9 + 1),()),(z10,r13,()))))
 (none))
 (some z11)
def F128 (L : Lp) (g169 : (List Step) → Option Bool) (g172 : (List Step) → Int → Option Int) (g173 : Res → Res → Option Res) (al0 : (List Step)) (from1 : Int) (to2 : Int) : Option Res :=
 Option.bind (g169 al0) fun r3 =>
 cond (!r3)
 (some (Res.mk 0 0 0 0))
 (Option.bind (al0[0]?) fun y4 =>
 cond (decide (from1 < y4.at_))
 (some (Res.mk 0 0 0 0))
 (cond (decide (to2 ≤ from1))
 (some (Res.mk 0 0 0 0))
 (Option.bind (g172 al0 from1) fun r5 =>
 cond (decide (0 ≤ r5))
 (Option.bind (al0[Int.toNat r5]?) fun y6 =>
 cond (decide (0 ≤ (IntKind.wrap .i64 (r5 + 1))))
 (cond (decide ((Int.toNat (IntKind.wrap .i64 (r5 + 1))) ≤ (List.length al0)))
 (L (fun (s7 : ((Unit × (Unit × (Int × Unit))) × (Res × (Res × Unit)))) nx8 => l128_0 g173 al0 to2 r5 nx8 s7.1.2.2.1 s7.2.1 s7.2.2.1) (((),(),0,()),(Res.mk 0 0 0 0,y6.free,())))
 (none))
 (none))
 (none))))
theorem e128 (L : Lp) (g169 : (List Step) → Option Bool) (g172 : (List Step) → Int → Option Int) (g173 : Res → Res → Option Res) (x : s128.args.den) (h : denH s128.heap) : nrun [⟨169,s169,fun x h => g169 x.1⟩,⟨172,s172,fun x h => g172 x.1 x.2.1⟩,⟨173,s173,fun x h => g173 x.1 x.2.1⟩] L n128 s128 x h = F128 L g169 g172 g173 x.1 x.2.1 x.2.2.1 := by kernel_rfl
def f128 : (List Step) → Int → Int → Option Res := F128 (@LN LOOPS) f169 f172 f173
@[reducible] def t128 : Ent := ⟨128,s128,fun x h => f128 x.1 x.2.1 x.2.2.1⟩
theorem k128 : chkNF Try.prog Try.f128 n128 = true := by kernel_rfl
theorem ok128 : NOk Try.prog t128 := NOk.body (T := [t169,t172,t173]) mixed (nall_cons ok169 (nall_cons ok172 (nall_cons ok173 nall_nil))) (oneEach_of (by kernel_rfl)) Try.func128 k128 (by kernel_rfl) (fun x h => e128 _ _ _ _ x h)
def n190 : NFunc := ⟨44,.seq (.region 2 [
 o1 2 (.box 4 (tm 0)) 0,
 o1 3 (.box 4 (tm 1)) 1,
 o1 4 (.move (ki 0)) 2] []) (.seq (.seq (.region 8 [
 oT 9 4 2 0,
 o1 10 (.call (fc 108) [(vv 9)] false 4) 0,
 o1 11 (.un .not (tm 10)) 4,
 oM 12 11 4,
 o2 13 (.load true 4 (tm 3)) 12 4,
 o2 14 (.call (fc 108) [(vv 13)] false 4) 12 4,
 o2 15 (.un .not (tm 14)) 12 8,
 o1 16 (.pick (tm 12) kt (tm 15)) 8,
 oM 17 16 8,
 o2 18 (.load true 4 (tm 3)) 17 8,
 o2 19 (.build [iz,iz,iz,iz] []) 17 8,
 o2 20 (.eqAgg (false,[.int .i64,.int .i64,.int .i64,.int .i64]) (tm 18) (tm 19)) 17 8,
 o1 21 (.pick (tm 17) kt (tm 20)) 8] []) (.cond (tm 21) (.seq (.region 0 [
 o1 4 (.move (ki 0)) 0] []) (.ret)) (.skip))) (.seq (.region 0 [
 o1 5 (.move (ki 64)) 0] []) (.seq (.region 10 [
 o4 22 (.load true 4 (tm 2)) 0 [],
 o4 23 (.call (fc 160) [(vv 22)] true 4) 0 [],
 o4 24 (.load true 4 (tm 3)) 4 [],
 o4 25 (.call (fc 160) [(vv 24)] true 4) 4 [0,1,2,3],
 o4 6 (.alloc [iz,iz,iz,iz]) 8 [],
 o4 7 (.alloc [iz,iz,iz,iz]) 9 [],
 ⟨none,.store 4 (tm 6) (tm 23),none,10,(some ([0,1,2,3,4,5,6,7,8,9],none))⟩,
 ⟨none,.store 4 (tm 7) (tm 25),none,10,(some ([0,1,2,3,4,5,6,7,8,9],none))⟩] []) (.seq (.seq (.region 0 [
 o1 26 (.move (ki 0)) 0] []) (.block 0 (.loop [5,6,7,26] ⟨[(5,vI),(6,(.ptr 0 0 0)),(7,(.ptr 1 0 0)),(26,vI)],[],[.one false (.pair (.int .i64) (.pair (.int .i64) (.pair (.int .i64) (.int .i64)))),.one false (.pair (.int .i64) (.pair (.int .i64) (.pair (.int .i64) (.int .i64))))]⟩ (.seq (.region 0 [
 oC 27 .lss 26 4 0] []) (.seq (.cond (tm 27) (.skip) (.exit 0)) (.seq (.meet [5,6,7,26] [] ⟨[(5,vI),(6,(.ptr 0 0 0)),(7,(.ptr 1 0 0))],[26],[.one false (.pair (.int .i64) (.pair (.int .i64) (.pair (.int .i64) (.int .i64)))),.one false (.pair (.int .i64) (.pair (.int .i64) (.pair (.int .i64) (.int .i64))))]⟩ (.block 1 (.seq (.region 0 [
 oM 28 26 0,
 oM 8 28 0] []) (.seq (.meet [6,7,26,8,5,32] [] ⟨[(6,(.ptr 0 0 0)),(7,(.ptr 1 0 0)),(32,(.v .bool))],[5,8,26],[.one false (.pair (.int .i64) (.pair (.int .i64) (.pair (.int .i64) (.int .i64)))),.one false (.pair (.int .i64) (.pair (.int .i64) (.pair (.int .i64) (.int .i64))))]⟩ (.region 0 [
 oM 29 8 0,
 o1 30 (.indexArr 4 1 (tm 7) (tm 29)) 0,
 oL 31 30 0,
 oC 32 .gtr 31 0 0] [⟨30,none,some (29,4)⟩])) (.cond (tm 32) (.region 0 [
 o4 33 (.move (tm 5)) 0 [],
 o4 34 (.move (tm 8)) 0 [],
 o4 35 (.indexArr 4 1 (tm 6) (tm 34)) 0 [],
 o4 36 (.load false 1 (tm 35)) 0 [],
 o4 37 (.move (tm 8)) 0 [],
 o4 38 (.indexArr 4 1 (tm 7) (tm 37)) 0 [],
 o4 39 (.load false 1 (tm 38)) 0 [],
 o4 40 (.bin .quo (tm 36) (tm 39)) 0 [],
 o4 41 (.minmax false (tm 33) (tm 40)) 0 [],
 o4 5 (.move (tm 41)) 0 []] [⟨35,none,some (34,4)⟩,⟨38,none,some (37,4)⟩]) (.skip)))))) (.region 0 [
 oC 42 .add 26 1 0,
 oM 26 42 0] []))))))) (.seq (.region 0 [
 oM 43 5 0,
 oM 4 43 0] []) (.ret)))))),[.tmp 4],true⟩
def s190 : Sig := ⟨(.cons (.v .res) (.cons (.v .res) .nil)),[],((.v (.int .i64)),[]),[]⟩
def l190_0  (nx7 : ((Int × (Unit × (Unit × (Int × Unit)))) × Tao) → Option Int) (zn8 : Int) (z9 : Int) (z10 : (Int × (Int × (Int × Int)))) (z11 : (Int × (Int × (Int × Int)))) : Option Int :=
 cond (decide (z9 < 4))
 (Option.bind (α := ((Int × (Unit × (Unit × Unit))) × Tao))
 (Option.bind (α := ((Unit × (Unit × (Bool × Unit))) × Tao))
 (cond (decide (z9 = 3))
 (some (((),(),decide (0 < z11.2.2.2),()),(z10,z11,())))
 (cond (decide (z9 = 2))
 (some (((),(),decide (0 < z11.2.2.1),()),(z10,z11,())))
 (cond (decide (z9 = 1))
 (some (((),(),decide (0 < z11.2.1),()),(z10,z11,())))
 (cond (decide (z9 = 0))
 (some (((),(),decide (0 < z11.1),()),(z10,z11,())))
 (none))))) fun x12 =>
 cond x12.1.2.2.1
 (cond (decide (z9 = 3))
 (cond (decide (z9 = 3))
 (cond (decide (x12.2.2.1.2.2.2 = 0))
 (none)
 (let v13 := if (IntKind.wrap .i64 (Int.tdiv x12.2.1.2.2.2 x12.2.2.1.2.2.2)) < zn8 then (IntKind.wrap .i64 (Int.tdiv x12.2.1.2.2.2 x12.2.2.1.2.2.2)) else zn8
 some ((v13,(),(),()),(x12.2.1,x12.2.2.1,()))))
 (cond (decide (z9 = 2))
 (cond (decide (x12.2.2.1.2.2.1 = 0))
 (none)
 (let v14 := if (IntKind.wrap .i64 (Int.tdiv x12.2.1.2.2.2 x12.2.2.1.2.2.1)) < zn8 then (IntKind.wrap .i64 (Int.tdiv x12.2.1.2.2.2 x12.2.2.1.2.2.1)) else zn8
 some ((v14,(),(),()),(x12.2.1,x12.2.2.1,()))))
 (cond (decide (z9 = 1))
 (cond (decide (x12.2.2.1.2.1 = 0))
 (none)
 (let v15 := if (IntKind.wrap .i64 (Int.tdiv x12.2.1.2.2.2 x12.2.2.1.2.1)) < zn8 then (IntKind.wrap .i64 (Int.tdiv x12.2.1.2.2.2 x12.2.2.1.2.1)) else zn8
 some ((v15,(),(),()),(x12.2.1,x12.2.2.1,()))))
 (cond (decide (z9 = 0))
 (cond (decide (x12.2.2.1.1 = 0))
 (none)
 (let v16 := if (IntKind.wrap .i64 (Int.tdiv x12.2.1.2.2.2 x12.2.2.1.1)) < zn8 then (IntKind.wrap .i64 (Int.tdiv x12.2.1.2.2.2 x12.2.2.1.1)) else zn8
 some ((v16,(),(),()),(x12.2.1,x12.2.2.1,()))))
 (none)))))
 (cond (decide (z9 = 2))
 (cond (decide (z9 = 3))
 (cond (decide (x12.2.2.1.2.2.2 = 0))
 (none)
 (let v17 := if (IntKind.wrap .i64 (Int.tdiv x12.2.1.2.2.1 x12.2.2.1.2.2.2)) < zn8 then (IntKind.wrap .i64 (Int.tdiv x12.2.1.2.2.1 x12.2.2.1.2.2.2)) else zn8
 some ((v17,(),(),()),(x12.2.1,x12.2.2.1,()))))
 (cond (decide (z9 = 2))
 (cond (decide (x12.2.2.1.2.2.1 = 0))
 (none)
 (let v18 := if (IntKind.wrap .i64 (Int.tdiv x12.2.1.2.2.1 x12.2.2.1.2.2.1)) < zn8 then (IntKind.wrap .i64 (Int.tdiv x12.2.1.2.2.1 x12.2.2.1.2.2.1)) else zn8
 some ((v18,(),(),()),(x12.2.1,x12.2.2.1,()))))
 (cond (decide (z9 = 1))
 (cond (decide (x12.2.2.1.2.1 = 0))
 (none)
 (let v19 := if (IntKind.wrap .i64 (Int.tdiv x12.2.1.2.2.1 x12.2.2.1.2.1)) < zn8 then (IntKind.wrap .i64 (Int.tdiv x12.2.1.2.2.1 x12.2.2.1.2.1)) else zn8
 some ((v19,(),(),()),(x12.2.1,x12.2.2.1,()))))
 (cond (decide (z9 = 0))
 (cond (decide (x12.2.2.1.1 = 0))
 (none)
 (let v20 := if (IntKind.wrap .i64 (Int.tdiv x12.2.1.2.2.1 x12.2.2.1.1)) < zn8 then (IntKind.wrap .i64 (Int.tdiv x12.2.1.2.2.1 x12.2.2.1.1)) else zn8
 some ((v20,(),(),()),(x12.2.1,x12.2.2.1,()))))
 (none)))))
 (cond (decide (z9 = 1))
 (cond (decide (z9 = 3))
 (cond (decide (x12.2.2.1.2.2.2 = 0))
 (none)
 (let v21 := if (IntKind.wrap .i64 (Int.tdiv x12.2.1.2.1 x12.2.2.1.2.2.2)) < zn8 then (IntKind.wrap .i64 (Int.tdiv x12.2.1.2.1 x12.2.2.1.2.2.2)) else zn8
 some ((v21,(),(),()),(x12.2.1,x12.2.2.1,()))))
 (cond (decide (z9 = 2))
 (cond (decide (x12.2.2.1.2.2.1 = 0))
 (none)
 (let v22 := if (IntKind.wrap .i64 (Int.tdiv x12.2.1.2.1 x12.2.2.1.2.2.1)) < zn8 then (IntKind.wrap .i64 (Int.tdiv x12.2.1.2.1 x12.2.2.1.2.2.1)) else zn8
 some ((v22,(),(),()),(x12.2.1,x12.2.2.1,()))))
 (cond (decide (z9 = 1))
 (cond (decide (x12.2.2.1.2.1 = 0))
 (none)
 (let v23 := if (IntKind.wrap .i64 (Int.tdiv x12.2.1.2.1 x12.2.2.1.2.1)) < zn8 then (IntKind.wrap .i64 (Int.tdiv x12.2.1.2.1 x12.2.2.1.2.1)) else zn8
 some ((v23,(),(),()),(x12.2.1,x12.2.2.1,()))))
 (cond (decide (z9 = 0))
 (cond (decide (x12.2.2.1.1 = 0))
 (none)
 (let v24 := if (IntKind.wrap .i64 (Int.tdiv x12.2.1.2.1 x12.2.2.1.1)) < zn8 then (IntKind.wrap .i64 (Int.tdiv x12.2.1.2.1 x12.2.2.1.1)) else zn8
 some ((v24,(),(),()),(x12.2.1,x12.2.2.1,()))))
 (none)))))
 (cond (decide (z9 = 0))
 (cond (decide (z9 = 3))
 (cond (decide (x12.2.2.1.2.2.2 = 0))
 (none)
 (let v25 := if (IntKind.wrap .i64 (Int.tdiv x12.2.1.1 x12.2.2.1.2.2.2)) < zn8 then (IntKind.wrap .i64 (Int.tdiv x12.2.1.1 x12.2.2.1.2.2.2)) else zn8
 some ((v25,(),(),()),(x12.2.1,x12.2.2.1,()))))
 (cond (decide (z9 = 2))
 (cond (decide (x12.2.2.1.2.2.1 = 0))
 (none)
 (let v26 := if (IntKind.wrap .i64 (Int.tdiv x12.2.1.1 x12.2.2.1.2.2.1)) < zn8 then (IntKind.wrap .i64 (Int.tdiv x12.2.1.1 x12.2.2.1.2.2.1)) else zn8
 some ((v26,(),(),()),(x12.2.1,x12.2.2.1,()))))
 (cond (decide (z9 = 1))
 (cond (decide (x12.2.2.1.2.1 = 0))
 (none)
 (let v27 := if (IntKind.wrap .i64 (Int.tdiv x12.2.1.1 x12.2.2.1.2.1)) < zn8 then (IntKind.wrap .i64 (Int.tdiv x12.2.1.1 x12.2.2.1.2.1)) else zn8
 some ((v27,(),(),()),(x12.2.1,x12.2.2.1,()))))
 (cond (decide (z9 = 0))
 (cond (decide (x12.2.2.1.1 = 0))
 (none)
 (let v28 := if (IntKind.wrap .i64 (Int.tdiv x12.2.1.1 x12.2.2.1.1)) < zn8 then (IntKind.wrap .i64 (Int.tdiv x12.2.1.1 x12.2.2.1.1)) else zn8
 some ((v28,(),(),()),(x12.2.1,x12.2.2.1,()))))
 (none)))))
 (none)))))
 (some ((zn8,(),(),()),(x12.2.1,x12.2.2.1,())))) fun x29 =>
 nx7 ((x29.1.1,(),(),IntKind.wrap .i64 (z9 + 1),()),(x29.2.1,x29.2.2.1,())))
 (some zn8)
def F190 (L : Lp) (g108 : Res → Option Bool) (g160 : Res → Option (Int × (Int × (Int × Int)))) (free0 : Res) (need1 : Res) : Option Int :=
 Option.bind (g108 free0) fun r2 =>
 cond (!r2)
 (some 0)
 (Option.bind (g108 need1) fun r3 =>
 cond (!r3)
 (some 0)
 (cond ((decide (need1.cpu = 0)) && ((decide (need1.mem = 0)) && ((decide (need1.gpu = 0)) && ((decide (need1.lic = 0)) && true))))
 (some 0)
 (Option.bind (g160 free0) fun r4 =>
 Option.bind (g160 need1) fun r5 =>
 L (fun (s6 : ((Int × (Unit × (Unit × (Int × Unit)))) × Tao)) nx7 => l190_0 nx7 s6.1.1 s6.1.2.2.2.1 s6.2.1 s6.2.2.1) ((64,(),(),0,()),(r4,r5,())))))
theorem e190 (L : Lp) (g108 : Res → Option Bool) (g160 : Res → Option (Int × (Int × (Int × Int)))) (x : s190.args.den) (h : denH s190.heap) : nrun [⟨108,s108,fun x h => g108 x.1⟩,⟨160,s160,fun x h => g160 x.1⟩] L n190 s190 x h = F190 L g108 g160 x.1 x.2.1 := by kernel_rfl
def f190 : Res → Res → Option Int := F190 (@LN LOOPS) f108 f160
@[reducible] def t190 : Ent := ⟨190,s190,fun x h => f190 x.1 x.2.1⟩
theorem k190 : chkNF Try.prog Try.f190 n190 = true := by kernel_rfl
theorem ok190 : NOk Try.prog t190 := NOk.body (T := [t108,t160]) mixed (nall_cons ok108 (nall_cons ok160 nall_nil)) (oneEach_of (by kernel_rfl)) Try.func190 k190 (by kernel_rfl) (fun x h => e190 _ _ _ x h)
def n175 : NFunc := ⟨21,.seq (.region 1 [
 o1 5 (.box 4 (tm 2)) 0,
 o1 6 (.move (ki 0)) 1] []) (.seq (.seq (.region 0 [
 oM 7 1 0,
 oC 8 .lss 7 0 0,
 oM 9 8 0,
 oN 10 1 9 0,
 oN 11 0 9 0,
 o2 12 (.len (tm 11)) 9 0,
 o2 13 (.bin .geq (tm 10) (tm 12)) 9 0,
 o1 14 (.pick (tm 9) kt (tm 13)) 0] []) (.cond (tm 14) (.seq (.region 0 [
 o1 6 (.move (ki 0)) 0] []) (.ret)) (.skip))) (.seq (.region 4 [
 o4 15 (.move (tm 0)) 0 [],
 o4 16 (.move (tm 1)) 0 [],
 o4 17 (.indexSl 4 (tm 15) (tm 16)) 0 [],
 o4 18 (.load true 4 (tm 17)) 0 [],
 o4 19 (.load true 4 (tm 5)) 0 [],
 o4 20 (.call (fc 190) [(vv 18),(vv 19)] false 4) 0 [],
 o4 6 (.move (tm 20)) 4 [0,1,2,3]] []) (.ret))),[.tmp 6],true⟩
def s175 : Sig := ⟨(.cons (.v (.list .res)) (.cons (.v (.int .i64)) (.cons (.v .res) .nil))),[],((.v (.int .i64)),[]),[]⟩
def F175 (L : Lp) (g190 : Res → Res → Option Int) (free0 : (List Res)) (node1 : Int) (need2 : Res) : Option Int :=
 cond (decide (node1 < 0))
 (some 0)
 (cond (decide ((List.length free0 : Int) ≤ node1))
 (some 0)
 (cond (decide (0 ≤ node1))
 (Option.bind (free0[Int.toNat node1]?) fun y3 =>
 Option.bind (g190 y3 need2) fun r4 =>
 some r4)
 (none)))
theorem e175 (L : Lp) (g190 : Res → Res → Option Int) (x : s175.args.den) (h : denH s175.heap) : nrun [⟨190,s190,fun x h => g190 x.1 x.2.1⟩] L n175 s175 x h = F175 L g190 x.1 x.2.1 x.2.2.1 := by kernel_rfl
def f175 : (List Res) → Int → Res → Option Int := F175 (@LN LOOPS) f190
@[reducible] def t175 : Ent := ⟨175,s175,fun x h => f175 x.1 x.2.1 x.2.2.1⟩
theorem k175 : chkNF Try.prog Try.f175 n175 = true := by kernel_rfl
theorem ok175 : NOk Try.prog t175 := NOk.body (T := [t190]) mixed (nall_cons ok190 nall_nil) (oneEach_of (by kernel_rfl)) Try.func175 k175 (by kernel_rfl) (fun x h => e175 _ _ x h)
def n174 : NFunc := ⟨24,.seq (.region 1 [
 o1 5 (.box 4 (tm 2)) 0,
 o1 6 (.move (ki 0)) 1] []) (.seq (.region 0 [
 o1 7 (.move (ki 0)) 0] []) (.seq (.seq (.region 0 [
 oM 10 1 0,
 o1 11 (.len (tm 10)) 0,
 o1 12 (.move (ki 0)) 0] []) (.block 0 (.loop [0,5,7,10,11,12] ⟨[(5,(.ptr 0 0 0)),(7,vI),(12,vI)],[0,10,11],[.one false .res]⟩ (.seq (.region 0 [
 oB 13 .lss 12 11 0] []) (.seq (.cond (tm 13) (.skip) (.exit 0)) (.seq (.block 1 (.seq (.region 0 [
 o1 14 (.indexSl 1 (tm 10) (tm 12)) 0,
 oL 15 14 0,
 oM 9 15 0] []) (.region 4 [
 oM 16 7 0,
 oM 17 0 0,
 oM 18 9 0,
 oT 19 4 5 0,
 o1 20 (.call (fc 175) [(vv 17),(vv 18),(vv 19)] false 4) 0,
 oB 21 .add 16 20 4,
 oM 7 21 4] []))) (.region 0 [
 oC 22 .add 12 1 0,
 oM 12 22 0] []))))))) (.seq (.region 0 [
 oM 23 7 0,
 oM 6 23 0] []) (.ret)))),[.tmp 6],true⟩
def s174 : Sig := ⟨(.cons (.v (.list .res)) (.cons (.v (.list (.int .i64))) (.cons (.v .res) .nil))),[],((.v (.int .i64)),[]),[]⟩
def l174_0 (g175 : (List Res) → Int → Res → Option Int) (free0 : (List Res)) (part1 : (List Int)) (nx4 : ((Unit × (Int × (Int × Unit))) × (Res × Unit)) → Option Int) (room5 : Int) (z6 : Int) (z7 : Res) : Option Int :=
 cond (decide (z6 < (List.length part1 : Int)))
 (cond (decide (0 ≤ z6))
 (Option.bind (part1[Int.toNat z6]?) fun y8 =>
 Option.bind (g175 free0 y8 z7) fun r9 =>
 nx4 (((),IntKind.wrap .i64 (room5 + r9),IntKind.wrap .i64 (z6 + 1),()),(z7,())))
 (none))
 (some room5)
def F174 (L : Lp) (g175 : (List Res) → Int → Res → Option Int) (free0 : (List Res)) (part1 : (List Int)) (need2 : Res) : Option Int :=
 L (fun (s3 : ((Unit × (Int × (Int × Unit))) × (Res × Unit))) nx4 => l174_0 g175 free0 part1 nx4 s3.1.2.1 s3.1.2.2.1 s3.2.1) (((),0,0,()),(need2,()))
theorem e174 (L : Lp) (g175 : (List Res) → Int → Res → Option Int) (x : s174.args.den) (h : denH s174.heap) : nrun [⟨175,s175,fun x h => g175 x.1 x.2.1 x.2.2.1⟩] L n174 s174 x h = F174 L g175 x.1 x.2.1 x.2.2.1 := by kernel_rfl
def f174 : (List Res) → (List Int) → Res → Option Int := F174 (@LN LOOPS) f175
@[reducible] def t174 : Ent := ⟨174,s174,fun x h => f174 x.1 x.2.1 x.2.2.1⟩
theorem k174 : chkNF Try.prog Try.f174 n174 = true := by kernel_rfl
theorem ok174 : NOk Try.prog t174 := NOk.body (T := [t175]) mixed (nall_cons ok175 nall_nil) (oneEach_of (by kernel_rfl)) Try.func174 k174 (by kernel_rfl) (fun x h => e174 _ _ x h)
def n129 : NFunc := ⟨55,.seq (.region 1 [
 o1 7 (.box 4 (tm 3)) 0,
 o1 8 (.move (.const (.zsl))) 1,
 o1 9 (.move kf) 1] []) (.scope 0 [0,1,7,10,11] ⟨[],[],[]⟩ (.seq (.skip) (.seq (.seq (.region 0 [
 oM 26 1 0,
 o1 27 (.len (tm 26)) 0,
 o1 28 (.move (ki 0)) 0] []) (.block 0 (.loopU [0,7,10,11,26,27,28] 0 (.seq (.region 0 [
 oB 29 .lss 28 27 0] []) (.seq (.cond (tm 29) (.skip) (.exit 0)) (.seq (.block 1 (.seq (.region 0 [
 o1 30 (.indexSl 1 (tm 26) (tm 28)) 0,
 oL 31 30 0,
 oM 13 31 0] []) (.seq (.region 4 [
 oM 32 0 0,
 oM 33 13 0,
 oT 34 4 7 0,
 o1 35 (.call (fc 175) [(vv 32),(vv 33),(vv 34)] false 4) 0,
 oM 36 11 4,
 o1 37 (.minmax false (tm 35) (tm 36)) 4,
 oM 14 37 4] []) (.seq (.block 2 (.seq (.region 0 [
 oM 39 11 0,
 oC 40 .eql 39 0 0,
 oM 38 40 0] []) (.cond (tm 38) (.exit 0) (.seq (.region 0 [
 oM 42 14 0,
 oC 43 .eql 42 0 0,
 oM 41 43 0] []) (.cond (tm 41) (.exit 1) (.skip)))))) (.seq (.region 2 [
 oM 44 10 0,
 oM 45 13 0,
 oM 46 14 0,
 o1 47 (.build [iz,iz] [(0,1,(tm 45)),(1,1,(tm 46))]) 0,
 o1 48 (.buildSlice 2 1 true [iz,iz] [(0,(tm 47))]) 0,
 o1 49 (.append 2 16 true (tm 44) (tm 48)) 1,
 oM 10 49 2] []) (.region 0 [
 oM 50 11 0,
 oM 51 14 0,
 oB 52 .sub 50 51 0,
 oM 11 52 0] [])))))) (.region 0 [
 oC 53 .add 28 1 0,
 oM 28 53 0] []))))))) (.seq (.region 0 [
 oM 54 10 0,
 oM 8 54 0,
 o1 9 (.move kt) 0] []) (.ret)))) (.seq (.seq (.region 4 [
 oM 15 2 0,
 oC 16 .lss 15 1 0,
 oM 17 16 0,
 oN 18 0 17 0,
 oN 19 1 17 0,
 o2 20 (.load true 4 (tm 7)) 17 0,
 o2 21 (.call (fc 174) [(vv 18),(vv 19),(vv 20)] false 4) 17 0,
 oN 22 2 17 4,
 o2 23 (.bin .lss (tm 21) (tm 22)) 17 4,
 o1 24 (.pick (tm 17) kt (tm 23)) 4] []) (.cond (tm 24) (.seq (.region 0 [
 o1 8 (.move (.const (.zsl))) 0,
 o1 9 (.move kf) 0] []) (.ret)) (.skip))) (.seq (.region 0 [
 o1 10 (.move (.const (.zsl))) 0] []) (.seq (.region 0 [
 oM 25 2 0,
 oM 11 25 0] []) (.seq (.label) (.seq (.seq (.region 0 [
 oM 26 1 0,
 o1 27 (.len (tm 26)) 0,
 o1 28 (.move (ki 0)) 0] []) (.block 0 (.pre [0,7,10,11,26,27,28] [.mat 10 2 true] (.loop [0,7,10,11,26,27,28] ⟨[(7,(.ptr 0 0 0)),(10,(.slw 1 2)),(11,vI),(28,vI)],[0,26,27],[.one false .res,.typed .share]⟩ (.seq (.region 0 [
 oB 29 .lss 28 27 0] []) (.seq (.cond (tm 29) (.skip) (.exit 0)) (.seq (.block 1 (.seq (.region 0 [
 o1 30 (.indexSl 1 (tm 26) (tm 28)) 0,
 oL 31 30 0,
 oM 13 31 0] []) (.seq (.region 4 [
 oM 32 0 0,
 oM 33 13 0,
 oT 34 4 7 0,
 o1 35 (.call (fc 175) [(vv 32),(vv 33),(vv 34)] false 4) 0,
 oM 36 11 4,
 o1 37 (.minmax false (tm 35) (tm 36)) 4,
 oM 14 37 4] []) (.seq (.block 2 (.seq (.region 0 [
 oM 39 11 0,
 oC 40 .eql 39 0 0,
 oM 38 40 0] []) (.cond (tm 38) (.exit 0) (.seq (.region 0 [
 oM 42 14 0,
 oC 43 .eql 42 0 0,
 oM 41 43 0] []) (.cond (tm 41) (.exit 1) (.skip)))))) (.seq (.region 2 [
 oM 44 10 0,
 oM 45 13 0,
 oM 46 14 0,
 o1 47 (.build [iz,iz] [(0,1,(tm 45)),(1,1,(tm 46))]) 0,
 o1 48 (.buildSlice 2 1 true [iz,iz] [(0,(tm 47))]) 0,
 o1 49 (.append 2 16 true (tm 44) (tm 48)) 1,
 oM 10 49 2] []) (.region 0 [
 oM 50 11 0,
 oM 51 14 0,
 oB 52 .sub 50 51 0,
 oM 11 52 0] [])))))) (.region 0 [
 oC 53 .add 28 1 0,
 oM 28 53 0] [])))))))) (.seq (.region 0 [
 oM 54 10 0,
 oM 8 54 0,
 o1 9 (.move kt) 0] []) (.ret)))))))),[.tmp 8,.tmp 9],true⟩
def s129 : Sig := ⟨(.cons (.v (.list .res)) (.cons (.v (.list (.int .i64))) (.cons (.v (.int .i64)) (.cons (.v .res) .nil)))),[],((.tup (.cons (.v (.list .share)) (.cons (.v .bool) .nil))),[]),[]⟩
def l129_0 (g175 : (List Res) → Int → Res → Option Int) (free0 : (List Res)) (part1 : (List Int)) (nx6 : ((Unit × (Unit × (Int × (Int × Unit)))) × (Res × ((List Share) × Unit))) → Option ((List Share) × (Bool × Unit))) (left7 : Int) (z8 : Int) (z9 : Res) (z10 : (List Share)) : Option ((List Share) × (Bool × Unit)) :=
 cond (decide (z8 < (List.length part1 : Int)))
 (cond (decide (0 ≤ z8))
 (Option.bind (part1[Int.toNat z8]?) fun y11 =>
 Option.bind (g175 free0 y11 z9) fun r12 =>
 cond (decide (left7 = 0))
 (some (z10,true,()))
 (cond (decide ((if left7 < r12 then left7 else r12) = 0))
 (nx6 (((),(),left7,IntKind.wrap .i64 (z8 + 1),()),(z9,z10,())))
 (cond (smallB ((List.length z10) + 1) 16)
 (nx6 (((),(),IntKind.wrap .i64 (left7 - (if left7 < r12 then left7 else r12)),IntKind.wrap .i64 (z8 + 1),()),(z9,z10 ++ [Share.mk y11 (if left7 < r12 then left7 else r12)],())))
 (none))))
 (none))
 (some (z10,true,()))
def F129 (L : Lp) (g174 : (List Res) → (List Int) → Res → Option Int) (g175 : (List Res) → Int → Res → Option Int) (free0 : (List Res)) (part1 : (List Int)) (many2 : Int) (need3 : Res) : Option ((List Share) × (Bool × Unit)) :=
 cond (decide (many2 < 1))
 (some ([],false,()))
 (Option.bind (g174 free0 part1 need3) fun r4 =>
 cond (decide (r4 < many2))
 (some ([],false,()))
 (L (fun (s5 : ((Unit × (Unit × (Int × (Int × Unit)))) × (Res × ((List Share) × Unit)))) nx6 => l129_0 g175 free0 part1 nx6 s5.1.2.2.1 s5.1.2.2.2.1 s5.2.1 s5.2.2.1) (((),(),many2,0,()),(need3,[],()))))
theorem e129 (L : Lp) (g174 : (List Res) → (List Int) → Res → Option Int) (g175 : (List Res) → Int → Res → Option Int) (x : s129.args.den) (h : denH s129.heap) : nrun [⟨174,s174,fun x h => g174 x.1 x.2.1 x.2.2.1⟩,⟨175,s175,fun x h => g175 x.1 x.2.1 x.2.2.1⟩] L n129 s129 x h = F129 L g174 g175 x.1 x.2.1 x.2.2.1 x.2.2.2.1 := by kernel_rfl
def f129 : (List Res) → (List Int) → Int → Res → Option ((List Share) × (Bool × Unit)) := F129 (@LN LOOPS) f174 f175
@[reducible] def t129 : Ent := ⟨129,s129,fun x h => f129 x.1 x.2.1 x.2.2.1 x.2.2.2.1⟩
theorem k129 : chkNF Try.prog Try.f129 n129 = true := by kernel_rfl
theorem ok129 : NOk Try.prog t129 := NOk.body (T := [t174,t175]) mixed (nall_cons ok174 (nall_cons ok175 nall_nil)) (oneEach_of (by kernel_rfl)) Try.func129 k129 (by kernel_rfl) (fun x h => e129 _ _ _ x h)
def n64 : NFunc := ⟨99,.seq (.region 1 [
 o1 9 (.box 4 (tm 3)) 0,
 o1 12 (.move (.const (.zsl))) 1,
 o1 13 (.move kf) 1] []) (.seq (.seq (.region 0 [
 oM 17 0 0,
 o1 18 (.eqP false (tm 17) (.const (.nilp))) 0,
 oM 19 18 0,
 oN 20 1 19 0,
 o2 21 (.bin .lss (tm 20) (ki 0)) 19 0,
 o1 22 (.pick (tm 19) kt (tm 21)) 0,
 oM 23 22 0,
 oN 24 1 23 0,
 oN 25 0 23 0,
 o2 26 (.nilCheck (tm 25)) 23 0,
 o2 27 (.fieldAddr 1 (tm 26)) 23 0,
 o2 28 (.load false 1 (tm 27)) 23 0,
 o2 29 (.len (tm 28)) 23 0,
 o2 30 (.bin .geq (tm 24) (tm 29)) 23 0,
 o1 31 (.pick (tm 23) kt (tm 30)) 0,
 oM 32 31 0,
 oN 33 4 32 0,
 o2 34 (.bin .lss (tm 33) (ki 1)) 32 0,
 o1 35 (.pick (tm 32) kt (tm 34)) 0,
 oM 36 35 0,
 oN 37 4 36 0,
 o2 38 (.bin .gtr (tm 37) (ki 65536)) 36 0,
 o1 39 (.pick (tm 36) kt (tm 38)) 0,
 oM 40 39 0,
 oN 41 5 40 0,
 oN 42 0 40 0,
 o2 43 (.nilCheck (tm 42)) 40 0,
 o2 44 (.fieldAddr 0 (tm 43)) 40 0,
 o2 45 (.load false 1 (tm 44)) 40 0,
 o2 46 (.bin .lss (tm 41) (tm 45)) 40 0,
 o1 47 (.pick (tm 40) kt (tm 46)) 0,
 oM 48 47 0,
 oN 49 5 48 0,
 o2 50 (.bin .gtr (tm 49) (ki 1099511627776)) 48 0,
 o1 51 (.pick (tm 48) kt (tm 50)) 0] []) (.cond (tm 51) (.seq (.region 0 [
 o1 12 (.move (.const (.zsl))) 0,
 o1 13 (.move kf) 0] []) (.ret)) (.skip))) (.seq (.region 1 [
 oM 52 0 0,
 o1 53 (.nilCheck (tm 52)) 0,
 oF 54 2 53 0,
 oL 55 54 0,
 o1 56 (.len (tm 55)) 0,
 o1 57 (.makeSlice 4 32 true [iz,iz,iz,iz] (tm 56) (tm 56)) 0,
 oM 14 57 1] [⟨57,some .res,none⟩]) (.seq (.seq (.region 0 [
 oM 58 0 0,
 o1 59 (.nilCheck (tm 58)) 0,
 oF 60 1 59 0,
 oL 61 60 0,
 oM 62 1 0,
 o1 63 (.indexSl 1 (tm 61) (tm 62)) 0,
 oL 64 63 0,
 o1 65 (.len (tm 64)) 0,
 o1 66 (.move (ki 0)) 0] []) (.block 0 (.loop [0,1,2,4,5,9,14,64,65,66] ⟨[(0,(.ptr 0 0 0)),(9,(.ptr 2 0 0)),(14,(.slw 3 4)),(66,vI)],[1,2,4,5,64,65],[.cell false (.cons vI (.cons (.v (.list (.list (.int .i64)))) (.cons (.slw 1 1) .nil))),.typed (.list .step),.one false .res,.typed .res]⟩ (.seq (.region 0 [
 oB 67 .lss 66 65 0] []) (.seq (.cond (tm 67) (.skip) (.exit 0)) (.seq (.block 1 (.seq (.region 0 [
 o1 68 (.indexSl 1 (tm 64) (tm 66)) 0,
 oL 69 68 0,
 oM 16 69 0] []) (.region 4 [
 oM 70 14 0,
 oM 71 16 0,
 oM 72 0 0,
 o1 73 (.nilCheck (tm 72)) 0,
 oF 74 2 73 0,
 oL 75 74 0,
 oM 76 16 0,
 o1 77 (.indexSl 1 (tm 75) (tm 76)) 0,
 oL 78 77 0,
 oM 79 5 0,
 oM 80 5 0,
 oM 81 4 0,
 oB 82 .add 80 81 0,
 o1 83 (.call (fc 128) [(vv 78),(vv 79),(vv 82)] false 4) 0,
 o1 84 (.indexSl 4 (tm 70) (tm 71)) 4,
 oS 4 84 83 4] []))) (.region 0 [
 oC 85 .add 66 1 0,
 oM 66 85 0] []))))))) (.seq (.region 4 [
 o4 86 (.move (tm 14)) 0 [],
 o4 87 (.move (tm 0)) 0 [],
 o4 88 (.nilCheck (tm 87)) 0 [],
 o4 89 (.fieldAddr 1 (tm 88)) 0 [],
 o4 90 (.load false 1 (tm 89)) 0 [],
 o4 91 (.move (tm 1)) 0 [],
 o4 92 (.indexSl 1 (tm 90) (tm 91)) 0 [],
 o4 93 (.load false 1 (tm 92)) 0 [],
 o4 94 (.move (tm 2)) 0 [],
 o4 95 (.load true 4 (tm 9)) 0 [],
 o4 96 (.call (fc 129) [(vv 86),(vv 93),(vv 94),(vv 95)] false 4) 0 [],
 o4 97 (.extract (tm 96) 0) 4 [0,1,2,3],
 o4 98 (.extract (tm 96) 1) 4 [0,1,2,3],
 o4 12 (.move (tm 97)) 4 [0,1,2,3],
 o4 13 (.move (tm 98)) 4 [0,1,2,3]] []) (.ret))))),[.tmp 12,.tmp 13],true⟩
def s64 : Sig := ⟨(.cons (.ptr 0 0 0) (.cons (.v (.int .i64)) (.cons (.v (.int .i64)) (.cons (.v .res) (.cons (.v (.int .i64)) (.cons (.v (.int .i64)) .nil)))))),[.cell false (.cons (.v (.int .i64)) (.cons (.v (.list (.list (.int .i64)))) (.cons (.slw 1 1) .nil))),.typed (.list .step)],((.tup (.cons (.v (.list .share)) (.cons (.v .bool) .nil))),[.cell false (.cons (.v (.int .i64)) (.cons (.v (.list (.list (.int .i64)))) (.cons (.slw 1 1) .nil))),.typed (.list .step)]),[]⟩
def l64_0 (g128 : (List Step) → Int → Int → Option Res) (g129 : (List Res) → (List Int) → Int → Res → Option ((List Share) × (Bool × Unit))) (part0 : Int) (many1 : Int) (wall3 : Int) (at4 : Int) (y8 : (List Int)) (nx10 : (Tak × (Tac × ((List (List Step)) × (Res × ((List Res) × Unit))))) → Option Tan) (z11 : Int) (z12 : Int) (z13 : (List (List Int))) (z14 : (List (List Step))) (z15 : Res) (z16 : (List Res)) : Option Tan :=
 cond (decide (z11 < (List.length y8 : Int)))
 (cond (decide (0 ≤ z11))
 (Option.bind (y8[Int.toNat z11]?) fun y17 =>
 cond (decide (0 ≤ y17))
 (cond (decide ((Int.toNat y17) < (List.length z14)))
 (Option.bind (z14[Int.toNat y17]?) fun y18 =>
 Option.bind (g128 y18 at4 (IntKind.wrap .i64 (at4 + wall3))) fun r19 =>
 cond (decide (0 ≤ y17))
 (cond (decide ((Int.toNat y17) < (List.length z16)))
 (Option.bind (z16[Int.toNat y17]?) fun y20 =>
 nx10 (((),(),(),IntKind.wrap .i64 (z11 + 1),()),((z12,z13,(),()),z14,z15,List.set z16 (Int.toNat y17) r19,())))
 (none))
 (none))
 (none))
 (none))
 (none))
 (cond (decide (0 ≤ part0))
 (Option.bind (z13[Int.toNat part0]?) fun y21 =>
 Option.bind (g129 z16 y21 many1 z15) fun r22 =>
 some ((r22.1,r22.2.1,()),((z12,z13,(),()),z14,())))
 (none))
def F64 (L : Lp) (g128 : (List Step) → Int → Int → Option Res) (g129 : (List Res) → (List Int) → Int → Res → Option ((List Share) × (Bool × Unit))) (part0 : Int) (many1 : Int) (need2 : Res) (wall3 : Int) (at4 : Int) (a5 : Int) (a6 : (List (List Int))) (a7 : (List (List Step))) : Option Tan :=
 cond (decide (part0 < 0))
 (some (([],false,()),((a5,a6,(),()),a7,())))
 (cond (decide ((List.length a6 : Int) ≤ part0))
 (some (([],false,()),((a5,a6,(),()),a7,())))
 (cond (decide (wall3 < 1))
 (some (([],false,()),((a5,a6,(),()),a7,())))
 (cond (decide (65536 < wall3))
 (some (([],false,()),((a5,a6,(),()),a7,())))
 (cond (decide (at4 < a5))
 (some (([],false,()),((a5,a6,(),()),a7,())))
 (cond (decide (1099511627776 < at4))
 (some (([],false,()),((a5,a6,(),()),a7,())))
 (cond (decide (0 ≤ (List.length a7 : Int)))
 (cond (decide (0 ≤ (List.length a7 : Int)))
 (cond ((decide ((Int.toNat (List.length a7 : Int)) ≤ (Int.toNat (List.length a7 : Int)))) && ((decide ((Int.toNat (List.length a7 : Int)) * 32 ≤ 1099511627776)) && (decide ((Int.toNat (List.length a7 : Int)) ≤ 4294967296))))
 (cond (decide (0 ≤ part0))
 (Option.bind (a6[Int.toNat part0]?) fun y8 =>
 L (fun (s9 : (Tak × (Tac × ((List (List Step)) × (Res × ((List Res) × Unit)))))) nx10 => l64_0 g128 g129 part0 many1 wall3 at4 y8 nx10 s9.1.2.2.2.1 s9.2.1.1 s9.2.1.2.1 s9.2.2.1 s9.2.2.2.1 s9.2.2.2.2.1) (((),(),(),0,()),((a5,a6,(),()),a7,need2,(List.replicate (Int.toNat (List.length a7 : Int)) (Res.mk 0 0 0 0) : List Res),())))
 (none))
 (none))
 (none))
 (none)))))))
theorem e64 (L : Lp) (g128 : (List Step) → Int → Int → Option Res) (g129 : (List Res) → (List Int) → Int → Res → Option ((List Share) × (Bool × Unit))) (x : s64.args.den) (h : denH s64.heap) : nrun [⟨128,s128,fun x h => g128 x.1 x.2.1 x.2.2.1⟩,⟨129,s129,fun x h => g129 x.1 x.2.1 x.2.2.1 x.2.2.2.1⟩] L n64 s64 x h = F64 L g128 g129 x.2.1 x.2.2.1 x.2.2.2.1 x.2.2.2.2.1 x.2.2.2.2.2.1 h.1.1 h.1.2.1 h.2.1 := by kernel_rfl
def f64 : Int → Int → Res → Int → Int → Int → (List (List Int)) → (List (List Step)) → Option Tan := F64 (@LN LOOPS) f128 f129
@[reducible] def t64 : Ent := ⟨64,s64,fun x h => f64 x.2.1 x.2.2.1 x.2.2.2.1 x.2.2.2.2.1 x.2.2.2.2.2.1 h.1.1 h.1.2.1 h.2.1⟩
theorem k64 : chkNF Try.prog Try.f64 n64 = true := by kernel_rfl
theorem ok64 : NOk Try.prog t64 := NOk.body (T := [t128,t129]) mixed (nall_cons ok128 (nall_cons ok129 nall_nil)) (oneEach_of (by kernel_rfl)) Try.func64 k64 (by kernel_rfl) (fun x h => e64 _ _ _ x h)
def n63 : NFunc := ⟨46,.seq (.region 2 [
 o1 8 (.box 4 (tm 3)) 0,
 o1 10 (.alloc [iz,iz,.zsl]) 1,
 o1 11 (.move kf) 2] []) (.scope 0 [0,1,2,4,8,10,12,13] ⟨[(0,(.ptr 0 0 0)),(8,(.ptr 2 0 0)),(10,(.ptr 3 0 0)),(13,vI)],[1,2,4,12],[.cell false (.cons vI (.cons (.v (.list (.list (.int .i64)))) (.cons (.slw 1 1) .nil))),.typed (.list .step),.one false .res,.cell false (.cons vI (.cons vI (.cons .zsl .nil)))]⟩ (.seq (.skip) (.seq (.seq (.region 0 [
 oM 19 13 0,
 oM 20 12 0,
 o1 21 (.len (tm 20)) 0,
 oB 22 .eql 19 21 0] []) (.cond (tm 22) (.seq (.region 0 [
 o1 23 (.build [iz,iz,.zsl] []) 0,
 oS 3 10 23 0,
 o1 11 (.move kf) 0] []) (.ret)) (.skip))) (.seq (.seq (.region 4 [
 o4 25 (.move (tm 0)) 0 [],
 o4 26 (.move (tm 1)) 0 [],
 o4 27 (.move (tm 2)) 0 [],
 o4 28 (.load true 4 (tm 8)) 0 [],
 o4 29 (.move (tm 4)) 0 [],
 o4 30 (.move (tm 12)) 0 [],
 o4 31 (.move (tm 13)) 0 [],
 o4 32 (.indexSl 1 (tm 30) (tm 31)) 0 [],
 o4 33 (.load false 1 (tm 32)) 0 [],
 o4 34 (.call (fc 64) [(vw 25),(vv 26),(vv 27),(vv 28),(vv 29),(vv 33)] false 4) 0 [],
 o4 24 (.move (tm 34)) 4 [0,1,2,3],
 o4 35 (.extract (tm 24) 0) 4 [0,1,2,3],
 o4 36 (.extract (tm 24) 1) 4 [0,1,2,3],
 o4 14 (.move (tm 35)) 4 [0,1,2,3],
 o4 15 (.move (tm 36)) 4 [0,1,2,3]] []) (.seq (.region 0 [
 oM 37 15 0] []) (.cond (tm 37) (.seq (.region 0 [
 oM 38 12 0,
 oM 39 13 0,
 o1 40 (.indexSl 1 (tm 38) (tm 39)) 0,
 oL 41 40 0,
 oM 42 14 0,
 o1 43 (.build [iz,iz,.zsl] [(1,1,(tm 41)),(2,1,(tm 42))]) 0,
 oS 3 10 43 0,
 o1 11 (.move kt) 0] []) (.ret)) (.skip)))) (.seq (.region 0 [
 oM 44 13 0,
 oC 45 .add 44 1 0,
 oM 13 45 0] []) (.goto 0))))) (.seq (.region 4 [
 oM 16 0 0,
 oM 17 1 0,
 o1 18 (.call (fc 127) [(vw 16),(vv 17)] false 4) 0,
 oM 12 18 4] []) (.seq (.region 0 [
 o1 13 (.move (ki 0)) 0] []) (.seq (.label) (.seq (.seq (.region 0 [
 oM 19 13 0,
 oM 20 12 0,
 o1 21 (.len (tm 20)) 0,
 oB 22 .eql 19 21 0] []) (.cond (tm 22) (.seq (.region 0 [
 o1 23 (.build [iz,iz,.zsl] []) 0,
 oS 3 10 23 0,
 o1 11 (.move kf) 0] []) (.ret)) (.skip))) (.seq (.seq (.region 4 [
 o4 25 (.move (tm 0)) 0 [],
 o4 26 (.move (tm 1)) 0 [],
 o4 27 (.move (tm 2)) 0 [],
 o4 28 (.load true 4 (tm 8)) 0 [],
 o4 29 (.move (tm 4)) 0 [],
 o4 30 (.move (tm 12)) 0 [],
 o4 31 (.move (tm 13)) 0 [],
 o4 32 (.indexSl 1 (tm 30) (tm 31)) 0 [],
 o4 33 (.load false 1 (tm 32)) 0 [],
 o4 34 (.call (fc 64) [(vw 25),(vv 26),(vv 27),(vv 28),(vv 29),(vv 33)] false 4) 0 [],
 o4 24 (.move (tm 34)) 4 [0,1,2,3],
 o4 35 (.extract (tm 24) 0) 4 [0,1,2,3],
 o4 36 (.extract (tm 24) 1) 4 [0,1,2,3],
 o4 14 (.move (tm 35)) 4 [0,1,2,3],
 o4 15 (.move (tm 36)) 4 [0,1,2,3]] []) (.seq (.region 0 [
 oM 37 15 0] []) (.cond (tm 37) (.seq (.region 0 [
 oM 38 12 0,
 oM 39 13 0,
 o1 40 (.indexSl 1 (tm 38) (tm 39)) 0,
 oL 41 40 0,
 oM 42 14 0,
 o1 43 (.build [iz,iz,.zsl] [(1,1,(tm 41)),(2,1,(tm 42))]) 0,
 oS 3 10 43 0,
 o1 11 (.move kt) 0] []) (.ret)) (.skip)))) (.seq (.region 0 [
 oM 44 13 0,
 oC 45 .add 44 1 0,
 oM 13 45 0] []) (.goto 0)))))))),[.cell true 3 10,.tmp 11],true⟩
def s63 : Sig := ⟨(.cons (.ptr 0 0 0) (.cons (.v (.int .i64)) (.cons (.v (.int .i64)) (.cons (.v .res) (.cons (.v (.int .i64)) .nil))))),[.cell false (.cons (.v (.int .i64)) (.cons (.v (.list (.list (.int .i64)))) (.cons (.slw 1 1) .nil))),.typed (.list .step)],((.tup (.cons (.v (.pair (.int .i64) (.pair (.int .i64) (.list .share)))) (.cons (.v .bool) .nil))),[.cell false (.cons (.v (.int .i64)) (.cons (.v (.list (.list (.int .i64)))) (.cons (.slw 1 1) .nil))),.typed (.list .step)]),[]⟩
def l63_0 (g64 : Int → Int → Res → Int → Int → Int → (List (List Int)) → (List (List Step)) → Option Tan) (part0 : Int) (many1 : Int) (wall3 : Int) (r7 : ((List Int) × Taa)) (nx12 : (Tak × (Tac × ((List (List Step)) × (Res × ((Int × (Int × (Unit × Unit))) × Unit))))) → Option Tah) (i13 : Int) (z14 : Int) (z15 : (List (List Int))) (z16 : (List (List Step))) (z17 : Res) (z18 : Int) (z19 : Int) : Option Tah :=
 cond (decide (i13 = (List.length r7.1 : Int)))
 (some (((0,(0,[])),false,()),((z14,z15,(),()),z16,())))
 (cond (decide (0 ≤ i13))
 (Option.bind (r7.1[Int.toNat i13]?) fun y20 =>
 Option.bind (g64 part0 many1 z17 wall3 y20 z14 z15 z16) fun r21 =>
 cond (true && ((decide ((List.length r21.2.2.1) = (List.length z16))) && true))
 (cond r21.1.2.1
 (cond (decide (0 ≤ i13))
 (Option.bind (r7.1[Int.toNat i13]?) fun y22 =>
 some (((0,(y22,r21.1.1)),true,()),((r21.2.1.1,r21.2.1.2.1,(),()),r21.2.2.1,())))
 (none))
 (nx12 (((),(),(),IntKind.wrap .i64 (i13 + 1),()),((r21.2.1.1,r21.2.1.2.1,(),()),r21.2.2.1,z17,(z18,z19,(),()),()))))
 (none))
 (none))
def F63 (L : Lp) (g127 : Int → Int → (List (List Int)) → (List (List Step)) → Option ((List Int) × Taa)) (g64 : Int → Int → Res → Int → Int → Int → (List (List Int)) → (List (List Step)) → Option Tan) (part0 : Int) (many1 : Int) (need2 : Res) (wall3 : Int) (a4 : Int) (a5 : (List (List Int))) (a6 : (List (List Step))) : Option Tah :=
 Option.bind (g127 part0 a4 a5 a6) fun r7 =>
 cond (true && ((decide ((List.length r7.2.2.1) = (List.length a6))) && true))
 (cond (decide (0 = (List.length r7.1 : Int)))
 (some (((0,(0,[])),false,()),((r7.2.1.1,r7.2.1.2.1,(),()),r7.2.2.1,())))
 (Option.bind (r7.1[0]?) fun y8 =>
 Option.bind (g64 part0 many1 need2 wall3 y8 r7.2.1.1 r7.2.1.2.1 r7.2.2.1) fun r9 =>
 cond (true && ((decide ((List.length r9.2.2.1) = (List.length r7.2.2.1))) && true))
 (cond r9.1.2.1
 (Option.bind (r7.1[0]?) fun y10 =>
 some (((0,(y10,r9.1.1)),true,()),((r9.2.1.1,r9.2.1.2.1,(),()),r9.2.2.1,())))
 (L (fun (s11 : (Tak × (Tac × ((List (List Step)) × (Res × ((Int × (Int × (Unit × Unit))) × Unit)))))) nx12 => l63_0 g64 part0 many1 wall3 r7 nx12 s11.1.2.2.2.1 s11.2.1.1 s11.2.1.2.1 s11.2.2.1 s11.2.2.2.1 s11.2.2.2.2.1.1 s11.2.2.2.2.1.2.1) (((),(),(),1,()),((r9.2.1.1,r9.2.1.2.1,(),()),r9.2.2.1,need2,(0,0,(),()),()))))
 (none)))
 (none)
theorem e63 (L : Lp) (g127 : Int → Int → (List (List Int)) → (List (List Step)) → Option ((List Int) × Taa)) (g64 : Int → Int → Res → Int → Int → Int → (List (List Int)) → (List (List Step)) → Option Tan) (x : s63.args.den) (h : denH s63.heap) : nrun [⟨127,s127,fun x h => g127 x.2.1 h.1.1 h.1.2.1 h.2.1⟩,⟨64,s64,fun x h => g64 x.2.1 x.2.2.1 x.2.2.2.1 x.2.2.2.2.1 x.2.2.2.2.2.1 h.1.1 h.1.2.1 h.2.1⟩] L n63 s63 x h = F63 L g127 g64 x.2.1 x.2.2.1 x.2.2.2.1 x.2.2.2.2.1 h.1.1 h.1.2.1 h.2.1 := by kernel_rfl
def f63 : Int → Int → Res → Int → Int → (List (List Int)) → (List (List Step)) → Option Tah := F63 (@LN LOOPS) f127 f64
@[reducible] def t63 : Ent := ⟨63,s63,fun x h => f63 x.2.1 x.2.2.1 x.2.2.2.1 x.2.2.2.2.1 h.1.1 h.1.2.1 h.2.1⟩
theorem k63 : chkNF Try.prog Try.f63 n63 = true := by kernel_rfl
theorem ok63 : NOk Try.prog t63 := NOk.body (T := [t127,t64]) mixed (nall_cons ok127 (nall_cons ok64 nall_nil)) (oneEach_of (by kernel_rfl)) Try.func63 k63 (by kernel_rfl) (fun x h => e63 _ _ _ x h)
def n60 : NFunc := ⟨51,.seq (.region 0 [
 o1 0 (.move kf) 0] []) (.seq (.region 5 [
 o1 8 (.call (fc 101) [] false 4) 0,
 o1 1 (.alloc [.zsl,.zsl,.zsl,iz,iz,iz,iz,iz,iz,iz,iz,iz,iz,iz,iz,iz,iz,iz]) 4,
 oS 18 1 8 5] []) (.seq (.meet [3,2] [] ⟨[(2,(.ptr 0 0 0)),(3,vI)],[],[.cell false (.cons vI (.cons (.v (.list (.list (.int .i64)))) (.cons (.slw 1 1) .nil))),.typed (.list .step)]⟩ (.post [3,2] [.frzC 2 1] (.region 7 [
 oT 10 18 1 0,
 o1 11 (.build [iz,iz,iz,iz] [(0,1,(ki 3))]) 0,
 o1 12 (.build [iz,iz] [(0,1,(ki 0)),(1,1,(ki 1))]) 0,
 o1 13 (.buildSlice 2 1 true [iz,iz] [(0,(tm 12))]) 0,
 o1 14 (.build [iz,iz,iz,iz,.zsl,iz] [(0,4,(tm 11)),(4,1,(tm 13)),(5,1,(ki 5))]) 1,
 o1 15 (.buildSlice 6 1 true [iz,iz,iz,iz,.zsl,iz] [(0,(tm 14))]) 1,
 o1 16 (.build [iz,iz,iz,iz] [(0,1,(ki 1)),(1,1,(ki 1)),(2,1,(ki 0)),(3,1,(ki 9))]) 2,
 o1 17 (.buildSlice 4 1 true [iz,iz,iz,iz] [(0,(tm 16))]) 2,
 o1 18 (.call (fc 62) [(vv 10),(false,(ki 0)),(vv 15),(vv 17)] false 4) 3,
 oM 9 18 7,
 oX 19 9 0 7,
 oX 20 9 1 7,
 oM 2 19 7,
 oM 3 20 7] []))) (.seq (.region 5 [
 oM 22 2 0,
 o1 23 (.build [iz,iz,iz,iz] [(0,1,(ki 2))]) 0,
 o1 24 (.call (fc 63) [(vw 22),(false,(ki 0)),(false,(ki 1)),(vv 23),(false,(ki 3))] false 4) 0,
 oM 21 24 4,
 oX 25 21 0 4,
 oX 26 21 1 4,
 o1 4 (.alloc [iz,iz,.zsl]) 4,
 oS 3 4 25 5,
 oM 5 26 5] []) (.seq (.region 5 [
 oM 28 2 0,
 o1 29 (.build [iz,iz,iz,iz] [(0,1,(ki 1))]) 0,
 o1 30 (.call (fc 63) [(vw 28),(false,(ki 0)),(false,(ki 1)),(vv 29),(false,(ki 3))] false 4) 0,
 oM 27 30 4,
 oX 31 27 0 4,
 oX 32 27 1 4,
 o1 6 (.alloc [iz,iz,.zsl]) 4,
 oS 3 6 31 5,
 oM 7 32 5] []) (.seq (.region 0 [
 oM 33 3 0,
 oC 34 .eql 33 0 0,
 oM 35 34 0,
 o3 36 (.move (tm 5)) 35 0,
 o1 37 (.pick (tm 35) (tm 36) kf) 0,
 oM 38 37 0,
 o3 39 (.fieldAddr 1 (tm 4)) 38 0,
 o3 40 (.load false 1 (tm 39)) 38 0,
 o3 41 (.bin .eql (tm 40) (ki 5)) 38 0,
 o1 42 (.pick (tm 38) (tm 41) kf) 0,
 oM 43 42 0,
 o3 44 (.move (tm 7)) 43 0,
 o1 45 (.pick (tm 43) (tm 44) kf) 0,
 oM 46 45 0,
 o3 47 (.fieldAddr 1 (tm 6)) 46 0,
 o3 48 (.load false 1 (tm 47)) 46 0,
 o3 49 (.bin .eql (tm 48) (ki 0)) 46 0,
 o1 50 (.pick (tm 46) (tm 49) kf) 0,
 oM 0 50 0] []) (.ret)))))),[.tmp 0],true⟩
def s60 : Sig := ⟨.nil,[],((.v .bool),[]),[]⟩
def F60 (L : Lp) (g101 : Option Spec) (g62 : Spec → Int → (List Run) → (List Booking) → Option Taf) (g63 : Int → Int → Res → Int → Int → (List (List Int)) → (List (List Step)) → Option Tah)  : Option Bool :=
 Option.bind (g101) fun r0 =>
 Option.bind (α := ((Unit × (Int × Unit)) × Taa))
 (Option.bind (g62 r0 0 [Run.mk (Res.mk 3 0 0 0) [Share.mk 0 1] 5] [Booking.mk 1 1 0 9]) (Sum.elim (fun r1 =>
 none) (fun r2 =>
 some (((),r2.1.2.1,()),((r2.2.1.1,r2.2.2.1,(),()),r2.2.2.2.1,()))))) fun x3 =>
 Option.bind (g63 0 1 (Res.mk 2 0 0 0) 3 x3.2.1.1 x3.2.1.2.1 x3.2.2.1) fun r4 =>
 cond (true && ((decide ((List.length r4.2.2.1) = (List.length x3.2.2.1))) && true))
 (Option.bind (g63 0 1 (Res.mk 1 0 0 0) 3 r4.2.1.1 r4.2.1.2.1 r4.2.2.1) fun r5 =>
 cond (true && ((decide ((List.length r5.2.2.1) = (List.length r4.2.2.1))) && true))
 (cond (decide (x3.1.2.1 = 0))
 (cond r4.1.2.1
 (cond (decide (r4.1.1.2.1 = 5))
 (cond r5.1.2.1
 (some (decide (r5.1.1.2.1 = 0)))
 (some false))
 (some false))
 (some false))
 (some false))
 (none))
 (none)
theorem e60 (L : Lp) (g101 : Option Spec) (g62 : Spec → Int → (List Run) → (List Booking) → Option Taf) (g63 : Int → Int → Res → Int → Int → (List (List Int)) → (List (List Step)) → Option Tah) (x : s60.args.den) (h : denH s60.heap) : nrun [⟨101,s101,fun x h => g101 ⟩,⟨62,s62,fun x h => g62 x.1 x.2.1 x.2.2.1 x.2.2.2.1⟩,⟨63,s63,fun x h => g63 x.2.1 x.2.2.1 x.2.2.2.1 x.2.2.2.2.1 h.1.1 h.1.2.1 h.2.1⟩] L n60 s60 x h = F60 L g101 g62 g63  := by kernel_rfl
def f60 : Option Bool := F60 (@LN LOOPS) f101 f62 f63
@[reducible] def t60 : Ent := ⟨60,s60,fun x h => f60 ⟩
theorem k60 : chkNF Try.prog Try.f60 n60 = true := by kernel_rfl
theorem ok60 : NOk Try.prog t60 := NOk.body (T := [t101,t62,t63]) mixed (nall_cons ok101 (nall_cons ok62 (nall_cons ok63 nall_nil))) (oneEach_of (by kernel_rfl)) Try.func60 k60 (by kernel_rfl) (fun x h => e60 _ _ _ _ x h)
def n44 : NFunc := ⟨46,.seq (.region 1 [
 o1 1 (.box 18 (tm 0)) 0,
 o1 2 (.move kf) 1] []) (.seq (.seq (.region 0 [
 oF 7 0 1 0,
 oL 8 7 0,
 o1 9 (.len (tm 8)) 0,
 oC 10 .gtr 9 40 0,
 oM 11 10 0,
 o2 12 (.fieldAddr 1 (tm 1)) 11 0,
 o2 13 (.load false 1 (tm 12)) 11 0,
 o2 14 (.len (tm 13)) 11 0,
 o2 15 (.bin .gtr (tm 14) (ki 20)) 11 0,
 o1 16 (.pick (tm 11) kt (tm 15)) 0,
 oM 17 16 0,
 o2 18 (.fieldAddr 2 (tm 1)) 17 0,
 o2 19 (.load false 1 (tm 18)) 17 0,
 o2 20 (.len (tm 19)) 17 0,
 o2 21 (.bin .gtr (tm 20) (ki 20)) 17 0,
 o1 22 (.pick (tm 17) kt (tm 21)) 0] []) (.cond (tm 22) (.seq (.region 0 [
 o1 2 (.move kf) 0] []) (.ret)) (.skip))) (.seq (.seq (.region 0 [
 oF 23 1 1 0,
 oL 24 23 0,
 o1 25 (.len (tm 24)) 0,
 o1 26 (.move (ki 0)) 0] []) (.block 0 (.loop [1,24,25,26] ⟨[(1,(.ptr 0 0 0)),(26,vI)],[24,25],[.one false .spec]⟩ (.seq (.region 0 [
 oB 27 .lss 26 25 0] []) (.seq (.cond (tm 27) (.skip) (.exit 0)) (.seq (.block 1 (.seq (.region 0 [
 o1 28 (.indexSl 1 (tm 24) (tm 26)) 0,
 oL 29 28 0,
 oM 4 29 0] []) (.seq (.region 0 [
 oM 30 4 0,
 o1 31 (.len (tm 30)) 0,
 oC 32 .gtr 31 40 0] []) (.cond (tm 32) (.seq (.region 0 [
 o1 2 (.move kf) 0] []) (.ret)) (.skip))))) (.region 0 [
 oC 33 .add 26 1 0,
 oM 26 33 0] []))))))) (.seq (.seq (.region 0 [
 oF 34 2 1 0,
 oL 35 34 0,
 o1 36 (.len (tm 35)) 0,
 o1 37 (.move (ki 0)) 0] []) (.block 2 (.loop [35,36,37] ⟨[(37,vI)],[35,36],[]⟩ (.seq (.region 0 [
 oB 38 .lss 37 36 0] []) (.seq (.cond (tm 38) (.skip) (.exit 2)) (.seq (.block 3 (.seq (.region 1 [
 o1 39 (.indexSl 6 (tm 35) (tm 37)) 0,
 oT 40 6 39 0,
 o1 6 (.alloc [iz,.zsl,iz,iz,iz,iz]) 0,
 oS 6 6 40 1] []) (.seq (.region 0 [
 oF 41 1 6 0,
 oL 42 41 0,
 o1 43 (.len (tm 42)) 0,
 oC 44 .gtr 43 40 0] []) (.cond (tm 44) (.seq (.region 0 [
 o1 2 (.move kf) 0] []) (.ret)) (.skip))))) (.region 0 [
 oC 45 .add 37 1 0,
 oM 37 45 0] []))))))) (.seq (.region 0 [
 o1 2 (.move kt) 0] []) (.ret))))),[.tmp 2],true⟩
def s44 : Sig := ⟨(.cons (.v .spec) .nil),[],((.v .bool),[]),[]⟩
def l44_0 (z4 : Spec) (nx7 : ((Int × Unit) × Unit) → Option Bool) (z8 : Int) : Option Bool :=
 cond (decide (z8 < (List.length z4.queues : Int)))
 (cond (decide (0 ≤ z8))
 (Option.bind (z4.queues[Int.toNat z8]?) fun y9 =>
 cond (decide (40 < (List.length y9.users : Int)))
 (some false)
 (nx7 ((IntKind.wrap .i64 (z8 + 1),()),())))
 (none))
 (some true)
def l44_1 (L : Lp) (as0 : Spec) (nx2 : Taq → Option Bool) (z3 : Int) (z4 : Spec) : Option Bool :=
 cond (decide (z3 < (List.length as0.parts : Int)))
 (cond (decide (0 ≤ z3))
 (Option.bind (as0.parts[Int.toNat z3]?) fun y5 =>
 cond (decide (40 < (List.length y5 : Int)))
 (some false)
 (nx2 (((),IntKind.wrap .i64 (z3 + 1),()),(z4,()))))
 (none))
 (L (fun (s6 : ((Int × Unit) × Unit)) nx7 => l44_0 z4 nx7 s6.1.1) ((0,()),()))
def F44 (L : Lp)  (as0 : Spec) : Option Bool :=
 cond (decide (40 < (List.length as0.nodes : Int)))
 (some false)
 (cond (decide (20 < (List.length as0.parts : Int)))
 (some false)
 (cond (decide (20 < (List.length as0.queues : Int)))
 (some false)
 (L (fun (s1 : Taq) nx2 => l44_1 L as0 nx2 s1.1.2.1 s1.2.1) (((),0,()),(as0,())))))
theorem e44 (L : Lp)  (x : s44.args.den) (h : denH s44.heap) : nrun [] L n44 s44 x h = F44 L  x.1 := by kernel_rfl
def f44 : Spec → Option Bool := F44 (@LN LOOPS) 
@[reducible] def t44 : Ent := ⟨44,s44,fun x h => f44 x.1⟩
theorem k44 : chkNF Try.prog Try.f44 n44 = true := by kernel_rfl
theorem ok44 : NOk Try.prog t44 := NOk.body (T := []) mixed nall_nil (oneEach_of (by kernel_rfl)) Try.func44 k44 (by kernel_rfl) (fun x h => e44 _  x h)
def n61 : NFunc := ⟨33,.seq (.region 1 [
 o1 1 (.box 21 (tm 0)) 0,
 o1 2 (.move kf) 1] []) (.seq (.seq (.region 4 [
 oF 5 0 1 0,
 oT 6 18 5 0,
 o1 7 (.call (fc 44) [(vv 6)] false 4) 0,
 o1 8 (.un .not (tm 7)) 4,
 oM 9 8 4,
 o2 10 (.fieldAddr 19 (tm 1)) 9 4,
 o2 11 (.load false 1 (tm 10)) 9 4,
 o2 12 (.len (tm 11)) 9 4,
 o2 13 (.bin .gtr (tm 12) (ki 12)) 9 4,
 o1 14 (.pick (tm 9) kt (tm 13)) 4,
 oM 15 14 4,
 o2 16 (.fieldAddr 20 (tm 1)) 15 4,
 o2 17 (.load false 1 (tm 16)) 15 4,
 o2 18 (.len (tm 17)) 15 4,
 o2 19 (.bin .gtr (tm 18) (ki 20)) 15 4,
 o1 20 (.pick (tm 15) kt (tm 19)) 4] []) (.cond (tm 20) (.seq (.region 0 [
 o1 2 (.move kf) 0] []) (.ret)) (.skip))) (.seq (.seq (.region 0 [
 oF 21 19 1 0,
 oL 22 21 0,
 o1 23 (.len (tm 22)) 0,
 o1 24 (.move (ki 0)) 0] []) (.block 0 (.loop [22,23,24] ⟨[(24,vI)],[22,23],[]⟩ (.seq (.region 0 [
 oB 25 .lss 24 23 0] []) (.seq (.cond (tm 25) (.skip) (.exit 0)) (.seq (.block 1 (.seq (.region 1 [
 o1 26 (.indexSl 6 (tm 22) (tm 24)) 0,
 oT 27 6 26 0,
 o1 4 (.alloc [iz,iz,iz,iz,.zsl,iz]) 0,
 oS 6 4 27 1] []) (.seq (.region 0 [
 oF 28 4 4 0,
 oL 29 28 0,
 o1 30 (.len (tm 29)) 0,
 oC 31 .gtr 30 40 0] []) (.cond (tm 31) (.seq (.region 0 [
 o1 2 (.move kf) 0] []) (.ret)) (.skip))))) (.region 0 [
 oC 32 .add 24 1 0,
 oM 24 32 0] []))))))) (.seq (.region 0 [
 o1 2 (.move kt) 0] []) (.ret)))),[.tmp 2],true⟩
def s61 : Sig := ⟨(.cons (.v (.pair .spec (.pair (.int .i64) (.pair (.list .run) (.list .booking))))) .nil),[],((.v .bool),[]),[]⟩
def l61_0 (w0 : Tal) (nx3 : ((Int × Unit) × Unit) → Option Bool) (z4 : Int) : Option Bool :=
 cond (decide (z4 < (List.length w0.2.2.1 : Int)))
 (cond (decide (0 ≤ z4))
 (Option.bind (w0.2.2.1[Int.toNat z4]?) fun y5 =>
 cond (decide (40 < (List.length y5.shares : Int)))
 (some false)
 (nx3 ((IntKind.wrap .i64 (z4 + 1),()),())))
 (none))
 (some true)
def F61 (L : Lp) (g44 : Spec → Option Bool) (w0 : Tal) : Option Bool :=
 Option.bind (g44 w0.1) fun r1 =>
 cond (!r1)
 (some false)
 (cond (decide (12 < (List.length w0.2.2.1 : Int)))
 (some false)
 (cond (decide (20 < (List.length w0.2.2.2 : Int)))
 (some false)
 (L (fun (s2 : ((Int × Unit) × Unit)) nx3 => l61_0 w0 nx3 s2.1.1) ((0,()),()))))
theorem e61 (L : Lp) (g44 : Spec → Option Bool) (x : s61.args.den) (h : denH s61.heap) : nrun [⟨44,s44,fun x h => g44 x.1⟩] L n61 s61 x h = F61 L g44 x.1 := by kernel_rfl
def f61 : Tal → Option Bool := F61 (@LN LOOPS) f44
@[reducible] def t61 : Ent := ⟨61,s61,fun x h => f61 x.1⟩
theorem k61 : chkNF Try.prog Try.f61 n61 = true := by kernel_rfl
theorem ok61 : NOk Try.prog t61 := NOk.body (T := [t44]) mixed (nall_cons ok44 nall_nil) (oneEach_of (by kernel_rfl)) Try.func61 k61 (by kernel_rfl) (fun x h => e61 _ _ x h)
def s131 : Sig := ⟨(.cons (.slw 0 1) .nil),[.typed (.list .step)],((.slw 1 1),[.typed (.list .step),.typed (.list .step)]),[]⟩
def f131 : (List (List Step)) → Option (Unit × Tag) := cloneO
@[reducible] def t131 : Ent := ⟨131,s131,fun x h => f131 h.1⟩
theorem ok131 : NOk Try.prog t131 := ext131
def n68 : NFunc := ⟨20,.seq (.region 0 [
 o1 2 (.move (.const (.nilp))) 0] []) (.seq (.seq (.region 0 [
 oM 3 0 0,
 o1 4 (.eqP false (tm 3) (.const (.nilp))) 0] []) (.cond (tm 4) (.seq (.region 0 [
 o1 2 (.move (.const (.nilp))) 0] []) (.ret)) (.skip))) (.seq (.region 5 [
 o4 5 (.move (tm 0)) 0 [],
 o4 6 (.nilCheck (tm 5)) 0 [],
 o4 7 (.fieldAddr 0 (tm 6)) 0 [],
 ⟨(some 8),.load false 1 (tm 7),none,0,(some ([],some [0]))⟩,
 o4 9 (.move (tm 0)) 0 [],
 o4 10 (.nilCheck (tm 9)) 0 [],
 o4 11 (.fieldAddr 1 (tm 10)) 0 [],
 ⟨(some 12),.load false 1 (tm 11),none,0,(some ([],some [0]))⟩,
 o4 13 (.move (tm 0)) 0 [],
 o4 14 (.nilCheck (tm 13)) 0 [],
 o4 15 (.fieldAddr 2 (tm 14)) 0 [],
 ⟨(some 16),.load false 1 (tm 15),none,0,(some ([],some [0]))⟩,
 ⟨(some 17),.call (fc 131) [(vw 16)] false 4,none,0,(some ([],some [1]))⟩,
 o4 18 (.build [iz,.zsl,.zsl] [(0,1,(tm 8)),(1,1,(tm 12)),(2,1,(tm 17))]) 4 [0,1,2,3],
 ⟨(some 19),.box 3 (tm 18),none,4,(some ([],some []))⟩,
 o4 2 (.move (tm 19)) 5 [0,1,2,3,4]] []) (.ret))),[.tmp 2],false⟩
def s68 : Sig := ⟨(.cons (.ptr 0 0 0) .nil),[.cell false (.cons (.v (.int .i64)) (.cons (.v (.list (.list (.int .i64)))) (.cons (.slw 1 1) .nil))),.typed (.list .step)],((.ptr 2 0 0),[.cell false (.cons (.v (.int .i64)) (.cons (.v (.list (.list (.int .i64)))) (.cons (.slw 1 1) .nil))),.typed (.list .step),.cell false (.cons (.v (.int .i64)) (.cons (.v (.list (.list (.int .i64)))) (.cons (.slw 3 1) .nil))),.typed (.list .step)]),[]⟩
def F68 (L : Lp) (g131 : (List (List Step)) → Option (Unit × Tag)) (a0 : Int) (a1 : (List (List Int))) (a2 : (List (List Step))) : Option (Unit × (Tac × ((List (List Step)) × Taa))) :=
 Option.bind (g131 a2) fun r3 =>
 cond ((decide ((List.length r3.2.1) = (List.length a2))) && true)
 (some ((),((a0,a1,(),()),r3.2.1,(a0,a1,(),()),r3.2.2.1,())))
 (none)
theorem e68 (L : Lp) (g131 : (List (List Step)) → Option (Unit × Tag)) (x : s68.args.den) (h : denH s68.heap) : nrun [⟨131,s131,fun x h => g131 h.1⟩] L n68 s68 x h = F68 L g131 h.1.1 h.1.2.1 h.2.1 := by kernel_rfl
def f68 : Int → (List (List Int)) → (List (List Step)) → Option (Unit × (Tac × ((List (List Step)) × Taa))) := F68 (@LN LOOPS) f131
@[reducible] def t68 : Ent := ⟨68,s68,fun x h => f68 h.1.1 h.1.2.1 h.2.1⟩
theorem k68 : chkNF Try.prog Try.f68 n68 = true := by kernel_rfl
theorem ok68 : NOk Try.prog t68 := NOk.body (T := [t131]) mixed (nall_cons ok131 nall_nil) (oneEach_of (by kernel_rfl)) Try.func68 k68 (by kernel_rfl) (fun x h => e68 _ _ x h)
end NM
end Go.Proofs.Ytmnhkpekmgobbaa
end
