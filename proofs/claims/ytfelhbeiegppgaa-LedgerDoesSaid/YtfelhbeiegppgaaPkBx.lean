/-
  What the proof of LedgerDoes leans on, part 24. (Many texts laid together by program.)
-/
import Derived.Test.YtfelhbeiegppgaaPkBw
import Derived.Test.YtfelhbeiegppgaaProg
import Derived.ProofKit
set_option linter.unnecessarySimpa false
set_option linter.unusedSimpArgs false
set_option linter.unusedVariables false
namespace Go.Proofs.Ytfelhbeiegppgaa
namespace NM
open AM
def tm (n : Nat) : Opd := .tmp n
def ki (n : Int) : Opd := .const (.int .i64 n)
def vI : Sh := .v (.int .i64)
def o1 (d : Nat) (p : AOp) (a : Nat) : AOper := ⟨some d, p, none, a, none⟩
def o2 (d : Nat) (p : AOp) (g a : Nat) : AOper := ⟨some d, p, some (g, false), a, none⟩
def o3 (d : Nat) (p : AOp) (g a : Nat) : AOper := ⟨some d, p, some (g, true), a, none⟩
def o4 (d : Nat) (p : AOp) (a : Nat) (l : List Nat) : AOper := ⟨some d, p, none, a, some (l, none)⟩
def iz : AVal := .int .i64 0
def vv (n : Nat) : Bool × Opd := (false, .tmp n)
def vw (n : Nat) : Bool × Opd := (true, .tmp n)
def fc (n : Nat) : Opd := .func n
def kf : Opd := .const (.bool false)
def kt : Opd := .const (.bool true)
def oM (d x a : Nat) : AOper := ⟨some d, .move (.tmp x), none, a, none⟩
def oN (d x g a : Nat) : AOper := ⟨some d, .move (.tmp x), some (g, false), a, none⟩
def oF (d k x a : Nat) : AOper := ⟨some d, .fieldAddr k (.tmp x), none, a, none⟩
def oL (d x a : Nat) : AOper := ⟨some d, .load false 1 (.tmp x), none, a, none⟩
def oT (d n x a : Nat) : AOper := ⟨some d, .load true n (.tmp x), none, a, none⟩
def oS (n x y a : Nat) : AOper := ⟨none, .store n (.tmp x) (.tmp y), none, a, none⟩
def oX (d x i a : Nat) : AOper := ⟨some d, .extract (.tmp x) i, none, a, none⟩
def oB (d : Nat) (o : BinOp) (x y a : Nat) : AOper := ⟨some d, .bin o (.tmp x) (.tmp y), none, a, none⟩
def oC (d : Nat) (o : BinOp) (x : Nat) (y : Int) (a : Nat) : AOper := ⟨some d, .bin o (.tmp x) (ki y), none, a, none⟩
end NM
end Go.Proofs.Ytfelhbeiegppgaa
section
set_option maxRecDepth 100000
set_option maxHeartbeats 4000000
namespace Go.Proofs.Ytfelhbeiegppgaa
namespace NM
open AM Go.RowKit
def n38 : NFunc := ⟨23,.seq (.region 1 [
 o1 0 (.alloc [.zsl,.zsl,.zsl,iz,iz,iz,iz,iz,iz,iz,iz,iz,iz,iz,iz,iz,iz,iz]) 0] []) (.seq (.region 1 [
 o1 4 (.build [.zsl,.zsl,.zsl,iz,iz,iz,iz,iz,iz,iz,iz,iz,iz,iz,iz,iz,iz,iz] [(3,1,(ki 3)),(8,1,(ki 4)),(9,1,(ki 1)),(10,1,(ki 12)),(11,1,(ki 100)),(12,1,(ki 50)),(13,1,(ki 5)),(14,1,(ki 4)),(15,1,(ki 3)),(16,1,(ki 6)),(17,1,(ki 4))]) 0,
 o1 1 (.alloc [.zsl,.zsl,.zsl,iz,iz,iz,iz,iz,iz,iz,iz,iz,iz,iz,iz,iz,iz,iz]) 0,
 oS 18 1 4 1] []) (.seq (.region 1 [
 o1 5 (.build [iz,iz,iz,iz] [(0,1,(ki 4)),(1,1,(ki 8)),(3,1,(ki 1))]) 0,
 o1 6 (.build [iz,iz,iz,iz] [(0,1,(ki 8)),(1,1,(ki 8)),(2,1,(ki 1))]) 0,
 o1 7 (.buildSlice 4 2 true [iz,iz,iz,iz] [(0,(tm 5)),(1,(tm 6))]) 0,
 oF 8 0 1 1,
 oS 1 8 7 1] []) (.seq (.region 3 [
 o1 9 (.buildSlice 1 2 true [iz] [(0,(ki 0)),(1,(ki 1))]) 0,
 o1 10 (.buildSlice 1 1 true [iz] [(0,(ki 1))]) 1,
 o1 11 (.buildSlice 1 2 true [.zsl] [(0,(tm 9)),(1,(tm 10))]) 2,
 oF 12 1 1 3,
 oS 1 12 11 3] []) (.seq (.region 1 [
 o1 13 (.build [iz,.zsl,iz,iz,iz,iz] [(2,1,(ki 8)),(3,1,(ki 4)),(4,1,(ki 3)),(5,1,(ki 1))]) 0,
 o1 2 (.alloc [iz,.zsl,iz,iz,iz,iz]) 0,
 oS 6 2 13 1] []) (.seq (.region 2 [
 o1 14 (.buildSlice 1 2 true [iz] [(0,(ki 0)),(1,(ki 1))]) 0,
 o1 15 (.build [iz,.zsl,iz,iz,iz,iz] [(0,1,(ki 1)),(1,1,(tm 14)),(2,1,(ki 4)),(3,1,(ki 2)),(4,1,(ki 2)),(5,1,(ki 5))]) 1,
 o1 3 (.alloc [iz,.zsl,iz,iz,iz,iz]) 1,
 oS 6 3 15 2] []) (.seq (.region 1 [
 oT 16 6 2 0,
 oT 17 6 3 0,
 o1 18 (.buildSlice 6 2 true [iz,.zsl,iz,iz,iz,iz] [(0,(tm 16)),(1,(tm 17))]) 0,
 oF 19 2 1 1,
 oS 1 19 18 1] []) (.seq (.region 0 [
 o1 20 (.build [iz,iz,iz,iz] [(0,1,(ki 1)),(1,1,(ki 2)),(2,1,(ki 10)),(3,1,(ki 3))]) 0,
 oF 21 4 1 0,
 oS 4 21 20 0] []) (.seq (.region 0 [
 oT 22 18 1 0,
 oS 18 0 22 0] []) (.ret))))))))),[.cell true 18 0],true⟩
def s38 : Sig := ⟨.nil,[],((.v .spec),[]),[]⟩
def F38 (L : Lp)   : Option Spec :=
 some (Spec.mk [Res.mk 4 8 0 1,Res.mk 8 8 1 0] [[0,1],[1]] [Queue.mk 0 [] 8 4 3 1,Queue.mk 1 [0,1] 4 2 2 5] 3 (Weights.mk 1 2 10 3) 4 1 12 100 50 5 4 3 6 4)
theorem e38 (L : Lp)  (x : s38.args.den) (h : denH s38.heap) : nrun [] L n38 s38 x h = F38 L   := by kernel_rfl
def f38 : Option Spec := F38 (@LN LOOPS) 
@[reducible] def t38 : Ent := ⟨38,s38,fun x h => f38 ⟩
theorem k38 : chkNF Try.prog Try.f38 n38 = true := by kernel_rfl
theorem ok38 : NOk Try.prog t38 := NOk.body (T := []) mixed nall_nil (oneEach_of (by kernel_rfl)) Try.func38 k38 (by kernel_rfl) (fun x h => e38 _  x h)
def n98 : NFunc := ⟨12,.seq (.region 4 [
 o1 5 (.box 1 (tm 1)) 0,
 o1 6 (.box 1 (tm 2)) 1,
 o1 7 (.box 1 (tm 3)) 2,
 o1 8 (.alloc [.str [],.nilfn]) 3] []) (.seq (.region 0 [
 oM 9 0 0,
 o1 10 (.makeFunc 116 [(tm 6),(tm 5),(tm 7)]) 0,
 o1 11 (.build [.str [],.nilfn] [(0,1,(tm 9)),(1,1,(tm 10))]) 0,
 oS 2 8 11 0] []) (.ret)),[.cell true 2 8],true⟩
def s98 : Sig := ⟨(.cons (.v .str) (.cons (.v (.int .i64)) (.cons (.v (.int .i64)) (.cons (.v (.int .i64)) .nil)))),[],((.agg (.cons (.v .str) (.cons (.fn 116 (.cons (.iptr (.cons (.v (.int .i64)) .nil) 0) (.cons (.iptr (.cons (.v (.int .i64)) .nil) 0) (.cons (.iptr (.cons (.v (.int .i64)) .nil) 0) .nil)))) .nil))),[]),[]⟩
def F98 (L : Lp)  (word0 : (List UInt8)) (an1 : Int) (lo2 : Int) (hi3 : Int) : Option ((List UInt8) × (((Int × Unit) × ((Int × Unit) × ((Int × Unit) × Unit))) × Unit)) :=
 some (word0,((lo2,()),(an1,()),(hi3,()),()),())
theorem e98 (L : Lp)  (x : s98.args.den) (h : denH s98.heap) : nrun [] L n98 s98 x h = F98 L  x.1 x.2.1 x.2.2.1 x.2.2.2.1 := by kernel_rfl
def f98 : (List UInt8) → Int → Int → Int → Option ((List UInt8) × (((Int × Unit) × ((Int × Unit) × ((Int × Unit) × Unit))) × Unit)) := F98 (@LN LOOPS) 
@[reducible] def t98 : Ent := ⟨98,s98,fun x h => f98 x.1 x.2.1 x.2.2.1 x.2.2.2.1⟩
theorem k98 : chkNF Try.prog Try.f98 n98 = true := by kernel_rfl
theorem ok98 : NOk Try.prog t98 := NOk.body (T := []) mixed nall_nil (oneEach_of (by kernel_rfl)) Try.func98 k98 (by kernel_rfl) (fun x h => e98 _  x h)
def n88 : NFunc := ⟨44,.seq (.region 1 [
 o1 1 (.box 18 (tm 0)) 0,
 o1 2 (.move (.const (.zsl))) 1] []) (.seq (.region 41 [
 o4 3 (.makeFunc 94 [(tm 1)]) 0 [],
 o4 4 (.build [.str [],.nilfn] [(0,1,(.const (.str [78,111,100,101,115]))),(1,1,(tm 3))]) 0 [],
 o4 5 (.makeFunc 96 [(tm 1)]) 0 [],
 o4 6 (.build [.str [],.nilfn] [(0,1,(.const (.str [80,97,114,116,115]))),(1,1,(tm 5))]) 0 [],
 o4 7 (.fieldAddr 3 (tm 1)) 0 [],
 o4 8 (.load false 1 (tm 7)) 0 [],
 o4 9 (.call (fc 98) [(false,(.const (.str [85,115,101,114,115]))),(vv 8),(false,(ki 1)),(false,(ki 8))] true 4) 0 [],
 o4 10 (.makeFunc 99 [(tm 1)]) 4 [],
 o4 11 (.build [.str [],.nilfn] [(0,1,(.const (.str [81,117,101,117,101,115]))),(1,1,(tm 10))]) 4 [],
 o4 12 (.makeFunc 101 [(tm 1)]) 4 [],
 o4 13 (.build [.str [],.nilfn] [(0,1,(.const (.str [87,101,105,103,104,116,115]))),(1,1,(tm 12))]) 4 [],
 o4 14 (.fieldAddr 8 (tm 1)) 4 [],
 o4 15 (.load false 1 (tm 14)) 4 [],
 o4 16 (.call (fc 98) [(false,(.const (.str [68,101,99,97,121]))),(vv 15),(false,(ki 1)),(false,(ki 16))] true 4) 4 [0,1,2,3],
 o4 17 (.makeFunc 103 [(tm 1)]) 8 [],
 o4 18 (.build [.str [],.nilfn] [(0,1,(.const (.str [77,111,100,101]))),(1,1,(tm 17))]) 8 [],
 o4 19 (.fieldAddr 10 (tm 1)) 8 [],
 o4 20 (.load false 1 (tm 19)) 8 [],
 o4 21 (.call (fc 98) [(false,(.const (.str [74,111,98,115]))),(vv 20),(false,(ki 1)),(false,(ki 256))] true 4) 8 [0,1,2,3,4,5,6,7],
 o4 22 (.fieldAddr 11 (tm 1)) 12 [],
 o4 23 (.load false 1 (tm 22)) 12 [],
 o4 24 (.call (fc 98) [(false,(.const (.str [73,100,115]))),(vv 23),(false,(ki 1)),(false,(ki 1048576))] true 4) 12 [0,1,2,3,4,5,6,7,8,9,10,11],
 o4 25 (.fieldAddr 12 (tm 1)) 16 [],
 o4 26 (.load false 1 (tm 25)) 16 [],
 o4 27 (.call (fc 98) [(false,(.const (.str [86,101,114,115,105,111,110,115]))),(vv 26),(false,(ki 1)),(false,(ki 65536))] true 4) 16 [0,1,2,3,4,5,6,7,8,9,10,11,12,13,14,15],
 o4 28 (.fieldAddr 13 (tm 1)) 20 [],
 o4 29 (.load false 1 (tm 28)) 20 [],
 o4 30 (.call (fc 98) [(false,(.const (.str [76,105,110,103,101,114]))),(vv 29),(false,(ki 0)),(false,(ki 65536))] true 4) 20 [0,1,2,3,4,5,6,7,8,9,10,11,12,13,14,15,16,17,18,19],
 o4 31 (.fieldAddr 14 (tm 1)) 24 [],
 o4 32 (.load false 1 (tm 31)) 24 [],
 o4 33 (.call (fc 98) [(false,(.const (.str [75,101,101,112]))),(vv 32),(false,(ki 1)),(false,(ki 16))] true 4) 24 [0,1,2,3,4,5,6,7,8,9,10,11,12,13,14,15,16,17,18,19,20,21,22,23],
 o4 34 (.fieldAddr 15 (tm 1)) 28 [],
 o4 35 (.load false 1 (tm 34)) 28 [],
 o4 36 (.call (fc 98) [(false,(.const (.str [73,110]))),(vv 35),(false,(ki 1)),(false,(ki 8))] true 4) 28 [0,1,2,3,4,5,6,7,8,9,10,11,12,13,14,15,16,17,18,19,20,21,22,23,24,25,26,27],
 o4 37 (.fieldAddr 16 (tm 1)) 32 [],
 o4 38 (.load false 1 (tm 37)) 32 [],
 o4 39 (.call (fc 98) [(false,(.const (.str [79,117,116]))),(vv 38),(false,(ki 1)),(false,(ki 16))] true 4) 32 [0,1,2,3,4,5,6,7,8,9,10,11,12,13,14,15,16,17,18,19,20,21,22,23,24,25,26,27,28,29,30,31],
 o4 40 (.fieldAddr 17 (tm 1)) 36 [],
 o4 41 (.load false 1 (tm 40)) 36 [],
 o4 42 (.call (fc 98) [(false,(.const (.str [67,97,99,104,101]))),(vv 41),(false,(ki 0)),(false,(ki 16))] false 4) 36 [0,1,2,3,4,5,6,7,8,9,10,11,12,13,14,15,16,17,18,19,20,21,22,23,24,25,26,27,28,29,30,31,32,33,34,35],
 o4 43 (.buildSlice 2 15 true [.str [],.nilfn] [(0,(tm 4)),(1,(tm 6)),(2,(tm 9)),(3,(tm 11)),(4,(tm 13)),(5,(tm 16)),(6,(tm 18)),(7,(tm 21)),(8,(tm 24)),(9,(tm 27)),(10,(tm 30)),(11,(tm 33)),(12,(tm 36)),(13,(tm 39)),(14,(tm 42))]) 40 [0,1,2,3,4,5,6,7,8,9,10,11,12,13,14,15,16,17,18,19,20,21,22,23,24,25,26,27,28,29,30,31,32,33,34,35,36,37,38,39],
 o4 2 (.move (tm 43)) 41 [0,1,2,3,4,5,6,7,8,9,10,11,12,13,14,15,16,17,18,19,20,21,22,23,24,25,26,27,28,29,30,31,32,33,34,35,36,37,38,39,40]] []) (.ret)),[.tmp 2],true⟩
def s88 : Sig := ⟨(.cons (.v .spec) .nil),[],((.rows 2 (.cons (.cons (.v .str) (.cons (.fn 94 (.cons (.iptr (.cons (.v (.list .res)) (.cons (.v (.list (.list (.int .i64)))) (.cons (.v (.list .queue)) (.cons (.v (.int .i64)) (.cons (.v (.int .i64)) (.cons (.v (.int .i64)) (.cons (.v (.int .i64)) (.cons (.v (.int .i64)) (.cons (.v (.int .i64)) (.cons (.v (.int .i64)) (.cons (.v (.int .i64)) (.cons (.v (.int .i64)) (.cons (.v (.int .i64)) (.cons (.v (.int .i64)) (.cons (.v (.int .i64)) (.cons (.v (.int .i64)) (.cons (.v (.int .i64)) (.cons (.v (.int .i64)) .nil)))))))))))))))))) 0) .nil)) .nil)) (.cons (.cons (.v .str) (.cons (.fn 96 (.cons (.iptr (.cons (.v (.list .res)) (.cons (.v (.list (.list (.int .i64)))) (.cons (.v (.list .queue)) (.cons (.v (.int .i64)) (.cons (.v (.int .i64)) (.cons (.v (.int .i64)) (.cons (.v (.int .i64)) (.cons (.v (.int .i64)) (.cons (.v (.int .i64)) (.cons (.v (.int .i64)) (.cons (.v (.int .i64)) (.cons (.v (.int .i64)) (.cons (.v (.int .i64)) (.cons (.v (.int .i64)) (.cons (.v (.int .i64)) (.cons (.v (.int .i64)) (.cons (.v (.int .i64)) (.cons (.v (.int .i64)) .nil)))))))))))))))))) 0) .nil)) .nil)) (.cons (.cons (.v .str) (.cons (.fn 116 (.cons (.iptr (.cons (.v (.int .i64)) .nil) 0) (.cons (.iptr (.cons (.v (.int .i64)) .nil) 0) (.cons (.iptr (.cons (.v (.int .i64)) .nil) 0) .nil)))) .nil)) (.cons (.cons (.v .str) (.cons (.fn 99 (.cons (.iptr (.cons (.v (.list .res)) (.cons (.v (.list (.list (.int .i64)))) (.cons (.v (.list .queue)) (.cons (.v (.int .i64)) (.cons (.v (.int .i64)) (.cons (.v (.int .i64)) (.cons (.v (.int .i64)) (.cons (.v (.int .i64)) (.cons (.v (.int .i64)) (.cons (.v (.int .i64)) (.cons (.v (.int .i64)) (.cons (.v (.int .i64)) (.cons (.v (.int .i64)) (.cons (.v (.int .i64)) (.cons (.v (.int .i64)) (.cons (.v (.int .i64)) (.cons (.v (.int .i64)) (.cons (.v (.int .i64)) .nil)))))))))))))))))) 0) .nil)) .nil)) (.cons (.cons (.v .str) (.cons (.fn 101 (.cons (.iptr (.cons (.v (.list .res)) (.cons (.v (.list (.list (.int .i64)))) (.cons (.v (.list .queue)) (.cons (.v (.int .i64)) (.cons (.v (.int .i64)) (.cons (.v (.int .i64)) (.cons (.v (.int .i64)) (.cons (.v (.int .i64)) (.cons (.v (.int .i64)) (.cons (.v (.int .i64)) (.cons (.v (.int .i64)) (.cons (.v (.int .i64)) (.cons (.v (.int .i64)) (.cons (.v (.int .i64)) (.cons (.v (.int .i64)) (.cons (.v (.int .i64)) (.cons (.v (.int .i64)) (.cons (.v (.int .i64)) .nil)))))))))))))))))) 0) .nil)) .nil)) (.cons (.cons (.v .str) (.cons (.fn 116 (.cons (.iptr (.cons (.v (.int .i64)) .nil) 0) (.cons (.iptr (.cons (.v (.int .i64)) .nil) 0) (.cons (.iptr (.cons (.v (.int .i64)) .nil) 0) .nil)))) .nil)) (.cons (.cons (.v .str) (.cons (.fn 103 (.cons (.iptr (.cons (.v (.list .res)) (.cons (.v (.list (.list (.int .i64)))) (.cons (.v (.list .queue)) (.cons (.v (.int .i64)) (.cons (.v (.int .i64)) (.cons (.v (.int .i64)) (.cons (.v (.int .i64)) (.cons (.v (.int .i64)) (.cons (.v (.int .i64)) (.cons (.v (.int .i64)) (.cons (.v (.int .i64)) (.cons (.v (.int .i64)) (.cons (.v (.int .i64)) (.cons (.v (.int .i64)) (.cons (.v (.int .i64)) (.cons (.v (.int .i64)) (.cons (.v (.int .i64)) (.cons (.v (.int .i64)) .nil)))))))))))))))))) 0) .nil)) .nil)) (.cons (.cons (.v .str) (.cons (.fn 116 (.cons (.iptr (.cons (.v (.int .i64)) .nil) 0) (.cons (.iptr (.cons (.v (.int .i64)) .nil) 0) (.cons (.iptr (.cons (.v (.int .i64)) .nil) 0) .nil)))) .nil)) (.cons (.cons (.v .str) (.cons (.fn 116 (.cons (.iptr (.cons (.v (.int .i64)) .nil) 0) (.cons (.iptr (.cons (.v (.int .i64)) .nil) 0) (.cons (.iptr (.cons (.v (.int .i64)) .nil) 0) .nil)))) .nil)) (.cons (.cons (.v .str) (.cons (.fn 116 (.cons (.iptr (.cons (.v (.int .i64)) .nil) 0) (.cons (.iptr (.cons (.v (.int .i64)) .nil) 0) (.cons (.iptr (.cons (.v (.int .i64)) .nil) 0) .nil)))) .nil)) (.cons (.cons (.v .str) (.cons (.fn 116 (.cons (.iptr (.cons (.v (.int .i64)) .nil) 0) (.cons (.iptr (.cons (.v (.int .i64)) .nil) 0) (.cons (.iptr (.cons (.v (.int .i64)) .nil) 0) .nil)))) .nil)) (.cons (.cons (.v .str) (.cons (.fn 116 (.cons (.iptr (.cons (.v (.int .i64)) .nil) 0) (.cons (.iptr (.cons (.v (.int .i64)) .nil) 0) (.cons (.iptr (.cons (.v (.int .i64)) .nil) 0) .nil)))) .nil)) (.cons (.cons (.v .str) (.cons (.fn 116 (.cons (.iptr (.cons (.v (.int .i64)) .nil) 0) (.cons (.iptr (.cons (.v (.int .i64)) .nil) 0) (.cons (.iptr (.cons (.v (.int .i64)) .nil) 0) .nil)))) .nil)) (.cons (.cons (.v .str) (.cons (.fn 116 (.cons (.iptr (.cons (.v (.int .i64)) .nil) 0) (.cons (.iptr (.cons (.v (.int .i64)) .nil) 0) (.cons (.iptr (.cons (.v (.int .i64)) .nil) 0) .nil)))) .nil)) (.cons (.cons (.v .str) (.cons (.fn 116 (.cons (.iptr (.cons (.v (.int .i64)) .nil) 0) (.cons (.iptr (.cons (.v (.int .i64)) .nil) 0) (.cons (.iptr (.cons (.v (.int .i64)) .nil) 0) .nil)))) .nil)) .nil)))))))))))))))),[]),[]⟩
@[reducible] def y88 : Type := (((List UInt8) × ((((List Res) × ((List (List Int)) × ((List Queue) × (Int × (Int × (Int × (Int × (Int × (Int × (Int × (Int × (Int × (Int × (Int × (Int × (Int × (Int × (Int × Unit)))))))))))))))))) × Unit) × Unit)) × (((List UInt8) × ((((List Res) × ((List (List Int)) × ((List Queue) × (Int × (Int × (Int × (Int × (Int × (Int × (Int × (Int × (Int × (Int × (Int × (Int × (Int × (Int × (Int × Unit)))))))))))))))))) × Unit) × Unit)) × (((List UInt8) × (((Int × Unit) × ((Int × Unit) × ((Int × Unit) × Unit))) × Unit)) × (((List UInt8) × ((((List Res) × ((List (List Int)) × ((List Queue) × (Int × (Int × (Int × (Int × (Int × (Int × (Int × (Int × (Int × (Int × (Int × (Int × (Int × (Int × (Int × Unit)))))))))))))))))) × Unit) × Unit)) × (((List UInt8) × ((((List Res) × ((List (List Int)) × ((List Queue) × (Int × (Int × (Int × (Int × (Int × (Int × (Int × (Int × (Int × (Int × (Int × (Int × (Int × (Int × (Int × Unit)))))))))))))))))) × Unit) × Unit)) × (((List UInt8) × (((Int × Unit) × ((Int × Unit) × ((Int × Unit) × Unit))) × Unit)) × (((List UInt8) × ((((List Res) × ((List (List Int)) × ((List Queue) × (Int × (Int × (Int × (Int × (Int × (Int × (Int × (Int × (Int × (Int × (Int × (Int × (Int × (Int × (Int × Unit)))))))))))))))))) × Unit) × Unit)) × (((List UInt8) × (((Int × Unit) × ((Int × Unit) × ((Int × Unit) × Unit))) × Unit)) × (((List UInt8) × (((Int × Unit) × ((Int × Unit) × ((Int × Unit) × Unit))) × Unit)) × (((List UInt8) × (((Int × Unit) × ((Int × Unit) × ((Int × Unit) × Unit))) × Unit)) × (((List UInt8) × (((Int × Unit) × ((Int × Unit) × ((Int × Unit) × Unit))) × Unit)) × (((List UInt8) × (((Int × Unit) × ((Int × Unit) × ((Int × Unit) × Unit))) × Unit)) × (((List UInt8) × (((Int × Unit) × ((Int × Unit) × ((Int × Unit) × Unit))) × Unit)) × (((List UInt8) × (((Int × Unit) × ((Int × Unit) × ((Int × Unit) × Unit))) × Unit)) × (((List UInt8) × (((Int × Unit) × ((Int × Unit) × ((Int × Unit) × Unit))) × Unit)) × Unit)))))))))))))))
def F88 (L : Lp) (g98 : (List UInt8) → Int → Int → Int → Option ((List UInt8) × (((Int × Unit) × ((Int × Unit) × ((Int × Unit) × Unit))) × Unit))) (as0 : Spec) : Option y88 :=
 Option.bind (g98 ([85,115,101,114,115] : List UInt8) as0.users 1 8) fun r1 =>
 Option.bind (g98 ([68,101,99,97,121] : List UInt8) as0.decay 1 16) fun r2 =>
 Option.bind (g98 ([74,111,98,115] : List UInt8) as0.jobs 1 256) fun r3 =>
 Option.bind (g98 ([73,100,115] : List UInt8) as0.ids 1 1048576) fun r4 =>
 Option.bind (g98 ([86,101,114,115,105,111,110,115] : List UInt8) as0.versions 1 65536) fun r5 =>
 Option.bind (g98 ([76,105,110,103,101,114] : List UInt8) as0.linger 0 65536) fun r6 =>
 Option.bind (g98 ([75,101,101,112] : List UInt8) as0.keep 1 16) fun r7 =>
 Option.bind (g98 ([73,110] : List UInt8) as0.inn 1 8) fun r8 =>
 Option.bind (g98 ([79,117,116] : List UInt8) as0.out 1 16) fun r9 =>
 Option.bind (g98 ([67,97,99,104,101] : List UInt8) as0.cache 0 16) fun r10 =>
 some ((([78,111,100,101,115] : List UInt8),((as0.nodes,as0.parts,as0.queues,as0.users,as0.weights.age,as0.weights.size,as0.weights.qos,as0.weights.share,as0.decay,as0.mode,as0.jobs,as0.ids,as0.versions,as0.linger,as0.keep,as0.inn,as0.out,as0.cache,()),()),()),((([80,97,114,116,115] : List UInt8),((as0.nodes,as0.parts,as0.queues,as0.users,as0.weights.age,as0.weights.size,as0.weights.qos,as0.weights.share,as0.decay,as0.mode,as0.jobs,as0.ids,as0.versions,as0.linger,as0.keep,as0.inn,as0.out,as0.cache,()),()),()),((r1.1,((r1.2.1.1.1,()),(r1.2.1.2.1.1,()),(r1.2.1.2.2.1.1,()),()),()),((([81,117,101,117,101,115] : List UInt8),((as0.nodes,as0.parts,as0.queues,as0.users,as0.weights.age,as0.weights.size,as0.weights.qos,as0.weights.share,as0.decay,as0.mode,as0.jobs,as0.ids,as0.versions,as0.linger,as0.keep,as0.inn,as0.out,as0.cache,()),()),()),((([87,101,105,103,104,116,115] : List UInt8),((as0.nodes,as0.parts,as0.queues,as0.users,as0.weights.age,as0.weights.size,as0.weights.qos,as0.weights.share,as0.decay,as0.mode,as0.jobs,as0.ids,as0.versions,as0.linger,as0.keep,as0.inn,as0.out,as0.cache,()),()),()),((r2.1,((r2.2.1.1.1,()),(r2.2.1.2.1.1,()),(r2.2.1.2.2.1.1,()),()),()),((([77,111,100,101] : List UInt8),((as0.nodes,as0.parts,as0.queues,as0.users,as0.weights.age,as0.weights.size,as0.weights.qos,as0.weights.share,as0.decay,as0.mode,as0.jobs,as0.ids,as0.versions,as0.linger,as0.keep,as0.inn,as0.out,as0.cache,()),()),()),((r3.1,((r3.2.1.1.1,()),(r3.2.1.2.1.1,()),(r3.2.1.2.2.1.1,()),()),()),((r4.1,((r4.2.1.1.1,()),(r4.2.1.2.1.1,()),(r4.2.1.2.2.1.1,()),()),()),((r5.1,((r5.2.1.1.1,()),(r5.2.1.2.1.1,()),(r5.2.1.2.2.1.1,()),()),()),((r6.1,((r6.2.1.1.1,()),(r6.2.1.2.1.1,()),(r6.2.1.2.2.1.1,()),()),()),((r7.1,((r7.2.1.1.1,()),(r7.2.1.2.1.1,()),(r7.2.1.2.2.1.1,()),()),()),((r8.1,((r8.2.1.1.1,()),(r8.2.1.2.1.1,()),(r8.2.1.2.2.1.1,()),()),()),((r9.1,((r9.2.1.1.1,()),(r9.2.1.2.1.1,()),(r9.2.1.2.2.1.1,()),()),()),((r10.1,((r10.2.1.1.1,()),(r10.2.1.2.1.1,()),(r10.2.1.2.2.1.1,()),()),()),())))))))))))))))
theorem e88 (L : Lp) (g98 : (List UInt8) → Int → Int → Int → Option ((List UInt8) × (((Int × Unit) × ((Int × Unit) × ((Int × Unit) × Unit))) × Unit))) (x : s88.args.den) (h : denH s88.heap) : nrun [⟨98,s98,fun x h => g98 x.1 x.2.1 x.2.2.1 x.2.2.2.1⟩] L n88 s88 x h = F88 L g98 x.1 := by kernel_rfl
def f88 : Spec → Option y88 := F88 (@LN LOOPS) f98
@[reducible] def t88 : Ent := ⟨88,s88,fun x h => f88 x.1⟩
theorem k88 : chkNF Try.prog Try.f88 n88 = true := by kernel_rfl
theorem ok88 : NOk Try.prog t88 := NOk.body (T := [t98]) mixed (nall_cons ok98 nall_nil) (oneEach_of (by kernel_rfl)) Try.func88 k88 (by kernel_rfl) (fun x h => e88 _ _ x h)
def n74 : NFunc := ⟨12,.seq (.region 2 [
 o1 1 (.box 4 (tm 0)) 0,
 o1 2 (.alloc [iz,iz,iz,iz]) 1] []) (.seq (.region 0 [
 oF 3 0 1 0,
 oL 4 3 0,
 oF 5 1 1 0,
 oL 6 5 0,
 oF 7 2 1 0,
 oL 8 7 0,
 oF 9 3 1 0,
 oL 10 9 0,
 o1 11 (.build [iz,iz,iz,iz] [(0,1,(tm 4)),(1,1,(tm 6)),(2,1,(tm 8)),(3,1,(tm 10))]) 0,
 oS 4 2 11 0] []) (.ret)),[.cell true 4 2],true⟩
def s74 : Sig := ⟨(.cons (.v .res) .nil),[],((.v (.pair (.int .i64) (.pair (.int .i64) (.pair (.int .i64) (.int .i64))))),[]),[]⟩
def F74 (L : Lp)  (a0 : Res) : Option (Int × (Int × (Int × Int))) :=
 some (a0.cpu,(a0.mem,(a0.gpu,a0.lic)))
theorem e74 (L : Lp)  (x : s74.args.den) (h : denH s74.heap) : nrun [] L n74 s74 x h = F74 L  x.1 := by kernel_rfl
def f74 : Res → Option (Int × (Int × (Int × Int))) := F74 (@LN LOOPS) 
@[reducible] def t74 : Ent := ⟨74,s74,fun x h => f74 x.1⟩
theorem k74 : chkNF Try.prog Try.f74 n74 = true := by kernel_rfl
theorem ok74 : NOk Try.prog t74 := NOk.body (T := []) mixed nall_nil (oneEach_of (by kernel_rfl)) Try.func74 k74 (by kernel_rfl) (fun x h => e74 _  x h)
def n45 : NFunc := ⟨17,.seq (.region 1 [
 o1 1 (.box 4 (tm 0)) 0,
 o1 2 (.move kf) 1] []) (.seq (.seq (.region 4 [
 oT 5 4 1 0,
 o1 6 (.call (fc 74) [(vv 5)] false 4) 0,
 o1 7 (.move (ki 0)) 4] []) (.block 0 (.loopU [6,7] 5 (.seq (.region 0 [
 oC 8 .lss 7 4 0] []) (.seq (.cond (tm 8) (.skip) (.exit 0)) (.seq (.block 1 (.seq (.region 0 [
 o1 9 (.indexVal false 4 1 (tm 6) (tm 7)) 0,
 oM 4 9 0] []) (.seq (.region 0 [
 oM 10 4 0,
 oC 11 .lss 10 0 0,
 oM 12 11 0,
 oN 13 4 12 0,
 o2 14 (.bin .gtr (tm 13) (ki 1048576)) 12 0,
 o1 15 (.pick (tm 12) kt (tm 14)) 0] []) (.cond (tm 15) (.seq (.region 0 [
 o1 2 (.move kf) 0] []) (.ret)) (.skip))))) (.region 0 [
 oC 16 .add 7 1 0,
 oM 7 16 0] []))))))) (.seq (.region 0 [
 o1 2 (.move kt) 0] []) (.ret))),[.tmp 2],true⟩
def s45 : Sig := ⟨(.cons (.v .res) .nil),[],((.v .bool),[]),[]⟩
def F45 (L : Lp) (g74 : Res → Option (Int × (Int × (Int × Int)))) (a0 : Res) : Option Bool :=
 Option.bind (g74 a0) fun r1 =>
 cond (decide (r1.1 < 0))
 (some false)
 (cond (decide (1048576 < r1.1))
 (some false)
 (cond (decide (r1.2.1 < 0))
 (some false)
 (cond (decide (1048576 < r1.2.1))
 (some false)
 (cond (decide (r1.2.2.1 < 0))
 (some false)
 (cond (decide (1048576 < r1.2.2.1))
 (some false)
 (cond (decide (r1.2.2.2 < 0))
 (some false)
 (cond (decide (1048576 < r1.2.2.2))
 (some false)
 (some true))))))))
theorem e45 (L : Lp) (g74 : Res → Option (Int × (Int × (Int × Int)))) (x : s45.args.den) (h : denH s45.heap) : nrun [⟨74,s74,fun x h => g74 x.1⟩] L n45 s45 x h = F45 L g74 x.1 := by kernel_rfl
def f45 : Res → Option Bool := F45 (@LN LOOPS) f74
@[reducible] def t45 : Ent := ⟨45,s45,fun x h => f45 x.1⟩
theorem k45 : chkNF Try.prog Try.f45 n45 = true := by kernel_rfl
theorem ok45 : NOk Try.prog t45 := NOk.body (T := [t74]) mixed (nall_cons ok74 nall_nil) (oneEach_of (by kernel_rfl)) Try.func45 k45 (by kernel_rfl) (fun x h => e45 _ _ x h)
def n95 : NFunc := ⟨26,.seq (.region 1 [
 o1 1 (.box 18 (tm 0)) 0,
 o1 2 (.move kf) 1] []) (.seq (.seq (.region 0 [
 oF 5 0 1 0,
 oL 6 5 0,
 o1 7 (.len (tm 6)) 0,
 oC 8 .lss 7 1 0,
 oM 9 8 0,
 o2 10 (.fieldAddr 0 (tm 1)) 9 0,
 o2 11 (.load false 1 (tm 10)) 9 0,
 o2 12 (.len (tm 11)) 9 0,
 o2 13 (.bin .gtr (tm 12) (ki 16)) 9 0,
 o1 14 (.pick (tm 9) kt (tm 13)) 0] []) (.cond (tm 14) (.seq (.region 0 [
 o1 2 (.move kf) 0] []) (.ret)) (.skip))) (.seq (.seq (.region 0 [
 oF 15 0 1 0,
 oL 16 15 0,
 o1 17 (.len (tm 16)) 0,
 o1 18 (.move (ki 0)) 0] []) (.block 0 (.loop [16,17,18] ⟨[(18,vI)],[16,17],[]⟩ (.seq (.region 0 [
 oB 19 .lss 18 17 0] []) (.seq (.cond (tm 19) (.skip) (.exit 0)) (.seq (.block 1 (.seq (.region 1 [
 o1 20 (.indexSl 4 (tm 16) (tm 18)) 0,
 oT 21 4 20 0,
 o1 4 (.alloc [iz,iz,iz,iz]) 0,
 oS 4 4 21 1] []) (.seq (.region 4 [
 oT 22 4 4 0,
 o1 23 (.call (fc 45) [(vv 22)] false 4) 0,
 o1 24 (.un .not (tm 23)) 4] []) (.cond (tm 24) (.seq (.region 0 [
 o1 2 (.move kf) 0] []) (.ret)) (.skip))))) (.region 0 [
 oC 25 .add 18 1 0,
 oM 18 25 0] []))))))) (.seq (.region 0 [
 o1 2 (.move kt) 0] []) (.ret)))),[.tmp 2],true⟩
def s95 : Sig := ⟨(.cons (.v .spec) .nil),[],((.v .bool),[]),[]⟩
def l95_0 (g45 : Res → Option Bool) (as0 : Spec) (nx2 : ((Int × Unit) × Unit) → Option Bool) (z3 : Int) : Option Bool :=
 cond (decide (z3 < (List.length as0.nodes : Int)))
 (cond (decide (0 ≤ z3))
 (Option.bind (as0.nodes[Int.toNat z3]?) fun y4 =>
 Option.bind (g45 y4) fun r5 =>
 cond (!r5)
 (some false)
 (nx2 ((IntKind.wrap .i64 (z3 + 1),()),())))
 (none))
 (some true)
def F95 (L : Lp) (g45 : Res → Option Bool) (as0 : Spec) : Option Bool :=
 cond (decide ((List.length as0.nodes : Int) < 1))
 (some false)
 (cond (decide (16 < (List.length as0.nodes : Int)))
 (some false)
 (L (fun (s1 : ((Int × Unit) × Unit)) nx2 => l95_0 g45 as0 nx2 s1.1.1) ((0,()),())))
theorem e95 (L : Lp) (g45 : Res → Option Bool) (x : s95.args.den) (h : denH s95.heap) : nrun [⟨45,s45,fun x h => g45 x.1⟩] L n95 s95 x h = F95 L g45 x.1 := by kernel_rfl
def f95 : Spec → Option Bool := F95 (@LN LOOPS) f45
@[reducible] def t95 : Ent := ⟨95,s95,fun x h => f95 x.1⟩
theorem k95 : chkNF Try.prog Try.f95 n95 = true := by kernel_rfl
theorem ok95 : NOk Try.prog t95 := NOk.body (T := [t45]) mixed (nall_cons ok45 nall_nil) (oneEach_of (by kernel_rfl)) Try.func95 k95 (by kernel_rfl) (fun x h => e95 _ _ x h)
def n94 : NFunc := ⟨4,.seq (.region 0 [
 o1 1 (.move kf) 0] []) (.seq (.region 4 [
 oT 2 18 0 0,
 o1 3 (.call (fc 95) [(vv 2)] false 4) 0,
 oM 1 3 4] []) (.ret)),[.tmp 1],true⟩
def s94 : Sig := ⟨(.cons (.iptr (.cons (.v (.list .res)) (.cons (.v (.list (.list (.int .i64)))) (.cons (.v (.list .queue)) (.cons (.v (.int .i64)) (.cons (.v (.int .i64)) (.cons (.v (.int .i64)) (.cons (.v (.int .i64)) (.cons (.v (.int .i64)) (.cons (.v (.int .i64)) (.cons (.v (.int .i64)) (.cons (.v (.int .i64)) (.cons (.v (.int .i64)) (.cons (.v (.int .i64)) (.cons (.v (.int .i64)) (.cons (.v (.int .i64)) (.cons (.v (.int .i64)) (.cons (.v (.int .i64)) (.cons (.v (.int .i64)) .nil)))))))))))))))))) 0) .nil),[],((.v .bool),[]),[]⟩
def F94 (L : Lp) (g95 : Spec → Option Bool) (a0 : (List Res)) (a1 : (List (List Int))) (a2 : (List Queue)) (a3 : Int) (a4 : Int) (a5 : Int) (a6 : Int) (a7 : Int) (a8 : Int) (a9 : Int) (a10 : Int) (a11 : Int) (a12 : Int) (a13 : Int) (a14 : Int) (a15 : Int) (a16 : Int) (a17 : Int) : Option Bool :=
 Option.bind (g95 (Spec.mk a0 a1 a2 a3 (Weights.mk a4 a5 a6 a7) a8 a9 a10 a11 a12 a13 a14 a15 a16 a17)) fun r18 =>
 some r18
theorem e94 (L : Lp) (g95 : Spec → Option Bool) (x : s94.args.den) (h : denH s94.heap) : nrun [⟨95,s95,fun x h => g95 x.1⟩] L n94 s94 x h = F94 L g95 x.1.1 x.1.2.1 x.1.2.2.1 x.1.2.2.2.1 x.1.2.2.2.2.1 x.1.2.2.2.2.2.1 x.1.2.2.2.2.2.2.1 x.1.2.2.2.2.2.2.2.1 x.1.2.2.2.2.2.2.2.2.1 x.1.2.2.2.2.2.2.2.2.2.1 x.1.2.2.2.2.2.2.2.2.2.2.1 x.1.2.2.2.2.2.2.2.2.2.2.2.1 x.1.2.2.2.2.2.2.2.2.2.2.2.2.1 x.1.2.2.2.2.2.2.2.2.2.2.2.2.2.1 x.1.2.2.2.2.2.2.2.2.2.2.2.2.2.2.1 x.1.2.2.2.2.2.2.2.2.2.2.2.2.2.2.2.1 x.1.2.2.2.2.2.2.2.2.2.2.2.2.2.2.2.2.1 x.1.2.2.2.2.2.2.2.2.2.2.2.2.2.2.2.2.2.1 := by kernel_rfl
def f94 : (List Res) → (List (List Int)) → (List Queue) → Int → Int → Int → Int → Int → Int → Int → Int → Int → Int → Int → Int → Int → Int → Int → Option Bool := F94 (@LN LOOPS) f95
@[reducible] def t94 : Ent := ⟨94,s94,fun x h => f94 x.1.1 x.1.2.1 x.1.2.2.1 x.1.2.2.2.1 x.1.2.2.2.2.1 x.1.2.2.2.2.2.1 x.1.2.2.2.2.2.2.1 x.1.2.2.2.2.2.2.2.1 x.1.2.2.2.2.2.2.2.2.1 x.1.2.2.2.2.2.2.2.2.2.1 x.1.2.2.2.2.2.2.2.2.2.2.1 x.1.2.2.2.2.2.2.2.2.2.2.2.1 x.1.2.2.2.2.2.2.2.2.2.2.2.2.1 x.1.2.2.2.2.2.2.2.2.2.2.2.2.2.1 x.1.2.2.2.2.2.2.2.2.2.2.2.2.2.2.1 x.1.2.2.2.2.2.2.2.2.2.2.2.2.2.2.2.1 x.1.2.2.2.2.2.2.2.2.2.2.2.2.2.2.2.2.1 x.1.2.2.2.2.2.2.2.2.2.2.2.2.2.2.2.2.2.1⟩
theorem k94 : chkNF Try.prog Try.f94 n94 = true := by kernel_rfl
theorem ok94 : NOk Try.prog t94 := NOk.body (T := [t95]) mixed (nall_cons ok95 nall_nil) (oneEach_of (by kernel_rfl)) Try.func94 k94 (by kernel_rfl) (fun x h => e94 _ _ x h)
def n115 : NFunc := ⟨24,.seq (.region 0 [
 o1 4 (.move kf) 0] []) (.seq (.region 0 [
 o1 5 (.move (.const (.int .i64 (-1)))) 0] []) (.seq (.seq (.region 0 [
 oM 8 0 0,
 o1 9 (.len (tm 8)) 0,
 o1 10 (.move (ki 0)) 0] []) (.block 0 (.loop [1,5,8,9,10] ⟨[(5,vI),(10,vI)],[1,8,9],[]⟩ (.seq (.region 0 [
 oB 11 .lss 10 9 0] []) (.seq (.cond (tm 11) (.skip) (.exit 0)) (.seq (.block 1 (.seq (.region 0 [
 o1 12 (.indexSl 1 (tm 8) (tm 10)) 0,
 oL 13 12 0,
 oM 7 13 0] []) (.seq (.seq (.region 0 [
 oM 14 7 0,
 oM 15 5 0,
 oB 16 .leq 14 15 0,
 oM 17 16 0,
 oN 18 7 17 0,
 oN 19 1 17 0,
 o2 20 (.bin .geq (tm 18) (tm 19)) 17 0,
 o1 21 (.pick (tm 17) kt (tm 20)) 0] []) (.cond (tm 21) (.seq (.region 0 [
 o1 4 (.move kf) 0] []) (.ret)) (.skip))) (.region 0 [
 oM 22 7 0,
 oM 5 22 0] [])))) (.region 0 [
 oC 23 .add 10 1 0,
 oM 10 23 0] []))))))) (.seq (.region 0 [
 o1 4 (.move kt) 0] []) (.ret)))),[.tmp 4],true⟩
def s115 : Sig := ⟨(.cons (.v (.list (.int .i64))) (.cons (.v (.int .i64)) .nil)),[],((.v .bool),[]),[]⟩
def l115_0 (al0 : (List Int)) (end1 : Int) (nx3 : ((Int × (Int × Unit)) × Unit) → Option Bool) (last4 : Int) (z5 : Int) : Option Bool :=
 cond (decide (z5 < (List.length al0 : Int)))
 (cond (decide (0 ≤ z5))
 (Option.bind (al0[Int.toNat z5]?) fun y6 =>
 cond (decide (y6 ≤ last4))
 (some false)
 (cond (decide (end1 ≤ y6))
 (some false)
 (nx3 ((y6,IntKind.wrap .i64 (z5 + 1),()),()))))
 (none))
 (some true)
def F115 (L : Lp)  (al0 : (List Int)) (end1 : Int) : Option Bool :=
 L (fun (s2 : ((Int × (Int × Unit)) × Unit)) nx3 => l115_0 al0 end1 nx3 s2.1.1 s2.1.2.1) (((-1),0,()),())
theorem e115 (L : Lp)  (x : s115.args.den) (h : denH s115.heap) : nrun [] L n115 s115 x h = F115 L  x.1 x.2.1 := by kernel_rfl
def f115 : (List Int) → Int → Option Bool := F115 (@LN LOOPS) 
@[reducible] def t115 : Ent := ⟨115,s115,fun x h => f115 x.1 x.2.1⟩
theorem k115 : chkNF Try.prog Try.f115 n115 = true := by kernel_rfl
theorem ok115 : NOk Try.prog t115 := NOk.body (T := []) mixed nall_nil (oneEach_of (by kernel_rfl)) Try.func115 k115 (by kernel_rfl) (fun x h => e115 _  x h)
def n97 : NFunc := ⟨34,.seq (.region 1 [
 o1 1 (.box 18 (tm 0)) 0,
 o1 2 (.move kf) 1] []) (.seq (.seq (.region 0 [
 oF 5 1 1 0,
 oL 6 5 0,
 o1 7 (.len (tm 6)) 0,
 oC 8 .lss 7 1 0,
 oM 9 8 0,
 o2 10 (.fieldAddr 1 (tm 1)) 9 0,
 o2 11 (.load false 1 (tm 10)) 9 0,
 o2 12 (.len (tm 11)) 9 0,
 o2 13 (.bin .gtr (tm 12) (ki 8)) 9 0,
 o1 14 (.pick (tm 9) kt (tm 13)) 0] []) (.cond (tm 14) (.seq (.region 0 [
 o1 2 (.move kf) 0] []) (.ret)) (.skip))) (.seq (.seq (.region 0 [
 oF 15 1 1 0,
 oL 16 15 0,
 o1 17 (.len (tm 16)) 0,
 o1 18 (.move (ki 0)) 0] []) (.block 0 (.loop [1,16,17,18] ⟨[(1,(.ptr 0 0 0)),(18,vI)],[16,17],[.one false .spec]⟩ (.seq (.region 0 [
 oB 19 .lss 18 17 0] []) (.seq (.cond (tm 19) (.skip) (.exit 0)) (.seq (.block 1 (.seq (.region 0 [
 o1 20 (.indexSl 1 (tm 16) (tm 18)) 0,
 oL 21 20 0,
 oM 4 21 0] []) (.seq (.region 4 [
 oM 22 4 0,
 o1 23 (.len (tm 22)) 0,
 oC 24 .lss 23 1 0,
 oM 25 24 0,
 oN 26 4 25 0,
 o2 27 (.fieldAddr 0 (tm 1)) 25 0,
 o2 28 (.load false 1 (tm 27)) 25 0,
 o2 29 (.len (tm 28)) 25 0,
 o2 30 (.call (fc 115) [(vv 26),(vv 29)] false 4) 25 0,
 o2 31 (.un .not (tm 30)) 25 4,
 o1 32 (.pick (tm 25) kt (tm 31)) 4] []) (.cond (tm 32) (.seq (.region 0 [
 o1 2 (.move kf) 0] []) (.ret)) (.skip))))) (.region 0 [
 oC 33 .add 18 1 0,
 oM 18 33 0] []))))))) (.seq (.region 0 [
 o1 2 (.move kt) 0] []) (.ret)))),[.tmp 2],true⟩
def s97 : Sig := ⟨(.cons (.v .spec) .nil),[],((.v .bool),[]),[]⟩
def l97_0 (g115 : (List Int) → Int → Option Bool) (as0 : Spec) (nx2 : ((Unit × (Int × Unit)) × (Spec × Unit)) → Option Bool) (z3 : Int) (z4 : Spec) : Option Bool :=
 cond (decide (z3 < (List.length as0.parts : Int)))
 (cond (decide (0 ≤ z3))
 (Option.bind (as0.parts[Int.toNat z3]?) fun y5 =>
 cond (decide ((List.length y5 : Int) < 1))
 (some false)
 (Option.bind (g115 y5 (List.length z4.nodes : Int)) fun r6 =>
 cond (!r6)
 (some false)
 (nx2 (((),IntKind.wrap .i64 (z3 + 1),()),(z4,())))))
 (none))
 (some true)
def F97 (L : Lp) (g115 : (List Int) → Int → Option Bool) (as0 : Spec) : Option Bool :=
 cond (decide ((List.length as0.parts : Int) < 1))
 (some false)
 (cond (decide (8 < (List.length as0.parts : Int)))
 (some false)
 (L (fun (s1 : ((Unit × (Int × Unit)) × (Spec × Unit))) nx2 => l97_0 g115 as0 nx2 s1.1.2.1 s1.2.1) (((),0,()),(as0,()))))
theorem e97 (L : Lp) (g115 : (List Int) → Int → Option Bool) (x : s97.args.den) (h : denH s97.heap) : nrun [⟨115,s115,fun x h => g115 x.1 x.2.1⟩] L n97 s97 x h = F97 L g115 x.1 := by kernel_rfl
def f97 : Spec → Option Bool := F97 (@LN LOOPS) f115
@[reducible] def t97 : Ent := ⟨97,s97,fun x h => f97 x.1⟩
theorem k97 : chkNF Try.prog Try.f97 n97 = true := by kernel_rfl
theorem ok97 : NOk Try.prog t97 := NOk.body (T := [t115]) mixed (nall_cons ok115 nall_nil) (oneEach_of (by kernel_rfl)) Try.func97 k97 (by kernel_rfl) (fun x h => e97 _ _ x h)
def n96 : NFunc := ⟨4,.seq (.region 0 [
 o1 1 (.move kf) 0] []) (.seq (.region 4 [
 oT 2 18 0 0,
 o1 3 (.call (fc 97) [(vv 2)] false 4) 0,
 oM 1 3 4] []) (.ret)),[.tmp 1],true⟩
def s96 : Sig := ⟨(.cons (.iptr (.cons (.v (.list .res)) (.cons (.v (.list (.list (.int .i64)))) (.cons (.v (.list .queue)) (.cons (.v (.int .i64)) (.cons (.v (.int .i64)) (.cons (.v (.int .i64)) (.cons (.v (.int .i64)) (.cons (.v (.int .i64)) (.cons (.v (.int .i64)) (.cons (.v (.int .i64)) (.cons (.v (.int .i64)) (.cons (.v (.int .i64)) (.cons (.v (.int .i64)) (.cons (.v (.int .i64)) (.cons (.v (.int .i64)) (.cons (.v (.int .i64)) (.cons (.v (.int .i64)) (.cons (.v (.int .i64)) .nil)))))))))))))))))) 0) .nil),[],((.v .bool),[]),[]⟩
def F96 (L : Lp) (g97 : Spec → Option Bool) (a0 : (List Res)) (a1 : (List (List Int))) (a2 : (List Queue)) (a3 : Int) (a4 : Int) (a5 : Int) (a6 : Int) (a7 : Int) (a8 : Int) (a9 : Int) (a10 : Int) (a11 : Int) (a12 : Int) (a13 : Int) (a14 : Int) (a15 : Int) (a16 : Int) (a17 : Int) : Option Bool :=
 Option.bind (g97 (Spec.mk a0 a1 a2 a3 (Weights.mk a4 a5 a6 a7) a8 a9 a10 a11 a12 a13 a14 a15 a16 a17)) fun r18 =>
 some r18
theorem e96 (L : Lp) (g97 : Spec → Option Bool) (x : s96.args.den) (h : denH s96.heap) : nrun [⟨97,s97,fun x h => g97 x.1⟩] L n96 s96 x h = F96 L g97 x.1.1 x.1.2.1 x.1.2.2.1 x.1.2.2.2.1 x.1.2.2.2.2.1 x.1.2.2.2.2.2.1 x.1.2.2.2.2.2.2.1 x.1.2.2.2.2.2.2.2.1 x.1.2.2.2.2.2.2.2.2.1 x.1.2.2.2.2.2.2.2.2.2.1 x.1.2.2.2.2.2.2.2.2.2.2.1 x.1.2.2.2.2.2.2.2.2.2.2.2.1 x.1.2.2.2.2.2.2.2.2.2.2.2.2.1 x.1.2.2.2.2.2.2.2.2.2.2.2.2.2.1 x.1.2.2.2.2.2.2.2.2.2.2.2.2.2.2.1 x.1.2.2.2.2.2.2.2.2.2.2.2.2.2.2.2.1 x.1.2.2.2.2.2.2.2.2.2.2.2.2.2.2.2.2.1 x.1.2.2.2.2.2.2.2.2.2.2.2.2.2.2.2.2.2.1 := by kernel_rfl
def f96 : (List Res) → (List (List Int)) → (List Queue) → Int → Int → Int → Int → Int → Int → Int → Int → Int → Int → Int → Int → Int → Int → Int → Option Bool := F96 (@LN LOOPS) f97
@[reducible] def t96 : Ent := ⟨96,s96,fun x h => f96 x.1.1 x.1.2.1 x.1.2.2.1 x.1.2.2.2.1 x.1.2.2.2.2.1 x.1.2.2.2.2.2.1 x.1.2.2.2.2.2.2.1 x.1.2.2.2.2.2.2.2.1 x.1.2.2.2.2.2.2.2.2.1 x.1.2.2.2.2.2.2.2.2.2.1 x.1.2.2.2.2.2.2.2.2.2.2.1 x.1.2.2.2.2.2.2.2.2.2.2.2.1 x.1.2.2.2.2.2.2.2.2.2.2.2.2.1 x.1.2.2.2.2.2.2.2.2.2.2.2.2.2.1 x.1.2.2.2.2.2.2.2.2.2.2.2.2.2.2.1 x.1.2.2.2.2.2.2.2.2.2.2.2.2.2.2.2.1 x.1.2.2.2.2.2.2.2.2.2.2.2.2.2.2.2.2.1 x.1.2.2.2.2.2.2.2.2.2.2.2.2.2.2.2.2.2.1⟩
theorem k96 : chkNF Try.prog Try.f96 n96 = true := by kernel_rfl
theorem ok96 : NOk Try.prog t96 := NOk.body (T := [t97]) mixed (nall_cons ok97 nall_nil) (oneEach_of (by kernel_rfl)) Try.func96 k96 (by kernel_rfl) (fun x h => e96 _ _ x h)
def n116 : NFunc := ⟨12,.seq (.region 0 [
 o1 3 (.move kf) 0] []) (.seq (.region 0 [
 oL 4 0 0,
 oL 5 1 0,
 oB 6 .leq 4 5 0,
 oM 7 6 0,
 o3 8 (.load false 1 (tm 1)) 7 0,
 o3 9 (.load false 1 (tm 2)) 7 0,
 o3 10 (.bin .leq (tm 8) (tm 9)) 7 0,
 o1 11 (.pick (tm 7) (tm 10) kf) 0,
 oM 3 11 0] []) (.ret)),[.tmp 3],true⟩
def s116 : Sig := ⟨(.cons (.iptr (.cons (.v (.int .i64)) .nil) 0) (.cons (.iptr (.cons (.v (.int .i64)) .nil) 0) (.cons (.iptr (.cons (.v (.int .i64)) .nil) 0) .nil))),[],((.v .bool),[]),[]⟩
def F116 (L : Lp)  (a0 : Int) (a1 : Int) (a2 : Int) : Option Bool :=
 cond (decide (a0 ≤ a1))
 (some (decide (a1 ≤ a2)))
 (some false)
theorem e116 (L : Lp)  (x : s116.args.den) (h : denH s116.heap) : nrun [] L n116 s116 x h = F116 L  x.1.1 x.2.1.1 x.2.2.1.1 := by kernel_rfl
def f116 : Int → Int → Int → Option Bool := F116 (@LN LOOPS) 
@[reducible] def t116 : Ent := ⟨116,s116,fun x h => f116 x.1.1 x.2.1.1 x.2.2.1.1⟩
theorem k116 : chkNF Try.prog Try.f116 n116 = true := by kernel_rfl
theorem ok116 : NOk Try.prog t116 := NOk.body (T := []) mixed nall_nil (oneEach_of (by kernel_rfl)) Try.func116 k116 (by kernel_rfl) (fun x h => e116 _  x h)
def n100 : NFunc := ⟨69,.seq (.region 1 [
 o1 1 (.box 18 (tm 0)) 0,
 o1 2 (.move kf) 1] []) (.seq (.seq (.region 0 [
 oF 7 2 1 0,
 oL 8 7 0,
 o1 9 (.len (tm 8)) 0,
 oC 10 .lss 9 1 0,
 oM 11 10 0,
 o2 12 (.fieldAddr 2 (tm 1)) 11 0,
 o2 13 (.load false 1 (tm 12)) 11 0,
 o2 14 (.len (tm 13)) 11 0,
 o2 15 (.bin .gtr (tm 14) (ki 8)) 11 0,
 o1 16 (.pick (tm 11) kt (tm 15)) 0] []) (.cond (tm 16) (.seq (.region 0 [
 o1 2 (.move kf) 0] []) (.ret)) (.skip))) (.seq (.seq (.region 0 [
 oF 17 2 1 0,
 oL 18 17 0,
 o1 19 (.len (tm 18)) 0,
 o1 20 (.move (ki 0)) 0] []) (.block 0 (.loop [1,18,19,20] ⟨[(1,(.ptr 0 0 0)),(20,vI)],[18,19],[.one false .spec]⟩ (.seq (.region 0 [
 oB 21 .lss 20 19 0] []) (.seq (.cond (tm 21) (.skip) (.exit 0)) (.seq (.block 1 (.seq (.region 1 [
 o1 22 (.indexSl 6 (tm 18) (tm 20)) 0,
 oT 23 6 22 0,
 o1 4 (.alloc [iz,.zsl,iz,iz,iz,iz]) 0,
 oS 6 4 23 1] []) (.seq (.seq (.region 4 [
 oF 24 0 4 0,
 oL 25 24 0,
 oC 26 .lss 25 0 0,
 oM 27 26 0,
 o2 28 (.fieldAddr 0 (tm 4)) 27 0,
 o2 29 (.load false 1 (tm 28)) 27 0,
 o2 30 (.fieldAddr 1 (tm 1)) 27 0,
 o2 31 (.load false 1 (tm 30)) 27 0,
 o2 32 (.len (tm 31)) 27 0,
 o2 33 (.bin .geq (tm 29) (tm 32)) 27 0,
 o1 34 (.pick (tm 27) kt (tm 33)) 0,
 oM 35 34 0,
 o2 36 (.fieldAddr 1 (tm 4)) 35 0,
 o2 37 (.load false 1 (tm 36)) 35 0,
 o2 38 (.fieldAddr 3 (tm 1)) 35 0,
 o2 39 (.load false 1 (tm 38)) 35 0,
 o2 40 (.call (fc 115) [(vv 37),(vv 39)] false 4) 35 0,
 o2 41 (.un .not (tm 40)) 35 4,
 o1 42 (.pick (tm 35) kt (tm 41)) 4] []) (.cond (tm 42) (.seq (.region 0 [
 o1 2 (.move kf) 0] []) (.ret)) (.skip))) (.seq (.seq (.region 0 [
 oF 43 2 4 0,
 oL 44 43 0,
 oF 45 3 4 0,
 oL 46 45 0,
 oF 47 4 4 0,
 oL 48 47 0,
 o1 49 (.build [iz,iz,iz] [(0,1,(tm 44)),(1,1,(tm 46)),(2,1,(tm 48))]) 0,
 o1 50 (.move (ki 0)) 0] []) (.block 2 (.loopU [1,4,18,19,20,49,50] 4 (.seq (.region 0 [
 oC 51 .lss 50 3 0] []) (.seq (.cond (tm 51) (.skip) (.exit 2)) (.seq (.block 3 (.seq (.region 0 [
 o1 52 (.indexVal false 3 1 (tm 49) (tm 50)) 0,
 oM 6 52 0] []) (.seq (.region 0 [
 oM 53 6 0,
 oC 54 .lss 53 1 0,
 oM 55 54 0,
 oN 56 6 55 0,
 o2 57 (.bin .gtr (tm 56) (ki 256)) 55 0,
 o1 58 (.pick (tm 55) kt (tm 57)) 0] []) (.cond (tm 58) (.seq (.region 0 [
 o1 2 (.move kf) 0] []) (.ret)) (.skip))))) (.region 0 [
 oC 59 .add 50 1 0,
 oM 50 59 0] []))))))) (.seq (.region 0 [
 oF 60 5 4 0,
 oL 61 60 0,
 oC 62 .lss 61 0 0,
 oM 63 62 0,
 o2 64 (.fieldAddr 5 (tm 4)) 63 0,
 o2 65 (.load false 1 (tm 64)) 63 0,
 o2 66 (.bin .gtr (tm 65) (ki 100)) 63 0,
 o1 67 (.pick (tm 63) kt (tm 66)) 0] []) (.cond (tm 67) (.seq (.region 0 [
 o1 2 (.move kf) 0] []) (.ret)) (.skip))))))) (.region 0 [
 oC 68 .add 20 1 0,
 oM 20 68 0] []))))))) (.seq (.region 0 [
 o1 2 (.move kt) 0] []) (.ret)))),[.tmp 2],true⟩
def s100 : Sig := ⟨(.cons (.v .spec) .nil),[],((.v .bool),[]),[]⟩
def l100_0 (g115 : (List Int) → Int → Option Bool) (as0 : Spec) (nx2 : ((Unit × (Int × Unit)) × (Spec × Unit)) → Option Bool) (z3 : Int) (z4 : Spec) : Option Bool :=
 cond (decide (z3 < (List.length as0.queues : Int)))
 (cond (decide (0 ≤ z3))
 (Option.bind (as0.queues[Int.toNat z3]?) fun y5 =>
 cond (decide (y5.part < 0))
 (some false)
 (cond (decide ((List.length z4.parts : Int) ≤ y5.part))
 (some false)
 (Option.bind (g115 y5.users z4.users) fun r6 =>
 cond (!r6)
 (some false)
 (cond (decide (y5.maxJobs < 1))
 (some false)
 (cond (decide (256 < y5.maxJobs))
 (some false)
 (cond (decide (y5.maxRun < 1))
 (some false)
 (cond (decide (256 < y5.maxRun))
 (some false)
 (cond (decide (y5.maxUser < 1))
 (some false)
 (cond (decide (256 < y5.maxUser))
 (some false)
 (cond (decide (y5.qos < 0))
 (some false)
 (cond (decide (100 < y5.qos))
 (some false)
 (nx2 (((),IntKind.wrap .i64 (z3 + 1),()),(z4,()))))))))))))))
 (none))
 (some true)
def F100 (L : Lp) (g115 : (List Int) → Int → Option Bool) (as0 : Spec) : Option Bool :=
 cond (decide ((List.length as0.queues : Int) < 1))
 (some false)
 (cond (decide (8 < (List.length as0.queues : Int)))
 (some false)
 (L (fun (s1 : ((Unit × (Int × Unit)) × (Spec × Unit))) nx2 => l100_0 g115 as0 nx2 s1.1.2.1 s1.2.1) (((),0,()),(as0,()))))
theorem e100 (L : Lp) (g115 : (List Int) → Int → Option Bool) (x : s100.args.den) (h : denH s100.heap) : nrun [⟨115,s115,fun x h => g115 x.1 x.2.1⟩] L n100 s100 x h = F100 L g115 x.1 := by kernel_rfl
def f100 : Spec → Option Bool := F100 (@LN LOOPS) f115
@[reducible] def t100 : Ent := ⟨100,s100,fun x h => f100 x.1⟩
theorem k100 : chkNF Try.prog Try.f100 n100 = true := by kernel_rfl
theorem ok100 : NOk Try.prog t100 := NOk.body (T := [t115]) mixed (nall_cons ok115 nall_nil) (oneEach_of (by kernel_rfl)) Try.func100 k100 (by kernel_rfl) (fun x h => e100 _ _ x h)
def n99 : NFunc := ⟨4,.seq (.region 0 [
 o1 1 (.move kf) 0] []) (.seq (.region 4 [
 oT 2 18 0 0,
 o1 3 (.call (fc 100) [(vv 2)] false 4) 0,
 oM 1 3 4] []) (.ret)),[.tmp 1],true⟩
def s99 : Sig := ⟨(.cons (.iptr (.cons (.v (.list .res)) (.cons (.v (.list (.list (.int .i64)))) (.cons (.v (.list .queue)) (.cons (.v (.int .i64)) (.cons (.v (.int .i64)) (.cons (.v (.int .i64)) (.cons (.v (.int .i64)) (.cons (.v (.int .i64)) (.cons (.v (.int .i64)) (.cons (.v (.int .i64)) (.cons (.v (.int .i64)) (.cons (.v (.int .i64)) (.cons (.v (.int .i64)) (.cons (.v (.int .i64)) (.cons (.v (.int .i64)) (.cons (.v (.int .i64)) (.cons (.v (.int .i64)) (.cons (.v (.int .i64)) .nil)))))))))))))))))) 0) .nil),[],((.v .bool),[]),[]⟩
def F99 (L : Lp) (g100 : Spec → Option Bool) (a0 : (List Res)) (a1 : (List (List Int))) (a2 : (List Queue)) (a3 : Int) (a4 : Int) (a5 : Int) (a6 : Int) (a7 : Int) (a8 : Int) (a9 : Int) (a10 : Int) (a11 : Int) (a12 : Int) (a13 : Int) (a14 : Int) (a15 : Int) (a16 : Int) (a17 : Int) : Option Bool :=
 Option.bind (g100 (Spec.mk a0 a1 a2 a3 (Weights.mk a4 a5 a6 a7) a8 a9 a10 a11 a12 a13 a14 a15 a16 a17)) fun r18 =>
 some r18
theorem e99 (L : Lp) (g100 : Spec → Option Bool) (x : s99.args.den) (h : denH s99.heap) : nrun [⟨100,s100,fun x h => g100 x.1⟩] L n99 s99 x h = F99 L g100 x.1.1 x.1.2.1 x.1.2.2.1 x.1.2.2.2.1 x.1.2.2.2.2.1 x.1.2.2.2.2.2.1 x.1.2.2.2.2.2.2.1 x.1.2.2.2.2.2.2.2.1 x.1.2.2.2.2.2.2.2.2.1 x.1.2.2.2.2.2.2.2.2.2.1 x.1.2.2.2.2.2.2.2.2.2.2.1 x.1.2.2.2.2.2.2.2.2.2.2.2.1 x.1.2.2.2.2.2.2.2.2.2.2.2.2.1 x.1.2.2.2.2.2.2.2.2.2.2.2.2.2.1 x.1.2.2.2.2.2.2.2.2.2.2.2.2.2.2.1 x.1.2.2.2.2.2.2.2.2.2.2.2.2.2.2.2.1 x.1.2.2.2.2.2.2.2.2.2.2.2.2.2.2.2.2.1 x.1.2.2.2.2.2.2.2.2.2.2.2.2.2.2.2.2.2.1 := by kernel_rfl
def f99 : (List Res) → (List (List Int)) → (List Queue) → Int → Int → Int → Int → Int → Int → Int → Int → Int → Int → Int → Int → Int → Int → Int → Option Bool := F99 (@LN LOOPS) f100
@[reducible] def t99 : Ent := ⟨99,s99,fun x h => f99 x.1.1 x.1.2.1 x.1.2.2.1 x.1.2.2.2.1 x.1.2.2.2.2.1 x.1.2.2.2.2.2.1 x.1.2.2.2.2.2.2.1 x.1.2.2.2.2.2.2.2.1 x.1.2.2.2.2.2.2.2.2.1 x.1.2.2.2.2.2.2.2.2.2.1 x.1.2.2.2.2.2.2.2.2.2.2.1 x.1.2.2.2.2.2.2.2.2.2.2.2.1 x.1.2.2.2.2.2.2.2.2.2.2.2.2.1 x.1.2.2.2.2.2.2.2.2.2.2.2.2.2.1 x.1.2.2.2.2.2.2.2.2.2.2.2.2.2.2.1 x.1.2.2.2.2.2.2.2.2.2.2.2.2.2.2.2.1 x.1.2.2.2.2.2.2.2.2.2.2.2.2.2.2.2.2.1 x.1.2.2.2.2.2.2.2.2.2.2.2.2.2.2.2.2.2.1⟩
theorem k99 : chkNF Try.prog Try.f99 n99 = true := by kernel_rfl
theorem ok99 : NOk Try.prog t99 := NOk.body (T := [t100]) mixed (nall_cons ok100 nall_nil) (oneEach_of (by kernel_rfl)) Try.func99 k99 (by kernel_rfl) (fun x h => e99 _ _ x h)
def n102 : NFunc := ⟨24,.seq (.region 1 [
 o1 1 (.box 4 (tm 0)) 0,
 o1 2 (.move kf) 1] []) (.seq (.seq (.region 0 [
 oF 5 0 1 0,
 oL 6 5 0,
 oF 7 1 1 0,
 oL 8 7 0,
 oF 9 2 1 0,
 oL 10 9 0,
 oF 11 3 1 0,
 oL 12 11 0,
 o1 13 (.build [iz,iz,iz,iz] [(0,1,(tm 6)),(1,1,(tm 8)),(2,1,(tm 10)),(3,1,(tm 12))]) 0,
 o1 14 (.move (ki 0)) 0] []) (.block 0 (.loopU [13,14] 5 (.seq (.region 0 [
 oC 15 .lss 14 4 0] []) (.seq (.cond (tm 15) (.skip) (.exit 0)) (.seq (.block 1 (.seq (.region 0 [
 o1 16 (.indexVal false 4 1 (tm 13) (tm 14)) 0,
 oM 4 16 0] []) (.seq (.region 0 [
 oM 17 4 0,
 oC 18 .lss 17 0 0,
 oM 19 18 0,
 oN 20 4 19 0,
 o2 21 (.bin .gtr (tm 20) (ki 1000)) 19 0,
 o1 22 (.pick (tm 19) kt (tm 21)) 0] []) (.cond (tm 22) (.seq (.region 0 [
 o1 2 (.move kf) 0] []) (.ret)) (.skip))))) (.region 0 [
 oC 23 .add 14 1 0,
 oM 14 23 0] []))))))) (.seq (.region 0 [
 o1 2 (.move kt) 0] []) (.ret))),[.tmp 2],true⟩
def s102 : Sig := ⟨(.cons (.v .weights) .nil),[],((.v .bool),[]),[]⟩
def F102 (L : Lp)  (w0 : Weights) : Option Bool :=
 cond (decide (w0.age < 0))
 (some false)
 (cond (decide (1000 < w0.age))
 (some false)
 (cond (decide (w0.size < 0))
 (some false)
 (cond (decide (1000 < w0.size))
 (some false)
 (cond (decide (w0.qos < 0))
 (some false)
 (cond (decide (1000 < w0.qos))
 (some false)
 (cond (decide (w0.share < 0))
 (some false)
 (cond (decide (1000 < w0.share))
 (some false)
 (some true))))))))
theorem e102 (L : Lp)  (x : s102.args.den) (h : denH s102.heap) : nrun [] L n102 s102 x h = F102 L  x.1 := by kernel_rfl
def f102 : Weights → Option Bool := F102 (@LN LOOPS) 
@[reducible] def t102 : Ent := ⟨102,s102,fun x h => f102 x.1⟩
theorem k102 : chkNF Try.prog Try.f102 n102 = true := by kernel_rfl
theorem ok102 : NOk Try.prog t102 := NOk.body (T := []) mixed nall_nil (oneEach_of (by kernel_rfl)) Try.func102 k102 (by kernel_rfl) (fun x h => e102 _  x h)
def n101 : NFunc := ⟨5,.seq (.region 0 [
 o1 1 (.move kf) 0] []) (.seq (.region 4 [
 oF 2 4 0 0,
 oT 3 4 2 0,
 o1 4 (.call (fc 102) [(vv 3)] false 4) 0,
 oM 1 4 4] []) (.ret)),[.tmp 1],true⟩
def s101 : Sig := ⟨(.cons (.iptr (.cons (.v (.list .res)) (.cons (.v (.list (.list (.int .i64)))) (.cons (.v (.list .queue)) (.cons (.v (.int .i64)) (.cons (.v (.int .i64)) (.cons (.v (.int .i64)) (.cons (.v (.int .i64)) (.cons (.v (.int .i64)) (.cons (.v (.int .i64)) (.cons (.v (.int .i64)) (.cons (.v (.int .i64)) (.cons (.v (.int .i64)) (.cons (.v (.int .i64)) (.cons (.v (.int .i64)) (.cons (.v (.int .i64)) (.cons (.v (.int .i64)) (.cons (.v (.int .i64)) (.cons (.v (.int .i64)) .nil)))))))))))))))))) 0) .nil),[],((.v .bool),[]),[]⟩
def F101 (L : Lp) (g102 : Weights → Option Bool) (a0 : (List Res)) (a1 : (List (List Int))) (a2 : (List Queue)) (a3 : Int) (a4 : Int) (a5 : Int) (a6 : Int) (a7 : Int) (a8 : Int) (a9 : Int) (a10 : Int) (a11 : Int) (a12 : Int) (a13 : Int) (a14 : Int) (a15 : Int) (a16 : Int) (a17 : Int) : Option Bool :=
 Option.bind (g102 (Weights.mk a4 a5 a6 a7)) fun r18 =>
 some r18
theorem e101 (L : Lp) (g102 : Weights → Option Bool) (x : s101.args.den) (h : denH s101.heap) : nrun [⟨102,s102,fun x h => g102 x.1⟩] L n101 s101 x h = F101 L g102 x.1.1 x.1.2.1 x.1.2.2.1 x.1.2.2.2.1 x.1.2.2.2.2.1 x.1.2.2.2.2.2.1 x.1.2.2.2.2.2.2.1 x.1.2.2.2.2.2.2.2.1 x.1.2.2.2.2.2.2.2.2.1 x.1.2.2.2.2.2.2.2.2.2.1 x.1.2.2.2.2.2.2.2.2.2.2.1 x.1.2.2.2.2.2.2.2.2.2.2.2.1 x.1.2.2.2.2.2.2.2.2.2.2.2.2.1 x.1.2.2.2.2.2.2.2.2.2.2.2.2.2.1 x.1.2.2.2.2.2.2.2.2.2.2.2.2.2.2.1 x.1.2.2.2.2.2.2.2.2.2.2.2.2.2.2.2.1 x.1.2.2.2.2.2.2.2.2.2.2.2.2.2.2.2.2.1 x.1.2.2.2.2.2.2.2.2.2.2.2.2.2.2.2.2.2.1 := by kernel_rfl
def f101 : (List Res) → (List (List Int)) → (List Queue) → Int → Int → Int → Int → Int → Int → Int → Int → Int → Int → Int → Int → Int → Int → Int → Option Bool := F101 (@LN LOOPS) f102
@[reducible] def t101 : Ent := ⟨101,s101,fun x h => f101 x.1.1 x.1.2.1 x.1.2.2.1 x.1.2.2.2.1 x.1.2.2.2.2.1 x.1.2.2.2.2.2.1 x.1.2.2.2.2.2.2.1 x.1.2.2.2.2.2.2.2.1 x.1.2.2.2.2.2.2.2.2.1 x.1.2.2.2.2.2.2.2.2.2.1 x.1.2.2.2.2.2.2.2.2.2.2.1 x.1.2.2.2.2.2.2.2.2.2.2.2.1 x.1.2.2.2.2.2.2.2.2.2.2.2.2.1 x.1.2.2.2.2.2.2.2.2.2.2.2.2.2.1 x.1.2.2.2.2.2.2.2.2.2.2.2.2.2.2.1 x.1.2.2.2.2.2.2.2.2.2.2.2.2.2.2.2.1 x.1.2.2.2.2.2.2.2.2.2.2.2.2.2.2.2.2.1 x.1.2.2.2.2.2.2.2.2.2.2.2.2.2.2.2.2.2.1⟩
theorem k101 : chkNF Try.prog Try.f101 n101 = true := by kernel_rfl
theorem ok101 : NOk Try.prog t101 := NOk.body (T := [t102]) mixed (nall_cons ok102 nall_nil) (oneEach_of (by kernel_rfl)) Try.func101 k101 (by kernel_rfl) (fun x h => e101 _ _ x h)
def n103 : NFunc := ⟨10,.seq (.region 0 [
 o1 1 (.move kf) 0] []) (.seq (.region 0 [
 oF 2 9 0 0,
 oL 3 2 0,
 oC 4 .eql 3 1 0,
 oM 5 4 0,
 o2 6 (.fieldAddr 9 (tm 0)) 5 0,
 o2 7 (.load false 1 (tm 6)) 5 0,
 o2 8 (.bin .eql (tm 7) (ki 2)) 5 0,
 o1 9 (.pick (tm 5) kt (tm 8)) 0,
 oM 1 9 0] []) (.ret)),[.tmp 1],true⟩
def s103 : Sig := ⟨(.cons (.iptr (.cons (.v (.list .res)) (.cons (.v (.list (.list (.int .i64)))) (.cons (.v (.list .queue)) (.cons (.v (.int .i64)) (.cons (.v (.int .i64)) (.cons (.v (.int .i64)) (.cons (.v (.int .i64)) (.cons (.v (.int .i64)) (.cons (.v (.int .i64)) (.cons (.v (.int .i64)) (.cons (.v (.int .i64)) (.cons (.v (.int .i64)) (.cons (.v (.int .i64)) (.cons (.v (.int .i64)) (.cons (.v (.int .i64)) (.cons (.v (.int .i64)) (.cons (.v (.int .i64)) (.cons (.v (.int .i64)) .nil)))))))))))))))))) 0) .nil),[],((.v .bool),[]),[]⟩
def F103 (L : Lp)  (a0 : (List Res)) (a1 : (List (List Int))) (a2 : (List Queue)) (a3 : Int) (a4 : Int) (a5 : Int) (a6 : Int) (a7 : Int) (a8 : Int) (a9 : Int) (a10 : Int) (a11 : Int) (a12 : Int) (a13 : Int) (a14 : Int) (a15 : Int) (a16 : Int) (a17 : Int) : Option Bool :=
 cond (decide (a9 = 1))
 (some true)
 (some (decide (a9 = 2)))
theorem e103 (L : Lp)  (x : s103.args.den) (h : denH s103.heap) : nrun [] L n103 s103 x h = F103 L  x.1.1 x.1.2.1 x.1.2.2.1 x.1.2.2.2.1 x.1.2.2.2.2.1 x.1.2.2.2.2.2.1 x.1.2.2.2.2.2.2.1 x.1.2.2.2.2.2.2.2.1 x.1.2.2.2.2.2.2.2.2.1 x.1.2.2.2.2.2.2.2.2.2.1 x.1.2.2.2.2.2.2.2.2.2.2.1 x.1.2.2.2.2.2.2.2.2.2.2.2.1 x.1.2.2.2.2.2.2.2.2.2.2.2.2.1 x.1.2.2.2.2.2.2.2.2.2.2.2.2.2.1 x.1.2.2.2.2.2.2.2.2.2.2.2.2.2.2.1 x.1.2.2.2.2.2.2.2.2.2.2.2.2.2.2.2.1 x.1.2.2.2.2.2.2.2.2.2.2.2.2.2.2.2.2.1 x.1.2.2.2.2.2.2.2.2.2.2.2.2.2.2.2.2.2.1 := by kernel_rfl
def f103 : (List Res) → (List (List Int)) → (List Queue) → Int → Int → Int → Int → Int → Int → Int → Int → Int → Int → Int → Int → Int → Int → Int → Option Bool := F103 (@LN LOOPS) 
@[reducible] def t103 : Ent := ⟨103,s103,fun x h => f103 x.1.1 x.1.2.1 x.1.2.2.1 x.1.2.2.2.1 x.1.2.2.2.2.1 x.1.2.2.2.2.2.1 x.1.2.2.2.2.2.2.1 x.1.2.2.2.2.2.2.2.1 x.1.2.2.2.2.2.2.2.2.1 x.1.2.2.2.2.2.2.2.2.2.1 x.1.2.2.2.2.2.2.2.2.2.2.1 x.1.2.2.2.2.2.2.2.2.2.2.2.1 x.1.2.2.2.2.2.2.2.2.2.2.2.2.1 x.1.2.2.2.2.2.2.2.2.2.2.2.2.2.1 x.1.2.2.2.2.2.2.2.2.2.2.2.2.2.2.1 x.1.2.2.2.2.2.2.2.2.2.2.2.2.2.2.2.1 x.1.2.2.2.2.2.2.2.2.2.2.2.2.2.2.2.2.1 x.1.2.2.2.2.2.2.2.2.2.2.2.2.2.2.2.2.2.1⟩
theorem k103 : chkNF Try.prog Try.f103 n103 = true := by kernel_rfl
theorem ok103 : NOk Try.prog t103 := NOk.body (T := []) mixed nall_nil (oneEach_of (by kernel_rfl)) Try.func103 k103 (by kernel_rfl) (fun x h => e103 _  x h)
def n70 : NFunc := ⟨19,.seq (.region 1 [
 o1 1 (.box 18 (tm 0)) 0,
 o1 2 (.move (.const (.str []))) 1] []) (.seq (.seq (.region 4 [
 oT 5 18 1 0,
 o1 6 (.call (fc 88) [(vv 5)] false 4) 0,
 o1 7 (.len (tm 6)) 4,
 o1 8 (.move (ki 0)) 4] []) (.block 0 (.loopU [6,7,8] 16 (.seq (.region 0 [
 oB 9 .lss 8 7 0] []) (.seq (.cond (tm 9) (.skip) (.exit 0)) (.seq (.block 1 (.seq (.region 1 [
 o1 10 (.indexSl 2 (tm 6) (tm 8)) 0,
 oT 11 2 10 0,
 o1 4 (.alloc [.str [],.nilfn]) 0,
 oS 2 4 11 1] []) (.seq (.region 4 [
 oF 12 1 4 0,
 oL 13 12 0,
 o1 14 (.call (tm 13) [] false 4) 0,
 o1 15 (.un .not (tm 14)) 4] []) (.cond (tm 15) (.seq (.region 0 [
 oF 16 0 4 0,
 oL 17 16 0,
 oM 2 17 0] []) (.ret)) (.skip))))) (.region 0 [
 oC 18 .add 8 1 0,
 oM 8 18 0] []))))))) (.seq (.region 0 [
 o1 2 (.move (.const (.str []))) 0] []) (.ret))),[.tmp 2],true⟩
def s70 : Sig := ⟨(.cons (.v .spec) .nil),[],((.v .str),[]),[]⟩
def F70 (L : Lp) (g88 : Spec → Option y88) (g94 : (List Res) → (List (List Int)) → (List Queue) → Int → Int → Int → Int → Int → Int → Int → Int → Int → Int → Int → Int → Int → Int → Int → Option Bool) (g96 : (List Res) → (List (List Int)) → (List Queue) → Int → Int → Int → Int → Int → Int → Int → Int → Int → Int → Int → Int → Int → Int → Int → Option Bool) (g116 : Int → Int → Int → Option Bool) (g99 : (List Res) → (List (List Int)) → (List Queue) → Int → Int → Int → Int → Int → Int → Int → Int → Int → Int → Int → Int → Int → Int → Int → Option Bool) (g101 : (List Res) → (List (List Int)) → (List Queue) → Int → Int → Int → Int → Int → Int → Int → Int → Int → Int → Int → Int → Int → Int → Int → Option Bool) (g103 : (List Res) → (List (List Int)) → (List Queue) → Int → Int → Int → Int → Int → Int → Int → Int → Int → Int → Int → Int → Int → Int → Int → Option Bool) (as0 : Spec) : Option (List UInt8) :=
 Option.bind (g88 as0) fun r1 =>
 Option.bind (g94 r1.1.2.1.1.1 r1.1.2.1.1.2.1 r1.1.2.1.1.2.2.1 r1.1.2.1.1.2.2.2.1 r1.1.2.1.1.2.2.2.2.1 r1.1.2.1.1.2.2.2.2.2.1 r1.1.2.1.1.2.2.2.2.2.2.1 r1.1.2.1.1.2.2.2.2.2.2.2.1 r1.1.2.1.1.2.2.2.2.2.2.2.2.1 r1.1.2.1.1.2.2.2.2.2.2.2.2.2.1 r1.1.2.1.1.2.2.2.2.2.2.2.2.2.2.1 r1.1.2.1.1.2.2.2.2.2.2.2.2.2.2.2.1 r1.1.2.1.1.2.2.2.2.2.2.2.2.2.2.2.2.1 r1.1.2.1.1.2.2.2.2.2.2.2.2.2.2.2.2.2.1 r1.1.2.1.1.2.2.2.2.2.2.2.2.2.2.2.2.2.2.1 r1.1.2.1.1.2.2.2.2.2.2.2.2.2.2.2.2.2.2.2.1 r1.1.2.1.1.2.2.2.2.2.2.2.2.2.2.2.2.2.2.2.2.1 r1.1.2.1.1.2.2.2.2.2.2.2.2.2.2.2.2.2.2.2.2.2.1) fun r2 =>
 cond (!r2)
 (some r1.1.1)
 (Option.bind (g96 r1.2.1.2.1.1.1 r1.2.1.2.1.1.2.1 r1.2.1.2.1.1.2.2.1 r1.2.1.2.1.1.2.2.2.1 r1.2.1.2.1.1.2.2.2.2.1 r1.2.1.2.1.1.2.2.2.2.2.1 r1.2.1.2.1.1.2.2.2.2.2.2.1 r1.2.1.2.1.1.2.2.2.2.2.2.2.1 r1.2.1.2.1.1.2.2.2.2.2.2.2.2.1 r1.2.1.2.1.1.2.2.2.2.2.2.2.2.2.1 r1.2.1.2.1.1.2.2.2.2.2.2.2.2.2.2.1 r1.2.1.2.1.1.2.2.2.2.2.2.2.2.2.2.2.1 r1.2.1.2.1.1.2.2.2.2.2.2.2.2.2.2.2.2.1 r1.2.1.2.1.1.2.2.2.2.2.2.2.2.2.2.2.2.2.1 r1.2.1.2.1.1.2.2.2.2.2.2.2.2.2.2.2.2.2.2.1 r1.2.1.2.1.1.2.2.2.2.2.2.2.2.2.2.2.2.2.2.2.1 r1.2.1.2.1.1.2.2.2.2.2.2.2.2.2.2.2.2.2.2.2.2.1 r1.2.1.2.1.1.2.2.2.2.2.2.2.2.2.2.2.2.2.2.2.2.2.1) fun r3 =>
 cond (!r3)
 (some r1.2.1.1)
 (Option.bind (g116 r1.2.2.1.2.1.1.1 r1.2.2.1.2.1.2.1.1 r1.2.2.1.2.1.2.2.1.1) fun r4 =>
 cond (!r4)
 (some r1.2.2.1.1)
 (Option.bind (g99 r1.2.2.2.1.2.1.1.1 r1.2.2.2.1.2.1.1.2.1 r1.2.2.2.1.2.1.1.2.2.1 r1.2.2.2.1.2.1.1.2.2.2.1 r1.2.2.2.1.2.1.1.2.2.2.2.1 r1.2.2.2.1.2.1.1.2.2.2.2.2.1 r1.2.2.2.1.2.1.1.2.2.2.2.2.2.1 r1.2.2.2.1.2.1.1.2.2.2.2.2.2.2.1 r1.2.2.2.1.2.1.1.2.2.2.2.2.2.2.2.1 r1.2.2.2.1.2.1.1.2.2.2.2.2.2.2.2.2.1 r1.2.2.2.1.2.1.1.2.2.2.2.2.2.2.2.2.2.1 r1.2.2.2.1.2.1.1.2.2.2.2.2.2.2.2.2.2.2.1 r1.2.2.2.1.2.1.1.2.2.2.2.2.2.2.2.2.2.2.2.1 r1.2.2.2.1.2.1.1.2.2.2.2.2.2.2.2.2.2.2.2.2.1 r1.2.2.2.1.2.1.1.2.2.2.2.2.2.2.2.2.2.2.2.2.2.1 r1.2.2.2.1.2.1.1.2.2.2.2.2.2.2.2.2.2.2.2.2.2.2.1 r1.2.2.2.1.2.1.1.2.2.2.2.2.2.2.2.2.2.2.2.2.2.2.2.1 r1.2.2.2.1.2.1.1.2.2.2.2.2.2.2.2.2.2.2.2.2.2.2.2.2.1) fun r5 =>
 cond (!r5)
 (some r1.2.2.2.1.1)
 (Option.bind (g101 r1.2.2.2.2.1.2.1.1.1 r1.2.2.2.2.1.2.1.1.2.1 r1.2.2.2.2.1.2.1.1.2.2.1 r1.2.2.2.2.1.2.1.1.2.2.2.1 r1.2.2.2.2.1.2.1.1.2.2.2.2.1 r1.2.2.2.2.1.2.1.1.2.2.2.2.2.1 r1.2.2.2.2.1.2.1.1.2.2.2.2.2.2.1 r1.2.2.2.2.1.2.1.1.2.2.2.2.2.2.2.1 r1.2.2.2.2.1.2.1.1.2.2.2.2.2.2.2.2.1 r1.2.2.2.2.1.2.1.1.2.2.2.2.2.2.2.2.2.1 r1.2.2.2.2.1.2.1.1.2.2.2.2.2.2.2.2.2.2.1 r1.2.2.2.2.1.2.1.1.2.2.2.2.2.2.2.2.2.2.2.1 r1.2.2.2.2.1.2.1.1.2.2.2.2.2.2.2.2.2.2.2.2.1 r1.2.2.2.2.1.2.1.1.2.2.2.2.2.2.2.2.2.2.2.2.2.1 r1.2.2.2.2.1.2.1.1.2.2.2.2.2.2.2.2.2.2.2.2.2.2.1 r1.2.2.2.2.1.2.1.1.2.2.2.2.2.2.2.2.2.2.2.2.2.2.2.1 r1.2.2.2.2.1.2.1.1.2.2.2.2.2.2.2.2.2.2.2.2.2.2.2.2.1 r1.2.2.2.2.1.2.1.1.2.2.2.2.2.2.2.2.2.2.2.2.2.2.2.2.2.1) fun r6 =>
 cond (!r6)
 (some r1.2.2.2.2.1.1)
 (Option.bind (g116 r1.2.2.2.2.2.1.2.1.1.1 r1.2.2.2.2.2.1.2.1.2.1.1 r1.2.2.2.2.2.1.2.1.2.2.1.1) fun r7 =>
 cond (!r7)
 (some r1.2.2.2.2.2.1.1)
 (Option.bind (g103 r1.2.2.2.2.2.2.1.2.1.1.1 r1.2.2.2.2.2.2.1.2.1.1.2.1 r1.2.2.2.2.2.2.1.2.1.1.2.2.1 r1.2.2.2.2.2.2.1.2.1.1.2.2.2.1 r1.2.2.2.2.2.2.1.2.1.1.2.2.2.2.1 r1.2.2.2.2.2.2.1.2.1.1.2.2.2.2.2.1 r1.2.2.2.2.2.2.1.2.1.1.2.2.2.2.2.2.1 r1.2.2.2.2.2.2.1.2.1.1.2.2.2.2.2.2.2.1 r1.2.2.2.2.2.2.1.2.1.1.2.2.2.2.2.2.2.2.1 r1.2.2.2.2.2.2.1.2.1.1.2.2.2.2.2.2.2.2.2.1 r1.2.2.2.2.2.2.1.2.1.1.2.2.2.2.2.2.2.2.2.2.1 r1.2.2.2.2.2.2.1.2.1.1.2.2.2.2.2.2.2.2.2.2.2.1 r1.2.2.2.2.2.2.1.2.1.1.2.2.2.2.2.2.2.2.2.2.2.2.1 r1.2.2.2.2.2.2.1.2.1.1.2.2.2.2.2.2.2.2.2.2.2.2.2.1 r1.2.2.2.2.2.2.1.2.1.1.2.2.2.2.2.2.2.2.2.2.2.2.2.2.1 r1.2.2.2.2.2.2.1.2.1.1.2.2.2.2.2.2.2.2.2.2.2.2.2.2.2.1 r1.2.2.2.2.2.2.1.2.1.1.2.2.2.2.2.2.2.2.2.2.2.2.2.2.2.2.1 r1.2.2.2.2.2.2.1.2.1.1.2.2.2.2.2.2.2.2.2.2.2.2.2.2.2.2.2.1) fun r8 =>
 cond (!r8)
 (some r1.2.2.2.2.2.2.1.1)
 (Option.bind (g116 r1.2.2.2.2.2.2.2.1.2.1.1.1 r1.2.2.2.2.2.2.2.1.2.1.2.1.1 r1.2.2.2.2.2.2.2.1.2.1.2.2.1.1) fun r9 =>
 cond (!r9)
 (some r1.2.2.2.2.2.2.2.1.1)
 (Option.bind (g116 r1.2.2.2.2.2.2.2.2.1.2.1.1.1 r1.2.2.2.2.2.2.2.2.1.2.1.2.1.1 r1.2.2.2.2.2.2.2.2.1.2.1.2.2.1.1) fun r10 =>
 cond (!r10)
 (some r1.2.2.2.2.2.2.2.2.1.1)
 (Option.bind (g116 r1.2.2.2.2.2.2.2.2.2.1.2.1.1.1 r1.2.2.2.2.2.2.2.2.2.1.2.1.2.1.1 r1.2.2.2.2.2.2.2.2.2.1.2.1.2.2.1.1) fun r11 =>
 cond (!r11)
 (some r1.2.2.2.2.2.2.2.2.2.1.1)
 (Option.bind (g116 r1.2.2.2.2.2.2.2.2.2.2.1.2.1.1.1 r1.2.2.2.2.2.2.2.2.2.2.1.2.1.2.1.1 r1.2.2.2.2.2.2.2.2.2.2.1.2.1.2.2.1.1) fun r12 =>
 cond (!r12)
 (some r1.2.2.2.2.2.2.2.2.2.2.1.1)
 (Option.bind (g116 r1.2.2.2.2.2.2.2.2.2.2.2.1.2.1.1.1 r1.2.2.2.2.2.2.2.2.2.2.2.1.2.1.2.1.1 r1.2.2.2.2.2.2.2.2.2.2.2.1.2.1.2.2.1.1) fun r13 =>
 cond (!r13)
 (some r1.2.2.2.2.2.2.2.2.2.2.2.1.1)
 (Option.bind (g116 r1.2.2.2.2.2.2.2.2.2.2.2.2.1.2.1.1.1 r1.2.2.2.2.2.2.2.2.2.2.2.2.1.2.1.2.1.1 r1.2.2.2.2.2.2.2.2.2.2.2.2.1.2.1.2.2.1.1) fun r14 =>
 cond (!r14)
 (some r1.2.2.2.2.2.2.2.2.2.2.2.2.1.1)
 (Option.bind (g116 r1.2.2.2.2.2.2.2.2.2.2.2.2.2.1.2.1.1.1 r1.2.2.2.2.2.2.2.2.2.2.2.2.2.1.2.1.2.1.1 r1.2.2.2.2.2.2.2.2.2.2.2.2.2.1.2.1.2.2.1.1) fun r15 =>
 cond (!r15)
 (some r1.2.2.2.2.2.2.2.2.2.2.2.2.2.1.1)
 (Option.bind (g116 r1.2.2.2.2.2.2.2.2.2.2.2.2.2.2.1.2.1.1.1 r1.2.2.2.2.2.2.2.2.2.2.2.2.2.2.1.2.1.2.1.1 r1.2.2.2.2.2.2.2.2.2.2.2.2.2.2.1.2.1.2.2.1.1) fun r16 =>
 cond (!r16)
 (some r1.2.2.2.2.2.2.2.2.2.2.2.2.2.2.1.1)
 (some ([] : List UInt8))))))))))))))))
theorem e70 (L : Lp) (g88 : Spec → Option y88) (g94 : (List Res) → (List (List Int)) → (List Queue) → Int → Int → Int → Int → Int → Int → Int → Int → Int → Int → Int → Int → Int → Int → Int → Option Bool) (g96 : (List Res) → (List (List Int)) → (List Queue) → Int → Int → Int → Int → Int → Int → Int → Int → Int → Int → Int → Int → Int → Int → Int → Option Bool) (g116 : Int → Int → Int → Option Bool) (g99 : (List Res) → (List (List Int)) → (List Queue) → Int → Int → Int → Int → Int → Int → Int → Int → Int → Int → Int → Int → Int → Int → Int → Option Bool) (g101 : (List Res) → (List (List Int)) → (List Queue) → Int → Int → Int → Int → Int → Int → Int → Int → Int → Int → Int → Int → Int → Int → Int → Option Bool) (g103 : (List Res) → (List (List Int)) → (List Queue) → Int → Int → Int → Int → Int → Int → Int → Int → Int → Int → Int → Int → Int → Int → Int → Option Bool) (x : s70.args.den) (h : denH s70.heap) : nrun [⟨88,s88,fun x h => g88 x.1⟩,⟨94,s94,fun x h => g94 x.1.1 x.1.2.1 x.1.2.2.1 x.1.2.2.2.1 x.1.2.2.2.2.1 x.1.2.2.2.2.2.1 x.1.2.2.2.2.2.2.1 x.1.2.2.2.2.2.2.2.1 x.1.2.2.2.2.2.2.2.2.1 x.1.2.2.2.2.2.2.2.2.2.1 x.1.2.2.2.2.2.2.2.2.2.2.1 x.1.2.2.2.2.2.2.2.2.2.2.2.1 x.1.2.2.2.2.2.2.2.2.2.2.2.2.1 x.1.2.2.2.2.2.2.2.2.2.2.2.2.2.1 x.1.2.2.2.2.2.2.2.2.2.2.2.2.2.2.1 x.1.2.2.2.2.2.2.2.2.2.2.2.2.2.2.2.1 x.1.2.2.2.2.2.2.2.2.2.2.2.2.2.2.2.2.1 x.1.2.2.2.2.2.2.2.2.2.2.2.2.2.2.2.2.2.1⟩,⟨96,s96,fun x h => g96 x.1.1 x.1.2.1 x.1.2.2.1 x.1.2.2.2.1 x.1.2.2.2.2.1 x.1.2.2.2.2.2.1 x.1.2.2.2.2.2.2.1 x.1.2.2.2.2.2.2.2.1 x.1.2.2.2.2.2.2.2.2.1 x.1.2.2.2.2.2.2.2.2.2.1 x.1.2.2.2.2.2.2.2.2.2.2.1 x.1.2.2.2.2.2.2.2.2.2.2.2.1 x.1.2.2.2.2.2.2.2.2.2.2.2.2.1 x.1.2.2.2.2.2.2.2.2.2.2.2.2.2.1 x.1.2.2.2.2.2.2.2.2.2.2.2.2.2.2.1 x.1.2.2.2.2.2.2.2.2.2.2.2.2.2.2.2.1 x.1.2.2.2.2.2.2.2.2.2.2.2.2.2.2.2.2.1 x.1.2.2.2.2.2.2.2.2.2.2.2.2.2.2.2.2.2.1⟩,⟨116,s116,fun x h => g116 x.1.1 x.2.1.1 x.2.2.1.1⟩,⟨99,s99,fun x h => g99 x.1.1 x.1.2.1 x.1.2.2.1 x.1.2.2.2.1 x.1.2.2.2.2.1 x.1.2.2.2.2.2.1 x.1.2.2.2.2.2.2.1 x.1.2.2.2.2.2.2.2.1 x.1.2.2.2.2.2.2.2.2.1 x.1.2.2.2.2.2.2.2.2.2.1 x.1.2.2.2.2.2.2.2.2.2.2.1 x.1.2.2.2.2.2.2.2.2.2.2.2.1 x.1.2.2.2.2.2.2.2.2.2.2.2.2.1 x.1.2.2.2.2.2.2.2.2.2.2.2.2.2.1 x.1.2.2.2.2.2.2.2.2.2.2.2.2.2.2.1 x.1.2.2.2.2.2.2.2.2.2.2.2.2.2.2.2.1 x.1.2.2.2.2.2.2.2.2.2.2.2.2.2.2.2.2.1 x.1.2.2.2.2.2.2.2.2.2.2.2.2.2.2.2.2.2.1⟩,⟨101,s101,fun x h => g101 x.1.1 x.1.2.1 x.1.2.2.1 x.1.2.2.2.1 x.1.2.2.2.2.1 x.1.2.2.2.2.2.1 x.1.2.2.2.2.2.2.1 x.1.2.2.2.2.2.2.2.1 x.1.2.2.2.2.2.2.2.2.1 x.1.2.2.2.2.2.2.2.2.2.1 x.1.2.2.2.2.2.2.2.2.2.2.1 x.1.2.2.2.2.2.2.2.2.2.2.2.1 x.1.2.2.2.2.2.2.2.2.2.2.2.2.1 x.1.2.2.2.2.2.2.2.2.2.2.2.2.2.1 x.1.2.2.2.2.2.2.2.2.2.2.2.2.2.2.1 x.1.2.2.2.2.2.2.2.2.2.2.2.2.2.2.2.1 x.1.2.2.2.2.2.2.2.2.2.2.2.2.2.2.2.2.1 x.1.2.2.2.2.2.2.2.2.2.2.2.2.2.2.2.2.2.1⟩,⟨103,s103,fun x h => g103 x.1.1 x.1.2.1 x.1.2.2.1 x.1.2.2.2.1 x.1.2.2.2.2.1 x.1.2.2.2.2.2.1 x.1.2.2.2.2.2.2.1 x.1.2.2.2.2.2.2.2.1 x.1.2.2.2.2.2.2.2.2.1 x.1.2.2.2.2.2.2.2.2.2.1 x.1.2.2.2.2.2.2.2.2.2.2.1 x.1.2.2.2.2.2.2.2.2.2.2.2.1 x.1.2.2.2.2.2.2.2.2.2.2.2.2.1 x.1.2.2.2.2.2.2.2.2.2.2.2.2.2.1 x.1.2.2.2.2.2.2.2.2.2.2.2.2.2.2.1 x.1.2.2.2.2.2.2.2.2.2.2.2.2.2.2.2.1 x.1.2.2.2.2.2.2.2.2.2.2.2.2.2.2.2.2.1 x.1.2.2.2.2.2.2.2.2.2.2.2.2.2.2.2.2.2.1⟩] L n70 s70 x h = F70 L g88 g94 g96 g116 g99 g101 g103 x.1 := by kernel_rfl
def f70 : Spec → Option (List UInt8) := F70 (@LN LOOPS) f88 f94 f96 f116 f99 f101 f103
@[reducible] def t70 : Ent := ⟨70,s70,fun x h => f70 x.1⟩
theorem k70 : chkNF Try.prog Try.f70 n70 = true := by kernel_rfl
theorem ok70 : NOk Try.prog t70 := NOk.body (T := [t88,t94,t96,t116,t99,t101,t103]) mixed (nall_cons ok88 (nall_cons ok94 (nall_cons ok96 (nall_cons ok116 (nall_cons ok99 (nall_cons ok101 (nall_cons ok103 nall_nil))))))) (oneEach_of (by kernel_rfl)) Try.func70 k70 (by kernel_rfl) (fun x h => e70 _ _ _ _ _ _ _ _ x h)
def n40 : NFunc := ⟨6,.seq (.region 1 [
 o1 1 (.box 18 (tm 0)) 0,
 o1 2 (.move kf) 1] []) (.seq (.region 4 [
 oT 3 18 1 0,
 o1 4 (.call (fc 70) [(vv 3)] false 4) 0,
 o1 5 (.bin .eql (tm 4) (.const (.str []))) 4,
 oM 2 5 4] []) (.ret)),[.tmp 2],true⟩
def s40 : Sig := ⟨(.cons (.v .spec) .nil),[],((.v .bool),[]),[]⟩
def F40 (L : Lp) (g70 : Spec → Option (List UInt8)) (as0 : Spec) : Option Bool :=
 Option.bind (g70 as0) fun r1 =>
 some (decide (r1 = ([] : List UInt8)))
theorem e40 (L : Lp) (g70 : Spec → Option (List UInt8)) (x : s40.args.den) (h : denH s40.heap) : nrun [⟨70,s70,fun x h => g70 x.1⟩] L n40 s40 x h = F40 L g70 x.1 := by kernel_rfl
def f40 : Spec → Option Bool := F40 (@LN LOOPS) f70
@[reducible] def t40 : Ent := ⟨40,s40,fun x h => f40 x.1⟩
theorem k40 : chkNF Try.prog Try.f40 n40 = true := by kernel_rfl
theorem ok40 : NOk Try.prog t40 := NOk.body (T := [t70]) mixed (nall_cons ok70 nall_nil) (oneEach_of (by kernel_rfl)) Try.func40 k40 (by kernel_rfl) (fun x h => e40 _ _ x h)
def n41 : NFunc := ⟨8,.seq (.region 0 [
 o1 2 (.move (.const (.zsl))) 0] []) (.seq (.seq (.region 0 [
 oM 3 0 0,
 o1 4 (.eqI false (tm 3) (.const (.zsl))) 0] []) (.cond (tm 4) (.seq (.region 0 [
 o1 2 (.move (.const (.zsl))) 0] []) (.ret)) (.skip))) (.seq (.region 2 [
 o1 5 (.buildSlice 4 0 true [iz,iz,iz,iz] []) 0,
 oM 6 0 1,
 o1 7 (.append 4 32 true (tm 5) (tm 6)) 1,
 oM 2 7 2] []) (.ret))),[.tmp 2],false⟩
def s41 : Sig := ⟨(.cons (.v (.list .res)) .nil),[],((.slw 0 4),[.typed .res]),[]⟩
def F41 (L : Lp)  (as0 : (List Res)) : Option (Unit × ((List Res) × Unit)) :=
 cond (List.isEmpty as0)
 (none)
 (cond (smallB (0 + (List.length as0)) 32)
 (some ((),([] ++ as0,())))
 (none))
theorem e41 (L : Lp)  (x : s41.args.den) (h : denH s41.heap) : nrun [] L n41 s41 x h = F41 L  x.1 := by kernel_rfl
def f41 : (List Res) → Option (Unit × ((List Res) × Unit)) := cloneF (F41 (@LN LOOPS))
@[reducible] def t41 : Ent := ⟨41,s41,fun x h => f41 x.1⟩
theorem k41 : chkNF Try.prog Try.f41 n41 = true := by kernel_rfl
theorem c41 (A : Option Addr) (c : Nat) (w : World) : Calls Try.prog 41 #[.slice A 0 c] w (fun e w' => ∃ A',e = .returned (.slice A' 0 0) ∧ Go.RowKit.Below w.heap.size w w') := by
 have hq := fun (u : World) => Lib.run_eql_slice_nil (P := Try.prog) u 42 23 A 0 c 0 0 Try.underlying42
 cases A with
 | none => (go_enter Try.func41,Try.ntmps41; go_wp2; go_ret; exact ⟨_,rfl,Go.RowKit.Below.refl _ _⟩)
 | some ad => (go_enter Try.func41,Try.ntmps41; go_wp2; go_ret; exact ⟨_,rfl,(Go.RowKit.Below.refl _ _).alloc (Nat.le_refl _) _⟩)
theorem b41 : NOk Try.prog ⟨41,s41,fun x h => F41 (@LN LOOPS) x.1⟩ := NOk.body (T := []) mixed nall_nil (oneEach_of (by kernel_rfl)) Try.func41 k41 (by kernel_rfl) (fun x h => e41 _  x h)
theorem ok41 : NOk Try.prog t41 := NOk.clone (t := .res) b41 (clone_empty .res b41.1 c41)
def sM4 : Sig := ⟨.nil,[],((.mp 0),[.typed (.pair (.int .i64) .alloc)]),[]⟩
def fM4 : Option (Unit × ((List (Int × Alloc)) × Unit)) := some ((),([],()))
@[reducible] def tM4 : Ent := ⟨1000764,sM4,fun x h => fM4 ⟩
theorem okM4 : NPk Try.prog tM4 := NPk.make 95
def n17 : NFunc := ⟨13,.seq (.region 1 [
 o1 1 (.box 18 (tm 0)) 0,
 o1 2 (.move (.const (.nilp))) 1,
 o1 3 (.move (ki 0)) 1] []) (.seq (.seq (.region 4 [
 oT 4 18 1 0,
 o1 5 (.call (fc 40) [(vv 4)] false 4) 0,
 o1 6 (.un .not (tm 5)) 4] []) (.cond (tm 6) (.seq (.region 0 [
 o1 2 (.move (.const (.nilp))) 0,
 o1 3 (.move (ki 2)) 0] []) (.ret)) (.skip))) (.seq (.post [2,3] [.frzC 2 0] (.region 9 [
 oF 7 0 1 0,
 oL 8 7 0,
 o1 9 (.call (fc 41) [(vv 8)] false 4) 0,
 o1 10 (.call (.const (.fn 1000764 [])) [] false 4) 4,
 o1 11 (.build [.zsl,.nilfn] [(0,1,(tm 9)),(1,1,(tm 10))]) 8,
 o1 12 (.box 2 (tm 11)) 8,
 oM 2 12 9,
 o1 3 (.move (ki 0)) 9] [])) (.ret))),[.tmp 2,.tmp 3],false⟩
def s17 : Sig := ⟨(.cons (.v .spec) .nil),[],((.tup (.cons .nilp (.cons (.v (.int .i64)) .nil))),[]),[((.tup (.cons (.ptr 0 0 0) (.cons (.v (.int .i64)) .nil))),[.cell false (.cons (.v (.list .res)) (.cons (.mp 1) .nil)),.typed (.pair (.int .i64) .alloc)])]⟩
def F17 (L : Lp) (g40 : Spec → Option Bool) (g41 : (List Res) → Option (Unit × ((List Res) × Unit))) (gM4 : Option (Unit × ((List (Int × Alloc)) × Unit))) (as0 : Spec) : Option ((Unit × (Int × Unit)) ⊕ ((Unit × (Int × Unit)) × (((List Res) × (Unit × Unit)) × ((List (Int × Alloc)) × Unit)))) :=
 Option.bind (g40 as0) fun r1 =>
 cond (!r1)
 (some (.inl ((),2,())))
 (Option.bind (g41 as0.nodes) fun r2 =>
 Option.bind (gM4) fun r3 =>
 some (.inr (((),0,()),((r2.2.1,(),()),r3.2.1,()))))
theorem e17 (L : Lp) (g40 : Spec → Option Bool) (g41 : (List Res) → Option (Unit × ((List Res) × Unit))) (gM4 : Option (Unit × ((List (Int × Alloc)) × Unit))) (x : s17.args.den) (h : denH s17.heap) : nrun [⟨40,s40,fun x h => g40 x.1⟩,⟨41,s41,fun x h => g41 x.1⟩,⟨1000764,sM4,fun x h => gM4 ⟩] L n17 s17 x h = F17 L g40 g41 gM4 x.1 := by kernel_rfl
def f17 : Spec → Option ((Unit × (Int × Unit)) ⊕ ((Unit × (Int × Unit)) × (((List Res) × (Unit × Unit)) × ((List (Int × Alloc)) × Unit)))) := F17 (@LN LOOPS) f40 f41 fM4
@[reducible] def t17 : Ent := ⟨17,s17,fun x h => f17 x.1⟩
theorem k17 : chkNF Try.prog Try.f17 n17 = true := by kernel_rfl
theorem ok17 : NOk Try.prog t17 := NOk.body (T := [t40,t41,tM4]) mixed (nall_cons ok40 (nall_cons ok41 (nall_prim okM4 nall_nil))) (oneEach_of (by kernel_rfl)) Try.func17 k17 (by kernel_rfl) (fun x h => e17 _ _ _ _ x h)
def n19 : NFunc := ⟨74,.seq (.region 1 [
 o1 3 (.box 6 (tm 1)) 0,
 o1 4 (.move (ki 0)) 1] []) (.seq (.seq (.region 0 [
 oM 9 0 0,
 o1 10 (.eqP false (tm 9) (.const (.nilp))) 0] []) (.cond (tm 10) (.seq (.region 0 [
 o1 4 (.move (ki 1)) 0] []) (.ret)) (.skip))) (.seq (.seq (.region 8 [
 o4 11 (.fieldAddr 0 (tm 3)) 0 [],
 o4 12 (.load false 1 (tm 11)) 0 [],
 o4 13 (.bin .lss (tm 12) (ki 1)) 0 [],
 o4 14 (.move (tm 13)) 0 [],
 ⟨(some 15),.fieldAddr 0 (tm 3),(some (14,false)),0,(some ([],none))⟩,
 ⟨(some 16),.load false 1 (tm 15),(some (14,false)),0,(some ([],none))⟩,
 ⟨(some 17),.bin .gtr (tm 16) (ki 1048576),(some (14,false)),0,(some ([],none))⟩,
 o4 18 (.pick (tm 14) kt (tm 17)) 0 [],
 o4 19 (.move (tm 18)) 0 [],
 ⟨(some 20),.fieldAddr 5 (tm 3),(some (19,false)),0,(some ([],none))⟩,
 ⟨(some 21),.load false 1 (tm 20),(some (19,false)),0,(some ([],none))⟩,
 ⟨(some 22),.len (tm 21),(some (19,false)),0,(some ([],none))⟩,
 ⟨(some 23),.bin .eql (tm 22) (ki 0),(some (19,false)),0,(some ([],none))⟩,
 o4 24 (.pick (tm 19) kt (tm 23)) 0 [],
 o4 25 (.move (tm 24)) 0 [],
 ⟨(some 26),.fieldAddr 5 (tm 3),(some (25,false)),0,(some ([],none))⟩,
 ⟨(some 27),.load false 1 (tm 26),(some (25,false)),0,(some ([],none))⟩,
 ⟨(some 28),.move (tm 0),(some (25,false)),0,(some ([],none))⟩,
 ⟨(some 29),.nilCheck (tm 28),(some (25,false)),0,(some ([],none))⟩,
 ⟨(some 30),.fieldAddr 0 (tm 29),(some (25,false)),0,(some ([],none))⟩,
 ⟨(some 31),.load false 1 (tm 30),(some (25,false)),0,(some ([],none))⟩,
 ⟨(some 32),.len (tm 31),(some (25,false)),0,(some ([],none))⟩,
 ⟨(some 33),.call (fc 44) [(vv 27),(vv 32)] false 4,(some (25,false)),0,(some ([],none))⟩,
 ⟨(some 34),.un .not (tm 33),(some (25,false)),4,(some ([0,1,2,3],none))⟩,
 o4 35 (.pick (tm 25) kt (tm 34)) 4 [0,1,2,3],
 o4 36 (.move (tm 35)) 4 [0,1,2,3],
 ⟨(some 37),.fieldAddr 1 (tm 3),(some (36,false)),4,(some ([0,1,2,3],none))⟩,
 ⟨(some 38),.load true 4 (tm 37),(some (36,false)),4,(some ([0,1,2,3],none))⟩,
 ⟨(some 39),.call (fc 45) [(vv 38)] false 4,(some (36,false)),4,(some ([0,1,2,3],none))⟩,
 ⟨(some 40),.un .not (tm 39),(some (36,false)),8,(some ([0,1,2,3,4,5,6,7],none))⟩,
 o4 41 (.pick (tm 36) kt (tm 40)) 8 [0,1,2,3,4,5,6,7]] []) (.cond (tm 41) (.seq (.region 0 [
 o1 4 (.move (ki 2)) 0] []) (.ret)) (.skip))) (.seq (.seq (.region 5 [
 o4 43 (.move (tm 0)) 0 [],
 o4 44 (.nilCheck (tm 43)) 0 [],
 o4 45 (.fieldAddr 1 (tm 44)) 0 [],
 o4 46 (.load false 1 (tm 45)) 0 [],
 o4 47 (.fieldAddr 0 (tm 3)) 0 [],
 o4 48 (.load false 1 (tm 47)) 0 [],
 o4 49 (.call (.const (.fn 1000761 [])) [(vw 46),(vv 48)] true 4) 0 [],
 o4 42 (.move (tm 49)) 4 [0,1,2,3],
 o4 50 (.extract (tm 42) 0) 4 [0,1,2,3],
 o4 51 (.extract (tm 42) 1) 4 [0,1,2,3],
 o4 5 (.alloc [iz,iz,iz,iz,iz,.zsl]) 4 [],
 ⟨none,.store 6 (tm 5) (tm 50),none,5,(some ([0,1,2,3,4],none))⟩,
 o4 6 (.move (tm 51)) 5 [0,1,2,3,4]] []) (.seq (.region 0 [
 oM 52 6 0] []) (.cond (tm 52) (.seq (.region 0 [
 o1 4 (.move (ki 31)) 0] []) (.ret)) (.skip)))) (.seq (.region 4 [
 oM 54 0 0,
 oT 55 6 3 0,
 o1 56 (.call (fc 42) [(vw 54),(vv 55),(false,(.func 46))] false 4) 0,
 oM 53 56 4,
 oX 57 53 0 4,
 oX 58 53 1 4,
 oM 7 57 4,
 oM 8 58 4] []) (.seq (.seq (.region 0 [
 oM 59 8 0,
 oC 60 .neq 59 0 0] []) (.cond (tm 60) (.seq (.region 0 [
 oM 61 8 0,
 oM 4 61 0] []) (.ret)) (.skip))) (.seq (.region 0 [
 oM 62 0 0,
 oM 63 7 0,
 o1 64 (.nilCheck (tm 62)) 0,
 oF 65 0 64 0,
 oS 1 65 63 0] []) (.seq (.region 8 [
 o4 66 (.move (tm 0)) 0 [],
 o4 67 (.nilCheck (tm 66)) 0 [],
 o4 68 (.fieldAddr 1 (tm 67)) 0 [],
 o4 69 (.load false 1 (tm 68)) 0 [],
 o4 70 (.fieldAddr 0 (tm 3)) 0 [],
 o4 71 (.load false 1 (tm 70)) 0 [],
 o4 72 (.load true 6 (tm 3)) 0 [],
 o4 73 (.call (fc 47) [(vv 72)] true 4) 0 [],
 ⟨none,.call (.const (.fn 1000762 [])) [(vw 69),(vv 71),(vv 73)] false 4,none,4,(some ([0,1,2,3],none))⟩] []) (.seq (.region 0 [
 o1 4 (.move (ki 0)) 0] []) (.ret))))))))),[.tmp 4],true⟩
def s19 : Sig := ⟨(.cons .nilp (.cons (.v .alloc) .nil)),[],((.v (.int .i64)),[]),[]⟩
def F19 (L : Lp)  (a0 : Alloc) : Option Int :=
 some 1
theorem e19 (L : Lp)  (x : s19.args.den) (h : denH s19.heap) : nrun [] L n19 s19 x h = F19 L  x.2.1 := by kernel_rfl
def f19 : Alloc → Option Int := F19 (@LN LOOPS) 
@[reducible] def t19 : Ent := ⟨19,s19,fun x h => f19 x.2.1⟩
theorem k19 : chkNF Try.prog Try.f19 n19 = true := by kernel_rfl
theorem ok19 : NOk Try.prog t19 := NOk.body (T := []) mixed nall_nil (oneEach_of (by kernel_rfl)) Try.func19 k19 (by kernel_rfl) (fun x h => e19 _  x h)
def n20 : NFunc := ⟨10,.seq (.region 0 [
 o1 2 (.move (.const (.zsl))) 0] []) (.seq (.seq (.region 0 [
 oM 3 0 0,
 o1 4 (.eqP false (tm 3) (.const (.nilp))) 0] []) (.cond (tm 4) (.seq (.region 0 [
 o1 2 (.move (.const (.zsl))) 0] []) (.ret)) (.skip))) (.seq (.region 4 [
 oM 5 0 0,
 o1 6 (.nilCheck (tm 5)) 0,
 oF 7 0 6 0,
 oL 8 7 0,
 o1 9 (.call (fc 41) [(vv 8)] false 4) 0,
 oM 2 9 4] []) (.ret))),[.tmp 2],true⟩
def s20 : Sig := ⟨(.cons .nilp .nil),[],((.v (.list .res)),[]),[]⟩
def F20 (L : Lp)   : Option (List Res) :=
 some []
theorem e20 (L : Lp)  (x : s20.args.den) (h : denH s20.heap) : nrun [] L n20 s20 x h = F20 L   := by kernel_rfl
def f20 : Option (List Res) := F20 (@LN LOOPS) 
@[reducible] def t20 : Ent := ⟨20,s20,fun x h => f20 ⟩
theorem k20 : chkNF Try.prog Try.f20 n20 = true := by kernel_rfl
theorem ok20 : NOk Try.prog t20 := NOk.body (T := []) mixed nall_nil (oneEach_of (by kernel_rfl)) Try.func20 k20 (by kernel_rfl) (fun x h => e20 _  x h)
def n18 : NFunc := ⟨40,.seq (.region 0 [
 o1 4 (.move (ki 0)) 0] []) (.seq (.seq (.region 0 [
 oM 9 0 0,
 o1 10 (.eqP false (tm 9) (.const (.nilp))) 0] []) (.cond (tm 10) (.seq (.region 0 [
 o1 4 (.move (ki 1)) 0] []) (.ret)) (.skip))) (.seq (.region 5 [
 oM 12 0 0,
 o1 13 (.nilCheck (tm 12)) 0,
 oF 14 1 13 0,
 oL 15 14 0,
 oM 16 1 0,
 o1 17 (.call (.const (.fn 1000761 [])) [(vw 15),(vv 16)] false 4) 0,
 oM 11 17 4,
 oX 18 11 0 4,
 oX 19 11 1 4,
 o1 5 (.alloc [iz,iz,iz,iz,iz,.zsl]) 4,
 oS 6 5 18 5,
 oM 6 19 5] []) (.seq (.seq (.region 0 [
 oM 20 6 0,
 o1 21 (.un .not (tm 20)) 0] []) (.cond (tm 21) (.seq (.region 0 [
 o1 4 (.move (ki 30)) 0] []) (.ret)) (.skip))) (.seq (.region 4 [
 oM 23 0 0,
 oT 24 6 5 0,
 o1 25 (.call (fc 42) [(vw 23),(vv 24),(false,(.func 43))] false 4) 0,
 oM 22 25 4,
 oX 26 22 0 4,
 oX 27 22 1 4,
 oM 7 26 4,
 oM 8 27 4] []) (.seq (.seq (.region 0 [
 oM 28 8 0,
 oC 29 .neq 28 0 0] []) (.cond (tm 29) (.seq (.region 0 [
 oM 30 8 0,
 oM 4 30 0] []) (.ret)) (.skip))) (.seq (.region 0 [
 oM 31 0 0,
 oM 32 7 0,
 o1 33 (.nilCheck (tm 31)) 0,
 oF 34 0 33 0,
 oS 1 34 32 0] []) (.seq (.region 4 [
 oM 35 0 0,
 o1 36 (.nilCheck (tm 35)) 0,
 oF 37 1 36 0,
 oL 38 37 0,
 oM 39 1 0,
 ⟨none,.call (.const (.fn 1000763 [])) [(vw 38),(vv 39)] false 4,none,0,none⟩] []) (.seq (.region 0 [
 o1 4 (.move (ki 0)) 0] []) (.ret))))))))),[.tmp 4],true⟩
def s18 : Sig := ⟨(.cons .nilp (.cons (.v (.int .i64)) .nil)),[],((.v (.int .i64)),[]),[]⟩
def F18 (L : Lp)  (job0 : Int) : Option Int :=
 some 1
theorem e18 (L : Lp)  (x : s18.args.den) (h : denH s18.heap) : nrun [] L n18 s18 x h = F18 L  x.2.1 := by kernel_rfl
def f18 : Int → Option Int := F18 (@LN LOOPS) 
@[reducible] def t18 : Ent := ⟨18,s18,fun x h => f18 x.2.1⟩
theorem k18 : chkNF Try.prog Try.f18 n18 = true := by kernel_rfl
theorem ok18 : NOk Try.prog t18 := NOk.body (T := []) mixed nall_nil (oneEach_of (by kernel_rfl)) Try.func18 k18 (by kernel_rfl) (fun x h => e18 _  x h)
def n44 : NFunc := ⟨37,.seq (.region 0 [
 o1 4 (.move kf) 0] []) (.seq (.region 0 [
 o1 5 (.move (.const (.int .i64 (-1)))) 0] []) (.seq (.seq (.region 0 [
 oM 8 0 0,
 o1 9 (.len (tm 8)) 0,
 o1 10 (.move (ki 0)) 0] []) (.block 0 (.loop [1,5,8,9,10] ⟨[(5,vI),(10,vI)],[1,8,9],[]⟩ (.seq (.region 0 [
 oB 11 .lss 10 9 0] []) (.seq (.cond (tm 11) (.skip) (.exit 0)) (.seq (.block 1 (.seq (.region 1 [
 o1 12 (.indexSl 2 (tm 8) (tm 10)) 0,
 oT 13 2 12 0,
 o1 7 (.alloc [iz,iz]) 0,
 oS 2 7 13 1] []) (.seq (.seq (.region 0 [
 oF 14 0 7 0,
 oL 15 14 0,
 oM 16 5 0,
 oB 17 .leq 15 16 0,
 oM 18 17 0,
 o2 19 (.fieldAddr 0 (tm 7)) 18 0,
 o2 20 (.load false 1 (tm 19)) 18 0,
 oN 21 1 18 0,
 o2 22 (.bin .geq (tm 20) (tm 21)) 18 0,
 o1 23 (.pick (tm 18) kt (tm 22)) 0,
 oM 24 23 0,
 o2 25 (.fieldAddr 1 (tm 7)) 24 0,
 o2 26 (.load false 1 (tm 25)) 24 0,
 o2 27 (.bin .lss (tm 26) (ki 1)) 24 0,
 o1 28 (.pick (tm 24) kt (tm 27)) 0,
 oM 29 28 0,
 o2 30 (.fieldAddr 1 (tm 7)) 29 0,
 o2 31 (.load false 1 (tm 30)) 29 0,
 o2 32 (.bin .gtr (tm 31) (ki 64)) 29 0,
 o1 33 (.pick (tm 29) kt (tm 32)) 0] []) (.cond (tm 33) (.seq (.region 0 [
 o1 4 (.move kf) 0] []) (.ret)) (.skip))) (.region 0 [
 oF 34 0 7 0,
 oL 35 34 0,
 oM 5 35 0] [])))) (.region 0 [
 oC 36 .add 10 1 0,
 oM 10 36 0] []))))))) (.seq (.region 0 [
 o1 4 (.move kt) 0] []) (.ret)))),[.tmp 4],true⟩
def s44 : Sig := ⟨(.cons (.v (.list .share)) (.cons (.v (.int .i64)) .nil)),[],((.v .bool),[]),[]⟩
def l44_0 (al0 : (List Share)) (nodes1 : Int) (nx3 : ((Int × (Int × Unit)) × Unit) → Option Bool) (last4 : Int) (z5 : Int) : Option Bool :=
 cond (decide (z5 < (List.length al0 : Int)))
 (cond (decide (0 ≤ z5))
 (Option.bind (al0[Int.toNat z5]?) fun y6 =>
 cond (decide (y6.node ≤ last4))
 (some false)
 (cond (decide (nodes1 ≤ y6.node))
 (some false)
 (cond (decide (y6.many < 1))
 (some false)
 (cond (decide (64 < y6.many))
 (some false)
 (nx3 ((y6.node,IntKind.wrap .i64 (z5 + 1),()),()))))))
 (none))
 (some true)
def F44 (L : Lp)  (al0 : (List Share)) (nodes1 : Int) : Option Bool :=
 L (fun (s2 : ((Int × (Int × Unit)) × Unit)) nx3 => l44_0 al0 nodes1 nx3 s2.1.1 s2.1.2.1) (((-1),0,()),())
theorem e44 (L : Lp)  (x : s44.args.den) (h : denH s44.heap) : nrun [] L n44 s44 x h = F44 L  x.1 x.2.1 := by kernel_rfl
def f44 : (List Share) → Int → Option Bool := F44 (@LN LOOPS) 
@[reducible] def t44 : Ent := ⟨44,s44,fun x h => f44 x.1 x.2.1⟩
theorem k44 : chkNF Try.prog Try.f44 n44 = true := by kernel_rfl
theorem ok44 : NOk Try.prog t44 := NOk.body (T := []) mixed nall_nil (oneEach_of (by kernel_rfl)) Try.func44 k44 (by kernel_rfl) (fun x h => e44 _  x h)
def sM1 : Sig := ⟨(.cons (.mp 0) (.cons (.v (.int .i64)) .nil)),[.typed (.pair (.int .i64) .alloc)],((.tup (.cons (.v .alloc) (.cons (.v .bool) .nil))),[.typed (.pair (.int .i64) .alloc)]),[]⟩
def fM1 : Int → (List (Int × Alloc)) → Option ((Alloc × (Bool × Unit)) × ((List (Int × Alloc)) × Unit)) := mlook1 zMap
@[reducible] def tM1 : Ent := ⟨1000761,sM1,fun x h => fM1 x.2.1 h.1⟩
theorem okM1 : NPk Try.prog tM1 := NPk.look1 mapTyM
def s71 : Sig := ⟨(.cons (.v .res) (.cons (.v (.int .i64)) .nil)),[],((.tup (.cons (.v .res) (.cons (.v (.int .i64)) .nil))),[]),[]⟩
def f71 : Res → Int → Option (Res × (Int × Unit)) := vecTimes
@[reducible] def t71 : Ent := ⟨71,s71,fun x h => f71 x.1 x.2.1⟩
theorem ok71 : NOk Try.prog t71 := ext71
def s46 : Sig := ⟨(.cons (.v .res) (.cons (.v .res) .nil)),[],((.tup (.cons (.v .res) (.cons (.v (.int .i64)) .nil))),[]),[]⟩
def f46 : Res → Res → Option (Res × (Int × Unit)) := vecSub
@[reducible] def t46 : Ent := ⟨46,s46,fun x h => f46 x.1 x.2.1⟩
theorem ok46 : NOk Try.prog t46 := ext46
def n42 : NFunc := ⟨56,.seq (.region 1 [
 o1 4 (.box 6 (tm 1)) 0,
 o1 6 (.move (.const (.zsl))) 1,
 o1 7 (.move (ki 0)) 1] []) (.seq (.region 4 [
 oM 13 0 0,
 o1 14 (.nilCheck (tm 13)) 0,
 oF 15 0 14 0,
 oL 16 15 0,
 o1 17 (.call (fc 41) [(vv 16)] false 4) 0,
 oM 8 17 4] []) (.seq (.seq (.region 0 [
 oF 18 5 4 0,
 oL 19 18 0,
 o1 20 (.len (tm 19)) 0,
 o1 21 (.move (ki 0)) 0] []) (.block 0 (.loop [2,4,8,19,20,21] ⟨[(4,(.ptr 2 0 0)),(8,(.slw 3 4)),(21,vI)],[2,19,20],[.cell false (.cons (.v (.list .res)) (.cons (.mp 1) .nil)),.typed (.pair (.int .i64) .alloc),.one false .alloc,.typed .res]⟩ (.seq (.region 0 [
 oB 22 .lss 21 20 0] []) (.seq (.cond (tm 22) (.skip) (.exit 0)) (.seq (.block 1 (.seq (.region 1 [
 o1 23 (.indexSl 2 (tm 19) (tm 21)) 0,
 oT 24 2 23 0,
 o1 10 (.alloc [iz,iz]) 0,
 oS 2 10 24 1] []) (.seq (.region 5 [
 oF 26 1 4 0,
 oT 27 4 26 0,
 oF 28 1 10 0,
 oL 29 28 0,
 o1 30 (.call (fc 71) [(vv 27),(vv 29)] false 4) 0,
 oM 25 30 4,
 oX 31 25 0 4,
 oX 32 25 1 4,
 o1 11 (.alloc [iz,iz,iz,iz]) 4,
 oS 4 11 31 5,
 oM 12 32 5] []) (.seq (.seq (.region 0 [
 oM 33 12 0,
 oC 34 .neq 33 0 0] []) (.cond (tm 34) (.seq (.region 0 [
 oM 35 12 0,
 o1 6 (.move (.const (.zsl))) 0,
 oM 7 35 0] []) (.ret)) (.skip))) (.seq (.region 4 [
 o4 37 (.move (tm 8)) 0 [],
 o4 38 (.fieldAddr 0 (tm 10)) 0 [],
 o4 39 (.load false 1 (tm 38)) 0 [],
 o4 40 (.move (tm 2)) 0 [],
 o4 41 (.move (tm 8)) 0 [],
 o4 42 (.fieldAddr 0 (tm 10)) 0 [],
 o4 43 (.load false 1 (tm 42)) 0 [],
 o4 44 (.indexSl 4 (tm 41) (tm 43)) 0 [],
 o4 45 (.load true 4 (tm 44)) 0 [],
 o4 46 (.load true 4 (tm 11)) 0 [],
 o4 47 (.call (tm 40) [(vv 45),(vv 46)] true 4) 0 [],
 o4 36 (.move (tm 47)) 4 [0,1,2,3],
 o4 48 (.extract (tm 36) 0) 4 [0,1,2,3],
 o4 49 (.extract (tm 36) 1) 4 [0,1,2,3],
 o4 50 (.indexSl 4 (tm 37) (tm 39)) 4 [0,1,2,3],
 ⟨none,.store 4 (tm 50) (tm 48),none,4,(some ([0,1,2,3],none))⟩,
 o4 12 (.move (tm 49)) 4 [0,1,2,3]] []) (.seq (.region 0 [
 oM 51 12 0,
 oC 52 .neq 51 0 0] []) (.cond (tm 52) (.seq (.region 0 [
 oM 53 12 0,
 o1 6 (.move (.const (.zsl))) 0,
 oM 7 53 0] []) (.ret)) (.skip)))))))) (.region 0 [
 oC 54 .add 21 1 0,
 oM 21 54 0] []))))))) (.seq (.region 0 [
 oM 55 8 0,
 oM 6 55 0,
 o1 7 (.move (ki 0)) 0] []) (.ret)))),[.tmp 6,.tmp 7],true⟩
def s42 : Sig := ⟨(.cons (.ptr 0 0 0) (.cons (.v .alloc) (.cons (.fn 46 .nil) .nil))),[.cell false (.cons (.v (.list .res)) (.cons (.mp 1) .nil)),.typed (.pair (.int .i64) .alloc)],((.tup (.cons (.v (.list .res)) (.cons (.v (.int .i64)) .nil))),[.cell false (.cons (.v (.list .res)) (.cons (.mp 1) .nil)),.typed (.pair (.int .i64) .alloc)]),[]⟩
def l42_0 (g71 : Res → Int → Option (Res × (Int × Unit))) (g46 : Res → Res → Option (Res × (Int × Unit))) (a0 : Alloc) (nx5 : ((Unit × (Unit × (Int × Unit))) × (((List Res) × (Unit × Unit)) × ((List (Int × Alloc)) × (Alloc × ((List Res) × Unit))))) → Option (((List Res) × (Int × Unit)) × (((List Res) × (Unit × Unit)) × ((List (Int × Alloc)) × Unit)))) (z6 : Int) (z7 : (List Res)) (z8 : (List (Int × Alloc))) (z9 : Alloc) (z10 : (List Res)) : Option (((List Res) × (Int × Unit)) × (((List Res) × (Unit × Unit)) × ((List (Int × Alloc)) × Unit))) :=
 cond (decide (z6 < (List.length a0.shares : Int)))
 (cond (decide (0 ≤ z6))
 (Option.bind (a0.shares[Int.toNat z6]?) fun y11 =>
 Option.bind (g71 z9.need y11.many) fun r12 =>
 cond (!decide (r12.2.1 = 0))
 (some (([],r12.2.1,()),((z7,(),()),z8,())))
 (cond (decide (0 ≤ y11.node))
 (cond (decide ((Int.toNat y11.node) < (List.length z10)))
 (Option.bind (z10[Int.toNat y11.node]?) fun y13 =>
 Option.bind (g46 y13 r12.1) fun r14 =>
 cond (decide (0 ≤ y11.node))
 (cond (decide ((Int.toNat y11.node) < (List.length z10)))
 (Option.bind (z10[Int.toNat y11.node]?) fun y15 =>
 cond (!decide (r14.2.1 = 0))
 (some (([],r14.2.1,()),((z7,(),()),z8,())))
 (nx5 (((),(),IntKind.wrap .i64 (z6 + 1),()),((z7,(),()),z8,z9,List.set z10 (Int.toNat y11.node) r14.1,()))))
 (none))
 (none))
 (none))
 (none)))
 (none))
 (some ((z10,0,()),((z7,(),()),z8,())))
def F42 (L : Lp) (g41 : (List Res) → Option (Unit × ((List Res) × Unit))) (g71 : Res → Int → Option (Res × (Int × Unit))) (g46 : Res → Res → Option (Res × (Int × Unit))) (a0 : Alloc) (a1 : (List Res)) (a2 : (List (Int × Alloc))) : Option (((List Res) × (Int × Unit)) × (((List Res) × (Unit × Unit)) × ((List (Int × Alloc)) × Unit))) :=
 Option.bind (g41 a1) fun r3 =>
 L (fun (s4 : ((Unit × (Unit × (Int × Unit))) × (((List Res) × (Unit × Unit)) × ((List (Int × Alloc)) × (Alloc × ((List Res) × Unit)))))) nx5 => l42_0 g71 g46 a0 nx5 s4.1.2.2.1 s4.2.1.1 s4.2.2.1 s4.2.2.2.1 s4.2.2.2.2.1) (((),(),0,()),((a1,(),()),a2,a0,r3.2.1,()))
theorem e42 (L : Lp) (g41 : (List Res) → Option (Unit × ((List Res) × Unit))) (g71 : Res → Int → Option (Res × (Int × Unit))) (g46 : Res → Res → Option (Res × (Int × Unit))) (x : s42.args.den) (h : denH s42.heap) : nrun [⟨41,s41,fun x h => g41 x.1⟩,⟨71,s71,fun x h => g71 x.1 x.2.1⟩,⟨46,s46,fun x h => g46 x.1 x.2.1⟩] L n42 s42 x h = F42 L g41 g71 g46 x.2.1 h.1.1 h.2.1 := by kernel_rfl
def f42 : Alloc → (List Res) → (List (Int × Alloc)) → Option (((List Res) × (Int × Unit)) × (((List Res) × (Unit × Unit)) × ((List (Int × Alloc)) × Unit))) := F42 (@LN LOOPS) f41 f71 f46
@[reducible] def t42 : Ent := ⟨42,s42,fun x h => f42 x.2.1 h.1.1 h.2.1⟩
theorem k42 : chkNF Try.prog Try.f42 n42 = true := by kernel_rfl
theorem ok42 : NOk Try.prog t42 := NOk.body (T := [t41,t71,t46]) mixed (nall_cons ok41 (nall_cons ok71 (nall_cons ok46 nall_nil))) (oneEach_of (by kernel_rfl)) Try.func42 k42 (by kernel_rfl) (fun x h => e42 _ _ _ _ x h)
def n75 : NFunc := ⟨8,.seq (.region 0 [
 o1 2 (.move (.const (.zsl))) 0] []) (.seq (.seq (.region 0 [
 oM 3 0 0,
 o1 4 (.eqI false (tm 3) (.const (.zsl))) 0] []) (.cond (tm 4) (.seq (.region 0 [
 o1 2 (.move (.const (.zsl))) 0] []) (.ret)) (.skip))) (.seq (.region 2 [
 o1 5 (.buildSlice 2 0 true [iz,iz] []) 0,
 oM 6 0 1,
 o1 7 (.append 2 16 true (tm 5) (tm 6)) 1,
 oM 2 7 2] []) (.ret))),[.tmp 2],false⟩
def s75 : Sig := ⟨(.cons (.v (.list .share)) .nil),[],((.slw 0 2),[.typed .share]),[]⟩
def F75 (L : Lp)  (as0 : (List Share)) : Option (Unit × ((List Share) × Unit)) :=
 cond (List.isEmpty as0)
 (none)
 (cond (smallB (0 + (List.length as0)) 16)
 (some ((),([] ++ as0,())))
 (none))
theorem e75 (L : Lp)  (x : s75.args.den) (h : denH s75.heap) : nrun [] L n75 s75 x h = F75 L  x.1 := by kernel_rfl
def f75 : (List Share) → Option (Unit × ((List Share) × Unit)) := cloneF (F75 (@LN LOOPS))
@[reducible] def t75 : Ent := ⟨75,s75,fun x h => f75 x.1⟩
theorem k75 : chkNF Try.prog Try.f75 n75 = true := by kernel_rfl
theorem c75 (A : Option Addr) (c : Nat) (w : World) : Calls Try.prog 75 #[.slice A 0 c] w (fun e w' => ∃ A',e = .returned (.slice A' 0 0) ∧ Go.RowKit.Below w.heap.size w w') := by
 have hq := fun (u : World) => Lib.run_eql_slice_nil (P := Try.prog) u 55 89 A 0 c 0 0 Try.underlying55
 cases A with
 | none => (go_enter Try.func75,Try.ntmps75; go_wp2; go_ret; exact ⟨_,rfl,Go.RowKit.Below.refl _ _⟩)
 | some ad => (go_enter Try.func75,Try.ntmps75; go_wp2; go_ret; exact ⟨_,rfl,(Go.RowKit.Below.refl _ _).alloc (Nat.le_refl _) _⟩)
theorem b75 : NOk Try.prog ⟨75,s75,fun x h => F75 (@LN LOOPS) x.1⟩ := NOk.body (T := []) mixed nall_nil (oneEach_of (by kernel_rfl)) Try.func75 k75 (by kernel_rfl) (fun x h => e75 _  x h)
theorem ok75 : NOk Try.prog t75 := NOk.clone (t := .share) b75 (clone_empty .share b75.1 c75)
def n47 : NFunc := ⟨8,.seq (.region 2 [
 o1 1 (.box 6 (tm 0)) 0,
 o1 2 (.alloc [iz,iz,iz,iz,iz,.zsl]) 1] []) (.seq (.region 4 [
 oF 3 5 1 0,
 oL 4 3 0,
 o1 5 (.call (fc 75) [(vv 4)] false 4) 0,
 oF 6 5 1 4,
 oS 1 6 5 4] []) (.seq (.region 0 [
 oT 7 6 1 0,
 oS 6 2 7 0] []) (.ret))),[.cell true 6 2],true⟩
def s47 : Sig := ⟨(.cons (.v .alloc) .nil),[],((.v .alloc),[]),[]⟩
def F47 (L : Lp) (g75 : (List Share) → Option (Unit × ((List Share) × Unit))) (a0 : Alloc) : Option Alloc :=
 Option.bind (g75 a0.shares) fun r1 =>
 some (Alloc.mk a0.job a0.need r1.2.1)
theorem e47 (L : Lp) (g75 : (List Share) → Option (Unit × ((List Share) × Unit))) (x : s47.args.den) (h : denH s47.heap) : nrun [⟨75,s75,fun x h => g75 x.1⟩] L n47 s47 x h = F47 L g75 x.1 := by kernel_rfl
def f47 : Alloc → Option Alloc := F47 (@LN LOOPS) f75
@[reducible] def t47 : Ent := ⟨47,s47,fun x h => f47 x.1⟩
theorem k47 : chkNF Try.prog Try.f47 n47 = true := by kernel_rfl
theorem ok47 : NOk Try.prog t47 := NOk.body (T := [t75]) mixed (nall_cons ok75 nall_nil) (oneEach_of (by kernel_rfl)) Try.func47 k47 (by kernel_rfl) (fun x h => e47 _ _ x h)
def sM2 : Sig := ⟨(.cons (.mp 0) (.cons (.v (.int .i64)) (.cons (.v .alloc) .nil))),[.typed (.pair (.int .i64) .alloc)],((.tup .nil),[.typed (.pair (.int .i64) .alloc)]),[]⟩
def fM2 : Int → Alloc → (List (Int × Alloc)) → Option (Unit × ((List (Int × Alloc)) × Unit)) := mput
@[reducible] def tM2 : Ent := ⟨1000762,sM2,fun x h => fM2 x.2.1 x.2.2.1 h.1⟩
theorem okM2 : NPk Try.prog tM2 := NPk.put mapTyM
def n19_1 : NFunc := ⟨74,.seq (.region 1 [
 o1 3 (.box 6 (tm 1)) 0,
 o1 4 (.move (ki 0)) 1] []) (.seq (.seq (.region 0 [
 oM 9 0 0,
 o1 10 (.eqP false (tm 9) (.const (.nilp))) 0] []) (.cond (tm 10) (.seq (.region 0 [
 o1 4 (.move (ki 1)) 0] []) (.ret)) (.skip))) (.seq (.seq (.region 8 [
 o4 11 (.fieldAddr 0 (tm 3)) 0 [],
 o4 12 (.load false 1 (tm 11)) 0 [],
 o4 13 (.bin .lss (tm 12) (ki 1)) 0 [],
 o4 14 (.move (tm 13)) 0 [],
 ⟨(some 15),.fieldAddr 0 (tm 3),(some (14,false)),0,(some ([],none))⟩,
 ⟨(some 16),.load false 1 (tm 15),(some (14,false)),0,(some ([],none))⟩,
 ⟨(some 17),.bin .gtr (tm 16) (ki 1048576),(some (14,false)),0,(some ([],none))⟩,
 o4 18 (.pick (tm 14) kt (tm 17)) 0 [],
 o4 19 (.move (tm 18)) 0 [],
 ⟨(some 20),.fieldAddr 5 (tm 3),(some (19,false)),0,(some ([],none))⟩,
 ⟨(some 21),.load false 1 (tm 20),(some (19,false)),0,(some ([],none))⟩,
 ⟨(some 22),.len (tm 21),(some (19,false)),0,(some ([],none))⟩,
 ⟨(some 23),.bin .eql (tm 22) (ki 0),(some (19,false)),0,(some ([],none))⟩,
 o4 24 (.pick (tm 19) kt (tm 23)) 0 [],
 o4 25 (.move (tm 24)) 0 [],
 ⟨(some 26),.fieldAddr 5 (tm 3),(some (25,false)),0,(some ([],none))⟩,
 ⟨(some 27),.load false 1 (tm 26),(some (25,false)),0,(some ([],none))⟩,
 ⟨(some 28),.move (tm 0),(some (25,false)),0,(some ([],none))⟩,
 ⟨(some 29),.nilCheck (tm 28),(some (25,false)),0,(some ([],none))⟩,
 ⟨(some 30),.fieldAddr 0 (tm 29),(some (25,false)),0,(some ([],none))⟩,
 ⟨(some 31),.load false 1 (tm 30),(some (25,false)),0,(some ([],none))⟩,
 ⟨(some 32),.len (tm 31),(some (25,false)),0,(some ([],none))⟩,
 ⟨(some 33),.call (fc 44) [(vv 27),(vv 32)] false 4,(some (25,false)),0,(some ([],none))⟩,
 ⟨(some 34),.un .not (tm 33),(some (25,false)),4,(some ([0,1,2,3],none))⟩,
 o4 35 (.pick (tm 25) kt (tm 34)) 4 [0,1,2,3],
 o4 36 (.move (tm 35)) 4 [0,1,2,3],
 ⟨(some 37),.fieldAddr 1 (tm 3),(some (36,false)),4,(some ([0,1,2,3],none))⟩,
 ⟨(some 38),.load true 4 (tm 37),(some (36,false)),4,(some ([0,1,2,3],none))⟩,
 ⟨(some 39),.call (fc 45) [(vv 38)] false 4,(some (36,false)),4,(some ([0,1,2,3],none))⟩,
 ⟨(some 40),.un .not (tm 39),(some (36,false)),8,(some ([0,1,2,3,4,5,6,7],none))⟩,
 o4 41 (.pick (tm 36) kt (tm 40)) 8 [0,1,2,3,4,5,6,7]] []) (.cond (tm 41) (.seq (.region 0 [
 o1 4 (.move (ki 2)) 0] []) (.ret)) (.skip))) (.seq (.seq (.region 5 [
 o4 43 (.move (tm 0)) 0 [],
 o4 44 (.nilCheck (tm 43)) 0 [],
 o4 45 (.fieldAddr 1 (tm 44)) 0 [],
 ⟨(some 46),.load false 1 (tm 45),none,0,(some ([],some [0]))⟩,
 o4 47 (.fieldAddr 0 (tm 3)) 0 [],
 ⟨(some 48),.load false 1 (tm 47),none,0,(some ([],some [2]))⟩,
 ⟨(some 49),.call (.const (.fn 1000761 [])) [(vw 46),(vv 48)] false 4,none,0,(some ([],some [1]))⟩,
 o4 42 (.move (tm 49)) 4 [0,1,2,3],
 o4 50 (.extract (tm 42) 0) 4 [0,1,2,3],
 o4 51 (.extract (tm 42) 1) 4 [0,1,2,3],
 ⟨(some 5),.alloc [iz,iz,iz,iz,iz,.zsl],none,4,(some ([],some []))⟩,
 ⟨none,.store 6 (tm 5) (tm 50),none,5,(some ([4],some []))⟩,
 o4 6 (.move (tm 51)) 5 [0,1,2,3,4]] []) (.seq (.region 0 [
 oM 52 6 0] []) (.cond (tm 52) (.seq (.region 0 [
 o1 4 (.move (ki 31)) 0] []) (.ret)) (.skip)))) (.seq (.region 4 [
 oM 54 0 0,
 oT 55 6 3 0,
 o1 56 (.call (fc 42) [(vw 54),(vv 55),(false,(.func 46))] false 4) 0,
 oM 53 56 4,
 oX 57 53 0 4,
 oX 58 53 1 4,
 oM 7 57 4,
 oM 8 58 4] []) (.seq (.seq (.region 0 [
 oM 59 8 0,
 oC 60 .neq 59 0 0] []) (.cond (tm 60) (.seq (.region 0 [
 oM 61 8 0,
 oM 4 61 0] []) (.ret)) (.skip))) (.seq (.region 0 [
 oM 62 0 0,
 oM 63 7 0,
 o1 64 (.nilCheck (tm 62)) 0,
 oF 65 0 64 0,
 oS 1 65 63 0] []) (.seq (.region 8 [
 o4 66 (.move (tm 0)) 0 [],
 o4 67 (.nilCheck (tm 66)) 0 [],
 o4 68 (.fieldAddr 1 (tm 67)) 0 [],
 o4 69 (.load false 1 (tm 68)) 0 [],
 o4 70 (.fieldAddr 0 (tm 3)) 0 [],
 o4 71 (.load false 1 (tm 70)) 0 [],
 o4 72 (.load true 6 (tm 3)) 0 [],
 o4 73 (.call (fc 47) [(vv 72)] true 4) 0 [],
 ⟨none,.call (.const (.fn 1000762 [])) [(vw 69),(vv 71),(vv 73)] false 4,none,4,(some ([0,1,2,3],none))⟩] []) (.seq (.region 0 [
 o1 4 (.move (ki 0)) 0] []) (.ret))))))))),[.tmp 4],true⟩
def s19_1 : Sig := ⟨(.cons (.ptr 0 0 0) (.cons (.v .alloc) .nil)),[.cell false (.cons (.v (.list .res)) (.cons (.mp 1) .nil)),.typed (.pair (.int .i64) .alloc)],((.v (.int .i64)),[.cell false (.cons (.v (.list .res)) (.cons (.mp 1) .nil)),.typed (.pair (.int .i64) .alloc)]),[]⟩
def F19_1 (L : Lp) (g44 : (List Share) → Int → Option Bool) (g45 : Res → Option Bool) (gM1 : Int → (List (Int × Alloc)) → Option ((Alloc × (Bool × Unit)) × ((List (Int × Alloc)) × Unit))) (g42 : Alloc → (List Res) → (List (Int × Alloc)) → Option (((List Res) × (Int × Unit)) × (((List Res) × (Unit × Unit)) × ((List (Int × Alloc)) × Unit)))) (g47 : Alloc → Option Alloc) (gM2 : Int → Alloc → (List (Int × Alloc)) → Option (Unit × ((List (Int × Alloc)) × Unit))) (a0 : Alloc) (a1 : (List Res)) (a2 : (List (Int × Alloc))) : Option (Int × (((List Res) × (Unit × Unit)) × ((List (Int × Alloc)) × Unit))) :=
 cond (decide (a0.job < 1))
 (some (2,((a1,(),()),a2,())))
 (cond (decide (1048576 < a0.job))
 (some (2,((a1,(),()),a2,())))
 (cond (decide ((List.length a0.shares : Int) = 0))
 (some (2,((a1,(),()),a2,())))
 (Option.bind (g44 a0.shares (List.length a1 : Int)) fun r3 =>
 cond (!r3)
 (some (2,((a1,(),()),a2,())))
 (Option.bind (g45 a0.need) fun r4 =>
 cond (!r4)
 (some (2,((a1,(),()),a2,())))
 (Option.bind (gM1 a0.job a2) fun r5 =>
 cond r5.1.2.1
 (some (31,((a1,(),()),r5.2.1,())))
 (Option.bind (g42 a0 a1 r5.2.1) fun r6 =>
 cond (!decide (r6.1.2.1 = 0))
 (some (r6.1.2.1,((r6.2.1.1,(),()),r6.2.2.1,())))
 (Option.bind (g47 a0) fun r7 =>
 Option.bind (gM2 a0.job r7 r6.2.2.1) fun r8 =>
 some (0,((r6.1.1,(),()),r8.2.1,())))))))))
theorem e19_1 (L : Lp) (g44 : (List Share) → Int → Option Bool) (g45 : Res → Option Bool) (gM1 : Int → (List (Int × Alloc)) → Option ((Alloc × (Bool × Unit)) × ((List (Int × Alloc)) × Unit))) (g42 : Alloc → (List Res) → (List (Int × Alloc)) → Option (((List Res) × (Int × Unit)) × (((List Res) × (Unit × Unit)) × ((List (Int × Alloc)) × Unit)))) (g47 : Alloc → Option Alloc) (gM2 : Int → Alloc → (List (Int × Alloc)) → Option (Unit × ((List (Int × Alloc)) × Unit))) (x : s19_1.args.den) (h : denH s19_1.heap) : nrun [⟨44,s44,fun x h => g44 x.1 x.2.1⟩,⟨45,s45,fun x h => g45 x.1⟩,⟨1000761,sM1,fun x h => gM1 x.2.1 h.1⟩,⟨42,s42,fun x h => g42 x.2.1 h.1.1 h.2.1⟩,⟨47,s47,fun x h => g47 x.1⟩,⟨1000762,sM2,fun x h => gM2 x.2.1 x.2.2.1 h.1⟩] L n19_1 s19_1 x h = F19_1 L g44 g45 gM1 g42 g47 gM2 x.2.1 h.1.1 h.2.1 := by kernel_rfl
def f19_1 : Alloc → (List Res) → (List (Int × Alloc)) → Option (Int × (((List Res) × (Unit × Unit)) × ((List (Int × Alloc)) × Unit))) := F19_1 (@LN LOOPS) f44 f45 fM1 f42 f47 fM2
@[reducible] def t19_1 : Ent := ⟨19,s19_1,fun x h => f19_1 x.2.1 h.1.1 h.2.1⟩
theorem k19_1 : chkNF Try.prog Try.f19 n19_1 = true := by kernel_rfl
theorem ok19_1 : NOk Try.prog t19_1 := NOk.body (T := [t44,t45,tM1,t42,t47,tM2]) mixed (nall_cons ok44 (nall_cons ok45 (nall_prim okM1 (nall_cons ok42 (nall_cons ok47 (nall_prim okM2 nall_nil)))))) (oneEach_of (by kernel_rfl)) Try.func19 k19_1 (by kernel_rfl) (fun x h => e19_1 _ _ _ _ _ _ _ x h)
def n20_1 : NFunc := ⟨10,.seq (.region 0 [
 o1 2 (.move (.const (.zsl))) 0] []) (.seq (.seq (.region 0 [
 oM 3 0 0,
 o1 4 (.eqP false (tm 3) (.const (.nilp))) 0] []) (.cond (tm 4) (.seq (.region 0 [
 o1 2 (.move (.const (.zsl))) 0] []) (.ret)) (.skip))) (.seq (.region 4 [
 oM 5 0 0,
 o1 6 (.nilCheck (tm 5)) 0,
 oF 7 0 6 0,
 oL 8 7 0,
 o1 9 (.call (fc 41) [(vv 8)] false 4) 0,
 oM 2 9 4] []) (.ret))),[.tmp 2],true⟩
def s20_1 : Sig := ⟨(.cons (.ptr 0 0 0) .nil),[.cell false (.cons (.v (.list .res)) (.cons (.mp 1) .nil)),.typed (.pair (.int .i64) .alloc)],((.v (.list .res)),[.cell false (.cons (.v (.list .res)) (.cons (.mp 1) .nil)),.typed (.pair (.int .i64) .alloc)]),[]⟩
def F20_1 (L : Lp) (g41 : (List Res) → Option (Unit × ((List Res) × Unit))) (a0 : (List Res)) (a1 : (List (Int × Alloc))) : Option ((List Res) × (((List Res) × (Unit × Unit)) × ((List (Int × Alloc)) × Unit))) :=
 Option.bind (g41 a0) fun r2 =>
 some (r2.2.1,((a0,(),()),a1,()))
theorem e20_1 (L : Lp) (g41 : (List Res) → Option (Unit × ((List Res) × Unit))) (x : s20_1.args.den) (h : denH s20_1.heap) : nrun [⟨41,s41,fun x h => g41 x.1⟩] L n20_1 s20_1 x h = F20_1 L g41 h.1.1 h.2.1 := by kernel_rfl
def f20_1 : (List Res) → (List (Int × Alloc)) → Option ((List Res) × (((List Res) × (Unit × Unit)) × ((List (Int × Alloc)) × Unit))) := F20_1 (@LN LOOPS) f41
@[reducible] def t20_1 : Ent := ⟨20,s20_1,fun x h => f20_1 h.1.1 h.2.1⟩
theorem k20_1 : chkNF Try.prog Try.f20 n20_1 = true := by kernel_rfl
theorem ok20_1 : NOk Try.prog t20_1 := NOk.body (T := [t41]) mixed (nall_cons ok41 nall_nil) (oneEach_of (by kernel_rfl)) Try.func20 k20_1 (by kernel_rfl) (fun x h => e20_1 _ _ x h)
def s43 : Sig := ⟨(.cons (.v .res) (.cons (.v .res) .nil)),[],((.tup (.cons (.v .res) (.cons (.v (.int .i64)) .nil))),[]),[]⟩
def f43 : Res → Res → Option (Res × (Int × Unit)) := vecAdd
@[reducible] def t43 : Ent := ⟨43,s43,fun x h => f43 x.1 x.2.1⟩
theorem ok43 : NOk Try.prog t43 := ext43
def n42_1 : NFunc := ⟨56,.seq (.region 1 [
 o1 4 (.box 6 (tm 1)) 0,
 o1 6 (.move (.const (.zsl))) 1,
 o1 7 (.move (ki 0)) 1] []) (.seq (.region 4 [
 oM 13 0 0,
 o1 14 (.nilCheck (tm 13)) 0,
 oF 15 0 14 0,
 oL 16 15 0,
 o1 17 (.call (fc 41) [(vv 16)] false 4) 0,
 oM 8 17 4] []) (.seq (.seq (.region 0 [
 oF 18 5 4 0,
 oL 19 18 0,
 o1 20 (.len (tm 19)) 0,
 o1 21 (.move (ki 0)) 0] []) (.block 0 (.loop [2,4,8,19,20,21] ⟨[(4,(.ptr 2 0 0)),(8,(.slw 3 4)),(21,vI)],[2,19,20],[.cell false (.cons (.v (.list .res)) (.cons (.mp 1) .nil)),.typed (.pair (.int .i64) .alloc),.one false .alloc,.typed .res]⟩ (.seq (.region 0 [
 oB 22 .lss 21 20 0] []) (.seq (.cond (tm 22) (.skip) (.exit 0)) (.seq (.block 1 (.seq (.region 1 [
 o1 23 (.indexSl 2 (tm 19) (tm 21)) 0,
 oT 24 2 23 0,
 o1 10 (.alloc [iz,iz]) 0,
 oS 2 10 24 1] []) (.seq (.region 5 [
 oF 26 1 4 0,
 oT 27 4 26 0,
 oF 28 1 10 0,
 oL 29 28 0,
 o1 30 (.call (fc 71) [(vv 27),(vv 29)] false 4) 0,
 oM 25 30 4,
 oX 31 25 0 4,
 oX 32 25 1 4,
 o1 11 (.alloc [iz,iz,iz,iz]) 4,
 oS 4 11 31 5,
 oM 12 32 5] []) (.seq (.seq (.region 0 [
 oM 33 12 0,
 oC 34 .neq 33 0 0] []) (.cond (tm 34) (.seq (.region 0 [
 oM 35 12 0,
 o1 6 (.move (.const (.zsl))) 0,
 oM 7 35 0] []) (.ret)) (.skip))) (.seq (.region 4 [
 o4 37 (.move (tm 8)) 0 [],
 o4 38 (.fieldAddr 0 (tm 10)) 0 [],
 o4 39 (.load false 1 (tm 38)) 0 [],
 o4 40 (.move (tm 2)) 0 [],
 o4 41 (.move (tm 8)) 0 [],
 o4 42 (.fieldAddr 0 (tm 10)) 0 [],
 o4 43 (.load false 1 (tm 42)) 0 [],
 o4 44 (.indexSl 4 (tm 41) (tm 43)) 0 [],
 o4 45 (.load true 4 (tm 44)) 0 [],
 o4 46 (.load true 4 (tm 11)) 0 [],
 o4 47 (.call (tm 40) [(vv 45),(vv 46)] true 4) 0 [],
 o4 36 (.move (tm 47)) 4 [0,1,2,3],
 o4 48 (.extract (tm 36) 0) 4 [0,1,2,3],
 o4 49 (.extract (tm 36) 1) 4 [0,1,2,3],
 o4 50 (.indexSl 4 (tm 37) (tm 39)) 4 [0,1,2,3],
 ⟨none,.store 4 (tm 50) (tm 48),none,4,(some ([0,1,2,3],none))⟩,
 o4 12 (.move (tm 49)) 4 [0,1,2,3]] []) (.seq (.region 0 [
 oM 51 12 0,
 oC 52 .neq 51 0 0] []) (.cond (tm 52) (.seq (.region 0 [
 oM 53 12 0,
 o1 6 (.move (.const (.zsl))) 0,
 oM 7 53 0] []) (.ret)) (.skip)))))))) (.region 0 [
 oC 54 .add 21 1 0,
 oM 21 54 0] []))))))) (.seq (.region 0 [
 oM 55 8 0,
 oM 6 55 0,
 o1 7 (.move (ki 0)) 0] []) (.ret)))),[.tmp 6,.tmp 7],true⟩
def s42_1 : Sig := ⟨(.cons (.ptr 0 0 0) (.cons (.v .alloc) (.cons (.fn 43 .nil) .nil))),[.cell false (.cons (.v (.list .res)) (.cons (.mp 1) .nil)),.typed (.pair (.int .i64) .alloc)],((.tup (.cons (.v (.list .res)) (.cons (.v (.int .i64)) .nil))),[.cell false (.cons (.v (.list .res)) (.cons (.mp 1) .nil)),.typed (.pair (.int .i64) .alloc)]),[]⟩
def l42_1_0 (g71 : Res → Int → Option (Res × (Int × Unit))) (g43 : Res → Res → Option (Res × (Int × Unit))) (a0 : Alloc) (nx5 : ((Unit × (Unit × (Int × Unit))) × (((List Res) × (Unit × Unit)) × ((List (Int × Alloc)) × (Alloc × ((List Res) × Unit))))) → Option (((List Res) × (Int × Unit)) × (((List Res) × (Unit × Unit)) × ((List (Int × Alloc)) × Unit)))) (z6 : Int) (z7 : (List Res)) (z8 : (List (Int × Alloc))) (z9 : Alloc) (z10 : (List Res)) : Option (((List Res) × (Int × Unit)) × (((List Res) × (Unit × Unit)) × ((List (Int × Alloc)) × Unit))) :=
 cond (decide (z6 < (List.length a0.shares : Int)))
 (cond (decide (0 ≤ z6))
 (Option.bind (a0.shares[Int.toNat z6]?) fun y11 =>
 Option.bind (g71 z9.need y11.many) fun r12 =>
 cond (!decide (r12.2.1 = 0))
 (some (([],r12.2.1,()),((z7,(),()),z8,())))
 (cond (decide (0 ≤ y11.node))
 (cond (decide ((Int.toNat y11.node) < (List.length z10)))
 (Option.bind (z10[Int.toNat y11.node]?) fun y13 =>
 Option.bind (g43 y13 r12.1) fun r14 =>
 cond (decide (0 ≤ y11.node))
 (cond (decide ((Int.toNat y11.node) < (List.length z10)))
 (Option.bind (z10[Int.toNat y11.node]?) fun y15 =>
 cond (!decide (r14.2.1 = 0))
 (some (([],r14.2.1,()),((z7,(),()),z8,())))
 (nx5 (((),(),IntKind.wrap .i64 (z6 + 1),()),((z7,(),()),z8,z9,List.set z10 (Int.toNat y11.node) r14.1,()))))
 (none))
 (none))
 (none))
 (none)))
 (none))
 (some ((z10,0,()),((z7,(),()),z8,())))
def F42_1 (L : Lp) (g41 : (List Res) → Option (Unit × ((List Res) × Unit))) (g71 : Res → Int → Option (Res × (Int × Unit))) (g43 : Res → Res → Option (Res × (Int × Unit))) (a0 : Alloc) (a1 : (List Res)) (a2 : (List (Int × Alloc))) : Option (((List Res) × (Int × Unit)) × (((List Res) × (Unit × Unit)) × ((List (Int × Alloc)) × Unit))) :=
 Option.bind (g41 a1) fun r3 =>
 L (fun (s4 : ((Unit × (Unit × (Int × Unit))) × (((List Res) × (Unit × Unit)) × ((List (Int × Alloc)) × (Alloc × ((List Res) × Unit)))))) nx5 => l42_1_0 g71 g43 a0 nx5 s4.1.2.2.1 s4.2.1.1 s4.2.2.1 s4.2.2.2.1 s4.2.2.2.2.1) (((),(),0,()),((a1,(),()),a2,a0,r3.2.1,()))
theorem e42_1 (L : Lp) (g41 : (List Res) → Option (Unit × ((List Res) × Unit))) (g71 : Res → Int → Option (Res × (Int × Unit))) (g43 : Res → Res → Option (Res × (Int × Unit))) (x : s42_1.args.den) (h : denH s42_1.heap) : nrun [⟨41,s41,fun x h => g41 x.1⟩,⟨71,s71,fun x h => g71 x.1 x.2.1⟩,⟨43,s43,fun x h => g43 x.1 x.2.1⟩] L n42_1 s42_1 x h = F42_1 L g41 g71 g43 x.2.1 h.1.1 h.2.1 := by kernel_rfl
def f42_1 : Alloc → (List Res) → (List (Int × Alloc)) → Option (((List Res) × (Int × Unit)) × (((List Res) × (Unit × Unit)) × ((List (Int × Alloc)) × Unit))) := F42_1 (@LN LOOPS) f41 f71 f43
@[reducible] def t42_1 : Ent := ⟨42,s42_1,fun x h => f42_1 x.2.1 h.1.1 h.2.1⟩
theorem k42_1 : chkNF Try.prog Try.f42 n42_1 = true := by kernel_rfl
theorem ok42_1 : NOk Try.prog t42_1 := NOk.body (T := [t41,t71,t43]) mixed (nall_cons ok41 (nall_cons ok71 (nall_cons ok43 nall_nil))) (oneEach_of (by kernel_rfl)) Try.func42 k42_1 (by kernel_rfl) (fun x h => e42_1 _ _ _ _ x h)
def sM3 : Sig := ⟨(.cons (.mp 0) (.cons (.v (.int .i64)) .nil)),[.typed (.pair (.int .i64) .alloc)],((.tup .nil),[.typed (.pair (.int .i64) .alloc)]),[]⟩
def fM3 : Int → (List (Int × Alloc)) → Option (Unit × ((List (Int × Alloc)) × Unit)) := mdrop
@[reducible] def tM3 : Ent := ⟨1000763,sM3,fun x h => fM3 x.2.1 h.1⟩
theorem okM3 : NPk Try.prog tM3 := NPk.drop mapTyM
def n18_1 : NFunc := ⟨40,.seq (.region 0 [
 o1 4 (.move (ki 0)) 0] []) (.seq (.seq (.region 0 [
 oM 9 0 0,
 o1 10 (.eqP false (tm 9) (.const (.nilp))) 0] []) (.cond (tm 10) (.seq (.region 0 [
 o1 4 (.move (ki 1)) 0] []) (.ret)) (.skip))) (.seq (.region 5 [
 oM 12 0 0,
 o1 13 (.nilCheck (tm 12)) 0,
 oF 14 1 13 0,
 oL 15 14 0,
 oM 16 1 0,
 o1 17 (.call (.const (.fn 1000761 [])) [(vw 15),(vv 16)] false 4) 0,
 oM 11 17 4,
 oX 18 11 0 4,
 oX 19 11 1 4,
 o1 5 (.alloc [iz,iz,iz,iz,iz,.zsl]) 4,
 oS 6 5 18 5,
 oM 6 19 5] []) (.seq (.seq (.region 0 [
 oM 20 6 0,
 o1 21 (.un .not (tm 20)) 0] []) (.cond (tm 21) (.seq (.region 0 [
 o1 4 (.move (ki 30)) 0] []) (.ret)) (.skip))) (.seq (.region 4 [
 oM 23 0 0,
 oT 24 6 5 0,
 o1 25 (.call (fc 42) [(vw 23),(vv 24),(false,(.func 43))] false 4) 0,
 oM 22 25 4,
 oX 26 22 0 4,
 oX 27 22 1 4,
 oM 7 26 4,
 oM 8 27 4] []) (.seq (.seq (.region 0 [
 oM 28 8 0,
 oC 29 .neq 28 0 0] []) (.cond (tm 29) (.seq (.region 0 [
 oM 30 8 0,
 oM 4 30 0] []) (.ret)) (.skip))) (.seq (.region 0 [
 oM 31 0 0,
 oM 32 7 0,
 o1 33 (.nilCheck (tm 31)) 0,
 oF 34 0 33 0,
 oS 1 34 32 0] []) (.seq (.region 4 [
 oM 35 0 0,
 o1 36 (.nilCheck (tm 35)) 0,
 oF 37 1 36 0,
 oL 38 37 0,
 oM 39 1 0,
 ⟨none,.call (.const (.fn 1000763 [])) [(vw 38),(vv 39)] false 4,none,0,none⟩] []) (.seq (.region 0 [
 o1 4 (.move (ki 0)) 0] []) (.ret))))))))),[.tmp 4],true⟩
def s18_1 : Sig := ⟨(.cons (.ptr 0 0 0) (.cons (.v (.int .i64)) .nil)),[.cell false (.cons (.v (.list .res)) (.cons (.mp 1) .nil)),.typed (.pair (.int .i64) .alloc)],((.v (.int .i64)),[.cell false (.cons (.v (.list .res)) (.cons (.mp 1) .nil)),.typed (.pair (.int .i64) .alloc)]),[]⟩
def F18_1 (L : Lp) (gM1 : Int → (List (Int × Alloc)) → Option ((Alloc × (Bool × Unit)) × ((List (Int × Alloc)) × Unit))) (g42_1 : Alloc → (List Res) → (List (Int × Alloc)) → Option (((List Res) × (Int × Unit)) × (((List Res) × (Unit × Unit)) × ((List (Int × Alloc)) × Unit)))) (gM3 : Int → (List (Int × Alloc)) → Option (Unit × ((List (Int × Alloc)) × Unit))) (job0 : Int) (a1 : (List Res)) (a2 : (List (Int × Alloc))) : Option (Int × (((List Res) × (Unit × Unit)) × ((List (Int × Alloc)) × Unit))) :=
 Option.bind (gM1 job0 a2) fun r3 =>
 cond (!r3.1.2.1)
 (some (30,((a1,(),()),r3.2.1,())))
 (Option.bind (g42_1 r3.1.1 a1 r3.2.1) fun r4 =>
 cond (!decide (r4.1.2.1 = 0))
 (some (r4.1.2.1,((r4.2.1.1,(),()),r4.2.2.1,())))
 (Option.bind (gM3 job0 r4.2.2.1) fun r5 =>
 some (0,((r4.1.1,(),()),r5.2.1,()))))
theorem e18_1 (L : Lp) (gM1 : Int → (List (Int × Alloc)) → Option ((Alloc × (Bool × Unit)) × ((List (Int × Alloc)) × Unit))) (g42_1 : Alloc → (List Res) → (List (Int × Alloc)) → Option (((List Res) × (Int × Unit)) × (((List Res) × (Unit × Unit)) × ((List (Int × Alloc)) × Unit)))) (gM3 : Int → (List (Int × Alloc)) → Option (Unit × ((List (Int × Alloc)) × Unit))) (x : s18_1.args.den) (h : denH s18_1.heap) : nrun [⟨1000761,sM1,fun x h => gM1 x.2.1 h.1⟩,⟨42,s42_1,fun x h => g42_1 x.2.1 h.1.1 h.2.1⟩,⟨1000763,sM3,fun x h => gM3 x.2.1 h.1⟩] L n18_1 s18_1 x h = F18_1 L gM1 g42_1 gM3 x.2.1 h.1.1 h.2.1 := by kernel_rfl
def f18_1 : Int → (List Res) → (List (Int × Alloc)) → Option (Int × (((List Res) × (Unit × Unit)) × ((List (Int × Alloc)) × Unit))) := F18_1 (@LN LOOPS) fM1 f42_1 fM3
@[reducible] def t18_1 : Ent := ⟨18,s18_1,fun x h => f18_1 x.2.1 h.1.1 h.2.1⟩
theorem k18_1 : chkNF Try.prog Try.f18 n18_1 = true := by kernel_rfl
theorem ok18_1 : NOk Try.prog t18_1 := NOk.body (T := [tM1,t42_1,tM3]) mixed (nall_prim okM1 (nall_cons ok42_1 (nall_prim okM3 nall_nil))) (oneEach_of (by kernel_rfl)) Try.func18 k18_1 (by kernel_rfl) (fun x h => e18_1 _ _ _ _ x h)
def n13 : NFunc := ⟨58,.seq (.region 0 [
 o1 0 (.move kf) 0] []) (.seq (.region 8 [
 o1 8 (.call (fc 38) [] false 4) 0,
 o1 9 (.call (fc 17) [(vv 8)] false 4) 4,
 oM 7 9 8,
 oX 10 7 0 8,
 oX 11 7 1 8,
 oM 1 10 8,
 oM 2 11 8] []) (.seq (.region 5 [
 oM 12 1 0,
 o1 13 (.build [iz,iz,iz,iz] [(0,1,(ki 3))]) 0,
 o1 14 (.build [iz,iz] [(0,1,(ki 0)),(1,1,(ki 1))]) 0,
 o1 15 (.buildSlice 2 1 true [iz,iz] [(0,(tm 14))]) 0,
 o1 16 (.build [iz,iz,iz,iz,iz,.zsl] [(0,1,(ki 1)),(1,4,(tm 13)),(5,1,(tm 15))]) 1,
 o1 17 (.call (fc 19) [(vw 12),(vv 16)] false 4) 1,
 oM 3 17 5] []) (.seq (.region 4 [
 oM 18 1 0,
 o1 19 (.call (fc 20) [(vw 18)] false 4) 0,
 oM 4 19 4] []) (.seq (.region 4 [
 oM 20 1 0,
 o1 21 (.call (fc 18) [(vw 20),(false,(ki 1))] false 4) 0,
 oM 5 21 4] []) (.seq (.region 4 [
 oM 22 1 0,
 o1 23 (.call (fc 20) [(vw 22)] false 4) 0,
 oM 6 23 4] []) (.seq (.region 0 [
 oM 24 2 0,
 oC 25 .eql 24 0 0,
 oM 26 25 0,
 o3 27 (.move (tm 3)) 26 0,
 o3 28 (.bin .eql (tm 27) (ki 0)) 26 0,
 o1 29 (.pick (tm 26) (tm 28) kf) 0,
 oM 30 29 0,
 o3 31 (.move (tm 4)) 30 0,
 o3 32 (.len (tm 31)) 30 0,
 o3 33 (.bin .eql (tm 32) (ki 2)) 30 0,
 o1 34 (.pick (tm 30) (tm 33) kf) 0,
 oM 35 34 0,
 o3 36 (.move (tm 4)) 35 0,
 o3 37 (.indexSl 4 (tm 36) (ki 0)) 35 0,
 o3 38 (.fieldAddr 0 (tm 37)) 35 0,
 o3 39 (.load false 1 (tm 38)) 35 0,
 o3 40 (.bin .eql (tm 39) (ki 1)) 35 0,
 o1 41 (.pick (tm 35) (tm 40) kf) 0,
 oM 42 41 0,
 o3 43 (.move (tm 5)) 42 0,
 o3 44 (.bin .eql (tm 43) (ki 0)) 42 0,
 o1 45 (.pick (tm 42) (tm 44) kf) 0,
 oM 46 45 0,
 o3 47 (.move (tm 6)) 46 0,
 o3 48 (.len (tm 47)) 46 0,
 o3 49 (.bin .eql (tm 48) (ki 2)) 46 0,
 o1 50 (.pick (tm 46) (tm 49) kf) 0,
 oM 51 50 0,
 o3 52 (.move (tm 6)) 51 0,
 o3 53 (.indexSl 4 (tm 52) (ki 0)) 51 0,
 o3 54 (.fieldAddr 0 (tm 53)) 51 0,
 o3 55 (.load false 1 (tm 54)) 51 0,
 o3 56 (.bin .eql (tm 55) (ki 4)) 51 0,
 o1 57 (.pick (tm 51) (tm 56) kf) 0,
 oM 0 57 0] []) (.ret))))))),[.tmp 0],true⟩
def s13 : Sig := ⟨.nil,[],((.v .bool),[]),[]⟩
def F13 (L : Lp) (g38 : Option Spec) (g17 : Spec → Option ((Unit × (Int × Unit)) ⊕ ((Unit × (Int × Unit)) × (((List Res) × (Unit × Unit)) × ((List (Int × Alloc)) × Unit))))) (g19 : Alloc → Option Int) (g20 : Option (List Res)) (g18 : Int → Option Int) (g19_1 : Alloc → (List Res) → (List (Int × Alloc)) → Option (Int × (((List Res) × (Unit × Unit)) × ((List (Int × Alloc)) × Unit)))) (g20_1 : (List Res) → (List (Int × Alloc)) → Option ((List Res) × (((List Res) × (Unit × Unit)) × ((List (Int × Alloc)) × Unit)))) (g18_1 : Int → (List Res) → (List (Int × Alloc)) → Option (Int × (((List Res) × (Unit × Unit)) × ((List (Int × Alloc)) × Unit))))  : Option Bool :=
 Option.bind (g38) fun r0 =>
 Option.bind (g17 r0) (Sum.elim (fun r1 =>
 Option.bind (g19 (Alloc.mk 1 (Res.mk 3 0 0 0) [Share.mk 0 1])) fun r2 =>
 Option.bind (g20) fun r3 =>
 Option.bind (g18 1) fun r4 =>
 Option.bind (g20) fun r5 =>
 cond (decide (r1.2.1 = 0))
 (cond (decide (r2 = 0))
 (cond (decide ((List.length r3 : Int) = 2))
 (Option.bind (r3[0]?) fun y6 =>
 cond (decide (y6.cpu = 1))
 (cond (decide (r4 = 0))
 (cond (decide ((List.length r5 : Int) = 2))
 (Option.bind (r5[0]?) fun y7 =>
 some (decide (y7.cpu = 4)))
 (some false))
 (some false))
 (some false))
 (some false))
 (some false))
 (some false)) (fun r8 =>
 Option.bind (g19_1 (Alloc.mk 1 (Res.mk 3 0 0 0) [Share.mk 0 1]) r8.2.1.1 r8.2.2.1) fun r9 =>
 Option.bind (g20_1 r9.2.1.1 r9.2.2.1) fun r10 =>
 Option.bind (g18_1 1 r10.2.1.1 r10.2.2.1) fun r11 =>
 Option.bind (g20_1 r11.2.1.1 r11.2.2.1) fun r12 =>
 cond (decide (r8.1.2.1 = 0))
 (cond (decide (r9.1 = 0))
 (cond (decide ((List.length r10.1 : Int) = 2))
 (Option.bind (r10.1[0]?) fun y13 =>
 cond (decide (y13.cpu = 1))
 (cond (decide (r11.1 = 0))
 (cond (decide ((List.length r12.1 : Int) = 2))
 (Option.bind (r12.1[0]?) fun y14 =>
 some (decide (y14.cpu = 4)))
 (some false))
 (some false))
 (some false))
 (some false))
 (some false))
 (some false)))
theorem e13 (L : Lp) (g38 : Option Spec) (g17 : Spec → Option ((Unit × (Int × Unit)) ⊕ ((Unit × (Int × Unit)) × (((List Res) × (Unit × Unit)) × ((List (Int × Alloc)) × Unit))))) (g19 : Alloc → Option Int) (g20 : Option (List Res)) (g18 : Int → Option Int) (g19_1 : Alloc → (List Res) → (List (Int × Alloc)) → Option (Int × (((List Res) × (Unit × Unit)) × ((List (Int × Alloc)) × Unit)))) (g20_1 : (List Res) → (List (Int × Alloc)) → Option ((List Res) × (((List Res) × (Unit × Unit)) × ((List (Int × Alloc)) × Unit)))) (g18_1 : Int → (List Res) → (List (Int × Alloc)) → Option (Int × (((List Res) × (Unit × Unit)) × ((List (Int × Alloc)) × Unit)))) (x : s13.args.den) (h : denH s13.heap) : nrun [⟨38,s38,fun x h => g38 ⟩,⟨17,s17,fun x h => g17 x.1⟩,⟨19,s19,fun x h => g19 x.2.1⟩,⟨20,s20,fun x h => g20 ⟩,⟨18,s18,fun x h => g18 x.2.1⟩,⟨19,s19_1,fun x h => g19_1 x.2.1 h.1.1 h.2.1⟩,⟨20,s20_1,fun x h => g20_1 h.1.1 h.2.1⟩,⟨18,s18_1,fun x h => g18_1 x.2.1 h.1.1 h.2.1⟩] L n13 s13 x h = F13 L g38 g17 g19 g20 g18 g19_1 g20_1 g18_1  := by kernel_rfl
def f13 : Option Bool := F13 (@LN LOOPS) f38 f17 f19 f20 f18 f19_1 f20_1 f18_1
@[reducible] def t13 : Ent := ⟨13,s13,fun x h => f13 ⟩
theorem k13 : chkNF Try.prog Try.f13 n13 = true := by kernel_rfl
theorem ok13 : NOk Try.prog t13 := NOk.body (T := [t38,t17,t19,t20,t18,t19_1,t20_1,t18_1]) mixed (nall_cons ok38 (nall_cons ok17 (nall_cons ok19 (nall_cons ok20 (nall_cons ok18 (nall_cons ok19_1 (nall_cons ok20_1 (nall_cons ok18_1 nall_nil)))))))) (oneEach_of (by kernel_rfl)) Try.func13 k13 (by kernel_rfl) (fun x h => e13 _ _ _ _ _ _ _ _ _ x h)
def n14 : NFunc := ⟨46,.seq (.region 1 [
 o1 1 (.box 18 (tm 0)) 0,
 o1 2 (.move kf) 1] []) (.seq (.seq (.region 0 [
 oF 7 0 1 0,
 oL 8 7 0,
 o1 9 (.len (tm 8)) 0,
 oC 10 .gtr 9 40 0,
 oM 11 10 0,
 o2 12 (.fieldAddr 1 (tm 1)) 11 0,
 o2 13 (.load false 1 (tm 12)) 11 0,
 o2 14 (.len (tm 13)) 11 0,
 o2 15 (.bin .gtr (tm 14) (ki 20)) 11 0,
 o1 16 (.pick (tm 11) kt (tm 15)) 0,
 oM 17 16 0,
 o2 18 (.fieldAddr 2 (tm 1)) 17 0,
 o2 19 (.load false 1 (tm 18)) 17 0,
 o2 20 (.len (tm 19)) 17 0,
 o2 21 (.bin .gtr (tm 20) (ki 20)) 17 0,
 o1 22 (.pick (tm 17) kt (tm 21)) 0] []) (.cond (tm 22) (.seq (.region 0 [
 o1 2 (.move kf) 0] []) (.ret)) (.skip))) (.seq (.seq (.region 0 [
 oF 23 1 1 0,
 oL 24 23 0,
 o1 25 (.len (tm 24)) 0,
 o1 26 (.move (ki 0)) 0] []) (.block 0 (.loop [1,24,25,26] ⟨[(1,(.ptr 0 0 0)),(26,vI)],[24,25],[.one false .spec]⟩ (.seq (.region 0 [
 oB 27 .lss 26 25 0] []) (.seq (.cond (tm 27) (.skip) (.exit 0)) (.seq (.block 1 (.seq (.region 0 [
 o1 28 (.indexSl 1 (tm 24) (tm 26)) 0,
 oL 29 28 0,
 oM 4 29 0] []) (.seq (.region 0 [
 oM 30 4 0,
 o1 31 (.len (tm 30)) 0,
 oC 32 .gtr 31 40 0] []) (.cond (tm 32) (.seq (.region 0 [
 o1 2 (.move kf) 0] []) (.ret)) (.skip))))) (.region 0 [
 oC 33 .add 26 1 0,
 oM 26 33 0] []))))))) (.seq (.seq (.region 0 [
 oF 34 2 1 0,
 oL 35 34 0,
 o1 36 (.len (tm 35)) 0,
 o1 37 (.move (ki 0)) 0] []) (.block 2 (.loop [35,36,37] ⟨[(37,vI)],[35,36],[]⟩ (.seq (.region 0 [
 oB 38 .lss 37 36 0] []) (.seq (.cond (tm 38) (.skip) (.exit 2)) (.seq (.block 3 (.seq (.region 1 [
 o1 39 (.indexSl 6 (tm 35) (tm 37)) 0,
 oT 40 6 39 0,
 o1 6 (.alloc [iz,.zsl,iz,iz,iz,iz]) 0,
 oS 6 6 40 1] []) (.seq (.region 0 [
 oF 41 1 6 0,
 oL 42 41 0,
 o1 43 (.len (tm 42)) 0,
 oC 44 .gtr 43 40 0] []) (.cond (tm 44) (.seq (.region 0 [
 o1 2 (.move kf) 0] []) (.ret)) (.skip))))) (.region 0 [
 oC 45 .add 37 1 0,
 oM 37 45 0] []))))))) (.seq (.region 0 [
 o1 2 (.move kt) 0] []) (.ret))))),[.tmp 2],true⟩
def s14 : Sig := ⟨(.cons (.v .spec) .nil),[],((.v .bool),[]),[]⟩
def l14_0 (z4 : Spec) (nx7 : ((Int × Unit) × Unit) → Option Bool) (z8 : Int) : Option Bool :=
 cond (decide (z8 < (List.length z4.queues : Int)))
 (cond (decide (0 ≤ z8))
 (Option.bind (z4.queues[Int.toNat z8]?) fun y9 =>
 cond (decide (40 < (List.length y9.users : Int)))
 (some false)
 (nx7 ((IntKind.wrap .i64 (z8 + 1),()),())))
 (none))
 (some true)
def l14_1 (L : Lp) (as0 : Spec) (nx2 : ((Unit × (Int × Unit)) × (Spec × Unit)) → Option Bool) (z3 : Int) (z4 : Spec) : Option Bool :=
 cond (decide (z3 < (List.length as0.parts : Int)))
 (cond (decide (0 ≤ z3))
 (Option.bind (as0.parts[Int.toNat z3]?) fun y5 =>
 cond (decide (40 < (List.length y5 : Int)))
 (some false)
 (nx2 (((),IntKind.wrap .i64 (z3 + 1),()),(z4,()))))
 (none))
 (L (fun (s6 : ((Int × Unit) × Unit)) nx7 => l14_0 z4 nx7 s6.1.1) ((0,()),()))
def F14 (L : Lp)  (as0 : Spec) : Option Bool :=
 cond (decide (40 < (List.length as0.nodes : Int)))
 (some false)
 (cond (decide (20 < (List.length as0.parts : Int)))
 (some false)
 (cond (decide (20 < (List.length as0.queues : Int)))
 (some false)
 (L (fun (s1 : ((Unit × (Int × Unit)) × (Spec × Unit))) nx2 => l14_1 L as0 nx2 s1.1.2.1 s1.2.1) (((),0,()),(as0,())))))
theorem e14 (L : Lp)  (x : s14.args.den) (h : denH s14.heap) : nrun [] L n14 s14 x h = F14 L  x.1 := by kernel_rfl
def f14 : Spec → Option Bool := F14 (@LN LOOPS) 
@[reducible] def t14 : Ent := ⟨14,s14,fun x h => f14 x.1⟩
theorem k14 : chkNF Try.prog Try.f14 n14 = true := by kernel_rfl
theorem ok14 : NOk Try.prog t14 := NOk.body (T := []) mixed nall_nil (oneEach_of (by kernel_rfl)) Try.func14 k14 (by kernel_rfl) (fun x h => e14 _  x h)
def n15 : NFunc := ⟨20,.seq (.region 0 [
 o1 2 (.move kf) 0] []) (.seq (.seq (.region 0 [
 oM 5 0 0,
 o1 6 (.len (tm 5)) 0,
 oC 7 .gtr 6 30 0] []) (.cond (tm 7) (.seq (.region 0 [
 o1 2 (.move kf) 0] []) (.ret)) (.skip))) (.seq (.seq (.region 0 [
 oM 8 0 0,
 o1 9 (.len (tm 8)) 0,
 o1 10 (.move (ki 0)) 0] []) (.block 0 (.loop [8,9,10] ⟨[(10,vI)],[8,9],[]⟩ (.seq (.region 0 [
 oB 11 .lss 10 9 0] []) (.seq (.cond (tm 11) (.skip) (.exit 0)) (.seq (.block 1 (.seq (.region 1 [
 o1 12 (.indexSl 7 (tm 8) (tm 10)) 0,
 oT 13 7 12 0,
 o1 4 (.alloc [.bool false,iz,iz,iz,iz,iz,.zsl]) 0,
 oS 7 4 13 1] []) (.seq (.region 0 [
 oF 14 1 4 0,
 oF 15 5 14 0,
 oL 16 15 0,
 o1 17 (.len (tm 16)) 0,
 oC 18 .gtr 17 40 0] []) (.cond (tm 18) (.seq (.region 0 [
 o1 2 (.move kf) 0] []) (.ret)) (.skip))))) (.region 0 [
 oC 19 .add 10 1 0,
 oM 10 19 0] []))))))) (.seq (.region 0 [
 o1 2 (.move kt) 0] []) (.ret)))),[.tmp 2],true⟩
def s15 : Sig := ⟨(.cons (.v (.list (.pair .bool .alloc))) .nil),[],((.v .bool),[]),[]⟩
def l15_0 (al0 : (List (Bool × Alloc))) (nx2 : ((Int × Unit) × Unit) → Option Bool) (z3 : Int) : Option Bool :=
 cond (decide (z3 < (List.length al0 : Int)))
 (cond (decide (0 ≤ z3))
 (Option.bind (al0[Int.toNat z3]?) fun y4 =>
 cond (decide (40 < (List.length y4.2.shares : Int)))
 (some false)
 (nx2 ((IntKind.wrap .i64 (z3 + 1),()),())))
 (none))
 (some true)
def F15 (L : Lp)  (al0 : (List (Bool × Alloc))) : Option Bool :=
 cond (decide (30 < (List.length al0 : Int)))
 (some false)
 (L (fun (s1 : ((Int × Unit) × Unit)) nx2 => l15_0 al0 nx2 s1.1.1) ((0,()),()))
theorem e15 (L : Lp)  (x : s15.args.den) (h : denH s15.heap) : nrun [] L n15 s15 x h = F15 L  x.1 := by kernel_rfl
def f15 : (List (Bool × Alloc)) → Option Bool := F15 (@LN LOOPS) 
@[reducible] def t15 : Ent := ⟨15,s15,fun x h => f15 x.1⟩
theorem k15 : chkNF Try.prog Try.f15 n15 = true := by kernel_rfl
theorem ok15 : NOk Try.prog t15 := NOk.body (T := []) mixed nall_nil (oneEach_of (by kernel_rfl)) Try.func15 k15 (by kernel_rfl) (fun x h => e15 _  x h)
def n66 : NFunc := ⟨15,.seq (.region 0 [
 o1 6 (.move kf) 0] []) (.seq (.region 0 [
 oM 7 1 0,
 oM 8 0 0,
 oB 9 .leq 7 8 0,
 oM 10 9 0,
 o3 11 (.move (tm 0)) 10 0,
 o3 12 (.move (tm 2)) 10 0,
 o3 13 (.bin .leq (tm 11) (tm 12)) 10 0,
 o1 14 (.pick (tm 10) (tm 13) kf) 0,
 oM 6 14 0] []) (.ret)),[.tmp 6],true⟩
def s66 : Sig := ⟨(.cons (.v (.int .i64)) (.cons (.v (.int .i64)) (.cons (.v (.int .i64)) .nil))),[],((.v .bool),[]),[]⟩
def F66 (L : Lp)  (an0 : Int) (lo1 : Int) (hi2 : Int) : Option Bool :=
 cond (decide (lo1 ≤ an0))
 (some (decide (an0 ≤ hi2)))
 (some false)
theorem e66 (L : Lp)  (x : s66.args.den) (h : denH s66.heap) : nrun [] L n66 s66 x h = F66 L  x.1 x.2.1 x.2.2.1 := by kernel_rfl
def f66 : Int → Int → Int → Option Bool := F66 (@LN LOOPS) 
@[reducible] def t66 : Ent := ⟨66,s66,fun x h => f66 x.1 x.2.1 x.2.2.1⟩
theorem k66 : chkNF Try.prog Try.f66 n66 = true := by kernel_rfl
theorem ok66 : NOk Try.prog t66 := NOk.body (T := []) mixed nall_nil (oneEach_of (by kernel_rfl)) Try.func66 k66 (by kernel_rfl) (fun x h => e66 _  x h)
def n50 : NFunc := ⟨9,.seq (.region 0 [
 o1 2 (.move kf) 0] []) (.seq (.region 0 [
 oM 3 0 0,
 oC 4 .geq 3 0 0,
 oM 5 4 0,
 o3 6 (.move (tm 0)) 5 0,
 o3 7 (.bin .leq (tm 6) (ki 1048576)) 5 0,
 o1 8 (.pick (tm 5) (tm 7) kf) 0,
 oM 2 8 0] []) (.ret)),[.tmp 2],true⟩
def s50 : Sig := ⟨(.cons (.v (.int .i64)) .nil),[],((.v .bool),[]),[]⟩
def F50 (L : Lp)  (an0 : Int) : Option Bool :=
 cond (decide (0 ≤ an0))
 (some (decide (an0 ≤ 1048576)))
 (some false)
theorem e50 (L : Lp)  (x : s50.args.den) (h : denH s50.heap) : nrun [] L n50 s50 x h = F50 L  x.1 := by kernel_rfl
def f50 : Int → Option Bool := F50 (@LN LOOPS) 
@[reducible] def t50 : Ent := ⟨50,s50,fun x h => f50 x.1⟩
theorem k50 : chkNF Try.prog Try.f50 n50 = true := by kernel_rfl
theorem ok50 : NOk Try.prog t50 := NOk.body (T := []) mixed nall_nil (oneEach_of (by kernel_rfl)) Try.func50 k50 (by kernel_rfl) (fun x h => e50 _  x h)
def n25 : NFunc := ⟨21,.seq (.region 1 [
 o1 1 (.box 4 (tm 0)) 0,
 o1 2 (.move kf) 1] []) (.seq (.region 16 [
 oF 3 0 1 0,
 oL 4 3 0,
 o1 5 (.call (fc 50) [(vv 4)] false 4) 0,
 oM 6 5 4,
 o3 7 (.fieldAddr 1 (tm 1)) 6 4,
 o3 8 (.load false 1 (tm 7)) 6 4,
 o3 9 (.call (fc 50) [(vv 8)] false 4) 6 4,
 o1 10 (.pick (tm 6) (tm 9) kf) 8,
 oM 11 10 8,
 o3 12 (.fieldAddr 2 (tm 1)) 11 8,
 o3 13 (.load false 1 (tm 12)) 11 8,
 o3 14 (.call (fc 50) [(vv 13)] false 4) 11 8,
 o1 15 (.pick (tm 11) (tm 14) kf) 12,
 oM 16 15 12,
 o3 17 (.fieldAddr 3 (tm 1)) 16 12,
 o3 18 (.load false 1 (tm 17)) 16 12,
 o3 19 (.call (fc 50) [(vv 18)] false 4) 16 12,
 o1 20 (.pick (tm 16) (tm 19) kf) 16,
 oM 2 20 16] []) (.ret)),[.tmp 2],true⟩
def s25 : Sig := ⟨(.cons (.v .res) .nil),[],((.v .bool),[]),[]⟩
def F25 (L : Lp) (g50 : Int → Option Bool) (a0 : Res) : Option Bool :=
 Option.bind (g50 a0.cpu) fun r1 =>
 cond r1
 (Option.bind (g50 a0.mem) fun r2 =>
 cond r2
 (Option.bind (g50 a0.gpu) fun r3 =>
 cond r3
 (Option.bind (g50 a0.lic) fun r4 =>
 some r4)
 (some false))
 (some false))
 (some false)
theorem e25 (L : Lp) (g50 : Int → Option Bool) (x : s25.args.den) (h : denH s25.heap) : nrun [⟨50,s50,fun x h => g50 x.1⟩] L n25 s25 x h = F25 L g50 x.1 := by kernel_rfl
def f25 : Res → Option Bool := F25 (@LN LOOPS) f50
@[reducible] def t25 : Ent := ⟨25,s25,fun x h => f25 x.1⟩
theorem k25 : chkNF Try.prog Try.f25 n25 = true := by kernel_rfl
theorem ok25 : NOk Try.prog t25 := NOk.body (T := [t50]) mixed (nall_cons ok50 nall_nil) (oneEach_of (by kernel_rfl)) Try.func25 k25 (by kernel_rfl) (fun x h => e25 _ _ x h)
def n67 : NFunc := ⟨22,.seq (.region 1 [
 o1 1 (.box 18 (tm 0)) 0,
 o1 2 (.move kf) 1] []) (.seq (.seq (.region 0 [
 o1 3 (.move (ki 0)) 0] []) (.block 0 (.loop [1,3] ⟨[(1,(.ptr 0 0 0)),(3,vI)],[],[.one false .spec]⟩ (.seq (.seq (.region 0 [
 oM 4 3 0,
 oF 5 0 1 0,
 oL 6 5 0,
 o1 7 (.len (tm 6)) 0,
 oB 8 .lss 4 7 0] []) (.cond (tm 8) (.skip) (.exit 0))) (.seq (.block 1 (.seq (.region 4 [
 oF 11 0 1 0,
 oL 12 11 0,
 oM 13 3 0,
 o1 14 (.indexSl 4 (tm 12) (tm 13)) 0,
 oT 15 4 14 0,
 o1 16 (.call (fc 25) [(vv 15)] false 4) 0,
 o1 17 (.un .not (tm 16)) 4] []) (.cond (tm 17) (.seq (.region 0 [
 o1 2 (.move kf) 0] []) (.ret)) (.skip)))) (.region 0 [
 oM 9 3 0,
 oC 10 .add 9 1 0,
 oM 3 10 0] [])))))) (.seq (.region 4 [
 oF 18 0 1 0,
 oL 19 18 0,
 o1 20 (.len (tm 19)) 0,
 o1 21 (.call (fc 66) [(vv 20),(false,(ki 1)),(false,(ki 16))] false 4) 0,
 oM 2 21 4] []) (.ret))),[.tmp 2],true⟩
def s67 : Sig := ⟨(.cons (.v .spec) .nil),[],((.v .bool),[]),[]⟩
def l67_0 (g25 : Res → Option Bool) (g66 : Int → Int → Int → Option Bool) (nx2 : ((Unit × (Int × Unit)) × (Spec × Unit)) → Option Bool) (i3 : Int) (z4 : Spec) : Option Bool :=
 cond (decide (i3 < (List.length z4.nodes : Int)))
 (cond (decide (0 ≤ i3))
 (Option.bind (z4.nodes[Int.toNat i3]?) fun y5 =>
 Option.bind (g25 y5) fun r6 =>
 cond (!r6)
 (some false)
 (nx2 (((),IntKind.wrap .i64 (i3 + 1),()),(z4,()))))
 (none))
 (Option.bind (g66 (List.length z4.nodes : Int) 1 16) fun r7 =>
 some r7)
def F67 (L : Lp) (g25 : Res → Option Bool) (g66 : Int → Int → Int → Option Bool) (as0 : Spec) : Option Bool :=
 L (fun (s1 : ((Unit × (Int × Unit)) × (Spec × Unit))) nx2 => l67_0 g25 g66 nx2 s1.1.2.1 s1.2.1) (((),0,()),(as0,()))
theorem e67 (L : Lp) (g25 : Res → Option Bool) (g66 : Int → Int → Int → Option Bool) (x : s67.args.den) (h : denH s67.heap) : nrun [⟨25,s25,fun x h => g25 x.1⟩,⟨66,s66,fun x h => g66 x.1 x.2.1 x.2.2.1⟩] L n67 s67 x h = F67 L g25 g66 x.1 := by kernel_rfl
def f67 : Spec → Option Bool := F67 (@LN LOOPS) f25 f66
@[reducible] def t67 : Ent := ⟨67,s67,fun x h => f67 x.1⟩
theorem k67 : chkNF Try.prog Try.f67 n67 = true := by kernel_rfl
theorem ok67 : NOk Try.prog t67 := NOk.body (T := [t25,t66]) mixed (nall_cons ok25 (nall_cons ok66 nall_nil)) (oneEach_of (by kernel_rfl)) Try.func67 k67 (by kernel_rfl) (fun x h => e67 _ _ _ x h)
def n87 : NFunc := ⟨41,.seq (.region 0 [
 o1 4 (.move kf) 0] []) (.seq (.seq (.region 0 [
 o1 5 (.move (ki 0)) 0] []) (.block 0 (.loop [0,1,5] ⟨[(5,vI)],[0,1],[]⟩ (.seq (.seq (.region 0 [
 oM 6 5 0,
 oM 7 0 0,
 o1 8 (.len (tm 7)) 0,
 oB 9 .lss 6 8 0] []) (.cond (tm 9) (.skip) (.exit 0))) (.seq (.block 1 (.seq (.region 0 [
 o4 12 (.move (tm 0)) 0 [],
 o4 13 (.move (tm 5)) 0 [],
 o4 14 (.indexSl 1 (tm 12) (tm 13)) 0 [],
 o4 15 (.load false 1 (tm 14)) 0 [],
 o4 16 (.bin .lss (tm 15) (ki 0)) 0 [],
 o4 17 (.move (tm 16)) 0 [],
 ⟨(some 18),.move (tm 0),(some (17,false)),0,(some ([],none))⟩,
 ⟨(some 19),.move (tm 5),(some (17,false)),0,(some ([],none))⟩,
 ⟨(some 20),.indexSl 1 (tm 18) (tm 19),(some (17,false)),0,(some ([],none))⟩,
 ⟨(some 21),.load false 1 (tm 20),(some (17,false)),0,(some ([],none))⟩,
 ⟨(some 22),.move (tm 1),(some (17,false)),0,(some ([],none))⟩,
 ⟨(some 23),.bin .geq (tm 21) (tm 22),(some (17,false)),0,(some ([],none))⟩,
 o4 24 (.pick (tm 17) kt (tm 23)) 0 [],
 o4 25 (.move (tm 24)) 0 [],
 ⟨(some 26),.move (tm 5),(some (25,false)),0,(some ([],none))⟩,
 ⟨(some 27),.bin .gtr (tm 26) (ki 0),(some (25,false)),0,(some ([],none))⟩,
 ⟨(some 28),.move (tm 27),(some (25,false)),0,(some ([],none))⟩,
 ⟨(some 29),.move (tm 0),(some (28,true)),0,(some ([],none))⟩,
 ⟨(some 30),.move (tm 5),(some (28,true)),0,(some ([],none))⟩,
 ⟨(some 31),.bin .sub (tm 30) (ki 1),(some (28,true)),0,(some ([],none))⟩,
 ⟨(some 32),.indexSl 1 (tm 29) (tm 31),(some (28,true)),0,(some ([],none))⟩,
 ⟨(some 33),.load false 1 (tm 32),(some (28,true)),0,(some ([],none))⟩,
 ⟨(some 34),.move (tm 0),(some (28,true)),0,(some ([],none))⟩,
 ⟨(some 35),.move (tm 5),(some (28,true)),0,(some ([],none))⟩,
 ⟨(some 36),.indexSl 1 (tm 34) (tm 35),(some (28,true)),0,(some ([],none))⟩,
 ⟨(some 37),.load false 1 (tm 36),(some (28,true)),0,(some ([],none))⟩,
 ⟨(some 38),.bin .geq (tm 33) (tm 37),(some (28,true)),0,(some ([],none))⟩,
 ⟨(some 39),.pick (tm 28) (tm 38) kf,(some (25,false)),0,(some ([],none))⟩,
 o4 40 (.pick (tm 25) kt (tm 39)) 0 []] []) (.cond (tm 40) (.seq (.region 0 [
 o1 4 (.move kf) 0] []) (.ret)) (.skip)))) (.region 0 [
 oM 10 5 0,
 oC 11 .add 10 1 0,
 oM 5 11 0] [])))))) (.seq (.region 0 [
 o1 4 (.move kt) 0] []) (.ret))),[.tmp 4],true⟩
def s87 : Sig := ⟨(.cons (.v (.list (.int .i64))) (.cons (.v (.int .i64)) .nil)),[],((.v .bool),[]),[]⟩
def l87_0 (al0 : (List Int)) (below1 : Int) (nx3 : ((Int × Unit) × Unit) → Option Bool) (i4 : Int) : Option Bool :=
 cond (decide (i4 < (List.length al0 : Int)))
 (cond (decide (0 ≤ i4))
 (Option.bind (al0[Int.toNat i4]?) fun y5 =>
 cond (decide (y5 < 0))
 (some false)
 (cond (decide (0 ≤ i4))
 (Option.bind (al0[Int.toNat i4]?) fun y6 =>
 cond (decide (below1 ≤ y6))
 (some false)
 (cond (decide (0 < i4))
 (cond (decide (0 ≤ (IntKind.wrap .i64 (i4 - 1))))
 (Option.bind (al0[Int.toNat (IntKind.wrap .i64 (i4 - 1))]?) fun y7 =>
 cond (decide (0 ≤ i4))
 (Option.bind (al0[Int.toNat i4]?) fun y8 =>
 cond (decide (y8 ≤ y7))
 (some false)
 (nx3 ((IntKind.wrap .i64 (i4 + 1),()),())))
 (none))
 (none))
 (nx3 ((IntKind.wrap .i64 (i4 + 1),()),()))))
 (none)))
 (none))
 (some true)
def F87 (L : Lp)  (al0 : (List Int)) (below1 : Int) : Option Bool :=
 L (fun (s2 : ((Int × Unit) × Unit)) nx3 => l87_0 al0 below1 nx3 s2.1.1) ((0,()),())
theorem e87 (L : Lp)  (x : s87.args.den) (h : denH s87.heap) : nrun [] L n87 s87 x h = F87 L  x.1 x.2.1 := by kernel_rfl
def f87 : (List Int) → Int → Option Bool := F87 (@LN LOOPS) 
@[reducible] def t87 : Ent := ⟨87,s87,fun x h => f87 x.1 x.2.1⟩
theorem k87 : chkNF Try.prog Try.f87 n87 = true := by kernel_rfl
theorem ok87 : NOk Try.prog t87 := NOk.body (T := []) mixed nall_nil (oneEach_of (by kernel_rfl)) Try.func87 k87 (by kernel_rfl) (fun x h => e87 _  x h)
def n68 : NFunc := ⟨34,.seq (.region 1 [
 o1 1 (.box 18 (tm 0)) 0,
 o1 2 (.move kf) 1] []) (.seq (.seq (.region 0 [
 o1 3 (.move (ki 0)) 0] []) (.block 0 (.loop [1,3] ⟨[(1,(.ptr 0 0 0)),(3,vI)],[],[.one false .spec]⟩ (.seq (.seq (.region 0 [
 oM 4 3 0,
 oF 5 1 1 0,
 oL 6 5 0,
 o1 7 (.len (tm 6)) 0,
 oB 8 .lss 4 7 0] []) (.cond (tm 8) (.skip) (.exit 0))) (.seq (.block 1 (.seq (.region 4 [
 o4 11 (.fieldAddr 1 (tm 1)) 0 [],
 o4 12 (.load false 1 (tm 11)) 0 [],
 o4 13 (.move (tm 3)) 0 [],
 o4 14 (.indexSl 1 (tm 12) (tm 13)) 0 [],
 o4 15 (.load false 1 (tm 14)) 0 [],
 o4 16 (.len (tm 15)) 0 [],
 o4 17 (.bin .lss (tm 16) (ki 1)) 0 [],
 o4 18 (.move (tm 17)) 0 [],
 ⟨(some 19),.fieldAddr 1 (tm 1),(some (18,false)),0,(some ([],none))⟩,
 ⟨(some 20),.load false 1 (tm 19),(some (18,false)),0,(some ([],none))⟩,
 ⟨(some 21),.move (tm 3),(some (18,false)),0,(some ([],none))⟩,
 ⟨(some 22),.indexSl 1 (tm 20) (tm 21),(some (18,false)),0,(some ([],none))⟩,
 ⟨(some 23),.load false 1 (tm 22),(some (18,false)),0,(some ([],none))⟩,
 ⟨(some 24),.fieldAddr 0 (tm 1),(some (18,false)),0,(some ([],none))⟩,
 ⟨(some 25),.load false 1 (tm 24),(some (18,false)),0,(some ([],none))⟩,
 ⟨(some 26),.len (tm 25),(some (18,false)),0,(some ([],none))⟩,
 ⟨(some 27),.call (fc 87) [(vv 23),(vv 26)] false 4,(some (18,false)),0,(some ([],none))⟩,
 ⟨(some 28),.un .not (tm 27),(some (18,false)),4,(some ([0,1,2,3],none))⟩,
 o4 29 (.pick (tm 18) kt (tm 28)) 4 [0,1,2,3]] []) (.cond (tm 29) (.seq (.region 0 [
 o1 2 (.move kf) 0] []) (.ret)) (.skip)))) (.region 0 [
 oM 9 3 0,
 oC 10 .add 9 1 0,
 oM 3 10 0] [])))))) (.seq (.region 4 [
 oF 30 1 1 0,
 oL 31 30 0,
 o1 32 (.len (tm 31)) 0,
 o1 33 (.call (fc 66) [(vv 32),(false,(ki 1)),(false,(ki 8))] false 4) 0,
 oM 2 33 4] []) (.ret))),[.tmp 2],true⟩
def s68 : Sig := ⟨(.cons (.v .spec) .nil),[],((.v .bool),[]),[]⟩
def l68_0 (g87 : (List Int) → Int → Option Bool) (g66 : Int → Int → Int → Option Bool) (nx2 : ((Unit × (Int × Unit)) × (Spec × Unit)) → Option Bool) (i3 : Int) (z4 : Spec) : Option Bool :=
 cond (decide (i3 < (List.length z4.parts : Int)))
 (cond (decide (0 ≤ i3))
 (Option.bind (z4.parts[Int.toNat i3]?) fun y5 =>
 cond (decide ((List.length y5 : Int) < 1))
 (some false)
 (cond (decide (0 ≤ i3))
 (Option.bind (z4.parts[Int.toNat i3]?) fun y6 =>
 Option.bind (g87 y6 (List.length z4.nodes : Int)) fun r7 =>
 cond (!r7)
 (some false)
 (nx2 (((),IntKind.wrap .i64 (i3 + 1),()),(z4,()))))
 (none)))
 (none))
 (Option.bind (g66 (List.length z4.parts : Int) 1 8) fun r8 =>
 some r8)
def F68 (L : Lp) (g87 : (List Int) → Int → Option Bool) (g66 : Int → Int → Int → Option Bool) (as0 : Spec) : Option Bool :=
 L (fun (s1 : ((Unit × (Int × Unit)) × (Spec × Unit))) nx2 => l68_0 g87 g66 nx2 s1.1.2.1 s1.2.1) (((),0,()),(as0,()))
theorem e68 (L : Lp) (g87 : (List Int) → Int → Option Bool) (g66 : Int → Int → Int → Option Bool) (x : s68.args.den) (h : denH s68.heap) : nrun [⟨87,s87,fun x h => g87 x.1 x.2.1⟩,⟨66,s66,fun x h => g66 x.1 x.2.1 x.2.2.1⟩] L n68 s68 x h = F68 L g87 g66 x.1 := by kernel_rfl
def f68 : Spec → Option Bool := F68 (@LN LOOPS) f87 f66
@[reducible] def t68 : Ent := ⟨68,s68,fun x h => f68 x.1⟩
theorem k68 : chkNF Try.prog Try.f68 n68 = true := by kernel_rfl
theorem ok68 : NOk Try.prog t68 := NOk.body (T := [t87,t66]) mixed (nall_cons ok87 (nall_cons ok66 nall_nil)) (oneEach_of (by kernel_rfl)) Try.func68 k68 (by kernel_rfl) (fun x h => e68 _ _ _ x h)
def n69 : NFunc := ⟨64,.seq (.region 1 [
 o1 1 (.box 18 (tm 0)) 0,
 o1 2 (.move kf) 1] []) (.seq (.seq (.region 0 [
 o1 3 (.move (ki 0)) 0] []) (.block 0 (.loop [1,3] ⟨[(1,(.ptr 0 0 0)),(3,vI)],[],[.one false .spec]⟩ (.seq (.seq (.region 0 [
 oM 5 3 0,
 oF 6 2 1 0,
 oL 7 6 0,
 o1 8 (.len (tm 7)) 0,
 oB 9 .lss 5 8 0] []) (.cond (tm 9) (.skip) (.exit 0))) (.seq (.block 1 (.seq (.region 1 [
 oF 12 2 1 0,
 oL 13 12 0,
 oM 14 3 0,
 o1 15 (.indexSl 6 (tm 13) (tm 14)) 0,
 oT 16 6 15 0,
 o1 4 (.alloc [iz,.zsl,iz,iz,iz,iz]) 0,
 oS 6 4 16 1] []) (.seq (.region 20 [
 oF 17 0 4 0,
 oL 18 17 0,
 oC 19 .lss 18 0 0,
 oM 20 19 0,
 o2 21 (.fieldAddr 0 (tm 4)) 20 0,
 o2 22 (.load false 1 (tm 21)) 20 0,
 o2 23 (.fieldAddr 1 (tm 1)) 20 0,
 o2 24 (.load false 1 (tm 23)) 20 0,
 o2 25 (.len (tm 24)) 20 0,
 o2 26 (.bin .geq (tm 22) (tm 25)) 20 0,
 o1 27 (.pick (tm 20) kt (tm 26)) 0,
 oM 28 27 0,
 o2 29 (.fieldAddr 1 (tm 4)) 28 0,
 o2 30 (.load false 1 (tm 29)) 28 0,
 o2 31 (.fieldAddr 3 (tm 1)) 28 0,
 o2 32 (.load false 1 (tm 31)) 28 0,
 o2 33 (.call (fc 87) [(vv 30),(vv 32)] false 4) 28 0,
 o2 34 (.un .not (tm 33)) 28 4,
 o1 35 (.pick (tm 28) kt (tm 34)) 4,
 oM 36 35 4,
 o2 37 (.fieldAddr 2 (tm 4)) 36 4,
 o2 38 (.load false 1 (tm 37)) 36 4,
 o2 39 (.call (fc 66) [(vv 38),(false,(ki 1)),(false,(ki 256))] false 4) 36 4,
 o2 40 (.un .not (tm 39)) 36 8,
 o1 41 (.pick (tm 36) kt (tm 40)) 8,
 oM 42 41 8,
 o2 43 (.fieldAddr 3 (tm 4)) 42 8,
 o2 44 (.load false 1 (tm 43)) 42 8,
 o2 45 (.call (fc 66) [(vv 44),(false,(ki 1)),(false,(ki 256))] false 4) 42 8,
 o2 46 (.un .not (tm 45)) 42 12,
 o1 47 (.pick (tm 42) kt (tm 46)) 12,
 oM 48 47 12,
 o2 49 (.fieldAddr 4 (tm 4)) 48 12,
 o2 50 (.load false 1 (tm 49)) 48 12,
 o2 51 (.call (fc 66) [(vv 50),(false,(ki 1)),(false,(ki 256))] false 4) 48 12,
 o2 52 (.un .not (tm 51)) 48 16,
 o1 53 (.pick (tm 48) kt (tm 52)) 16,
 oM 54 53 16,
 o2 55 (.fieldAddr 5 (tm 4)) 54 16,
 o2 56 (.load false 1 (tm 55)) 54 16,
 o2 57 (.call (fc 66) [(vv 56),(false,(ki 0)),(false,(ki 100))] false 4) 54 16,
 o2 58 (.un .not (tm 57)) 54 20,
 o1 59 (.pick (tm 54) kt (tm 58)) 20] []) (.cond (tm 59) (.seq (.region 0 [
 o1 2 (.move kf) 0] []) (.ret)) (.skip))))) (.region 0 [
 oM 10 3 0,
 oC 11 .add 10 1 0,
 oM 3 11 0] [])))))) (.seq (.region 4 [
 oF 60 2 1 0,
 oL 61 60 0,
 o1 62 (.len (tm 61)) 0,
 o1 63 (.call (fc 66) [(vv 62),(false,(ki 1)),(false,(ki 8))] false 4) 0,
 oM 2 63 4] []) (.ret))),[.tmp 2],true⟩
def s69 : Sig := ⟨(.cons (.v .spec) .nil),[],((.v .bool),[]),[]⟩
def l69_0 (g87 : (List Int) → Int → Option Bool) (g66 : Int → Int → Int → Option Bool) (nx2 : ((Unit × (Int × Unit)) × (Spec × Unit)) → Option Bool) (i3 : Int) (z4 : Spec) : Option Bool :=
 cond (decide (i3 < (List.length z4.queues : Int)))
 (cond (decide (0 ≤ i3))
 (Option.bind (z4.queues[Int.toNat i3]?) fun y5 =>
 cond (decide (y5.part < 0))
 (some false)
 (cond (decide ((List.length z4.parts : Int) ≤ y5.part))
 (some false)
 (Option.bind (g87 y5.users z4.users) fun r6 =>
 cond (!r6)
 (some false)
 (Option.bind (g66 y5.maxJobs 1 256) fun r7 =>
 cond (!r7)
 (some false)
 (Option.bind (g66 y5.maxRun 1 256) fun r8 =>
 cond (!r8)
 (some false)
 (Option.bind (g66 y5.maxUser 1 256) fun r9 =>
 cond (!r9)
 (some false)
 (Option.bind (g66 y5.qos 0 100) fun r10 =>
 cond (!r10)
 (some false)
 (nx2 (((),IntKind.wrap .i64 (i3 + 1),()),(z4,()))))))))))
 (none))
 (Option.bind (g66 (List.length z4.queues : Int) 1 8) fun r11 =>
 some r11)
def F69 (L : Lp) (g87 : (List Int) → Int → Option Bool) (g66 : Int → Int → Int → Option Bool) (as0 : Spec) : Option Bool :=
 L (fun (s1 : ((Unit × (Int × Unit)) × (Spec × Unit))) nx2 => l69_0 g87 g66 nx2 s1.1.2.1 s1.2.1) (((),0,()),(as0,()))
theorem e69 (L : Lp) (g87 : (List Int) → Int → Option Bool) (g66 : Int → Int → Int → Option Bool) (x : s69.args.den) (h : denH s69.heap) : nrun [⟨87,s87,fun x h => g87 x.1 x.2.1⟩,⟨66,s66,fun x h => g66 x.1 x.2.1 x.2.2.1⟩] L n69 s69 x h = F69 L g87 g66 x.1 := by kernel_rfl
def f69 : Spec → Option Bool := F69 (@LN LOOPS) f87 f66
@[reducible] def t69 : Ent := ⟨69,s69,fun x h => f69 x.1⟩
theorem k69 : chkNF Try.prog Try.f69 n69 = true := by kernel_rfl
theorem ok69 : NOk Try.prog t69 := NOk.body (T := [t87,t66]) mixed (nall_cons ok87 (nall_cons ok66 nall_nil)) (oneEach_of (by kernel_rfl)) Try.func69 k69 (by kernel_rfl) (fun x h => e69 _ _ _ x h)
def n39 : NFunc := ⟨83,.seq (.region 1 [
 o1 1 (.box 18 (tm 0)) 0,
 o1 2 (.move (.const (.str []))) 1] []) (.seq (.region 1 [
 oF 8 4 1 0,
 oT 9 4 8 0,
 o1 3 (.alloc [iz,iz,iz,iz]) 0,
 oS 4 3 9 1] []) (.seq (.meet [1,4] [] ⟨[(1,(.ptr 0 0 0)),(4,(.v .bool))],[],[.one false .spec]⟩ (.region 16 [
 oF 10 0 3 0,
 oL 11 10 0,
 o1 12 (.call (fc 66) [(vv 11),(false,(ki 0)),(false,(ki 1000))] false 4) 0,
 oM 13 12 4,
 o3 14 (.fieldAddr 1 (tm 3)) 13 4,
 o3 15 (.load false 1 (tm 14)) 13 4,
 o3 16 (.call (fc 66) [(vv 15),(false,(ki 0)),(false,(ki 1000))] false 4) 13 4,
 o1 17 (.pick (tm 13) (tm 16) kf) 8,
 oM 18 17 8,
 o3 19 (.fieldAddr 2 (tm 3)) 18 8,
 o3 20 (.load false 1 (tm 19)) 18 8,
 o3 21 (.call (fc 66) [(vv 20),(false,(ki 0)),(false,(ki 1000))] false 4) 18 8,
 o1 22 (.pick (tm 18) (tm 21) kf) 12,
 oM 23 22 12,
 o3 24 (.fieldAddr 3 (tm 3)) 23 12,
 o3 25 (.load false 1 (tm 24)) 23 12,
 o3 26 (.call (fc 66) [(vv 25),(false,(ki 0)),(false,(ki 1000))] false 4) 23 12,
 o1 27 (.pick (tm 23) (tm 26) kf) 16,
 oM 4 27 16] [])) (.seq (.region 1 [
 o1 28 (.buildSlice 1 15 true [.str []] [(0,(.const (.str [78,111,100,101,115]))),(1,(.const (.str [80,97,114,116,115]))),(2,(.const (.str [85,115,101,114,115]))),(3,(.const (.str [81,117,101,117,101,115]))),(4,(.const (.str [87,101,105,103,104,116,115]))),(5,(.const (.str [68,101,99,97,121]))),(6,(.const (.str [77,111,100,101]))),(7,(.const (.str [74,111,98,115]))),(8,(.const (.str [73,100,115]))),(9,(.const (.str [86,101,114,115,105,111,110,115]))),(10,(.const (.str [76,105,110,103,101,114]))),(11,(.const (.str [75,101,101,112]))),(12,(.const (.str [73,110]))),(13,(.const (.str [79,117,116]))),(14,(.const (.str [67,97,99,104,101])))]) 0,
 oM 5 28 1] []) (.seq (.region 57 [
 o4 29 (.load true 18 (tm 1)) 0 [],
 o4 30 (.call (fc 67) [(vv 29)] true 4) 0 [],
 o4 31 (.load true 18 (tm 1)) 4 [],
 o4 32 (.call (fc 68) [(vv 31)] true 4) 4 [0,1,2,3],
 o4 33 (.fieldAddr 3 (tm 1)) 8 [],
 o4 34 (.load false 1 (tm 33)) 8 [],
 o4 35 (.call (fc 66) [(vv 34),(false,(ki 1)),(false,(ki 8))] true 4) 8 [0,1,2,3,4,5,6,7],
 o4 36 (.load true 18 (tm 1)) 12 [],
 o4 37 (.call (fc 69) [(vv 36)] true 4) 12 [0,1,2,3,4,5,6,7,8,9,10,11],
 o4 38 (.move (tm 4)) 16 [],
 o4 39 (.fieldAddr 8 (tm 1)) 16 [],
 o4 40 (.load false 1 (tm 39)) 16 [],
 o4 41 (.call (fc 66) [(vv 40),(false,(ki 1)),(false,(ki 16))] true 4) 16 [0,1,2,3,4,5,6,7,8,9,10,11,12,13,14,15],
 o4 42 (.fieldAddr 9 (tm 1)) 20 [],
 o4 43 (.load false 1 (tm 42)) 20 [],
 o4 44 (.call (fc 66) [(vv 43),(false,(ki 1)),(false,(ki 2))] true 4) 20 [0,1,2,3,4,5,6,7,8,9,10,11,12,13,14,15,16,17,18,19],
 o4 45 (.fieldAddr 10 (tm 1)) 24 [],
 o4 46 (.load false 1 (tm 45)) 24 [],
 o4 47 (.call (fc 66) [(vv 46),(false,(ki 1)),(false,(ki 256))] true 4) 24 [0,1,2,3,4,5,6,7,8,9,10,11,12,13,14,15,16,17,18,19,20,21,22,23],
 o4 48 (.fieldAddr 11 (tm 1)) 28 [],
 o4 49 (.load false 1 (tm 48)) 28 [],
 o4 50 (.call (fc 66) [(vv 49),(false,(ki 1)),(false,(ki 1048576))] true 4) 28 [0,1,2,3,4,5,6,7,8,9,10,11,12,13,14,15,16,17,18,19,20,21,22,23,24,25,26,27],
 o4 51 (.fieldAddr 12 (tm 1)) 32 [],
 o4 52 (.load false 1 (tm 51)) 32 [],
 o4 53 (.call (fc 66) [(vv 52),(false,(ki 1)),(false,(ki 65536))] true 4) 32 [0,1,2,3,4,5,6,7,8,9,10,11,12,13,14,15,16,17,18,19,20,21,22,23,24,25,26,27,28,29,30,31],
 o4 54 (.fieldAddr 13 (tm 1)) 36 [],
 o4 55 (.load false 1 (tm 54)) 36 [],
 o4 56 (.call (fc 66) [(vv 55),(false,(ki 0)),(false,(ki 65536))] true 4) 36 [0,1,2,3,4,5,6,7,8,9,10,11,12,13,14,15,16,17,18,19,20,21,22,23,24,25,26,27,28,29,30,31,32,33,34,35],
 o4 57 (.fieldAddr 14 (tm 1)) 40 [],
 o4 58 (.load false 1 (tm 57)) 40 [],
 o4 59 (.call (fc 66) [(vv 58),(false,(ki 1)),(false,(ki 16))] true 4) 40 [0,1,2,3,4,5,6,7,8,9,10,11,12,13,14,15,16,17,18,19,20,21,22,23,24,25,26,27,28,29,30,31,32,33,34,35,36,37,38,39],
 o4 60 (.fieldAddr 15 (tm 1)) 44 [],
 o4 61 (.load false 1 (tm 60)) 44 [],
 o4 62 (.call (fc 66) [(vv 61),(false,(ki 1)),(false,(ki 8))] true 4) 44 [0,1,2,3,4,5,6,7,8,9,10,11,12,13,14,15,16,17,18,19,20,21,22,23,24,25,26,27,28,29,30,31,32,33,34,35,36,37,38,39,40,41,42,43],
 o4 63 (.fieldAddr 16 (tm 1)) 48 [],
 o4 64 (.load false 1 (tm 63)) 48 [],
 o4 65 (.call (fc 66) [(vv 64),(false,(ki 1)),(false,(ki 16))] true 4) 48 [0,1,2,3,4,5,6,7,8,9,10,11,12,13,14,15,16,17,18,19,20,21,22,23,24,25,26,27,28,29,30,31,32,33,34,35,36,37,38,39,40,41,42,43,44,45,46,47],
 o4 66 (.fieldAddr 17 (tm 1)) 52 [],
 o4 67 (.load false 1 (tm 66)) 52 [],
 o4 68 (.call (fc 66) [(vv 67),(false,(ki 0)),(false,(ki 16))] false 4) 52 [0,1,2,3,4,5,6,7,8,9,10,11,12,13,14,15,16,17,18,19,20,21,22,23,24,25,26,27,28,29,30,31,32,33,34,35,36,37,38,39,40,41,42,43,44,45,46,47,48,49,50,51],
 o4 69 (.buildSlice 1 15 true [.bool false] [(0,(tm 30)),(1,(tm 32)),(2,(tm 35)),(3,(tm 37)),(4,(tm 38)),(5,(tm 41)),(6,(tm 44)),(7,(tm 47)),(8,(tm 50)),(9,(tm 53)),(10,(tm 56)),(11,(tm 59)),(12,(tm 62)),(13,(tm 65)),(14,(tm 68))]) 56 [0,1,2,3,4,5,6,7,8,9,10,11,12,13,14,15,16,17,18,19,20,21,22,23,24,25,26,27,28,29,30,31,32,33,34,35,36,37,38,39,40,41,42,43,44,45,46,47,48,49,50,51,52,53,54,55],
 o4 6 (.move (tm 69)) 57 [0,1,2,3,4,5,6,7,8,9,10,11,12,13,14,15,16,17,18,19,20,21,22,23,24,25,26,27,28,29,30,31,32,33,34,35,36,37,38,39,40,41,42,43,44,45,46,47,48,49,50,51,52,53,54,55,56]] []) (.seq (.seq (.region 0 [
 o1 7 (.move (ki 0)) 0] []) (.block 0 (.loopU [5,6,7] 16 (.seq (.seq (.region 0 [
 oM 70 7 0,
 oC 71 .lss 70 15 0] []) (.cond (tm 71) (.skip) (.exit 0))) (.seq (.block 1 (.seq (.region 0 [
 oM 74 6 0,
 oM 75 7 0,
 o1 76 (.indexSl 1 (tm 74) (tm 75)) 0,
 oL 77 76 0,
 o1 78 (.un .not (tm 77)) 0] []) (.cond (tm 78) (.seq (.region 0 [
 oM 79 5 0,
 oM 80 7 0,
 o1 81 (.indexSl 1 (tm 79) (tm 80)) 0,
 oL 82 81 0,
 oM 2 82 0] []) (.ret)) (.skip)))) (.region 0 [
 oM 72 7 0,
 oC 73 .add 72 1 0,
 oM 7 73 0] [])))))) (.seq (.region 0 [
 o1 2 (.move (.const (.str []))) 0] []) (.ret))))))),[.tmp 2],true⟩
def s39 : Sig := ⟨(.cons (.v .spec) .nil),[],((.v .str),[]),[]⟩
def F39 (L : Lp) (g66 : Int → Int → Int → Option Bool) (g67 : Spec → Option Bool) (g68 : Spec → Option Bool) (g69 : Spec → Option Bool) (as0 : Spec) : Option (List UInt8) :=
 Option.bind (α := ((Unit × (Bool × Unit)) × (Spec × Unit)))
 (Option.bind (g66 as0.weights.age 0 1000) fun r1 =>
 cond r1
 (Option.bind (g66 as0.weights.size 0 1000) fun r2 =>
 cond r2
 (Option.bind (g66 as0.weights.qos 0 1000) fun r3 =>
 cond r3
 (Option.bind (g66 as0.weights.share 0 1000) fun r4 =>
 some (((),r4,()),(as0,())))
 (some (((),false,()),(as0,()))))
 (some (((),false,()),(as0,()))))
 (some (((),false,()),(as0,())))) fun x5 =>
 Option.bind (g67 x5.2.1) fun r6 =>
 Option.bind (g68 x5.2.1) fun r7 =>
 Option.bind (g66 x5.2.1.users 1 8) fun r8 =>
 Option.bind (g69 x5.2.1) fun r9 =>
 Option.bind (g66 x5.2.1.decay 1 16) fun r10 =>
 Option.bind (g66 x5.2.1.mode 1 2) fun r11 =>
 Option.bind (g66 x5.2.1.jobs 1 256) fun r12 =>
 Option.bind (g66 x5.2.1.ids 1 1048576) fun r13 =>
 Option.bind (g66 x5.2.1.versions 1 65536) fun r14 =>
 Option.bind (g66 x5.2.1.linger 0 65536) fun r15 =>
 Option.bind (g66 x5.2.1.keep 1 16) fun r16 =>
 Option.bind (g66 x5.2.1.inn 1 8) fun r17 =>
 Option.bind (g66 x5.2.1.out 1 16) fun r18 =>
 Option.bind (g66 x5.2.1.cache 0 16) fun r19 =>
 cond (!r6)
 (some ([78,111,100,101,115] : List UInt8))
 (cond (!r7)
 (some ([80,97,114,116,115] : List UInt8))
 (cond (!r8)
 (some ([85,115,101,114,115] : List UInt8))
 (cond (!r9)
 (some ([81,117,101,117,101,115] : List UInt8))
 (cond (!x5.1.2.1)
 (some ([87,101,105,103,104,116,115] : List UInt8))
 (cond (!r10)
 (some ([68,101,99,97,121] : List UInt8))
 (cond (!r11)
 (some ([77,111,100,101] : List UInt8))
 (cond (!r12)
 (some ([74,111,98,115] : List UInt8))
 (cond (!r13)
 (some ([73,100,115] : List UInt8))
 (cond (!r14)
 (some ([86,101,114,115,105,111,110,115] : List UInt8))
 (cond (!r15)
 (some ([76,105,110,103,101,114] : List UInt8))
 (cond (!r16)
 (some ([75,101,101,112] : List UInt8))
 (cond (!r17)
 (some ([73,110] : List UInt8))
 (cond (!r18)
 (some ([79,117,116] : List UInt8))
 (cond (!r19)
 (some ([67,97,99,104,101] : List UInt8))
 (some ([] : List UInt8))))))))))))))))
theorem e39 (L : Lp) (g66 : Int → Int → Int → Option Bool) (g67 : Spec → Option Bool) (g68 : Spec → Option Bool) (g69 : Spec → Option Bool) (x : s39.args.den) (h : denH s39.heap) : nrun [⟨66,s66,fun x h => g66 x.1 x.2.1 x.2.2.1⟩,⟨67,s67,fun x h => g67 x.1⟩,⟨68,s68,fun x h => g68 x.1⟩,⟨69,s69,fun x h => g69 x.1⟩] L n39 s39 x h = F39 L g66 g67 g68 g69 x.1 := by kernel_rfl
def f39 : Spec → Option (List UInt8) := F39 (@LN LOOPS) f66 f67 f68 f69
@[reducible] def t39 : Ent := ⟨39,s39,fun x h => f39 x.1⟩
theorem k39 : chkNF Try.prog Try.f39 n39 = true := by kernel_rfl
theorem ok39 : NOk Try.prog t39 := NOk.body (T := [t66,t67,t68,t69]) mixed (nall_cons ok66 (nall_cons ok67 (nall_cons ok68 (nall_cons ok69 nall_nil)))) (oneEach_of (by kernel_rfl)) Try.func39 k39 (by kernel_rfl) (fun x h => e39 _ _ _ _ _ x h)
def n16 : NFunc := ⟨6,.seq (.region 1 [
 o1 1 (.box 18 (tm 0)) 0,
 o1 2 (.move kf) 1] []) (.seq (.region 4 [
 oT 3 18 1 0,
 o1 4 (.call (fc 39) [(vv 3)] false 4) 0,
 o1 5 (.bin .eql (tm 4) (.const (.str []))) 4,
 oM 2 5 4] []) (.ret)),[.tmp 2],true⟩
def s16 : Sig := ⟨(.cons (.v .spec) .nil),[],((.v .bool),[]),[]⟩
def F16 (L : Lp) (g39 : Spec → Option (List UInt8)) (as0 : Spec) : Option Bool :=
 Option.bind (g39 as0) fun r1 =>
 some (decide (r1 = ([] : List UInt8)))
theorem e16 (L : Lp) (g39 : Spec → Option (List UInt8)) (x : s16.args.den) (h : denH s16.heap) : nrun [⟨39,s39,fun x h => g39 x.1⟩] L n16 s16 x h = F16 L g39 x.1 := by kernel_rfl
def f16 : Spec → Option Bool := F16 (@LN LOOPS) f39
@[reducible] def t16 : Ent := ⟨16,s16,fun x h => f16 x.1⟩
theorem k16 : chkNF Try.prog Try.f16 n16 = true := by kernel_rfl
theorem ok16 : NOk Try.prog t16 := NOk.body (T := [t39]) mixed (nall_cons ok39 nall_nil) (oneEach_of (by kernel_rfl)) Try.func16 k16 (by kernel_rfl) (fun x h => e16 _ _ x h)
def n49 : NFunc := ⟨4,.seq (.region 1 [
 o1 1 (.box 1 (tm 0)) 0,
 o1 2 (.move (.const (.nilfn))) 1] []) (.seq (.region 0 [
 o1 3 (.makeFunc 78 [(tm 1)]) 0,
 oM 2 3 0] []) (.ret)),[.tmp 2],false⟩
def s49 : Sig := ⟨(.cons (.mp 0) .nil),[.typed (.pair (.int .i64) .alloc)],((.fn 78 (.cons (.ptr 1 0 0) .nil)),[.typed (.pair (.int .i64) .alloc),.cell false (.cons (.mp 0) .nil)]),[]⟩
def F49 (L : Lp)  (a0 : (List (Int × Alloc))) : Option ((Unit × Unit) × ((List (Int × Alloc)) × ((Unit × Unit) × Unit))) :=
 some (((),()),(a0,((),()),()))
theorem e49 (L : Lp)  (x : s49.args.den) (h : denH s49.heap) : nrun [] L n49 s49 x h = F49 L  h.1 := by kernel_rfl
def f49 : (List (Int × Alloc)) → Option ((Unit × Unit) × ((List (Int × Alloc)) × ((Unit × Unit) × Unit))) := F49 (@LN LOOPS) 
@[reducible] def t49 : Ent := ⟨49,s49,fun x h => f49 h.1⟩
theorem k49 : chkNF Try.prog Try.f49 n49 = true := by kernel_rfl
theorem ok49 : NOk Try.prog t49 := NOk.body (T := []) mixed nall_nil (oneEach_of (by kernel_rfl)) Try.func49 k49 (by kernel_rfl) (fun x h => e49 _  x h)
def s48 : Sig := ⟨(.cons (.fn 78 (.cons (.ptr 0 0 0) .nil)) .nil),[.cell false (.cons (.mp 1) .nil),.typed (.pair (.int .i64) .alloc)],((.slw 2 1),[.cell false (.cons (.mp 1) .nil),.typed (.pair (.int .i64) .alloc),.typed (.int .i64)]),[]⟩
def f48 : (List (Int × Alloc)) → Option (Unit × ((Unit × Unit) × ((List (Int × Alloc)) × ((List Int) × Unit)))) := mkeys
@[reducible] def t48 : Ent := ⟨48,s48,fun x h => f48 h.2.1⟩
theorem ok48 : NOk Try.prog t48 := ext48
def sM0 : Sig := ⟨(.cons (.mp 0) (.cons (.v (.int .i64)) .nil)),[.typed (.pair (.int .i64) .alloc)],((.v .alloc),[.typed (.pair (.int .i64) .alloc)]),[]⟩
def fM0 : Int → (List (Int × Alloc)) → Option (Alloc × ((List (Int × Alloc)) × Unit)) := mlook0 zMap
@[reducible] def tM0 : Ent := ⟨1000760,sM0,fun x h => fM0 x.2.1 h.1⟩
theorem okM0 : NPk Try.prog tM0 := NPk.look0 mapTyM
def n21 : NFunc := ⟨31,.seq (.region 0 [
 o1 2 (.move (.const (.zsl))) 0] []) (.seq (.seq (.region 0 [
 oM 6 0 0,
 o1 7 (.eqP false (tm 6) (.const (.nilp))) 0] []) (.cond (tm 7) (.seq (.region 0 [
 o1 2 (.move (.const (.zsl))) 0] []) (.ret)) (.skip))) (.seq (.region 0 [
 o1 3 (.move (.const (.zsl))) 0] []) (.seq (.seq (.region 8 [
 oM 8 0 0,
 o1 9 (.nilCheck (tm 8)) 0,
 oF 10 1 9 0,
 oL 11 10 0,
 o1 12 (.call (fc 49) [(vw 11)] false 4) 0,
 o1 13 (.call (fc 48) [(vw 12)] false 4) 4,
 o1 14 (.len (tm 13)) 8,
 o1 15 (.move (ki 0)) 8] []) (.block 0 (.pre [0,3,13,14,15] [.mat 3 6 true] (.loop [0,3,13,14,15] ⟨[(0,(.ptr 0 0 0)),(3,(.slw 2 6)),(13,(.slw 3 1)),(15,vI)],[14],[.cell false (.cons (.v (.list .res)) (.cons (.mp 1) .nil)),.typed (.pair (.int .i64) .alloc),.typed .alloc,.typed (.int .i64)]⟩ (.seq (.region 0 [
 oB 16 .lss 15 14 0] []) (.seq (.cond (tm 16) (.skip) (.exit 0)) (.seq (.block 1 (.seq (.region 0 [
 o1 17 (.indexSl 1 (tm 13) (tm 15)) 0,
 oL 18 17 0,
 oM 5 18 0] []) (.region 10 [
 oM 19 3 0,
 oM 20 0 0,
 o1 21 (.nilCheck (tm 20)) 0,
 oF 22 1 21 0,
 oL 23 22 0,
 oM 24 5 0,
 o1 25 (.call (.const (.fn 1000760 [])) [(vw 23),(vv 24)] false 4) 0,
 o1 26 (.call (fc 47) [(vv 25)] false 4) 4,
 o1 27 (.buildSlice 6 1 true [iz,iz,iz,iz,iz,.zsl] [(0,(tm 26))]) 8,
 o1 28 (.append 6 64 true (tm 19) (tm 27)) 9,
 oM 3 28 10] []))) (.region 0 [
 oC 29 .add 15 1 0,
 oM 15 29 0] [])))))))) (.seq (.region 0 [
 oM 30 3 0,
 oM 2 30 0] []) (.ret))))),[.tmp 2],true⟩
def s21 : Sig := ⟨(.cons (.ptr 0 0 0) .nil),[.cell false (.cons (.v (.list .res)) (.cons (.mp 1) .nil)),.typed (.pair (.int .i64) .alloc)],((.v (.list .alloc)),[.cell false (.cons (.v (.list .res)) (.cons (.mp 1) .nil)),.typed (.pair (.int .i64) .alloc)]),[]⟩
def l21_0 (gM0 : Int → (List (Int × Alloc)) → Option (Alloc × ((List (Int × Alloc)) × Unit))) (g47 : Alloc → Option Alloc) (r3 : (Unit × ((Unit × Unit) × ((List (Int × Alloc)) × ((List Int) × Unit))))) (nx5 : ((Unit × (Unit × (Unit × (Int × Unit)))) × (((List Res) × (Unit × Unit)) × ((List (Int × Alloc)) × ((List Alloc) × ((List Int) × Unit))))) → Option ((List Alloc) × (((List Res) × (Unit × Unit)) × ((List (Int × Alloc)) × Unit)))) (z6 : Int) (z7 : (List Res)) (z8 : (List (Int × Alloc))) (z9 : (List Alloc)) (z10 : (List Int)) : Option ((List Alloc) × (((List Res) × (Unit × Unit)) × ((List (Int × Alloc)) × Unit))) :=
 cond (decide (z6 < (List.length r3.2.2.2.1 : Int)))
 (cond (decide (0 ≤ z6))
 (cond (decide ((Int.toNat z6) < (List.length z10)))
 (Option.bind (z10[Int.toNat z6]?) fun y11 =>
 Option.bind (gM0 y11 z8) fun r12 =>
 Option.bind (g47 r12.1) fun r13 =>
 cond (smallB ((List.length z9) + 1) 64)
 (nx5 (((),(),(),IntKind.wrap .i64 (z6 + 1),()),((z7,(),()),r12.2.1,z9 ++ [r13],z10,())))
 (none))
 (none))
 (none))
 (some (z9,((z7,(),()),z8,())))
def F21 (L : Lp) (g49 : (List (Int × Alloc)) → Option ((Unit × Unit) × ((List (Int × Alloc)) × ((Unit × Unit) × Unit)))) (g48 : (List (Int × Alloc)) → Option (Unit × ((Unit × Unit) × ((List (Int × Alloc)) × ((List Int) × Unit))))) (gM0 : Int → (List (Int × Alloc)) → Option (Alloc × ((List (Int × Alloc)) × Unit))) (g47 : Alloc → Option Alloc) (a0 : (List Res)) (a1 : (List (Int × Alloc))) : Option ((List Alloc) × (((List Res) × (Unit × Unit)) × ((List (Int × Alloc)) × Unit))) :=
 Option.bind (g49 a1) fun r2 =>
 Option.bind (g48 r2.2.1) fun r3 =>
 L (fun (s4 : ((Unit × (Unit × (Unit × (Int × Unit)))) × (((List Res) × (Unit × Unit)) × ((List (Int × Alloc)) × ((List Alloc) × ((List Int) × Unit)))))) nx5 => l21_0 gM0 g47 r3 nx5 s4.1.2.2.2.1 s4.2.1.1 s4.2.2.1 s4.2.2.2.1 s4.2.2.2.2.1) (((),(),(),0,()),((a0,(),()),r3.2.2.1,[],r3.2.2.2.1,()))
theorem e21 (L : Lp) (g49 : (List (Int × Alloc)) → Option ((Unit × Unit) × ((List (Int × Alloc)) × ((Unit × Unit) × Unit)))) (g48 : (List (Int × Alloc)) → Option (Unit × ((Unit × Unit) × ((List (Int × Alloc)) × ((List Int) × Unit))))) (gM0 : Int → (List (Int × Alloc)) → Option (Alloc × ((List (Int × Alloc)) × Unit))) (g47 : Alloc → Option Alloc) (x : s21.args.den) (h : denH s21.heap) : nrun [⟨49,s49,fun x h => g49 h.1⟩,⟨48,s48,fun x h => g48 h.2.1⟩,⟨1000760,sM0,fun x h => gM0 x.2.1 h.1⟩,⟨47,s47,fun x h => g47 x.1⟩] L n21 s21 x h = F21 L g49 g48 gM0 g47 h.1.1 h.2.1 := by kernel_rfl
def f21 : (List Res) → (List (Int × Alloc)) → Option ((List Alloc) × (((List Res) × (Unit × Unit)) × ((List (Int × Alloc)) × Unit))) := F21 (@LN LOOPS) f49 f48 fM0 f47
@[reducible] def t21 : Ent := ⟨21,s21,fun x h => f21 h.1.1 h.2.1⟩
theorem k21 : chkNF Try.prog Try.f21 n21 = true := by kernel_rfl
theorem ok21 : NOk Try.prog t21 := NOk.body (T := [t49,t48,tM0,t47]) mixed (nall_cons ok49 (nall_cons ok48 (nall_prim okM0 (nall_cons ok47 nall_nil)))) (oneEach_of (by kernel_rfl)) Try.func21 k21 (by kernel_rfl) (fun x h => e21 _ _ _ _ _ x h)
def n24 : NFunc := ⟨28,.seq (.region 0 [
 o1 4 (.move (ki 0)) 0] []) (.seq (.region 0 [
 o1 5 (.move (ki 0)) 0] []) (.seq (.seq (.region 0 [
 o1 6 (.move (ki 0)) 0] []) (.block 0 (.loop [0,1,5,6] ⟨[(5,vI),(6,vI)],[0,1],[]⟩ (.seq (.seq (.region 0 [
 oM 7 6 0,
 oM 8 0 0,
 o1 9 (.len (tm 8)) 0,
 oB 10 .lss 7 9 0] []) (.cond (tm 10) (.skip) (.exit 0))) (.seq (.block 1 (.seq (.region 0 [
 oM 13 0 0,
 oM 14 6 0,
 o1 15 (.indexSl 2 (tm 13) (tm 14)) 0,
 oF 16 0 15 0,
 oL 17 16 0,
 oM 18 1 0,
 oB 19 .eql 17 18 0] []) (.cond (tm 19) (.region 0 [
 oM 20 5 0,
 oM 21 0 0,
 oM 22 6 0,
 o1 23 (.indexSl 2 (tm 21) (tm 22)) 0,
 oF 24 1 23 0,
 oL 25 24 0,
 oB 26 .add 20 25 0,
 oM 5 26 0] []) (.skip)))) (.region 0 [
 oM 11 6 0,
 oC 12 .add 11 1 0,
 oM 6 12 0] [])))))) (.seq (.region 0 [
 oM 27 5 0,
 oM 4 27 0] []) (.ret)))),[.tmp 4],true⟩
def s24 : Sig := ⟨(.cons (.v (.list .share)) (.cons (.v (.int .i64)) .nil)),[],((.v (.int .i64)),[]),[]⟩
def l24_0 (al0 : (List Share)) (node1 : Int) (nx3 : ((Int × (Int × Unit)) × Unit) → Option Int) (zn4 : Int) (i5 : Int) : Option Int :=
 cond (decide (i5 < (List.length al0 : Int)))
 (cond (decide (0 ≤ i5))
 (Option.bind (al0[Int.toNat i5]?) fun y6 =>
 cond (decide (y6.node = node1))
 (cond (decide (0 ≤ i5))
 (Option.bind (al0[Int.toNat i5]?) fun y7 =>
 nx3 ((IntKind.wrap .i64 (zn4 + y7.many),IntKind.wrap .i64 (i5 + 1),()),()))
 (none))
 (nx3 ((zn4,IntKind.wrap .i64 (i5 + 1),()),())))
 (none))
 (some zn4)
def F24 (L : Lp)  (al0 : (List Share)) (node1 : Int) : Option Int :=
 L (fun (s2 : ((Int × (Int × Unit)) × Unit)) nx3 => l24_0 al0 node1 nx3 s2.1.1 s2.1.2.1) ((0,0,()),())
theorem e24 (L : Lp)  (x : s24.args.den) (h : denH s24.heap) : nrun [] L n24 s24 x h = F24 L  x.1 x.2.1 := by kernel_rfl
def f24 : (List Share) → Int → Option Int := F24 (@LN LOOPS) 
@[reducible] def t24 : Ent := ⟨24,s24,fun x h => f24 x.1 x.2.1⟩
theorem k24 : chkNF Try.prog Try.f24 n24 = true := by kernel_rfl
theorem ok24 : NOk Try.prog t24 := NOk.body (T := []) mixed nall_nil (oneEach_of (by kernel_rfl)) Try.func24 k24 (by kernel_rfl) (fun x h => e24 _  x h)
def n22 : NFunc := ⟨26,.seq (.region 3 [
 o1 2 (.box 4 (tm 0)) 0,
 o1 3 (.box 4 (tm 1)) 1,
 o1 4 (.alloc [iz,iz,iz,iz]) 2] []) (.seq (.region 0 [
 oF 5 0 2 0,
 oL 6 5 0,
 oF 7 0 3 0,
 oL 8 7 0,
 oB 9 .add 6 8 0,
 oF 10 1 2 0,
 oL 11 10 0,
 oF 12 1 3 0,
 oL 13 12 0,
 oB 14 .add 11 13 0,
 oF 15 2 2 0,
 oL 16 15 0,
 oF 17 2 3 0,
 oL 18 17 0,
 oB 19 .add 16 18 0,
 oF 20 3 2 0,
 oL 21 20 0,
 oF 22 3 3 0,
 oL 23 22 0,
 oB 24 .add 21 23 0,
 o1 25 (.build [iz,iz,iz,iz] [(0,1,(tm 9)),(1,1,(tm 14)),(2,1,(tm 19)),(3,1,(tm 24))]) 0,
 oS 4 4 25 0] []) (.ret)),[.cell true 4 4],true⟩
def s22 : Sig := ⟨(.cons (.v .res) (.cons (.v .res) .nil)),[],((.v .res),[]),[]⟩
def F22 (L : Lp)  (a0 : Res) (b1 : Res) : Option Res :=
 some (Res.mk (IntKind.wrap .i64 (a0.cpu + b1.cpu)) (IntKind.wrap .i64 (a0.mem + b1.mem)) (IntKind.wrap .i64 (a0.gpu + b1.gpu)) (IntKind.wrap .i64 (a0.lic + b1.lic)))
theorem e22 (L : Lp)  (x : s22.args.den) (h : denH s22.heap) : nrun [] L n22 s22 x h = F22 L  x.1 x.2.1 := by kernel_rfl
def f22 : Res → Res → Option Res := F22 (@LN LOOPS) 
@[reducible] def t22 : Ent := ⟨22,s22,fun x h => f22 x.1 x.2.1⟩
theorem k22 : chkNF Try.prog Try.f22 n22 = true := by kernel_rfl
theorem ok22 : NOk Try.prog t22 := NOk.body (T := []) mixed nall_nil (oneEach_of (by kernel_rfl)) Try.func22 k22 (by kernel_rfl) (fun x h => e22 _  x h)
def n23 : NFunc := ⟨17,.seq (.region 2 [
 o1 2 (.box 4 (tm 0)) 0,
 o1 4 (.alloc [iz,iz,iz,iz]) 1] []) (.seq (.region 1 [
 o1 7 (.build [iz,iz,iz,iz] []) 0,
 o1 5 (.alloc [iz,iz,iz,iz]) 0,
 oS 4 5 7 1] []) (.seq (.seq (.region 0 [
 o1 6 (.move (ki 0)) 0] []) (.block 0 (.loop [1,2,4,5,6] ⟨[(2,(.ptr 0 0 0)),(4,(.ptr 1 0 0)),(5,(.ptr 2 0 0)),(6,vI)],[1],[.one false .res,.one false .res,.one false .res]⟩ (.seq (.seq (.region 0 [
 oM 8 6 0,
 oM 9 1 0,
 oB 10 .lss 8 9 0] []) (.cond (tm 10) (.skip) (.exit 0))) (.seq (.block 1 (.region 4 [
 oT 13 4 5 0,
 oT 14 4 2 0,
 o1 15 (.call (fc 22) [(vv 13),(vv 14)] false 4) 0,
 oS 4 5 15 4] [])) (.region 0 [
 oM 11 6 0,
 oC 12 .add 11 1 0,
 oM 6 12 0] [])))))) (.seq (.region 0 [
 oT 16 4 5 0,
 oS 4 4 16 0] []) (.ret)))),[.cell true 4 4],true⟩
def s23 : Sig := ⟨(.cons (.v .res) (.cons (.v (.int .i64)) .nil)),[],((.v .res),[]),[]⟩
def l23_0 (g22 : Res → Res → Option Res) (an1 : Int) (nx3 : ((Unit × (Unit × (Unit × (Int × Unit)))) × (Res × (Res × (Res × Unit)))) → Option Res) (i4 : Int) (z5 : Res) (z6 : Res) (z7 : Res) : Option Res :=
 cond (decide (i4 < an1))
 (Option.bind (g22 z7 z5) fun r8 =>
 nx3 (((),(),(),IntKind.wrap .i64 (i4 + 1),()),(z5,z6,r8,())))
 (some z7)
def F23 (L : Lp) (g22 : Res → Res → Option Res) (need0 : Res) (an1 : Int) : Option Res :=
 L (fun (s2 : ((Unit × (Unit × (Unit × (Int × Unit)))) × (Res × (Res × (Res × Unit))))) nx3 => l23_0 g22 an1 nx3 s2.1.2.2.2.1 s2.2.1 s2.2.2.1 s2.2.2.2.1) (((),(),(),0,()),(need0,Res.mk 0 0 0 0,Res.mk 0 0 0 0,()))
theorem e23 (L : Lp) (g22 : Res → Res → Option Res) (x : s23.args.den) (h : denH s23.heap) : nrun [⟨22,s22,fun x h => g22 x.1 x.2.1⟩] L n23 s23 x h = F23 L g22 x.1 x.2.1 := by kernel_rfl
def f23 : Res → Int → Option Res := F23 (@LN LOOPS) f22
@[reducible] def t23 : Ent := ⟨23,s23,fun x h => f23 x.1 x.2.1⟩
theorem k23 : chkNF Try.prog Try.f23 n23 = true := by kernel_rfl
theorem ok23 : NOk Try.prog t23 := NOk.body (T := [t22]) mixed (nall_cons ok22 nall_nil) (oneEach_of (by kernel_rfl)) Try.func23 k23 (by kernel_rfl) (fun x h => e23 _ _ x h)
def n4 : NFunc := ⟨104,.seq (.region 1 [
 o1 2 (.box 18 (tm 0)) 0,
 o1 4 (.move kf) 1] []) (.seq (.seq (.region 4 [
 o1 14 (.call (fc 13) [] false 4) 0,
 o1 15 (.un .not (tm 14)) 4] []) (.cond (tm 15) (.seq (.region 0 [
 o1 4 (.move kf) 0] []) (.ret)) (.skip))) (.seq (.seq (.region 12 [
 oT 16 18 2 0,
 o1 17 (.call (fc 14) [(vv 16)] false 4) 0,
 o1 18 (.un .not (tm 17)) 4,
 oM 19 18 4,
 oN 20 1 19 4,
 o2 21 (.call (fc 15) [(vv 20)] false 4) 19 4,
 o2 22 (.un .not (tm 21)) 19 8,
 o1 23 (.pick (tm 19) kt (tm 22)) 8,
 oM 24 23 8,
 o2 25 (.load true 18 (tm 2)) 24 8,
 o2 26 (.call (fc 16) [(vv 25)] false 4) 24 8,
 o2 27 (.un .not (tm 26)) 24 12,
 o1 28 (.pick (tm 24) kt (tm 27)) 12] []) (.cond (tm 28) (.seq (.region 0 [
 o1 4 (.move kt) 0] []) (.ret)) (.skip))) (.seq (.region 4 [
 oT 30 18 2 0,
 o1 31 (.call (fc 17) [(vv 30)] false 4) 0,
 oM 29 31 4,
 oX 32 29 0 4,
 oX 33 29 1 4,
 oM 5 32 4,
 oM 6 33 4] []) (.seq (.join [2,5,1] [] ⟨[(2,(.ptr 0 0 0)),(5,(.ptr 1 0 0))],[1],[.one false .spec,.cell false (.cons (.v (.list .res)) (.cons (.mp 2) .nil)),.typed (.pair (.int .i64) .alloc)]⟩ (.seq (.region 0 [
 oM 34 6 0,
 oC 35 .neq 34 0 0] []) (.cond (tm 35) (.seq (.region 0 [
 o1 4 (.move kf) 0] []) (.ret)) (.skip)))) (.seq (.seq (.region 0 [
 oM 36 1 0,
 o1 37 (.len (tm 36)) 0,
 o1 38 (.move (ki 0)) 0] []) (.block 0 (.loop [2,5,36,37,38] ⟨[(2,(.ptr 0 0 0)),(5,(.ptr 1 0 0)),(38,vI)],[36,37],[.one false .spec,.cell false (.cons (.v (.list .res)) (.cons (.mp 2) .nil)),.typed (.pair (.int .i64) .alloc)]⟩ (.seq (.region 0 [
 oB 39 .lss 38 37 0] []) (.seq (.cond (tm 39) (.skip) (.exit 0)) (.seq (.block 1 (.seq (.region 1 [
 o1 40 (.indexSl 7 (tm 36) (tm 38)) 0,
 oT 41 7 40 0,
 o1 8 (.alloc [.bool false,iz,iz,iz,iz,iz,.zsl]) 0,
 oS 7 8 41 1] []) (.seq (.meet [2,5,36,37,38] [] ⟨[(2,(.ptr 0 0 0)),(5,(.ptr 1 0 0))],[36,37,38],[.one false .spec,.cell false (.cons (.v (.list .res)) (.cons (.mp 2) .nil)),.typed (.pair (.int .i64) .alloc)]⟩ (.seq (.region 0 [
 oF 42 0 8 0,
 oL 43 42 0] []) (.cond (tm 43) (.region 4 [
 oM 44 5 0,
 oF 45 1 8 0,
 oF 46 0 45 0,
 oL 47 46 0,
 o1 48 (.call (fc 18) [(vw 44),(vv 47)] false 4) 0] []) (.region 4 [
 oM 49 5 0,
 oF 50 1 8 0,
 oT 51 6 50 0,
 o1 52 (.call (fc 19) [(vw 49),(vv 51)] false 4) 0] [])))) (.seq (.region 4 [
 oM 53 5 0,
 o1 54 (.call (fc 20) [(vw 53)] false 4) 0,
 oM 9 54 4] []) (.seq (.seq (.region 0 [
 oM 55 9 0,
 o1 56 (.len (tm 55)) 0,
 oF 57 0 2 0,
 oL 58 57 0,
 o1 59 (.len (tm 58)) 0,
 oB 60 .neq 56 59 0] []) (.cond (tm 60) (.seq (.region 0 [
 o1 4 (.move kf) 0] []) (.ret)) (.skip))) (.seq (.region 0 [
 oM 61 9 0,
 o1 62 (.len (tm 61)) 0,
 o1 63 (.move (ki 0)) 0] []) (.block 2 (.loop [2,5,9,36,37,38,62,63] ⟨[(2,(.ptr 0 0 0)),(5,(.ptr 1 0 0)),(63,vI)],[9,36,37,38,62],[.one false .spec,.cell false (.cons (.v (.list .res)) (.cons (.mp 2) .nil)),.typed (.pair (.int .i64) .alloc)]⟩ (.seq (.region 0 [
 oB 64 .lss 63 62 0] []) (.seq (.cond (tm 64) (.skip) (.exit 2)) (.seq (.block 3 (.seq (.region 0 [
 oM 65 63 0,
 oM 10 65 0] []) (.seq (.region 1 [
 oM 66 9 0,
 oM 67 10 0,
 o1 68 (.indexSl 4 (tm 66) (tm 67)) 0,
 oT 69 4 68 0,
 o1 11 (.alloc [iz,iz,iz,iz]) 0,
 oS 4 11 69 1] []) (.seq (.seq (.region 4 [
 oM 70 5 0,
 o1 71 (.call (fc 21) [(vw 70)] false 4) 0,
 o1 72 (.len (tm 71)) 4,
 o1 73 (.move (ki 0)) 4] []) (.block 4 (.loop [2,5,9,10,11,36,37,38,62,63,71,72,73] ⟨[(2,(.ptr 0 0 0)),(5,(.ptr 1 0 0)),(11,(.ptr 2 0 0)),(73,vI)],[9,10,36,37,38,62,63,71,72],[.one false .spec,.cell false (.cons (.v (.list .res)) (.cons (.mp 3) .nil)),.one false .res,.typed (.pair (.int .i64) .alloc)]⟩ (.seq (.region 0 [
 oB 74 .lss 73 72 0] []) (.seq (.cond (tm 74) (.skip) (.exit 4)) (.seq (.block 5 (.seq (.region 1 [
 o1 75 (.indexSl 6 (tm 71) (tm 73)) 0,
 oT 76 6 75 0,
 o1 13 (.alloc [iz,iz,iz,iz,iz,.zsl]) 0,
 oS 6 13 76 1] []) (.region 12 [
 o4 77 (.load true 4 (tm 11)) 0 [],
 o4 78 (.fieldAddr 1 (tm 13)) 0 [],
 o4 79 (.load true 4 (tm 78)) 0 [],
 o4 80 (.fieldAddr 5 (tm 13)) 0 [],
 o4 81 (.load false 1 (tm 80)) 0 [],
 o4 82 (.move (tm 10)) 0 [],
 o4 83 (.call (fc 24) [(vv 81),(vv 82)] true 4) 0 [],
 o4 84 (.call (fc 23) [(vv 79),(vv 83)] true 4) 4 [0,1,2,3],
 o4 85 (.call (fc 22) [(vv 77),(vv 84)] false 4) 8 [0,1,2,3,4,5,6,7],
 ⟨none,.store 4 (tm 11) (tm 85),none,12,(some ([0,1,2,3,4,5,6,7,8,9,10,11],none))⟩] []))) (.region 0 [
 oC 86 .add 73 1 0,
 oM 73 86 0] []))))))) (.seq (.region 4 [
 o4 87 (.load true 4 (tm 11)) 0 [],
 o4 88 (.fieldAddr 0 (tm 2)) 0 [],
 o4 89 (.load false 1 (tm 88)) 0 [],
 o4 90 (.move (tm 10)) 0 [],
 o4 91 (.indexSl 4 (tm 89) (tm 90)) 0 [],
 o4 92 (.load true 4 (tm 91)) 0 [],
 o4 93 (.eqAgg (true,[.int .i64,.int .i64,.int .i64,.int .i64]) (tm 87) (tm 92)) 0 [],
 o4 94 (.move (tm 93)) 0 [],
 ⟨(some 95),.move (tm 9),(some (94,false)),0,(some ([],none))⟩,
 ⟨(some 96),.move (tm 10),(some (94,false)),0,(some ([],none))⟩,
 ⟨(some 97),.indexSl 4 (tm 95) (tm 96),(some (94,false)),0,(some ([],none))⟩,
 ⟨(some 98),.load true 4 (tm 97),(some (94,false)),0,(some ([],none))⟩,
 ⟨(some 99),.call (fc 25) [(vv 98)] false 4,(some (94,false)),0,(some ([],none))⟩,
 ⟨(some 100),.un .not (tm 99),(some (94,false)),4,(some ([0,1,2,3],none))⟩,
 o4 101 (.pick (tm 94) kt (tm 100)) 4 [0,1,2,3]] []) (.cond (tm 101) (.seq (.region 0 [
 o1 4 (.move kf) 0] []) (.ret)) (.skip))))))) (.region 0 [
 oC 102 .add 63 1 0,
 oM 63 102 0] [])))))))))))) (.region 0 [
 oC 103 .add 38 1 0,
 oM 38 103 0] []))))))) (.seq (.region 0 [
 o1 4 (.move kt) 0] []) (.ret))))))),[.tmp 4],true⟩
def s4 : Sig := ⟨(.cons (.v .spec) (.cons (.v (.list (.pair .bool .alloc))) .nil)),[],((.v .bool),[]),[]⟩
def l4_0 (g24 : (List Share) → Int → Option Int) (g23 : Res → Int → Option Res) (g22 : Res → Res → Option Res) (g25 : Res → Option Bool) (r18 : ((List Res) × (((List Res) × (Unit × Unit)) × ((List (Int × Alloc)) × Unit)))) (nx20 : (((Unit × (Unit × (Int × Unit))) × (Spec × (((List Res) × (Unit × Unit)) × ((List (Int × Alloc)) × Unit)))) → Option Bool)) (z21 : Int) (r26 : ((List Alloc) × (((List Res) × (Unit × Unit)) × ((List (Int × Alloc)) × Unit)))) (nx28 : ((Unit × (Unit × (Unit × (Int × Unit)))) × (Spec × (((List Res) × (Unit × Unit)) × (Res × ((List (Int × Alloc)) × Unit))))) → Option Bool) (z29 : Int) (z30 : Spec) (z31 : (List Res)) (z32 : Res) (z33 : (List (Int × Alloc))) : Option Bool :=
 cond (decide (z29 < (List.length r26.1 : Int)))
 (cond (decide (0 ≤ z29))
 (Option.bind (r26.1[Int.toNat z29]?) fun y34 =>
 Option.bind (g24 y34.shares z21) fun r35 =>
 Option.bind (g23 y34.need r35) fun r36 =>
 Option.bind (g22 z32 r36) fun r37 =>
 nx28 (((),(),(),IntKind.wrap .i64 (z29 + 1),()),(z30,(z31,(),()),r37,z33,())))
 (none))
 (cond (decide (0 ≤ z21))
 (Option.bind (z30.nodes[Int.toNat z21]?) fun y38 =>
 cond (!((decide (z32.cpu = y38.cpu)) && ((decide (z32.mem = y38.mem)) && ((decide (z32.gpu = y38.gpu)) && ((decide (z32.lic = y38.lic)) && true)))))
 (some false)
 (cond (decide (0 ≤ z21))
 (Option.bind (r18.1[Int.toNat z21]?) fun y39 =>
 Option.bind (g25 y39) fun r40 =>
 cond (!r40)
 (some false)
 (nx20 (((),(),IntKind.wrap .i64 (z21 + 1),()),(z30,(z31,(),()),z33,()))))
 (none)))
 (none))
def l4_1 (L : Lp) (g21 : (List Res) → (List (Int × Alloc)) → Option ((List Alloc) × (((List Res) × (Unit × Unit)) × ((List (Int × Alloc)) × Unit)))) (g24 : (List Share) → Int → Option Int) (g23 : Res → Int → Option Res) (g22 : Res → Res → Option Res) (g25 : Res → Option Bool) (nx9 : (((Unit × (Unit × (Int × Unit))) × (Spec × (((List Res) × (Unit × Unit)) × ((List (Int × Alloc)) × Unit)))) → Option Bool)) (z10 : Int) (r18 : ((List Res) × (((List Res) × (Unit × Unit)) × ((List (Int × Alloc)) × Unit)))) (nx20 : ((Unit × (Unit × (Int × Unit))) × (Spec × (((List Res) × (Unit × Unit)) × ((List (Int × Alloc)) × Unit)))) → Option Bool) (z21 : Int) (z22 : Spec) (z23 : (List Res)) (z24 : (List (Int × Alloc))) : Option Bool :=
 cond (decide (z21 < (List.length r18.1 : Int)))
 (cond (decide (0 ≤ z21))
 (Option.bind (r18.1[Int.toNat z21]?) fun y25 =>
 Option.bind (g21 z23 z24) fun r26 =>
 L (fun (s27 : ((Unit × (Unit × (Unit × (Int × Unit)))) × (Spec × (((List Res) × (Unit × Unit)) × (Res × ((List (Int × Alloc)) × Unit)))))) nx28 => l4_0 g24 g23 g22 g25 r18 nx20 z21 r26 nx28 s27.1.2.2.2.1 s27.2.1 s27.2.2.1.1 s27.2.2.2.1 s27.2.2.2.2.1) (((),(),(),0,()),(z22,(r26.2.1.1,(),()),y25,r26.2.2.1,())))
 (none))
 (nx9 (((),(),IntKind.wrap .i64 (z10 + 1),()),(z22,(z23,(),()),z24,())))
def l4_2 (L : Lp) (g18_1 : Int → (List Res) → (List (Int × Alloc)) → Option (Int × (((List Res) × (Unit × Unit)) × ((List (Int × Alloc)) × Unit)))) (g19_1 : Alloc → (List Res) → (List (Int × Alloc)) → Option (Int × (((List Res) × (Unit × Unit)) × ((List (Int × Alloc)) × Unit)))) (g20_1 : (List Res) → (List (Int × Alloc)) → Option ((List Res) × (((List Res) × (Unit × Unit)) × ((List (Int × Alloc)) × Unit)))) (g21 : (List Res) → (List (Int × Alloc)) → Option ((List Alloc) × (((List Res) × (Unit × Unit)) × ((List (Int × Alloc)) × Unit)))) (g24 : (List Share) → Int → Option Int) (g23 : Res → Int → Option Res) (g22 : Res → Res → Option Res) (g25 : Res → Option Bool) (a1 : (List (Bool × Alloc))) (nx9 : ((Unit × (Unit × (Int × Unit))) × (Spec × (((List Res) × (Unit × Unit)) × ((List (Int × Alloc)) × Unit)))) → Option Bool) (z10 : Int) (z11 : Spec) (z12 : (List Res)) (z13 : (List (Int × Alloc))) : Option Bool :=
 cond (decide (z10 < (List.length a1 : Int)))
 (cond (decide (0 ≤ z10))
 (Option.bind (a1[Int.toNat z10]?) fun y14 =>
 Option.bind (α := ((Unit × (Unit × Unit)) × (Spec × (((List Res) × (Unit × Unit)) × ((List (Int × Alloc)) × Unit)))))
 (cond y14.1
 (Option.bind (g18_1 y14.2.job z12 z13) fun r15 =>
 some (((),(),()),(z11,(r15.2.1.1,(),()),r15.2.2.1,())))
 (Option.bind (g19_1 y14.2 z12 z13) fun r16 =>
 some (((),(),()),(z11,(r16.2.1.1,(),()),r16.2.2.1,())))) fun x17 =>
 Option.bind (g20_1 x17.2.2.1.1 x17.2.2.2.1) fun r18 =>
 cond (!decide ((List.length r18.1 : Int) = (List.length x17.2.1.nodes : Int)))
 (some false)
 (L (fun (s19 : ((Unit × (Unit × (Int × Unit))) × (Spec × (((List Res) × (Unit × Unit)) × ((List (Int × Alloc)) × Unit))))) nx20 => l4_1 L g21 g24 g23 g22 g25 nx9 z10 r18 nx20 s19.1.2.2.1 s19.2.1 s19.2.2.1.1 s19.2.2.2.1) (((),(),0,()),(x17.2.1,(r18.2.1.1,(),()),r18.2.2.1,()))))
 (none))
 (some true)
def l4_3 (g24 : (List Share) → Int → Option Int) (g23 : Res → Int → Option Res) (g22 : Res → Res → Option Res) (g25 : Res → Option Bool) (r53 : ((List Res) × (((List Res) × (Unit × Unit)) × ((List (Int × Alloc)) × Unit)))) (nx55 : (((Unit × (Unit × (Int × Unit))) × (Spec × (((List Res) × (Unit × Unit)) × ((List (Int × Alloc)) × Unit)))) → Option Bool)) (z56 : Int) (r61 : ((List Alloc) × (((List Res) × (Unit × Unit)) × ((List (Int × Alloc)) × Unit)))) (nx63 : ((Unit × (Unit × (Unit × (Int × Unit)))) × (Spec × (((List Res) × (Unit × Unit)) × (Res × ((List (Int × Alloc)) × Unit))))) → Option Bool) (z64 : Int) (z65 : Spec) (z66 : (List Res)) (z67 : Res) (z68 : (List (Int × Alloc))) : Option Bool :=
 cond (decide (z64 < (List.length r61.1 : Int)))
 (cond (decide (0 ≤ z64))
 (Option.bind (r61.1[Int.toNat z64]?) fun y69 =>
 Option.bind (g24 y69.shares z56) fun r70 =>
 Option.bind (g23 y69.need r70) fun r71 =>
 Option.bind (g22 z67 r71) fun r72 =>
 nx63 (((),(),(),IntKind.wrap .i64 (z64 + 1),()),(z65,(z66,(),()),r72,z68,())))
 (none))
 (cond (decide (0 ≤ z56))
 (Option.bind (z65.nodes[Int.toNat z56]?) fun y73 =>
 cond (!((decide (z67.cpu = y73.cpu)) && ((decide (z67.mem = y73.mem)) && ((decide (z67.gpu = y73.gpu)) && ((decide (z67.lic = y73.lic)) && true)))))
 (some false)
 (cond (decide (0 ≤ z56))
 (Option.bind (r53.1[Int.toNat z56]?) fun y74 =>
 Option.bind (g25 y74) fun r75 =>
 cond (!r75)
 (some false)
 (nx55 (((),(),IntKind.wrap .i64 (z56 + 1),()),(z65,(z66,(),()),z68,()))))
 (none)))
 (none))
def l4_4 (L : Lp) (g21 : (List Res) → (List (Int × Alloc)) → Option ((List Alloc) × (((List Res) × (Unit × Unit)) × ((List (Int × Alloc)) × Unit)))) (g24 : (List Share) → Int → Option Int) (g23 : Res → Int → Option Res) (g22 : Res → Res → Option Res) (g25 : Res → Option Bool) (nx44 : (((Unit × (Unit × (Int × Unit))) × (Spec × (((List Res) × (Unit × Unit)) × ((List (Int × Alloc)) × Unit)))) → Option Bool)) (z45 : Int) (r53 : ((List Res) × (((List Res) × (Unit × Unit)) × ((List (Int × Alloc)) × Unit)))) (nx55 : ((Unit × (Unit × (Int × Unit))) × (Spec × (((List Res) × (Unit × Unit)) × ((List (Int × Alloc)) × Unit)))) → Option Bool) (z56 : Int) (z57 : Spec) (z58 : (List Res)) (z59 : (List (Int × Alloc))) : Option Bool :=
 cond (decide (z56 < (List.length r53.1 : Int)))
 (cond (decide (0 ≤ z56))
 (Option.bind (r53.1[Int.toNat z56]?) fun y60 =>
 Option.bind (g21 z58 z59) fun r61 =>
 L (fun (s62 : ((Unit × (Unit × (Unit × (Int × Unit)))) × (Spec × (((List Res) × (Unit × Unit)) × (Res × ((List (Int × Alloc)) × Unit)))))) nx63 => l4_3 g24 g23 g22 g25 r53 nx55 z56 r61 nx63 s62.1.2.2.2.1 s62.2.1 s62.2.2.1.1 s62.2.2.2.1 s62.2.2.2.2.1) (((),(),(),0,()),(z57,(r61.2.1.1,(),()),y60,r61.2.2.1,())))
 (none))
 (nx44 (((),(),IntKind.wrap .i64 (z45 + 1),()),(z57,(z58,(),()),z59,())))
def l4_5 (L : Lp) (g18_1 : Int → (List Res) → (List (Int × Alloc)) → Option (Int × (((List Res) × (Unit × Unit)) × ((List (Int × Alloc)) × Unit)))) (g19_1 : Alloc → (List Res) → (List (Int × Alloc)) → Option (Int × (((List Res) × (Unit × Unit)) × ((List (Int × Alloc)) × Unit)))) (g20_1 : (List Res) → (List (Int × Alloc)) → Option ((List Res) × (((List Res) × (Unit × Unit)) × ((List (Int × Alloc)) × Unit)))) (g21 : (List Res) → (List (Int × Alloc)) → Option ((List Alloc) × (((List Res) × (Unit × Unit)) × ((List (Int × Alloc)) × Unit)))) (g24 : (List Share) → Int → Option Int) (g23 : Res → Int → Option Res) (g22 : Res → Res → Option Res) (g25 : Res → Option Bool) (a1 : (List (Bool × Alloc))) (nx44 : ((Unit × (Unit × (Int × Unit))) × (Spec × (((List Res) × (Unit × Unit)) × ((List (Int × Alloc)) × Unit)))) → Option Bool) (z45 : Int) (z46 : Spec) (z47 : (List Res)) (z48 : (List (Int × Alloc))) : Option Bool :=
 cond (decide (z45 < (List.length a1 : Int)))
 (cond (decide (0 ≤ z45))
 (Option.bind (a1[Int.toNat z45]?) fun y49 =>
 Option.bind (α := ((Unit × (Unit × Unit)) × (Spec × (((List Res) × (Unit × Unit)) × ((List (Int × Alloc)) × Unit)))))
 (cond y49.1
 (Option.bind (g18_1 y49.2.job z47 z48) fun r50 =>
 some (((),(),()),(z46,(r50.2.1.1,(),()),r50.2.2.1,())))
 (Option.bind (g19_1 y49.2 z47 z48) fun r51 =>
 some (((),(),()),(z46,(r51.2.1.1,(),()),r51.2.2.1,())))) fun x52 =>
 Option.bind (g20_1 x52.2.2.1.1 x52.2.2.2.1) fun r53 =>
 cond (!decide ((List.length r53.1 : Int) = (List.length x52.2.1.nodes : Int)))
 (some false)
 (L (fun (s54 : ((Unit × (Unit × (Int × Unit))) × (Spec × (((List Res) × (Unit × Unit)) × ((List (Int × Alloc)) × Unit))))) nx55 => l4_4 L g21 g24 g23 g22 g25 nx44 z45 r53 nx55 s54.1.2.2.1 s54.2.1 s54.2.2.1.1 s54.2.2.2.1) (((),(),0,()),(x52.2.1,(r53.2.1.1,(),()),r53.2.2.1,()))))
 (none))
 (some true)
def F4 (L : Lp) (g13 : Option Bool) (g14 : Spec → Option Bool) (g15 : (List (Bool × Alloc)) → Option Bool) (g16 : Spec → Option Bool) (g17 : Spec → Option ((Unit × (Int × Unit)) ⊕ ((Unit × (Int × Unit)) × (((List Res) × (Unit × Unit)) × ((List (Int × Alloc)) × Unit))))) (g18_1 : Int → (List Res) → (List (Int × Alloc)) → Option (Int × (((List Res) × (Unit × Unit)) × ((List (Int × Alloc)) × Unit)))) (g19_1 : Alloc → (List Res) → (List (Int × Alloc)) → Option (Int × (((List Res) × (Unit × Unit)) × ((List (Int × Alloc)) × Unit)))) (g20_1 : (List Res) → (List (Int × Alloc)) → Option ((List Res) × (((List Res) × (Unit × Unit)) × ((List (Int × Alloc)) × Unit)))) (g21 : (List Res) → (List (Int × Alloc)) → Option ((List Alloc) × (((List Res) × (Unit × Unit)) × ((List (Int × Alloc)) × Unit)))) (g24 : (List Share) → Int → Option Int) (g23 : Res → Int → Option Res) (g22 : Res → Res → Option Res) (g25 : Res → Option Bool) (as0 : Spec) (a1 : (List (Bool × Alloc))) : Option Bool :=
 Option.bind (g13) fun r2 =>
 cond (!r2)
 (some false)
 (Option.bind (g14 as0) fun r3 =>
 cond (!r3)
 (some true)
 (Option.bind (g15 a1) fun r4 =>
 cond (!r4)
 (some true)
 (Option.bind (g16 as0) fun r5 =>
 cond (!r5)
 (some true)
 (Option.bind (g17 as0) (Sum.elim (fun r6 =>
 Option.bind (α := (((Unit × (Unit × Unit)) × (Spec × (((List Res) × (Unit × Unit)) × ((List (Int × Alloc)) × Unit)))) ⊕ Bool))
 (cond (!decide (r6.2.1 = 0))
 (some (.inr false))
 (none)) (Sum.elim (fun x7 =>
 L (fun (s8 : ((Unit × (Unit × (Int × Unit))) × (Spec × (((List Res) × (Unit × Unit)) × ((List (Int × Alloc)) × Unit))))) nx9 => l4_2 L g18_1 g19_1 g20_1 g21 g24 g23 g22 g25 a1 nx9 s8.1.2.2.1 s8.2.1 s8.2.2.1.1 s8.2.2.2.1) (((),(),0,()),(x7.2.1,(x7.2.2.1.1,(),()),x7.2.2.2.1,()))) some)) (fun r41 =>
 Option.bind (α := (((Unit × (Unit × Unit)) × (Spec × (((List Res) × (Unit × Unit)) × ((List (Int × Alloc)) × Unit)))) ⊕ Bool))
 (cond (!decide (r41.1.2.1 = 0))
 (some (.inr false))
 (some (.inl (((),(),()),(as0,(r41.2.1.1,(),()),r41.2.2.1,()))))) (Sum.elim (fun x42 =>
 L (fun (s43 : ((Unit × (Unit × (Int × Unit))) × (Spec × (((List Res) × (Unit × Unit)) × ((List (Int × Alloc)) × Unit))))) nx44 => l4_5 L g18_1 g19_1 g20_1 g21 g24 g23 g22 g25 a1 nx44 s43.1.2.2.1 s43.2.1 s43.2.2.1.1 s43.2.2.2.1) (((),(),0,()),(x42.2.1,(x42.2.2.1.1,(),()),x42.2.2.2.1,()))) some)))))))
theorem e4 (L : Lp) (g13 : Option Bool) (g14 : Spec → Option Bool) (g15 : (List (Bool × Alloc)) → Option Bool) (g16 : Spec → Option Bool) (g17 : Spec → Option ((Unit × (Int × Unit)) ⊕ ((Unit × (Int × Unit)) × (((List Res) × (Unit × Unit)) × ((List (Int × Alloc)) × Unit))))) (g18_1 : Int → (List Res) → (List (Int × Alloc)) → Option (Int × (((List Res) × (Unit × Unit)) × ((List (Int × Alloc)) × Unit)))) (g19_1 : Alloc → (List Res) → (List (Int × Alloc)) → Option (Int × (((List Res) × (Unit × Unit)) × ((List (Int × Alloc)) × Unit)))) (g20_1 : (List Res) → (List (Int × Alloc)) → Option ((List Res) × (((List Res) × (Unit × Unit)) × ((List (Int × Alloc)) × Unit)))) (g21 : (List Res) → (List (Int × Alloc)) → Option ((List Alloc) × (((List Res) × (Unit × Unit)) × ((List (Int × Alloc)) × Unit)))) (g24 : (List Share) → Int → Option Int) (g23 : Res → Int → Option Res) (g22 : Res → Res → Option Res) (g25 : Res → Option Bool) (x : s4.args.den) (h : denH s4.heap) : nrun [⟨13,s13,fun x h => g13 ⟩,⟨14,s14,fun x h => g14 x.1⟩,⟨15,s15,fun x h => g15 x.1⟩,⟨16,s16,fun x h => g16 x.1⟩,⟨17,s17,fun x h => g17 x.1⟩,⟨18,s18_1,fun x h => g18_1 x.2.1 h.1.1 h.2.1⟩,⟨19,s19_1,fun x h => g19_1 x.2.1 h.1.1 h.2.1⟩,⟨20,s20_1,fun x h => g20_1 h.1.1 h.2.1⟩,⟨21,s21,fun x h => g21 h.1.1 h.2.1⟩,⟨24,s24,fun x h => g24 x.1 x.2.1⟩,⟨23,s23,fun x h => g23 x.1 x.2.1⟩,⟨22,s22,fun x h => g22 x.1 x.2.1⟩,⟨25,s25,fun x h => g25 x.1⟩] L n4 s4 x h = F4 L g13 g14 g15 g16 g17 g18_1 g19_1 g20_1 g21 g24 g23 g22 g25 x.1 x.2.1 := by kernel_rfl
def f4 : Spec → (List (Bool × Alloc)) → Option Bool := F4 (@LN LOOPS) f13 f14 f15 f16 f17 f18_1 f19_1 f20_1 f21 f24 f23 f22 f25
@[reducible] def t4 : Ent := ⟨4,s4,fun x h => f4 x.1 x.2.1⟩
theorem k4 : chkNF Try.prog Try.f4 n4 = true := by kernel_rfl
theorem ok4 : NOk Try.prog t4 := NOk.body (T := [t13,t14,t15,t16,t17,t18_1,t19_1,t20_1,t21,t24,t23,t22,t25]) mixed (nall_cons ok13 (nall_cons ok14 (nall_cons ok15 (nall_cons ok16 (nall_cons ok17 (nall_cons ok18_1 (nall_cons ok19_1 (nall_cons ok20_1 (nall_cons ok21 (nall_cons ok24 (nall_cons ok23 (nall_cons ok22 (nall_cons ok25 nall_nil))))))))))))) (oneEach_of (by kernel_rfl)) Try.func4 k4 (by kernel_rfl) (fun x h => e4 _ _ _ _ _ _ _ _ _ _ _ _ _ _ x h)
def n26 : NFunc := ⟨23,.seq (.region 1 [
 o1 4 (.alloc [iz,iz,iz,iz,iz,.zsl]) 0,
 o1 5 (.move kf) 1] []) (.seq (.seq (.region 0 [
 oM 8 0 0,
 o1 9 (.eqP false (tm 8) (.const (.nilp))) 0] []) (.cond (tm 9) (.seq (.region 0 [
 o1 10 (.build [iz,iz,iz,iz,iz,.zsl] []) 0,
 oS 6 4 10 0,
 o1 5 (.move kf) 0] []) (.ret)) (.skip))) (.seq (.region 5 [
 oM 12 0 0,
 o1 13 (.nilCheck (tm 12)) 0,
 oF 14 1 13 0,
 oL 15 14 0,
 oM 16 1 0,
 o1 17 (.call (.const (.fn 1000761 [])) [(vw 15),(vv 16)] false 4) 0,
 oM 11 17 4,
 oX 18 11 0 4,
 oX 19 11 1 4,
 o1 6 (.alloc [iz,iz,iz,iz,iz,.zsl]) 4,
 oS 6 6 18 5,
 oM 7 19 5] []) (.seq (.region 4 [
 oT 20 6 6 0,
 o1 21 (.call (fc 47) [(vv 20)] false 4) 0,
 oM 22 7 4,
 oS 6 4 21 4,
 oM 5 22 4] []) (.ret)))),[.cell true 6 4,.tmp 5],true⟩
def s26 : Sig := ⟨(.cons .nilp (.cons (.v (.int .i64)) .nil)),[],((.tup (.cons (.v .alloc) (.cons (.v .bool) .nil))),[]),[]⟩
def F26 (L : Lp)  (job0 : Int) : Option (Alloc × (Bool × Unit)) :=
 some (Alloc.mk 0 (Res.mk 0 0 0 0) [],false,())
theorem e26 (L : Lp)  (x : s26.args.den) (h : denH s26.heap) : nrun [] L n26 s26 x h = F26 L  x.2.1 := by kernel_rfl
def f26 : Int → Option (Alloc × (Bool × Unit)) := F26 (@LN LOOPS) 
@[reducible] def t26 : Ent := ⟨26,s26,fun x h => f26 x.2.1⟩
theorem k26 : chkNF Try.prog Try.f26 n26 = true := by kernel_rfl
theorem ok26 : NOk Try.prog t26 := NOk.body (T := []) mixed nall_nil (oneEach_of (by kernel_rfl)) Try.func26 k26 (by kernel_rfl) (fun x h => e26 _  x h)
def n21_1 : NFunc := ⟨31,.seq (.region 0 [
 o1 2 (.move (.const (.zsl))) 0] []) (.seq (.seq (.region 0 [
 oM 6 0 0,
 o1 7 (.eqP false (tm 6) (.const (.nilp))) 0] []) (.cond (tm 7) (.seq (.region 0 [
 o1 2 (.move (.const (.zsl))) 0] []) (.ret)) (.skip))) (.seq (.region 0 [
 o1 3 (.move (.const (.zsl))) 0] []) (.seq (.seq (.region 8 [
 oM 8 0 0,
 o1 9 (.nilCheck (tm 8)) 0,
 oF 10 1 9 0,
 oL 11 10 0,
 o1 12 (.call (fc 49) [(vw 11)] false 4) 0,
 o1 13 (.call (fc 48) [(vw 12)] false 4) 4,
 o1 14 (.len (tm 13)) 8,
 o1 15 (.move (ki 0)) 8] []) (.block 0 (.loopU [0,3,13,14,15] 0 (.seq (.region 0 [
 oB 16 .lss 15 14 0] []) (.seq (.cond (tm 16) (.skip) (.exit 0)) (.seq (.block 1 (.seq (.region 0 [
 o1 17 (.indexSl 1 (tm 13) (tm 15)) 0,
 oL 18 17 0,
 oM 5 18 0] []) (.region 10 [
 oM 19 3 0,
 oM 20 0 0,
 o1 21 (.nilCheck (tm 20)) 0,
 oF 22 1 21 0,
 oL 23 22 0,
 oM 24 5 0,
 o1 25 (.call (.const (.fn 1000760 [])) [(vw 23),(vv 24)] false 4) 0,
 o1 26 (.call (fc 47) [(vv 25)] false 4) 4,
 o1 27 (.buildSlice 6 1 true [iz,iz,iz,iz,iz,.zsl] [(0,(tm 26))]) 8,
 o1 28 (.append 6 64 true (tm 19) (tm 27)) 9,
 oM 3 28 10] []))) (.region 0 [
 oC 29 .add 15 1 0,
 oM 15 29 0] []))))))) (.seq (.region 0 [
 oM 30 3 0,
 oM 2 30 0] []) (.ret))))),[.tmp 2],true⟩
def s21_1 : Sig := ⟨(.cons .nilp .nil),[],((.v (.list .alloc)),[]),[]⟩
def F21_1 (L : Lp)   : Option (List Alloc) :=
 some []
theorem e21_1 (L : Lp)  (x : s21_1.args.den) (h : denH s21_1.heap) : nrun [] L n21_1 s21_1 x h = F21_1 L   := by kernel_rfl
def f21_1 : Option (List Alloc) := F21_1 (@LN LOOPS) 
@[reducible] def t21_1 : Ent := ⟨21,s21_1,fun x h => f21_1 ⟩
theorem k21_1 : chkNF Try.prog Try.f21 n21_1 = true := by kernel_rfl
theorem ok21_1 : NOk Try.prog t21_1 := NOk.body (T := []) mixed nall_nil (oneEach_of (by kernel_rfl)) Try.func21 k21_1 (by kernel_rfl) (fun x h => e21_1 _  x h)
def n27 : NFunc := ⟨17,.seq (.region 0 [
 o1 2 (.move (.const (.nilp))) 0] []) (.seq (.seq (.region 0 [
 oM 3 0 0,
 o1 4 (.eqP false (tm 3) (.const (.nilp))) 0] []) (.cond (tm 4) (.seq (.region 0 [
 o1 2 (.move (.const (.nilp))) 0] []) (.ret)) (.skip))) (.seq (.region 9 [
 o4 5 (.move (tm 0)) 0 [],
 o4 6 (.nilCheck (tm 5)) 0 [],
 o4 7 (.fieldAddr 0 (tm 6)) 0 [],
 o4 8 (.load false 1 (tm 7)) 0 [],
 o4 9 (.call (fc 41) [(vv 8)] true 4) 0 [],
 o4 10 (.move (tm 0)) 4 [],
 o4 11 (.nilCheck (tm 10)) 4 [],
 o4 12 (.fieldAddr 1 (tm 11)) 4 [],
 o4 13 (.load false 1 (tm 12)) 4 [],
 o4 14 (.call (fc 51) [(vw 13)] false 4) 4 [0,1,2,3],
 o4 15 (.build [.zsl,.nilfn] [(0,1,(tm 9)),(1,1,(tm 14))]) 8 [0,1,2,3,4,5,6,7],
 o4 16 (.box 2 (tm 15)) 8 [0,1,2,3,4,5,6,7],
 o4 2 (.move (tm 16)) 9 [0,1,2,3,4,5,6,7,8]] []) (.ret))),[.tmp 2],false⟩
def s27 : Sig := ⟨(.cons .nilp .nil),[],(.nilp,[]),[]⟩
def F27 (L : Lp)   : Option Unit :=
 some ()
theorem e27 (L : Lp)  (x : s27.args.den) (h : denH s27.heap) : nrun [] L n27 s27 x h = F27 L   := by kernel_rfl
def f27 : Option Unit := F27 (@LN LOOPS) 
@[reducible] def t27 : Ent := ⟨27,s27,fun x h => f27 ⟩
theorem k27 : chkNF Try.prog Try.f27 n27 = true := by kernel_rfl
theorem ok27 : NOk Try.prog t27 := NOk.body (T := []) mixed nall_nil (oneEach_of (by kernel_rfl)) Try.func27 k27 (by kernel_rfl) (fun x h => e27 _  x h)
def n55 : NFunc := ⟨20,.seq (.region 0 [
 o1 4 (.move (ki 0)) 0] []) (.seq (.seq (.region 0 [
 o1 5 (.move (ki 0)) 0] []) (.block 0 (.loop [0,1,5] ⟨[(5,vI)],[0,1],[]⟩ (.seq (.seq (.region 0 [
 oM 6 5 0,
 oM 7 0 0,
 o1 8 (.len (tm 7)) 0,
 oB 9 .lss 6 8 0] []) (.cond (tm 9) (.skip) (.exit 0))) (.seq (.block 1 (.seq (.region 0 [
 oM 12 0 0,
 oM 13 5 0,
 o1 14 (.indexSl 6 (tm 12) (tm 13)) 0,
 oF 15 0 14 0,
 oL 16 15 0,
 oM 17 1 0,
 oB 18 .eql 16 17 0] []) (.cond (tm 18) (.seq (.region 0 [
 oM 19 5 0,
 oM 4 19 0] []) (.ret)) (.skip)))) (.region 0 [
 oM 10 5 0,
 oC 11 .add 10 1 0,
 oM 5 11 0] [])))))) (.seq (.region 0 [
 o1 4 (.move (.const (.int .i64 (-1)))) 0] []) (.ret))),[.tmp 4],true⟩
def s55 : Sig := ⟨(.cons (.v (.list .alloc)) (.cons (.v (.int .i64)) .nil)),[],((.v (.int .i64)),[]),[]⟩
def l55_0 (al0 : (List Alloc)) (job1 : Int) (nx3 : ((Int × Unit) × Unit) → Option Int) (i4 : Int) : Option Int :=
 cond (decide (i4 < (List.length al0 : Int)))
 (cond (decide (0 ≤ i4))
 (Option.bind (al0[Int.toNat i4]?) fun y5 =>
 cond (decide (y5.job = job1))
 (some i4)
 (nx3 ((IntKind.wrap .i64 (i4 + 1),()),())))
 (none))
 (some (-1))
def F55 (L : Lp)  (al0 : (List Alloc)) (job1 : Int) : Option Int :=
 L (fun (s2 : ((Int × Unit) × Unit)) nx3 => l55_0 al0 job1 nx3 s2.1.1) ((0,()),())
theorem e55 (L : Lp)  (x : s55.args.den) (h : denH s55.heap) : nrun [] L n55 s55 x h = F55 L  x.1 x.2.1 := by kernel_rfl
def f55 : (List Alloc) → Int → Option Int := F55 (@LN LOOPS) 
@[reducible] def t55 : Ent := ⟨55,s55,fun x h => f55 x.1 x.2.1⟩
theorem k55 : chkNF Try.prog Try.f55 n55 = true := by kernel_rfl
theorem ok55 : NOk Try.prog t55 := NOk.body (T := []) mixed nall_nil (oneEach_of (by kernel_rfl)) Try.func55 k55 (by kernel_rfl) (fun x h => e55 _  x h)
def n52 : NFunc := ⟨25,.seq (.region 0 [
 o1 4 (.move (.const (.zsl))) 0,
 o1 5 (.move (ki 0)) 0] []) (.seq (.region 4 [
 oM 8 0 0,
 oM 9 1 0,
 o1 10 (.call (fc 55) [(vv 8),(vv 9)] false 4) 0,
 oM 6 10 4] []) (.seq (.seq (.region 0 [
 oM 11 6 0,
 oC 12 .lss 11 0 0] []) (.cond (tm 12) (.seq (.region 0 [
 oM 13 0 0,
 oM 4 13 0,
 o1 5 (.move (ki 30)) 0] []) (.ret)) (.skip))) (.seq (.region 0 [
 o1 7 (.move (.const (.zsl))) 0] []) (.seq (.region 1 [
 oM 14 7 0,
 oM 15 0 0,
 oM 16 6 0,
 o1 17 (.slice 6 (tm 15) none (some (tm 16)) none) 0,
 o1 18 (.append 6 64 true (tm 14) (tm 17)) 0,
 oM 7 18 1] []) (.seq (.region 1 [
 oM 19 7 0,
 oM 20 0 0,
 oM 21 6 0,
 oC 22 .add 21 1 0,
 o1 23 (.slice 6 (tm 20) (some (tm 22)) none none) 0,
 o1 24 (.append 6 64 true (tm 19) (tm 23)) 0,
 oM 4 24 1,
 o1 5 (.move (ki 0)) 1] []) (.ret)))))),[.tmp 4,.tmp 5],true⟩
def s52 : Sig := ⟨(.cons (.v (.list .alloc)) (.cons (.v (.int .i64)) .nil)),[],((.tup (.cons (.v (.list .alloc)) (.cons (.v (.int .i64)) .nil))),[]),[]⟩
def F52 (L : Lp) (g55 : (List Alloc) → Int → Option Int) (al0 : (List Alloc)) (job1 : Int) : Option ((List Alloc) × (Int × Unit)) :=
 Option.bind (g55 al0 job1) fun r2 =>
 cond (decide (r2 < 0))
 (some (al0,30,()))
 (cond (decide (0 ≤ r2))
 (cond (decide ((Int.toNat r2) ≤ (List.length al0)))
 (cond (smallB (List.length (List.take (Int.toNat r2) al0)) 64)
 (cond (decide (0 ≤ (IntKind.wrap .i64 (r2 + 1))))
 (cond (decide ((Int.toNat (IntKind.wrap .i64 (r2 + 1))) ≤ (List.length al0)))
 (cond (smallB ((List.length ([] ++ (List.take (Int.toNat r2) al0))) + (List.length (List.drop (Int.toNat (IntKind.wrap .i64 (r2 + 1))) al0))) 64)
 (some (([] ++ (List.take (Int.toNat r2) al0)) ++ (List.drop (Int.toNat (IntKind.wrap .i64 (r2 + 1))) al0),0,()))
 (none))
 (none))
 (none))
 (none))
 (none))
 (none))
theorem e52 (L : Lp) (g55 : (List Alloc) → Int → Option Int) (x : s52.args.den) (h : denH s52.heap) : nrun [⟨55,s55,fun x h => g55 x.1 x.2.1⟩] L n52 s52 x h = F52 L g55 x.1 x.2.1 := by kernel_rfl
def f52 : (List Alloc) → Int → Option ((List Alloc) × (Int × Unit)) := F52 (@LN LOOPS) f55
@[reducible] def t52 : Ent := ⟨52,s52,fun x h => f52 x.1 x.2.1⟩
theorem k52 : chkNF Try.prog Try.f52 n52 = true := by kernel_rfl
theorem ok52 : NOk Try.prog t52 := NOk.body (T := [t55]) mixed (nall_cons ok55 nall_nil) (oneEach_of (by kernel_rfl)) Try.func52 k52 (by kernel_rfl) (fun x h => e52 _ _ x h)
def n80 : NFunc := ⟨61,.seq (.region 0 [
 o1 4 (.move kf) 0] []) (.seq (.seq (.region 0 [
 o1 5 (.move (ki 0)) 0] []) (.block 0 (.loop [0,1,5] ⟨[(5,vI)],[0,1],[]⟩ (.seq (.seq (.region 0 [
 oM 6 5 0,
 oM 7 0 0,
 o1 8 (.len (tm 7)) 0,
 oB 9 .lss 6 8 0] []) (.cond (tm 9) (.skip) (.exit 0))) (.seq (.block 1 (.seq (.region 0 [
 o4 12 (.move (tm 0)) 0 [],
 o4 13 (.move (tm 5)) 0 [],
 o4 14 (.indexSl 2 (tm 12) (tm 13)) 0 [],
 o4 15 (.fieldAddr 0 (tm 14)) 0 [],
 o4 16 (.load false 1 (tm 15)) 0 [],
 o4 17 (.bin .lss (tm 16) (ki 0)) 0 [],
 o4 18 (.move (tm 17)) 0 [],
 ⟨(some 19),.move (tm 0),(some (18,false)),0,(some ([],none))⟩,
 ⟨(some 20),.move (tm 5),(some (18,false)),0,(some ([],none))⟩,
 ⟨(some 21),.indexSl 2 (tm 19) (tm 20),(some (18,false)),0,(some ([],none))⟩,
 ⟨(some 22),.fieldAddr 0 (tm 21),(some (18,false)),0,(some ([],none))⟩,
 ⟨(some 23),.load false 1 (tm 22),(some (18,false)),0,(some ([],none))⟩,
 ⟨(some 24),.move (tm 1),(some (18,false)),0,(some ([],none))⟩,
 ⟨(some 25),.bin .geq (tm 23) (tm 24),(some (18,false)),0,(some ([],none))⟩,
 o4 26 (.pick (tm 18) kt (tm 25)) 0 [],
 o4 27 (.move (tm 26)) 0 [],
 ⟨(some 28),.move (tm 0),(some (27,false)),0,(some ([],none))⟩,
 ⟨(some 29),.move (tm 5),(some (27,false)),0,(some ([],none))⟩,
 ⟨(some 30),.indexSl 2 (tm 28) (tm 29),(some (27,false)),0,(some ([],none))⟩,
 ⟨(some 31),.fieldAddr 1 (tm 30),(some (27,false)),0,(some ([],none))⟩,
 ⟨(some 32),.load false 1 (tm 31),(some (27,false)),0,(some ([],none))⟩,
 ⟨(some 33),.bin .lss (tm 32) (ki 1),(some (27,false)),0,(some ([],none))⟩,
 o4 34 (.pick (tm 27) kt (tm 33)) 0 [],
 o4 35 (.move (tm 34)) 0 [],
 ⟨(some 36),.move (tm 0),(some (35,false)),0,(some ([],none))⟩,
 ⟨(some 37),.move (tm 5),(some (35,false)),0,(some ([],none))⟩,
 ⟨(some 38),.indexSl 2 (tm 36) (tm 37),(some (35,false)),0,(some ([],none))⟩,
 ⟨(some 39),.fieldAddr 1 (tm 38),(some (35,false)),0,(some ([],none))⟩,
 ⟨(some 40),.load false 1 (tm 39),(some (35,false)),0,(some ([],none))⟩,
 ⟨(some 41),.bin .gtr (tm 40) (ki 64),(some (35,false)),0,(some ([],none))⟩,
 o4 42 (.pick (tm 35) kt (tm 41)) 0 [],
 o4 43 (.move (tm 42)) 0 [],
 ⟨(some 44),.move (tm 5),(some (43,false)),0,(some ([],none))⟩,
 ⟨(some 45),.bin .gtr (tm 44) (ki 0),(some (43,false)),0,(some ([],none))⟩,
 ⟨(some 46),.move (tm 45),(some (43,false)),0,(some ([],none))⟩,
 ⟨(some 47),.move (tm 0),(some (46,true)),0,(some ([],none))⟩,
 ⟨(some 48),.move (tm 5),(some (46,true)),0,(some ([],none))⟩,
 ⟨(some 49),.bin .sub (tm 48) (ki 1),(some (46,true)),0,(some ([],none))⟩,
 ⟨(some 50),.indexSl 2 (tm 47) (tm 49),(some (46,true)),0,(some ([],none))⟩,
 ⟨(some 51),.fieldAddr 0 (tm 50),(some (46,true)),0,(some ([],none))⟩,
 ⟨(some 52),.load false 1 (tm 51),(some (46,true)),0,(some ([],none))⟩,
 ⟨(some 53),.move (tm 0),(some (46,true)),0,(some ([],none))⟩,
 ⟨(some 54),.move (tm 5),(some (46,true)),0,(some ([],none))⟩,
 ⟨(some 55),.indexSl 2 (tm 53) (tm 54),(some (46,true)),0,(some ([],none))⟩,
 ⟨(some 56),.fieldAddr 0 (tm 55),(some (46,true)),0,(some ([],none))⟩,
 ⟨(some 57),.load false 1 (tm 56),(some (46,true)),0,(some ([],none))⟩,
 ⟨(some 58),.bin .geq (tm 52) (tm 57),(some (46,true)),0,(some ([],none))⟩,
 ⟨(some 59),.pick (tm 46) (tm 58) kf,(some (43,false)),0,(some ([],none))⟩,
 o4 60 (.pick (tm 43) kt (tm 59)) 0 []] []) (.cond (tm 60) (.seq (.region 0 [
 o1 4 (.move kf) 0] []) (.ret)) (.skip)))) (.region 0 [
 oM 10 5 0,
 oC 11 .add 10 1 0,
 oM 5 11 0] [])))))) (.seq (.region 0 [
 o1 4 (.move kt) 0] []) (.ret))),[.tmp 4],true⟩
def s80 : Sig := ⟨(.cons (.v (.list .share)) (.cons (.v (.int .i64)) .nil)),[],((.v .bool),[]),[]⟩
def l80_0 (al0 : (List Share)) (nodes1 : Int) (nx3 : ((Int × Unit) × Unit) → Option Bool) (i4 : Int) : Option Bool :=
 cond (decide (i4 < (List.length al0 : Int)))
 (cond (decide (0 ≤ i4))
 (Option.bind (al0[Int.toNat i4]?) fun y5 =>
 cond (decide (y5.node < 0))
 (some false)
 (cond (decide (0 ≤ i4))
 (Option.bind (al0[Int.toNat i4]?) fun y6 =>
 cond (decide (nodes1 ≤ y6.node))
 (some false)
 (cond (decide (0 ≤ i4))
 (Option.bind (al0[Int.toNat i4]?) fun y7 =>
 cond (decide (y7.many < 1))
 (some false)
 (cond (decide (0 ≤ i4))
 (Option.bind (al0[Int.toNat i4]?) fun y8 =>
 cond (decide (64 < y8.many))
 (some false)
 (cond (decide (0 < i4))
 (cond (decide (0 ≤ (IntKind.wrap .i64 (i4 - 1))))
 (Option.bind (al0[Int.toNat (IntKind.wrap .i64 (i4 - 1))]?) fun y9 =>
 cond (decide (0 ≤ i4))
 (Option.bind (al0[Int.toNat i4]?) fun y10 =>
 cond (decide (y10.node ≤ y9.node))
 (some false)
 (nx3 ((IntKind.wrap .i64 (i4 + 1),()),())))
 (none))
 (none))
 (nx3 ((IntKind.wrap .i64 (i4 + 1),()),()))))
 (none)))
 (none)))
 (none)))
 (none))
 (some true)
def F80 (L : Lp)  (al0 : (List Share)) (nodes1 : Int) : Option Bool :=
 L (fun (s2 : ((Int × Unit) × Unit)) nx3 => l80_0 al0 nodes1 nx3 s2.1.1) ((0,()),())
theorem e80 (L : Lp)  (x : s80.args.den) (h : denH s80.heap) : nrun [] L n80 s80 x h = F80 L  x.1 x.2.1 := by kernel_rfl
def f80 : (List Share) → Int → Option Bool := F80 (@LN LOOPS) 
@[reducible] def t80 : Ent := ⟨80,s80,fun x h => f80 x.1 x.2.1⟩
theorem k80 : chkNF Try.prog Try.f80 n80 = true := by kernel_rfl
theorem ok80 : NOk Try.prog t80 := NOk.body (T := []) mixed nall_nil (oneEach_of (by kernel_rfl)) Try.func80 k80 (by kernel_rfl) (fun x h => e80 _  x h)
def n32 : NFunc := ⟨31,.seq (.region 2 [
 o1 2 (.box 4 (tm 0)) 0,
 o1 3 (.box 4 (tm 1)) 1,
 o1 4 (.move kf) 2] []) (.seq (.region 0 [
 oF 5 0 2 0,
 oL 6 5 0,
 oF 7 0 3 0,
 oL 8 7 0,
 oB 9 .leq 6 8 0,
 oM 10 9 0,
 o3 11 (.fieldAddr 1 (tm 2)) 10 0,
 o3 12 (.load false 1 (tm 11)) 10 0,
 o3 13 (.fieldAddr 1 (tm 3)) 10 0,
 o3 14 (.load false 1 (tm 13)) 10 0,
 o3 15 (.bin .leq (tm 12) (tm 14)) 10 0,
 o1 16 (.pick (tm 10) (tm 15) kf) 0,
 oM 17 16 0,
 o3 18 (.fieldAddr 2 (tm 2)) 17 0,
 o3 19 (.load false 1 (tm 18)) 17 0,
 o3 20 (.fieldAddr 2 (tm 3)) 17 0,
 o3 21 (.load false 1 (tm 20)) 17 0,
 o3 22 (.bin .leq (tm 19) (tm 21)) 17 0,
 o1 23 (.pick (tm 17) (tm 22) kf) 0,
 oM 24 23 0,
 o3 25 (.fieldAddr 3 (tm 2)) 24 0,
 o3 26 (.load false 1 (tm 25)) 24 0,
 o3 27 (.fieldAddr 3 (tm 3)) 24 0,
 o3 28 (.load false 1 (tm 27)) 24 0,
 o3 29 (.bin .leq (tm 26) (tm 28)) 24 0,
 o1 30 (.pick (tm 24) (tm 29) kf) 0,
 oM 4 30 0] []) (.ret)),[.tmp 4],true⟩
def s32 : Sig := ⟨(.cons (.v .res) (.cons (.v .res) .nil)),[],((.v .bool),[]),[]⟩
def F32 (L : Lp)  (a0 : Res) (b1 : Res) : Option Bool :=
 cond (decide (a0.cpu ≤ b1.cpu))
 (cond (decide (a0.mem ≤ b1.mem))
 (cond (decide (a0.gpu ≤ b1.gpu))
 (some (decide (a0.lic ≤ b1.lic)))
 (some false))
 (some false))
 (some false)
theorem e32 (L : Lp)  (x : s32.args.den) (h : denH s32.heap) : nrun [] L n32 s32 x h = F32 L  x.1 x.2.1 := by kernel_rfl
def f32 : Res → Res → Option Bool := F32 (@LN LOOPS) 
@[reducible] def t32 : Ent := ⟨32,s32,fun x h => f32 x.1 x.2.1⟩
theorem k32 : chkNF Try.prog Try.f32 n32 = true := by kernel_rfl
theorem ok32 : NOk Try.prog t32 := NOk.body (T := []) mixed nall_nil (oneEach_of (by kernel_rfl)) Try.func32 k32 (by kernel_rfl) (fun x h => e32 _  x h)
def n81 : NFunc := ⟨26,.seq (.region 3 [
 o1 2 (.box 4 (tm 0)) 0,
 o1 3 (.box 4 (tm 1)) 1,
 o1 4 (.alloc [iz,iz,iz,iz]) 2] []) (.seq (.region 0 [
 oF 5 0 2 0,
 oL 6 5 0,
 oF 7 0 3 0,
 oL 8 7 0,
 oB 9 .sub 6 8 0,
 oF 10 1 2 0,
 oL 11 10 0,
 oF 12 1 3 0,
 oL 13 12 0,
 oB 14 .sub 11 13 0,
 oF 15 2 2 0,
 oL 16 15 0,
 oF 17 2 3 0,
 oL 18 17 0,
 oB 19 .sub 16 18 0,
 oF 20 3 2 0,
 oL 21 20 0,
 oF 22 3 3 0,
 oL 23 22 0,
 oB 24 .sub 21 23 0,
 o1 25 (.build [iz,iz,iz,iz] [(0,1,(tm 9)),(1,1,(tm 14)),(2,1,(tm 19)),(3,1,(tm 24))]) 0,
 oS 4 4 25 0] []) (.ret)),[.cell true 4 4],true⟩
def s81 : Sig := ⟨(.cons (.v .res) (.cons (.v .res) .nil)),[],((.v .res),[]),[]⟩
def F81 (L : Lp)  (a0 : Res) (b1 : Res) : Option Res :=
 some (Res.mk (IntKind.wrap .i64 (a0.cpu - b1.cpu)) (IntKind.wrap .i64 (a0.mem - b1.mem)) (IntKind.wrap .i64 (a0.gpu - b1.gpu)) (IntKind.wrap .i64 (a0.lic - b1.lic)))
theorem e81 (L : Lp)  (x : s81.args.den) (h : denH s81.heap) : nrun [] L n81 s81 x h = F81 L  x.1 x.2.1 := by kernel_rfl
def f81 : Res → Res → Option Res := F81 (@LN LOOPS) 
@[reducible] def t81 : Ent := ⟨81,s81,fun x h => f81 x.1 x.2.1⟩
theorem k81 : chkNF Try.prog Try.f81 n81 = true := by kernel_rfl
theorem ok81 : NOk Try.prog t81 := NOk.body (T := []) mixed nall_nil (oneEach_of (by kernel_rfl)) Try.func81 k81 (by kernel_rfl) (fun x h => e81 _  x h)
def n54 : NFunc := ⟨59,.seq (.region 0 [
 o1 4 (.move (.const (.zsl))) 0,
 o1 5 (.move kf) 0] []) (.seq (.region 0 [
 o1 6 (.move (.const (.zsl))) 0] []) (.seq (.region 0 [
 o1 7 (.move kt) 0] []) (.seq (.seq (.region 0 [
 o1 8 (.move (ki 0)) 0] []) (.block 0 (.pre [0,1,6,7,8] [.mat 6 4 true] (.loop [0,1,6,7,8] ⟨[(6,(.slw 0 4)),(7,(.v .bool)),(8,vI)],[0,1],[.typed .res]⟩ (.seq (.seq (.region 0 [
 oM 11 8 0,
 oM 12 0 0,
 o1 13 (.len (tm 12)) 0,
 oB 14 .lss 11 13 0] []) (.cond (tm 14) (.skip) (.exit 0))) (.seq (.block 1 (.seq (.region 1 [
 o1 17 (.build [iz,iz,iz,iz] []) 0,
 o1 9 (.alloc [iz,iz,iz,iz]) 0,
 oS 4 9 17 1] []) (.seq (.seq (.region 0 [
 o1 10 (.move (ki 0)) 0] []) (.block 2 (.loop [0,1,6,7,8,9,10] ⟨[(6,(.slw 0 4)),(9,(.ptr 1 0 0)),(10,vI)],[0,1,7,8],[.typed .res,.one false .res]⟩ (.seq (.seq (.region 0 [
 oM 18 10 0,
 oM 19 1 0,
 o1 20 (.len (tm 19)) 0,
 oB 21 .lss 18 20 0] []) (.cond (tm 21) (.skip) (.exit 2))) (.seq (.block 3 (.region 12 [
 o4 24 (.load true 4 (tm 9)) 0 [],
 o4 25 (.move (tm 1)) 0 [],
 o4 26 (.move (tm 10)) 0 [],
 o4 27 (.indexSl 6 (tm 25) (tm 26)) 0 [],
 o4 28 (.fieldAddr 1 (tm 27)) 0 [],
 o4 29 (.load true 4 (tm 28)) 0 [],
 o4 30 (.move (tm 1)) 0 [],
 o4 31 (.move (tm 10)) 0 [],
 o4 32 (.indexSl 6 (tm 30) (tm 31)) 0 [],
 o4 33 (.fieldAddr 5 (tm 32)) 0 [],
 o4 34 (.load false 1 (tm 33)) 0 [],
 o4 35 (.move (tm 8)) 0 [],
 o4 36 (.call (fc 24) [(vv 34),(vv 35)] true 4) 0 [],
 o4 37 (.call (fc 23) [(vv 29),(vv 36)] true 4) 4 [0,1,2,3],
 o4 38 (.call (fc 22) [(vv 24),(vv 37)] false 4) 8 [0,1,2,3,4,5,6,7],
 ⟨none,.store 4 (tm 9) (tm 38),none,12,(some ([0,1,2,3,4,5,6,7,8,9,10,11],none))⟩] [])) (.region 0 [
 oM 22 10 0,
 oC 23 .add 22 1 0,
 oM 10 23 0] [])))))) (.seq (.region 4 [
 o4 39 (.move (tm 7)) 0 [],
 o4 40 (.move (tm 39)) 0 [],
 ⟨(some 41),.load true 4 (tm 9),(some (40,true)),0,(some ([],none))⟩,
 ⟨(some 42),.move (tm 0),(some (40,true)),0,(some ([],none))⟩,
 ⟨(some 43),.move (tm 8),(some (40,true)),0,(some ([],none))⟩,
 ⟨(some 44),.indexSl 4 (tm 42) (tm 43),(some (40,true)),0,(some ([],none))⟩,
 ⟨(some 45),.load true 4 (tm 44),(some (40,true)),0,(some ([],none))⟩,
 ⟨(some 46),.call (fc 32) [(vv 41),(vv 45)] false 4,(some (40,true)),0,(some ([],none))⟩,
 o4 47 (.pick (tm 40) (tm 46) kf) 4 [0,1,2,3],
 o4 7 (.move (tm 47)) 4 [0,1,2,3]] []) (.region 6 [
 o4 48 (.move (tm 6)) 0 [],
 o4 49 (.move (tm 0)) 0 [],
 o4 50 (.move (tm 8)) 0 [],
 o4 51 (.indexSl 4 (tm 49) (tm 50)) 0 [],
 o4 52 (.load true 4 (tm 51)) 0 [],
 o4 53 (.load true 4 (tm 9)) 0 [],
 o4 54 (.call (fc 81) [(vv 52),(vv 53)] false 4) 0 [],
 o4 55 (.buildSlice 4 1 true [iz,iz,iz,iz] [(0,(tm 54))]) 4 [0,1,2,3],
 o4 56 (.append 4 32 true (tm 48) (tm 55)) 5 [0,1,2,3,4],
 o4 6 (.move (tm 56)) 6 [0,1,2,3,4,5]] []))))) (.region 0 [
 oM 15 8 0,
 oC 16 .add 15 1 0,
 oM 8 16 0] []))))))) (.seq (.region 0 [
 oM 57 6 0,
 oM 58 7 0,
 oM 4 57 0,
 oM 5 58 0] []) (.ret))))),[.tmp 4,.tmp 5],true⟩
def s54 : Sig := ⟨(.cons (.v (.list .res)) (.cons (.v (.list .alloc)) .nil)),[],((.tup (.cons (.v (.list .res)) (.cons (.v .bool) .nil))),[]),[]⟩
def l54_0 (g24 : (List Share) → Int → Option Int) (g23 : Res → Int → Option Res) (g22 : Res → Res → Option Res) (g32 : Res → Res → Option Bool) (g81 : Res → Res → Option Res) (nodes0 : (List Res)) (al1 : (List Alloc)) (nx3 : (((Unit × (Bool × (Int × Unit))) × ((List Res) × Unit)) → Option ((List Res) × (Bool × Unit)))) (ok4 : Bool) (zk5 : Int) (nx8 : ((Unit × (Unit × (Int × Unit))) × ((List Res) × (Res × Unit))) → Option ((List Res) × (Bool × Unit))) (i9 : Int) (z10 : (List Res)) (z11 : Res) : Option ((List Res) × (Bool × Unit)) :=
 cond (decide (i9 < (List.length al1 : Int)))
 (cond (decide (0 ≤ i9))
 (Option.bind (al1[Int.toNat i9]?) fun y12 =>
 cond (decide (0 ≤ i9))
 (Option.bind (al1[Int.toNat i9]?) fun y13 =>
 Option.bind (g24 y13.shares zk5) fun r14 =>
 Option.bind (g23 y12.need r14) fun r15 =>
 Option.bind (g22 z11 r15) fun r16 =>
 nx8 (((),(),IntKind.wrap .i64 (i9 + 1),()),(z10,r16,())))
 (none))
 (none))
 (cond ok4
 (cond (decide (0 ≤ zk5))
 (Option.bind (nodes0[Int.toNat zk5]?) fun y17 =>
 Option.bind (g32 z11 y17) fun r18 =>
 cond (decide (0 ≤ zk5))
 (Option.bind (nodes0[Int.toNat zk5]?) fun y19 =>
 Option.bind (g81 y19 z11) fun r20 =>
 cond (smallB ((List.length z10) + 1) 32)
 (nx3 (((),r18,IntKind.wrap .i64 (zk5 + 1),()),(z10 ++ [r20],())))
 (none))
 (none))
 (none))
 (cond (decide (0 ≤ zk5))
 (Option.bind (nodes0[Int.toNat zk5]?) fun y21 =>
 Option.bind (g81 y21 z11) fun r22 =>
 cond (smallB ((List.length z10) + 1) 32)
 (nx3 (((),false,IntKind.wrap .i64 (zk5 + 1),()),(z10 ++ [r22],())))
 (none))
 (none)))
def l54_1 (L : Lp) (g24 : (List Share) → Int → Option Int) (g23 : Res → Int → Option Res) (g22 : Res → Res → Option Res) (g32 : Res → Res → Option Bool) (g81 : Res → Res → Option Res) (nodes0 : (List Res)) (al1 : (List Alloc)) (nx3 : ((Unit × (Bool × (Int × Unit))) × ((List Res) × Unit)) → Option ((List Res) × (Bool × Unit))) (ok4 : Bool) (zk5 : Int) (z6 : (List Res)) : Option ((List Res) × (Bool × Unit)) :=
 cond (decide (zk5 < (List.length nodes0 : Int)))
 (L (fun (s7 : ((Unit × (Unit × (Int × Unit))) × ((List Res) × (Res × Unit)))) nx8 => l54_0 g24 g23 g22 g32 g81 nodes0 al1 nx3 ok4 zk5 nx8 s7.1.2.2.1 s7.2.1 s7.2.2.1) (((),(),0,()),(z6,Res.mk 0 0 0 0,())))
 (some (z6,ok4,()))
def F54 (L : Lp) (g24 : (List Share) → Int → Option Int) (g23 : Res → Int → Option Res) (g22 : Res → Res → Option Res) (g32 : Res → Res → Option Bool) (g81 : Res → Res → Option Res) (nodes0 : (List Res)) (al1 : (List Alloc)) : Option ((List Res) × (Bool × Unit)) :=
 L (fun (s2 : ((Unit × (Bool × (Int × Unit))) × ((List Res) × Unit))) nx3 => l54_1 L g24 g23 g22 g32 g81 nodes0 al1 nx3 s2.1.2.1 s2.1.2.2.1 s2.2.1) (((),true,0,()),([],()))
theorem e54 (L : Lp) (g24 : (List Share) → Int → Option Int) (g23 : Res → Int → Option Res) (g22 : Res → Res → Option Res) (g32 : Res → Res → Option Bool) (g81 : Res → Res → Option Res) (x : s54.args.den) (h : denH s54.heap) : nrun [⟨24,s24,fun x h => g24 x.1 x.2.1⟩,⟨23,s23,fun x h => g23 x.1 x.2.1⟩,⟨22,s22,fun x h => g22 x.1 x.2.1⟩,⟨32,s32,fun x h => g32 x.1 x.2.1⟩,⟨81,s81,fun x h => g81 x.1 x.2.1⟩] L n54 s54 x h = F54 L g24 g23 g22 g32 g81 x.1 x.2.1 := by kernel_rfl
def f54 : (List Res) → (List Alloc) → Option ((List Res) × (Bool × Unit)) := F54 (@LN LOOPS) f24 f23 f22 f32 f81
@[reducible] def t54 : Ent := ⟨54,s54,fun x h => f54 x.1 x.2.1⟩
theorem k54 : chkNF Try.prog Try.f54 n54 = true := by kernel_rfl
theorem ok54 : NOk Try.prog t54 := NOk.body (T := [t24,t23,t22,t32,t81]) mixed (nall_cons ok24 (nall_cons ok23 (nall_cons ok22 (nall_cons ok32 (nall_cons ok81 nall_nil))))) (oneEach_of (by kernel_rfl)) Try.func54 k54 (by kernel_rfl) (fun x h => e54 _ _ _ _ _ _ x h)
end NM
end Go.Proofs.Ytfelhbeiegppgaa
end
