/-
  What the proof of SpecTexts leans on, part 20. (Many texts laid together by program.)
-/
import Derived.Test.YtjngkfdclcgfhaaGreatDoorPkTs
import Derived.Test.YtjngkfdclcgfhaaGreatDoorProg
import Derived.ProofKit
set_option linter.unnecessarySimpa false
set_option linter.unusedSimpArgs false
set_option linter.unusedVariables false
namespace Go.Proofs.YtjngkfdclcgfhaaGreatDoor
namespace NM
open AM
def tm (n : Nat) : Opd := .tmp n
def ki (n : Int) : Opd := .const (.int .i64 n)
def vI : Sh := .v (.int .i64)
def o1 (d : Nat) (p : AOp) (a : Nat) : AOper := ⟨some d, p, none, a, none⟩
def o2 (d : Nat) (p : AOp) (g a : Nat) : AOper := ⟨some d, p, some (g, false), a, none⟩
def o3 (d : Nat) (p : AOp) (g a : Nat) : AOper := ⟨some d, p, some (g, true), a, none⟩
def o4 (d : Nat) (p : AOp) (a : Nat) (l : List Nat) : AOper := ⟨some d, p, none, a, some (l, none)⟩
def iz : AVal := .int .i64 0
def vv (n : Nat) : Bool × Opd := (false, .tmp n)
def vw (n : Nat) : Bool × Opd := (true, .tmp n)
def fc (n : Nat) : Opd := .func n
def kf : Opd := .const (.bool false)
def kt : Opd := .const (.bool true)
def oM (d x a : Nat) : AOper := ⟨some d, .move (.tmp x), none, a, none⟩
def oN (d x g a : Nat) : AOper := ⟨some d, .move (.tmp x), some (g, false), a, none⟩
def oF (d k x a : Nat) : AOper := ⟨some d, .fieldAddr k (.tmp x), none, a, none⟩
def oL (d x a : Nat) : AOper := ⟨some d, .load false 1 (.tmp x), none, a, none⟩
def oT (d n x a : Nat) : AOper := ⟨some d, .load true n (.tmp x), none, a, none⟩
def oS (n x y a : Nat) : AOper := ⟨none, .store n (.tmp x) (.tmp y), none, a, none⟩
def oX (d x i a : Nat) : AOper := ⟨some d, .extract (.tmp x) i, none, a, none⟩
def oB (d : Nat) (o : BinOp) (x y a : Nat) : AOper := ⟨some d, .bin o (.tmp x) (.tmp y), none, a, none⟩
def oC (d : Nat) (o : BinOp) (x : Nat) (y : Int) (a : Nat) : AOper := ⟨some d, .bin o (.tmp x) (ki y), none, a, none⟩
end NM
end Go.Proofs.YtjngkfdclcgfhaaGreatDoor
section
set_option maxRecDepth 100000
set_option maxHeartbeats 4000000
namespace Go.Proofs.YtjngkfdclcgfhaaGreatDoor
namespace NM
open AM Go.RowKit
theorem mixed : Tryz.prog.follows .mixedOrders = true := by kernel_rfl
def n11 : NFunc := ⟨13,.seq (.region 1 [
 o1 0 (.alloc [.zsl,.zsl,.zsl,iz,iz,iz,iz,iz,iz,iz,iz,iz,iz,iz,iz,iz,iz,iz]) 0] []) (.seq (.region 6 [
 o1 1 (.build [iz,iz,iz,iz] [(0,1,(ki 4)),(1,1,(ki 8)),(2,1,(ki 0)),(3,1,(ki 1))]) 0,
 o1 2 (.build [iz,iz,iz,iz] [(0,1,(ki 8)),(1,1,(ki 8)),(2,1,(ki 1)),(3,1,(ki 0))]) 0,
 o1 3 (.buildSlice 4 2 true [iz,iz,iz,iz] [(0,(tm 1)),(1,(tm 2))]) 0,
 o1 4 (.buildSlice 1 2 true [iz] [(0,(ki 0)),(1,(ki 1))]) 1,
 o1 5 (.buildSlice 1 1 true [iz] [(0,(ki 1))]) 2,
 o1 6 (.buildSlice 1 2 true [.zsl] [(0,(tm 4)),(1,(tm 5))]) 3,
 o1 7 (.build [iz,.zsl,iz,iz,iz,iz] [(0,1,(ki 0)),(2,1,(ki 8)),(3,1,(ki 4)),(4,1,(ki 3)),(5,1,(ki 1))]) 4,
 o1 8 (.buildSlice 1 2 true [iz] [(0,(ki 0)),(1,(ki 1))]) 4,
 o1 9 (.build [iz,.zsl,iz,iz,iz,iz] [(0,1,(ki 1)),(1,1,(tm 8)),(2,1,(ki 4)),(3,1,(ki 2)),(4,1,(ki 2)),(5,1,(ki 5))]) 5,
 o1 10 (.buildSlice 6 2 true [iz,.zsl,iz,iz,iz,iz] [(0,(tm 7)),(1,(tm 9))]) 5,
 o1 11 (.build [iz,iz,iz,iz] [(0,1,(ki 1)),(1,1,(ki 2)),(2,1,(ki 10)),(3,1,(ki 3))]) 6,
 o1 12 (.build [.zsl,.zsl,.zsl,iz,iz,iz,iz,iz,iz,iz,iz,iz,iz,iz,iz,iz,iz,iz] [(0,1,(tm 3)),(1,1,(tm 6)),(2,1,(tm 10)),(3,1,(ki 3)),(4,4,(tm 11)),(8,1,(ki 4)),(9,1,(ki 1)),(10,1,(ki 12)),(11,1,(ki 100)),(12,1,(ki 50)),(13,1,(ki 5)),(14,1,(ki 4)),(15,1,(ki 3)),(16,1,(ki 6)),(17,1,(ki 4))]) 6,
 oS 18 0 12 6] []) (.ret)),[.cell true 18 0],true⟩
def s11 : Sig := ⟨.nil,[],((.v .spec),[]),[]⟩
def F11 (L : Lp)   : Option Spec :=
 some (Spec.mk [Res.mk 4 8 0 1,Res.mk 8 8 1 0] [[0,1],[1]] [Queue.mk 0 [] 8 4 3 1,Queue.mk 1 [0,1] 4 2 2 5] 3 (Weights.mk 1 2 10 3) 4 1 12 100 50 5 4 3 6 4)
theorem e11 (L : Lp)  (x : s11.args.den) (h : denH s11.heap) : nrun [] L n11 s11 x h = F11 L   := by kernel_rfl
def f11 : Option Spec := F11 (@LN LOOPS) 
@[reducible] def t11 : Ent := ⟨11,s11,fun x h => f11 ⟩
theorem k11 : chkNF Tryz.prog Tryz.f11 n11 = true := by kernel_rfl
theorem ok11 : NOk Tryz.prog t11 := NOk.body (T := []) mixed nall_nil (oneEach_of (by kernel_rfl)) Tryz.func11 k11 (by kernel_rfl) (fun x h => e11 _  x h)
def n43 : NFunc := ⟨12,.seq (.region 4 [
 o1 5 (.box 1 (tm 1)) 0,
 o1 6 (.box 1 (tm 2)) 1,
 o1 7 (.box 1 (tm 3)) 2,
 o1 8 (.alloc [.str [],.nilfn]) 3] []) (.seq (.region 0 [
 oM 9 0 0,
 o1 10 (.makeFunc 62 [(tm 6),(tm 5),(tm 7)]) 0,
 o1 11 (.build [.str [],.nilfn] [(0,1,(tm 9)),(1,1,(tm 10))]) 0,
 oS 2 8 11 0] []) (.ret)),[.cell true 2 8],true⟩
def s43 : Sig := ⟨(.cons (.v .str) (.cons (.v (.int .i64)) (.cons (.v (.int .i64)) (.cons (.v (.int .i64)) .nil)))),[],((.agg (.cons (.v .str) (.cons (.fn 62 (.cons (.iptr (.cons (.v (.int .i64)) .nil) 0) (.cons (.iptr (.cons (.v (.int .i64)) .nil) 0) (.cons (.iptr (.cons (.v (.int .i64)) .nil) 0) .nil)))) .nil))),[]),[]⟩
def F43 (L : Lp)  (word0 : (List UInt8)) (an1 : Int) (lo2 : Int) (hi3 : Int) : Option ((List UInt8) × (((Int × Unit) × ((Int × Unit) × ((Int × Unit) × Unit))) × Unit)) :=
 some (word0,((lo2,()),(an1,()),(hi3,()),()),())
theorem e43 (L : Lp)  (x : s43.args.den) (h : denH s43.heap) : nrun [] L n43 s43 x h = F43 L  x.1 x.2.1 x.2.2.1 x.2.2.2.1 := by kernel_rfl
def f43 : (List UInt8) → Int → Int → Int → Option ((List UInt8) × (((Int × Unit) × ((Int × Unit) × ((Int × Unit) × Unit))) × Unit)) := F43 (@LN LOOPS) 
@[reducible] def t43 : Ent := ⟨43,s43,fun x h => f43 x.1 x.2.1 x.2.2.1 x.2.2.2.1⟩
theorem k43 : chkNF Tryz.prog Tryz.f43 n43 = true := by kernel_rfl
theorem ok43 : NOk Tryz.prog t43 := NOk.body (T := []) mixed nall_nil (oneEach_of (by kernel_rfl)) Tryz.func43 k43 (by kernel_rfl) (fun x h => e43 _  x h)
def n24 : NFunc := ⟨44,.seq (.region 1 [
 o1 1 (.box 18 (tm 0)) 0,
 o1 2 (.move (.const (.zsl))) 1] []) (.seq (.region 41 [
 o4 3 (.makeFunc 39 [(tm 1)]) 0 [],
 o4 4 (.build [.str [],.nilfn] [(0,1,(.const (.str [78,111,100,101,115]))),(1,1,(tm 3))]) 0 [],
 o4 5 (.makeFunc 41 [(tm 1)]) 0 [],
 o4 6 (.build [.str [],.nilfn] [(0,1,(.const (.str [80,97,114,116,115]))),(1,1,(tm 5))]) 0 [],
 o4 7 (.fieldAddr 3 (tm 1)) 0 [],
 o4 8 (.load false 1 (tm 7)) 0 [],
 o4 9 (.call (fc 43) [(false,(.const (.str [85,115,101,114,115]))),(vv 8),(false,(ki 1)),(false,(ki 8))] true 4) 0 [],
 o4 10 (.makeFunc 44 [(tm 1)]) 4 [],
 o4 11 (.build [.str [],.nilfn] [(0,1,(.const (.str [81,117,101,117,101,115]))),(1,1,(tm 10))]) 4 [],
 o4 12 (.makeFunc 46 [(tm 1)]) 4 [],
 o4 13 (.build [.str [],.nilfn] [(0,1,(.const (.str [87,101,105,103,104,116,115]))),(1,1,(tm 12))]) 4 [],
 o4 14 (.fieldAddr 8 (tm 1)) 4 [],
 o4 15 (.load false 1 (tm 14)) 4 [],
 o4 16 (.call (fc 43) [(false,(.const (.str [68,101,99,97,121]))),(vv 15),(false,(ki 1)),(false,(ki 16))] true 4) 4 [0,1,2,3],
 o4 17 (.makeFunc 48 [(tm 1)]) 8 [],
 o4 18 (.build [.str [],.nilfn] [(0,1,(.const (.str [77,111,100,101]))),(1,1,(tm 17))]) 8 [],
 o4 19 (.fieldAddr 10 (tm 1)) 8 [],
 o4 20 (.load false 1 (tm 19)) 8 [],
 o4 21 (.call (fc 43) [(false,(.const (.str [74,111,98,115]))),(vv 20),(false,(ki 1)),(false,(ki 256))] true 4) 8 [0,1,2,3,4,5,6,7],
 o4 22 (.fieldAddr 11 (tm 1)) 12 [],
 o4 23 (.load false 1 (tm 22)) 12 [],
 o4 24 (.call (fc 43) [(false,(.const (.str [73,100,115]))),(vv 23),(false,(ki 1)),(false,(ki 1048576))] true 4) 12 [0,1,2,3,4,5,6,7,8,9,10,11],
 o4 25 (.fieldAddr 12 (tm 1)) 16 [],
 o4 26 (.load false 1 (tm 25)) 16 [],
 o4 27 (.call (fc 43) [(false,(.const (.str [86,101,114,115,105,111,110,115]))),(vv 26),(false,(ki 1)),(false,(ki 65536))] true 4) 16 [0,1,2,3,4,5,6,7,8,9,10,11,12,13,14,15],
 o4 28 (.fieldAddr 13 (tm 1)) 20 [],
 o4 29 (.load false 1 (tm 28)) 20 [],
 o4 30 (.call (fc 43) [(false,(.const (.str [76,105,110,103,101,114]))),(vv 29),(false,(ki 0)),(false,(ki 65536))] true 4) 20 [0,1,2,3,4,5,6,7,8,9,10,11,12,13,14,15,16,17,18,19],
 o4 31 (.fieldAddr 14 (tm 1)) 24 [],
 o4 32 (.load false 1 (tm 31)) 24 [],
 o4 33 (.call (fc 43) [(false,(.const (.str [75,101,101,112]))),(vv 32),(false,(ki 1)),(false,(ki 16))] true 4) 24 [0,1,2,3,4,5,6,7,8,9,10,11,12,13,14,15,16,17,18,19,20,21,22,23],
 o4 34 (.fieldAddr 15 (tm 1)) 28 [],
 o4 35 (.load false 1 (tm 34)) 28 [],
 o4 36 (.call (fc 43) [(false,(.const (.str [73,110]))),(vv 35),(false,(ki 1)),(false,(ki 8))] true 4) 28 [0,1,2,3,4,5,6,7,8,9,10,11,12,13,14,15,16,17,18,19,20,21,22,23,24,25,26,27],
 o4 37 (.fieldAddr 16 (tm 1)) 32 [],
 o4 38 (.load false 1 (tm 37)) 32 [],
 o4 39 (.call (fc 43) [(false,(.const (.str [79,117,116]))),(vv 38),(false,(ki 1)),(false,(ki 16))] true 4) 32 [0,1,2,3,4,5,6,7,8,9,10,11,12,13,14,15,16,17,18,19,20,21,22,23,24,25,26,27,28,29,30,31],
 o4 40 (.fieldAddr 17 (tm 1)) 36 [],
 o4 41 (.load false 1 (tm 40)) 36 [],
 o4 42 (.call (fc 43) [(false,(.const (.str [67,97,99,104,101]))),(vv 41),(false,(ki 0)),(false,(ki 16))] false 4) 36 [0,1,2,3,4,5,6,7,8,9,10,11,12,13,14,15,16,17,18,19,20,21,22,23,24,25,26,27,28,29,30,31,32,33,34,35],
 o4 43 (.buildSlice 2 15 true [.str [],.nilfn] [(0,(tm 4)),(1,(tm 6)),(2,(tm 9)),(3,(tm 11)),(4,(tm 13)),(5,(tm 16)),(6,(tm 18)),(7,(tm 21)),(8,(tm 24)),(9,(tm 27)),(10,(tm 30)),(11,(tm 33)),(12,(tm 36)),(13,(tm 39)),(14,(tm 42))]) 40 [0,1,2,3,4,5,6,7,8,9,10,11,12,13,14,15,16,17,18,19,20,21,22,23,24,25,26,27,28,29,30,31,32,33,34,35,36,37,38,39],
 o4 2 (.move (tm 43)) 41 [0,1,2,3,4,5,6,7,8,9,10,11,12,13,14,15,16,17,18,19,20,21,22,23,24,25,26,27,28,29,30,31,32,33,34,35,36,37,38,39,40]] []) (.ret)),[.tmp 2],true⟩
def s24 : Sig := ⟨(.cons (.v .spec) .nil),[],((.rows 2 (.cons (.cons (.v .str) (.cons (.fn 39 (.cons (.iptr (.cons (.v (.list .res)) (.cons (.v (.list (.list (.int .i64)))) (.cons (.v (.list .queue)) (.cons (.v (.int .i64)) (.cons (.v (.int .i64)) (.cons (.v (.int .i64)) (.cons (.v (.int .i64)) (.cons (.v (.int .i64)) (.cons (.v (.int .i64)) (.cons (.v (.int .i64)) (.cons (.v (.int .i64)) (.cons (.v (.int .i64)) (.cons (.v (.int .i64)) (.cons (.v (.int .i64)) (.cons (.v (.int .i64)) (.cons (.v (.int .i64)) (.cons (.v (.int .i64)) (.cons (.v (.int .i64)) .nil)))))))))))))))))) 0) .nil)) .nil)) (.cons (.cons (.v .str) (.cons (.fn 41 (.cons (.iptr (.cons (.v (.list .res)) (.cons (.v (.list (.list (.int .i64)))) (.cons (.v (.list .queue)) (.cons (.v (.int .i64)) (.cons (.v (.int .i64)) (.cons (.v (.int .i64)) (.cons (.v (.int .i64)) (.cons (.v (.int .i64)) (.cons (.v (.int .i64)) (.cons (.v (.int .i64)) (.cons (.v (.int .i64)) (.cons (.v (.int .i64)) (.cons (.v (.int .i64)) (.cons (.v (.int .i64)) (.cons (.v (.int .i64)) (.cons (.v (.int .i64)) (.cons (.v (.int .i64)) (.cons (.v (.int .i64)) .nil)))))))))))))))))) 0) .nil)) .nil)) (.cons (.cons (.v .str) (.cons (.fn 62 (.cons (.iptr (.cons (.v (.int .i64)) .nil) 0) (.cons (.iptr (.cons (.v (.int .i64)) .nil) 0) (.cons (.iptr (.cons (.v (.int .i64)) .nil) 0) .nil)))) .nil)) (.cons (.cons (.v .str) (.cons (.fn 44 (.cons (.iptr (.cons (.v (.list .res)) (.cons (.v (.list (.list (.int .i64)))) (.cons (.v (.list .queue)) (.cons (.v (.int .i64)) (.cons (.v (.int .i64)) (.cons (.v (.int .i64)) (.cons (.v (.int .i64)) (.cons (.v (.int .i64)) (.cons (.v (.int .i64)) (.cons (.v (.int .i64)) (.cons (.v (.int .i64)) (.cons (.v (.int .i64)) (.cons (.v (.int .i64)) (.cons (.v (.int .i64)) (.cons (.v (.int .i64)) (.cons (.v (.int .i64)) (.cons (.v (.int .i64)) (.cons (.v (.int .i64)) .nil)))))))))))))))))) 0) .nil)) .nil)) (.cons (.cons (.v .str) (.cons (.fn 46 (.cons (.iptr (.cons (.v (.list .res)) (.cons (.v (.list (.list (.int .i64)))) (.cons (.v (.list .queue)) (.cons (.v (.int .i64)) (.cons (.v (.int .i64)) (.cons (.v (.int .i64)) (.cons (.v (.int .i64)) (.cons (.v (.int .i64)) (.cons (.v (.int .i64)) (.cons (.v (.int .i64)) (.cons (.v (.int .i64)) (.cons (.v (.int .i64)) (.cons (.v (.int .i64)) (.cons (.v (.int .i64)) (.cons (.v (.int .i64)) (.cons (.v (.int .i64)) (.cons (.v (.int .i64)) (.cons (.v (.int .i64)) .nil)))))))))))))))))) 0) .nil)) .nil)) (.cons (.cons (.v .str) (.cons (.fn 62 (.cons (.iptr (.cons (.v (.int .i64)) .nil) 0) (.cons (.iptr (.cons (.v (.int .i64)) .nil) 0) (.cons (.iptr (.cons (.v (.int .i64)) .nil) 0) .nil)))) .nil)) (.cons (.cons (.v .str) (.cons (.fn 48 (.cons (.iptr (.cons (.v (.list .res)) (.cons (.v (.list (.list (.int .i64)))) (.cons (.v (.list .queue)) (.cons (.v (.int .i64)) (.cons (.v (.int .i64)) (.cons (.v (.int .i64)) (.cons (.v (.int .i64)) (.cons (.v (.int .i64)) (.cons (.v (.int .i64)) (.cons (.v (.int .i64)) (.cons (.v (.int .i64)) (.cons (.v (.int .i64)) (.cons (.v (.int .i64)) (.cons (.v (.int .i64)) (.cons (.v (.int .i64)) (.cons (.v (.int .i64)) (.cons (.v (.int .i64)) (.cons (.v (.int .i64)) .nil)))))))))))))))))) 0) .nil)) .nil)) (.cons (.cons (.v .str) (.cons (.fn 62 (.cons (.iptr (.cons (.v (.int .i64)) .nil) 0) (.cons (.iptr (.cons (.v (.int .i64)) .nil) 0) (.cons (.iptr (.cons (.v (.int .i64)) .nil) 0) .nil)))) .nil)) (.cons (.cons (.v .str) (.cons (.fn 62 (.cons (.iptr (.cons (.v (.int .i64)) .nil) 0) (.cons (.iptr (.cons (.v (.int .i64)) .nil) 0) (.cons (.iptr (.cons (.v (.int .i64)) .nil) 0) .nil)))) .nil)) (.cons (.cons (.v .str) (.cons (.fn 62 (.cons (.iptr (.cons (.v (.int .i64)) .nil) 0) (.cons (.iptr (.cons (.v (.int .i64)) .nil) 0) (.cons (.iptr (.cons (.v (.int .i64)) .nil) 0) .nil)))) .nil)) (.cons (.cons (.v .str) (.cons (.fn 62 (.cons (.iptr (.cons (.v (.int .i64)) .nil) 0) (.cons (.iptr (.cons (.v (.int .i64)) .nil) 0) (.cons (.iptr (.cons (.v (.int .i64)) .nil) 0) .nil)))) .nil)) (.cons (.cons (.v .str) (.cons (.fn 62 (.cons (.iptr (.cons (.v (.int .i64)) .nil) 0) (.cons (.iptr (.cons (.v (.int .i64)) .nil) 0) (.cons (.iptr (.cons (.v (.int .i64)) .nil) 0) .nil)))) .nil)) (.cons (.cons (.v .str) (.cons (.fn 62 (.cons (.iptr (.cons (.v (.int .i64)) .nil) 0) (.cons (.iptr (.cons (.v (.int .i64)) .nil) 0) (.cons (.iptr (.cons (.v (.int .i64)) .nil) 0) .nil)))) .nil)) (.cons (.cons (.v .str) (.cons (.fn 62 (.cons (.iptr (.cons (.v (.int .i64)) .nil) 0) (.cons (.iptr (.cons (.v (.int .i64)) .nil) 0) (.cons (.iptr (.cons (.v (.int .i64)) .nil) 0) .nil)))) .nil)) (.cons (.cons (.v .str) (.cons (.fn 62 (.cons (.iptr (.cons (.v (.int .i64)) .nil) 0) (.cons (.iptr (.cons (.v (.int .i64)) .nil) 0) (.cons (.iptr (.cons (.v (.int .i64)) .nil) 0) .nil)))) .nil)) .nil)))))))))))))))),[]),[]⟩
@[reducible] def y24 : Type := (((List UInt8) × ((((List Res) × ((List (List Int)) × ((List Queue) × (Int × (Int × (Int × (Int × (Int × (Int × (Int × (Int × (Int × (Int × (Int × (Int × (Int × (Int × (Int × Unit)))))))))))))))))) × Unit) × Unit)) × (((List UInt8) × ((((List Res) × ((List (List Int)) × ((List Queue) × (Int × (Int × (Int × (Int × (Int × (Int × (Int × (Int × (Int × (Int × (Int × (Int × (Int × (Int × (Int × Unit)))))))))))))))))) × Unit) × Unit)) × (((List UInt8) × (((Int × Unit) × ((Int × Unit) × ((Int × Unit) × Unit))) × Unit)) × (((List UInt8) × ((((List Res) × ((List (List Int)) × ((List Queue) × (Int × (Int × (Int × (Int × (Int × (Int × (Int × (Int × (Int × (Int × (Int × (Int × (Int × (Int × (Int × Unit)))))))))))))))))) × Unit) × Unit)) × (((List UInt8) × ((((List Res) × ((List (List Int)) × ((List Queue) × (Int × (Int × (Int × (Int × (Int × (Int × (Int × (Int × (Int × (Int × (Int × (Int × (Int × (Int × (Int × Unit)))))))))))))))))) × Unit) × Unit)) × (((List UInt8) × (((Int × Unit) × ((Int × Unit) × ((Int × Unit) × Unit))) × Unit)) × (((List UInt8) × ((((List Res) × ((List (List Int)) × ((List Queue) × (Int × (Int × (Int × (Int × (Int × (Int × (Int × (Int × (Int × (Int × (Int × (Int × (Int × (Int × (Int × Unit)))))))))))))))))) × Unit) × Unit)) × (((List UInt8) × (((Int × Unit) × ((Int × Unit) × ((Int × Unit) × Unit))) × Unit)) × (((List UInt8) × (((Int × Unit) × ((Int × Unit) × ((Int × Unit) × Unit))) × Unit)) × (((List UInt8) × (((Int × Unit) × ((Int × Unit) × ((Int × Unit) × Unit))) × Unit)) × (((List UInt8) × (((Int × Unit) × ((Int × Unit) × ((Int × Unit) × Unit))) × Unit)) × (((List UInt8) × (((Int × Unit) × ((Int × Unit) × ((Int × Unit) × Unit))) × Unit)) × (((List UInt8) × (((Int × Unit) × ((Int × Unit) × ((Int × Unit) × Unit))) × Unit)) × (((List UInt8) × (((Int × Unit) × ((Int × Unit) × ((Int × Unit) × Unit))) × Unit)) × (((List UInt8) × (((Int × Unit) × ((Int × Unit) × ((Int × Unit) × Unit))) × Unit)) × Unit)))))))))))))))
def F24 (L : Lp) (g43 : (List UInt8) → Int → Int → Int → Option ((List UInt8) × (((Int × Unit) × ((Int × Unit) × ((Int × Unit) × Unit))) × Unit))) (as0 : Spec) : Option y24 :=
 Option.bind (g43 ([85,115,101,114,115] : List UInt8) as0.users 1 8) fun r1 =>
 Option.bind (g43 ([68,101,99,97,121] : List UInt8) as0.decay 1 16) fun r2 =>
 Option.bind (g43 ([74,111,98,115] : List UInt8) as0.jobs 1 256) fun r3 =>
 Option.bind (g43 ([73,100,115] : List UInt8) as0.ids 1 1048576) fun r4 =>
 Option.bind (g43 ([86,101,114,115,105,111,110,115] : List UInt8) as0.versions 1 65536) fun r5 =>
 Option.bind (g43 ([76,105,110,103,101,114] : List UInt8) as0.linger 0 65536) fun r6 =>
 Option.bind (g43 ([75,101,101,112] : List UInt8) as0.keep 1 16) fun r7 =>
 Option.bind (g43 ([73,110] : List UInt8) as0.inn 1 8) fun r8 =>
 Option.bind (g43 ([79,117,116] : List UInt8) as0.out 1 16) fun r9 =>
 Option.bind (g43 ([67,97,99,104,101] : List UInt8) as0.cache 0 16) fun r10 =>
 some ((([78,111,100,101,115] : List UInt8),((as0.nodes,as0.parts,as0.queues,as0.users,as0.weights.age,as0.weights.size,as0.weights.qos,as0.weights.share,as0.decay,as0.mode,as0.jobs,as0.ids,as0.versions,as0.linger,as0.keep,as0.inn,as0.out,as0.cache,()),()),()),((([80,97,114,116,115] : List UInt8),((as0.nodes,as0.parts,as0.queues,as0.users,as0.weights.age,as0.weights.size,as0.weights.qos,as0.weights.share,as0.decay,as0.mode,as0.jobs,as0.ids,as0.versions,as0.linger,as0.keep,as0.inn,as0.out,as0.cache,()),()),()),((r1.1,((r1.2.1.1.1,()),(r1.2.1.2.1.1,()),(r1.2.1.2.2.1.1,()),()),()),((([81,117,101,117,101,115] : List UInt8),((as0.nodes,as0.parts,as0.queues,as0.users,as0.weights.age,as0.weights.size,as0.weights.qos,as0.weights.share,as0.decay,as0.mode,as0.jobs,as0.ids,as0.versions,as0.linger,as0.keep,as0.inn,as0.out,as0.cache,()),()),()),((([87,101,105,103,104,116,115] : List UInt8),((as0.nodes,as0.parts,as0.queues,as0.users,as0.weights.age,as0.weights.size,as0.weights.qos,as0.weights.share,as0.decay,as0.mode,as0.jobs,as0.ids,as0.versions,as0.linger,as0.keep,as0.inn,as0.out,as0.cache,()),()),()),((r2.1,((r2.2.1.1.1,()),(r2.2.1.2.1.1,()),(r2.2.1.2.2.1.1,()),()),()),((([77,111,100,101] : List UInt8),((as0.nodes,as0.parts,as0.queues,as0.users,as0.weights.age,as0.weights.size,as0.weights.qos,as0.weights.share,as0.decay,as0.mode,as0.jobs,as0.ids,as0.versions,as0.linger,as0.keep,as0.inn,as0.out,as0.cache,()),()),()),((r3.1,((r3.2.1.1.1,()),(r3.2.1.2.1.1,()),(r3.2.1.2.2.1.1,()),()),()),((r4.1,((r4.2.1.1.1,()),(r4.2.1.2.1.1,()),(r4.2.1.2.2.1.1,()),()),()),((r5.1,((r5.2.1.1.1,()),(r5.2.1.2.1.1,()),(r5.2.1.2.2.1.1,()),()),()),((r6.1,((r6.2.1.1.1,()),(r6.2.1.2.1.1,()),(r6.2.1.2.2.1.1,()),()),()),((r7.1,((r7.2.1.1.1,()),(r7.2.1.2.1.1,()),(r7.2.1.2.2.1.1,()),()),()),((r8.1,((r8.2.1.1.1,()),(r8.2.1.2.1.1,()),(r8.2.1.2.2.1.1,()),()),()),((r9.1,((r9.2.1.1.1,()),(r9.2.1.2.1.1,()),(r9.2.1.2.2.1.1,()),()),()),((r10.1,((r10.2.1.1.1,()),(r10.2.1.2.1.1,()),(r10.2.1.2.2.1.1,()),()),()),())))))))))))))))
theorem e24 (L : Lp) (g43 : (List UInt8) → Int → Int → Int → Option ((List UInt8) × (((Int × Unit) × ((Int × Unit) × ((Int × Unit) × Unit))) × Unit))) (x : s24.args.den) (h : denH s24.heap) : nrun [⟨43,s43,fun x h => g43 x.1 x.2.1 x.2.2.1 x.2.2.2.1⟩] L n24 s24 x h = F24 L g43 x.1 := by kernel_rfl
def f24 : Spec → Option y24 := F24 (@LN LOOPS) f43
@[reducible] def t24 : Ent := ⟨24,s24,fun x h => f24 x.1⟩
theorem k24 : chkNF Tryz.prog Tryz.f24 n24 = true := by kernel_rfl
theorem ok24 : NOk Tryz.prog t24 := NOk.body (T := [t43]) mixed (nall_cons ok43 nall_nil) (oneEach_of (by kernel_rfl)) Tryz.func24 k24 (by kernel_rfl) (fun x h => e24 _ _ x h)
def n49 : NFunc := ⟨12,.seq (.region 2 [
 o1 1 (.box 4 (tm 0)) 0,
 o1 2 (.alloc [iz,iz,iz,iz]) 1] []) (.seq (.region 0 [
 oF 3 0 1 0,
 oL 4 3 0,
 oF 5 1 1 0,
 oL 6 5 0,
 oF 7 2 1 0,
 oL 8 7 0,
 oF 9 3 1 0,
 oL 10 9 0,
 o1 11 (.build [iz,iz,iz,iz] [(0,1,(tm 4)),(1,1,(tm 6)),(2,1,(tm 8)),(3,1,(tm 10))]) 0,
 oS 4 2 11 0] []) (.ret)),[.cell true 4 2],true⟩
def s49 : Sig := ⟨(.cons (.v .res) .nil),[],((.v (.pair (.int .i64) (.pair (.int .i64) (.pair (.int .i64) (.int .i64))))),[]),[]⟩
def F49 (L : Lp)  (a0 : Res) : Option (Int × (Int × (Int × Int))) :=
 some (a0.cpu,(a0.mem,(a0.gpu,a0.lic)))
theorem e49 (L : Lp)  (x : s49.args.den) (h : denH s49.heap) : nrun [] L n49 s49 x h = F49 L  x.1 := by kernel_rfl
def f49 : Res → Option (Int × (Int × (Int × Int))) := F49 (@LN LOOPS) 
@[reducible] def t49 : Ent := ⟨49,s49,fun x h => f49 x.1⟩
theorem k49 : chkNF Tryz.prog Tryz.f49 n49 = true := by kernel_rfl
theorem ok49 : NOk Tryz.prog t49 := NOk.body (T := []) mixed nall_nil (oneEach_of (by kernel_rfl)) Tryz.func49 k49 (by kernel_rfl) (fun x h => e49 _  x h)
def n25 : NFunc := ⟨17,.seq (.region 1 [
 o1 1 (.box 4 (tm 0)) 0,
 o1 2 (.move kf) 1] []) (.seq (.seq (.region 4 [
 oT 5 4 1 0,
 o1 6 (.call (fc 49) [(vv 5)] false 4) 0,
 o1 7 (.move (ki 0)) 4] []) (.block 0 (.loopU [6,7] 5 (.seq (.region 0 [
 oC 8 .lss 7 4 0] []) (.seq (.cond (tm 8) (.skip) (.exit 0)) (.seq (.block 1 (.seq (.region 0 [
 o1 9 (.indexVal false 4 1 (tm 6) (tm 7)) 0,
 oM 4 9 0] []) (.seq (.region 0 [
 oM 10 4 0,
 oC 11 .lss 10 0 0,
 oM 12 11 0,
 oN 13 4 12 0,
 o2 14 (.bin .gtr (tm 13) (ki 1048576)) 12 0,
 o1 15 (.pick (tm 12) kt (tm 14)) 0] []) (.cond (tm 15) (.seq (.region 0 [
 o1 2 (.move kf) 0] []) (.ret)) (.skip))))) (.region 0 [
 oC 16 .add 7 1 0,
 oM 7 16 0] []))))))) (.seq (.region 0 [
 o1 2 (.move kt) 0] []) (.ret))),[.tmp 2],true⟩
def s25 : Sig := ⟨(.cons (.v .res) .nil),[],((.v .bool),[]),[]⟩
def F25 (L : Lp) (g49 : Res → Option (Int × (Int × (Int × Int)))) (a0 : Res) : Option Bool :=
 Option.bind (g49 a0) fun r1 =>
 cond (decide (r1.1 < 0))
 (some false)
 (cond (decide (1048576 < r1.1))
 (some false)
 (cond (decide (r1.2.1 < 0))
 (some false)
 (cond (decide (1048576 < r1.2.1))
 (some false)
 (cond (decide (r1.2.2.1 < 0))
 (some false)
 (cond (decide (1048576 < r1.2.2.1))
 (some false)
 (cond (decide (r1.2.2.2 < 0))
 (some false)
 (cond (decide (1048576 < r1.2.2.2))
 (some false)
 (some true))))))))
theorem e25 (L : Lp) (g49 : Res → Option (Int × (Int × (Int × Int)))) (x : s25.args.den) (h : denH s25.heap) : nrun [⟨49,s49,fun x h => g49 x.1⟩] L n25 s25 x h = F25 L g49 x.1 := by kernel_rfl
def f25 : Res → Option Bool := F25 (@LN LOOPS) f49
@[reducible] def t25 : Ent := ⟨25,s25,fun x h => f25 x.1⟩
theorem k25 : chkNF Tryz.prog Tryz.f25 n25 = true := by kernel_rfl
theorem ok25 : NOk Tryz.prog t25 := NOk.body (T := [t49]) mixed (nall_cons ok49 nall_nil) (oneEach_of (by kernel_rfl)) Tryz.func25 k25 (by kernel_rfl) (fun x h => e25 _ _ x h)
def n40 : NFunc := ⟨26,.seq (.region 1 [
 o1 1 (.box 18 (tm 0)) 0,
 o1 2 (.move kf) 1] []) (.seq (.seq (.region 0 [
 oF 5 0 1 0,
 oL 6 5 0,
 o1 7 (.len (tm 6)) 0,
 oC 8 .lss 7 1 0,
 oM 9 8 0,
 o2 10 (.fieldAddr 0 (tm 1)) 9 0,
 o2 11 (.load false 1 (tm 10)) 9 0,
 o2 12 (.len (tm 11)) 9 0,
 o2 13 (.bin .gtr (tm 12) (ki 16)) 9 0,
 o1 14 (.pick (tm 9) kt (tm 13)) 0] []) (.cond (tm 14) (.seq (.region 0 [
 o1 2 (.move kf) 0] []) (.ret)) (.skip))) (.seq (.seq (.region 0 [
 oF 15 0 1 0,
 oL 16 15 0,
 o1 17 (.len (tm 16)) 0,
 o1 18 (.move (ki 0)) 0] []) (.block 0 (.loop [16,17,18] ⟨[(18,vI)],[16,17],[]⟩ (.seq (.region 0 [
 oB 19 .lss 18 17 0] []) (.seq (.cond (tm 19) (.skip) (.exit 0)) (.seq (.block 1 (.seq (.region 1 [
 o1 20 (.indexSl 4 (tm 16) (tm 18)) 0,
 oT 21 4 20 0,
 o1 4 (.alloc [iz,iz,iz,iz]) 0,
 oS 4 4 21 1] []) (.seq (.region 4 [
 oT 22 4 4 0,
 o1 23 (.call (fc 25) [(vv 22)] false 4) 0,
 o1 24 (.un .not (tm 23)) 4] []) (.cond (tm 24) (.seq (.region 0 [
 o1 2 (.move kf) 0] []) (.ret)) (.skip))))) (.region 0 [
 oC 25 .add 18 1 0,
 oM 18 25 0] []))))))) (.seq (.region 0 [
 o1 2 (.move kt) 0] []) (.ret)))),[.tmp 2],true⟩
def s40 : Sig := ⟨(.cons (.v .spec) .nil),[],((.v .bool),[]),[]⟩
def l40_0 (g25 : Res → Option Bool) (as0 : Spec) (nx2 : ((Int × Unit) × Unit) → Option Bool) (z3 : Int) : Option Bool :=
 cond (decide (z3 < (List.length as0.nodes : Int)))
 (cond (decide (0 ≤ z3))
 (Option.bind (as0.nodes[Int.toNat z3]?) fun y4 =>
 Option.bind (g25 y4) fun r5 =>
 cond (!r5)
 (some false)
 (nx2 ((IntKind.wrap .i64 (z3 + 1),()),())))
 (none))
 (some true)
def F40 (L : Lp) (g25 : Res → Option Bool) (as0 : Spec) : Option Bool :=
 cond (decide ((List.length as0.nodes : Int) < 1))
 (some false)
 (cond (decide (16 < (List.length as0.nodes : Int)))
 (some false)
 (L (fun (s1 : ((Int × Unit) × Unit)) nx2 => l40_0 g25 as0 nx2 s1.1.1) ((0,()),())))
theorem e40 (L : Lp) (g25 : Res → Option Bool) (x : s40.args.den) (h : denH s40.heap) : nrun [⟨25,s25,fun x h => g25 x.1⟩] L n40 s40 x h = F40 L g25 x.1 := by kernel_rfl
def f40 : Spec → Option Bool := F40 (@LN LOOPS) f25
@[reducible] def t40 : Ent := ⟨40,s40,fun x h => f40 x.1⟩
theorem k40 : chkNF Tryz.prog Tryz.f40 n40 = true := by kernel_rfl
theorem ok40 : NOk Tryz.prog t40 := NOk.body (T := [t25]) mixed (nall_cons ok25 nall_nil) (oneEach_of (by kernel_rfl)) Tryz.func40 k40 (by kernel_rfl) (fun x h => e40 _ _ x h)
def n39 : NFunc := ⟨4,.seq (.region 0 [
 o1 1 (.move kf) 0] []) (.seq (.region 4 [
 oT 2 18 0 0,
 o1 3 (.call (fc 40) [(vv 2)] false 4) 0,
 oM 1 3 4] []) (.ret)),[.tmp 1],true⟩
def s39 : Sig := ⟨(.cons (.iptr (.cons (.v (.list .res)) (.cons (.v (.list (.list (.int .i64)))) (.cons (.v (.list .queue)) (.cons (.v (.int .i64)) (.cons (.v (.int .i64)) (.cons (.v (.int .i64)) (.cons (.v (.int .i64)) (.cons (.v (.int .i64)) (.cons (.v (.int .i64)) (.cons (.v (.int .i64)) (.cons (.v (.int .i64)) (.cons (.v (.int .i64)) (.cons (.v (.int .i64)) (.cons (.v (.int .i64)) (.cons (.v (.int .i64)) (.cons (.v (.int .i64)) (.cons (.v (.int .i64)) (.cons (.v (.int .i64)) .nil)))))))))))))))))) 0) .nil),[],((.v .bool),[]),[]⟩
def F39 (L : Lp) (g40 : Spec → Option Bool) (a0 : (List Res)) (a1 : (List (List Int))) (a2 : (List Queue)) (a3 : Int) (a4 : Int) (a5 : Int) (a6 : Int) (a7 : Int) (a8 : Int) (a9 : Int) (a10 : Int) (a11 : Int) (a12 : Int) (a13 : Int) (a14 : Int) (a15 : Int) (a16 : Int) (a17 : Int) : Option Bool :=
 Option.bind (g40 (Spec.mk a0 a1 a2 a3 (Weights.mk a4 a5 a6 a7) a8 a9 a10 a11 a12 a13 a14 a15 a16 a17)) fun r18 =>
 some r18
theorem e39 (L : Lp) (g40 : Spec → Option Bool) (x : s39.args.den) (h : denH s39.heap) : nrun [⟨40,s40,fun x h => g40 x.1⟩] L n39 s39 x h = F39 L g40 x.1.1 x.1.2.1 x.1.2.2.1 x.1.2.2.2.1 x.1.2.2.2.2.1 x.1.2.2.2.2.2.1 x.1.2.2.2.2.2.2.1 x.1.2.2.2.2.2.2.2.1 x.1.2.2.2.2.2.2.2.2.1 x.1.2.2.2.2.2.2.2.2.2.1 x.1.2.2.2.2.2.2.2.2.2.2.1 x.1.2.2.2.2.2.2.2.2.2.2.2.1 x.1.2.2.2.2.2.2.2.2.2.2.2.2.1 x.1.2.2.2.2.2.2.2.2.2.2.2.2.2.1 x.1.2.2.2.2.2.2.2.2.2.2.2.2.2.2.1 x.1.2.2.2.2.2.2.2.2.2.2.2.2.2.2.2.1 x.1.2.2.2.2.2.2.2.2.2.2.2.2.2.2.2.2.1 x.1.2.2.2.2.2.2.2.2.2.2.2.2.2.2.2.2.2.1 := by kernel_rfl
def f39 : (List Res) → (List (List Int)) → (List Queue) → Int → Int → Int → Int → Int → Int → Int → Int → Int → Int → Int → Int → Int → Int → Int → Option Bool := F39 (@LN LOOPS) f40
@[reducible] def t39 : Ent := ⟨39,s39,fun x h => f39 x.1.1 x.1.2.1 x.1.2.2.1 x.1.2.2.2.1 x.1.2.2.2.2.1 x.1.2.2.2.2.2.1 x.1.2.2.2.2.2.2.1 x.1.2.2.2.2.2.2.2.1 x.1.2.2.2.2.2.2.2.2.1 x.1.2.2.2.2.2.2.2.2.2.1 x.1.2.2.2.2.2.2.2.2.2.2.1 x.1.2.2.2.2.2.2.2.2.2.2.2.1 x.1.2.2.2.2.2.2.2.2.2.2.2.2.1 x.1.2.2.2.2.2.2.2.2.2.2.2.2.2.1 x.1.2.2.2.2.2.2.2.2.2.2.2.2.2.2.1 x.1.2.2.2.2.2.2.2.2.2.2.2.2.2.2.2.1 x.1.2.2.2.2.2.2.2.2.2.2.2.2.2.2.2.2.1 x.1.2.2.2.2.2.2.2.2.2.2.2.2.2.2.2.2.2.1⟩
theorem k39 : chkNF Tryz.prog Tryz.f39 n39 = true := by kernel_rfl
theorem ok39 : NOk Tryz.prog t39 := NOk.body (T := [t40]) mixed (nall_cons ok40 nall_nil) (oneEach_of (by kernel_rfl)) Tryz.func39 k39 (by kernel_rfl) (fun x h => e39 _ _ x h)
def n61 : NFunc := ⟨24,.seq (.region 0 [
 o1 4 (.move kf) 0] []) (.seq (.region 0 [
 o1 5 (.move (.const (.int .i64 (-1)))) 0] []) (.seq (.seq (.region 0 [
 oM 8 0 0,
 o1 9 (.len (tm 8)) 0,
 o1 10 (.move (ki 0)) 0] []) (.block 0 (.loop [1,5,8,9,10] ⟨[(5,vI),(10,vI)],[1,8,9],[]⟩ (.seq (.region 0 [
 oB 11 .lss 10 9 0] []) (.seq (.cond (tm 11) (.skip) (.exit 0)) (.seq (.block 1 (.seq (.region 0 [
 o1 12 (.indexSl 1 (tm 8) (tm 10)) 0,
 oL 13 12 0,
 oM 7 13 0] []) (.seq (.seq (.region 0 [
 oM 14 7 0,
 oM 15 5 0,
 oB 16 .leq 14 15 0,
 oM 17 16 0,
 oN 18 7 17 0,
 oN 19 1 17 0,
 o2 20 (.bin .geq (tm 18) (tm 19)) 17 0,
 o1 21 (.pick (tm 17) kt (tm 20)) 0] []) (.cond (tm 21) (.seq (.region 0 [
 o1 4 (.move kf) 0] []) (.ret)) (.skip))) (.region 0 [
 oM 22 7 0,
 oM 5 22 0] [])))) (.region 0 [
 oC 23 .add 10 1 0,
 oM 10 23 0] []))))))) (.seq (.region 0 [
 o1 4 (.move kt) 0] []) (.ret)))),[.tmp 4],true⟩
def s61 : Sig := ⟨(.cons (.v (.list (.int .i64))) (.cons (.v (.int .i64)) .nil)),[],((.v .bool),[]),[]⟩
def l61_0 (al0 : (List Int)) (end1 : Int) (nx3 : ((Int × (Int × Unit)) × Unit) → Option Bool) (last4 : Int) (z5 : Int) : Option Bool :=
 cond (decide (z5 < (List.length al0 : Int)))
 (cond (decide (0 ≤ z5))
 (Option.bind (al0[Int.toNat z5]?) fun y6 =>
 cond (decide (y6 ≤ last4))
 (some false)
 (cond (decide (end1 ≤ y6))
 (some false)
 (nx3 ((y6,IntKind.wrap .i64 (z5 + 1),()),()))))
 (none))
 (some true)
def F61 (L : Lp)  (al0 : (List Int)) (end1 : Int) : Option Bool :=
 L (fun (s2 : ((Int × (Int × Unit)) × Unit)) nx3 => l61_0 al0 end1 nx3 s2.1.1 s2.1.2.1) (((-1),0,()),())
theorem e61 (L : Lp)  (x : s61.args.den) (h : denH s61.heap) : nrun [] L n61 s61 x h = F61 L  x.1 x.2.1 := by kernel_rfl
def f61 : (List Int) → Int → Option Bool := F61 (@LN LOOPS) 
@[reducible] def t61 : Ent := ⟨61,s61,fun x h => f61 x.1 x.2.1⟩
theorem k61 : chkNF Tryz.prog Tryz.f61 n61 = true := by kernel_rfl
theorem ok61 : NOk Tryz.prog t61 := NOk.body (T := []) mixed nall_nil (oneEach_of (by kernel_rfl)) Tryz.func61 k61 (by kernel_rfl) (fun x h => e61 _  x h)
def n42 : NFunc := ⟨34,.seq (.region 1 [
 o1 1 (.box 18 (tm 0)) 0,
 o1 2 (.move kf) 1] []) (.seq (.seq (.region 0 [
 oF 5 1 1 0,
 oL 6 5 0,
 o1 7 (.len (tm 6)) 0,
 oC 8 .lss 7 1 0,
 oM 9 8 0,
 o2 10 (.fieldAddr 1 (tm 1)) 9 0,
 o2 11 (.load false 1 (tm 10)) 9 0,
 o2 12 (.len (tm 11)) 9 0,
 o2 13 (.bin .gtr (tm 12) (ki 8)) 9 0,
 o1 14 (.pick (tm 9) kt (tm 13)) 0] []) (.cond (tm 14) (.seq (.region 0 [
 o1 2 (.move kf) 0] []) (.ret)) (.skip))) (.seq (.seq (.region 0 [
 oF 15 1 1 0,
 oL 16 15 0,
 o1 17 (.len (tm 16)) 0,
 o1 18 (.move (ki 0)) 0] []) (.block 0 (.loop [1,16,17,18] ⟨[(1,(.ptr 0 0 0)),(18,vI)],[16,17],[.one false .spec]⟩ (.seq (.region 0 [
 oB 19 .lss 18 17 0] []) (.seq (.cond (tm 19) (.skip) (.exit 0)) (.seq (.block 1 (.seq (.region 0 [
 o1 20 (.indexSl 1 (tm 16) (tm 18)) 0,
 oL 21 20 0,
 oM 4 21 0] []) (.seq (.region 4 [
 oM 22 4 0,
 o1 23 (.len (tm 22)) 0,
 oC 24 .lss 23 1 0,
 oM 25 24 0,
 oN 26 4 25 0,
 o2 27 (.fieldAddr 0 (tm 1)) 25 0,
 o2 28 (.load false 1 (tm 27)) 25 0,
 o2 29 (.len (tm 28)) 25 0,
 o2 30 (.call (fc 61) [(vv 26),(vv 29)] false 4) 25 0,
 o2 31 (.un .not (tm 30)) 25 4,
 o1 32 (.pick (tm 25) kt (tm 31)) 4] []) (.cond (tm 32) (.seq (.region 0 [
 o1 2 (.move kf) 0] []) (.ret)) (.skip))))) (.region 0 [
 oC 33 .add 18 1 0,
 oM 18 33 0] []))))))) (.seq (.region 0 [
 o1 2 (.move kt) 0] []) (.ret)))),[.tmp 2],true⟩
def s42 : Sig := ⟨(.cons (.v .spec) .nil),[],((.v .bool),[]),[]⟩
def l42_0 (g61 : (List Int) → Int → Option Bool) (as0 : Spec) (nx2 : ((Unit × (Int × Unit)) × (Spec × Unit)) → Option Bool) (z3 : Int) (z4 : Spec) : Option Bool :=
 cond (decide (z3 < (List.length as0.parts : Int)))
 (cond (decide (0 ≤ z3))
 (Option.bind (as0.parts[Int.toNat z3]?) fun y5 =>
 cond (decide ((List.length y5 : Int) < 1))
 (some false)
 (Option.bind (g61 y5 (List.length z4.nodes : Int)) fun r6 =>
 cond (!r6)
 (some false)
 (nx2 (((),IntKind.wrap .i64 (z3 + 1),()),(z4,())))))
 (none))
 (some true)
def F42 (L : Lp) (g61 : (List Int) → Int → Option Bool) (as0 : Spec) : Option Bool :=
 cond (decide ((List.length as0.parts : Int) < 1))
 (some false)
 (cond (decide (8 < (List.length as0.parts : Int)))
 (some false)
 (L (fun (s1 : ((Unit × (Int × Unit)) × (Spec × Unit))) nx2 => l42_0 g61 as0 nx2 s1.1.2.1 s1.2.1) (((),0,()),(as0,()))))
theorem e42 (L : Lp) (g61 : (List Int) → Int → Option Bool) (x : s42.args.den) (h : denH s42.heap) : nrun [⟨61,s61,fun x h => g61 x.1 x.2.1⟩] L n42 s42 x h = F42 L g61 x.1 := by kernel_rfl
def f42 : Spec → Option Bool := F42 (@LN LOOPS) f61
@[reducible] def t42 : Ent := ⟨42,s42,fun x h => f42 x.1⟩
theorem k42 : chkNF Tryz.prog Tryz.f42 n42 = true := by kernel_rfl
theorem ok42 : NOk Tryz.prog t42 := NOk.body (T := [t61]) mixed (nall_cons ok61 nall_nil) (oneEach_of (by kernel_rfl)) Tryz.func42 k42 (by kernel_rfl) (fun x h => e42 _ _ x h)
def n41 : NFunc := ⟨4,.seq (.region 0 [
 o1 1 (.move kf) 0] []) (.seq (.region 4 [
 oT 2 18 0 0,
 o1 3 (.call (fc 42) [(vv 2)] false 4) 0,
 oM 1 3 4] []) (.ret)),[.tmp 1],true⟩
def s41 : Sig := ⟨(.cons (.iptr (.cons (.v (.list .res)) (.cons (.v (.list (.list (.int .i64)))) (.cons (.v (.list .queue)) (.cons (.v (.int .i64)) (.cons (.v (.int .i64)) (.cons (.v (.int .i64)) (.cons (.v (.int .i64)) (.cons (.v (.int .i64)) (.cons (.v (.int .i64)) (.cons (.v (.int .i64)) (.cons (.v (.int .i64)) (.cons (.v (.int .i64)) (.cons (.v (.int .i64)) (.cons (.v (.int .i64)) (.cons (.v (.int .i64)) (.cons (.v (.int .i64)) (.cons (.v (.int .i64)) (.cons (.v (.int .i64)) .nil)))))))))))))))))) 0) .nil),[],((.v .bool),[]),[]⟩
def F41 (L : Lp) (g42 : Spec → Option Bool) (a0 : (List Res)) (a1 : (List (List Int))) (a2 : (List Queue)) (a3 : Int) (a4 : Int) (a5 : Int) (a6 : Int) (a7 : Int) (a8 : Int) (a9 : Int) (a10 : Int) (a11 : Int) (a12 : Int) (a13 : Int) (a14 : Int) (a15 : Int) (a16 : Int) (a17 : Int) : Option Bool :=
 Option.bind (g42 (Spec.mk a0 a1 a2 a3 (Weights.mk a4 a5 a6 a7) a8 a9 a10 a11 a12 a13 a14 a15 a16 a17)) fun r18 =>
 some r18
theorem e41 (L : Lp) (g42 : Spec → Option Bool) (x : s41.args.den) (h : denH s41.heap) : nrun [⟨42,s42,fun x h => g42 x.1⟩] L n41 s41 x h = F41 L g42 x.1.1 x.1.2.1 x.1.2.2.1 x.1.2.2.2.1 x.1.2.2.2.2.1 x.1.2.2.2.2.2.1 x.1.2.2.2.2.2.2.1 x.1.2.2.2.2.2.2.2.1 x.1.2.2.2.2.2.2.2.2.1 x.1.2.2.2.2.2.2.2.2.2.1 x.1.2.2.2.2.2.2.2.2.2.2.1 x.1.2.2.2.2.2.2.2.2.2.2.2.1 x.1.2.2.2.2.2.2.2.2.2.2.2.2.1 x.1.2.2.2.2.2.2.2.2.2.2.2.2.2.1 x.1.2.2.2.2.2.2.2.2.2.2.2.2.2.2.1 x.1.2.2.2.2.2.2.2.2.2.2.2.2.2.2.2.1 x.1.2.2.2.2.2.2.2.2.2.2.2.2.2.2.2.2.1 x.1.2.2.2.2.2.2.2.2.2.2.2.2.2.2.2.2.2.1 := by kernel_rfl
def f41 : (List Res) → (List (List Int)) → (List Queue) → Int → Int → Int → Int → Int → Int → Int → Int → Int → Int → Int → Int → Int → Int → Int → Option Bool := F41 (@LN LOOPS) f42
@[reducible] def t41 : Ent := ⟨41,s41,fun x h => f41 x.1.1 x.1.2.1 x.1.2.2.1 x.1.2.2.2.1 x.1.2.2.2.2.1 x.1.2.2.2.2.2.1 x.1.2.2.2.2.2.2.1 x.1.2.2.2.2.2.2.2.1 x.1.2.2.2.2.2.2.2.2.1 x.1.2.2.2.2.2.2.2.2.2.1 x.1.2.2.2.2.2.2.2.2.2.2.1 x.1.2.2.2.2.2.2.2.2.2.2.2.1 x.1.2.2.2.2.2.2.2.2.2.2.2.2.1 x.1.2.2.2.2.2.2.2.2.2.2.2.2.2.1 x.1.2.2.2.2.2.2.2.2.2.2.2.2.2.2.1 x.1.2.2.2.2.2.2.2.2.2.2.2.2.2.2.2.1 x.1.2.2.2.2.2.2.2.2.2.2.2.2.2.2.2.2.1 x.1.2.2.2.2.2.2.2.2.2.2.2.2.2.2.2.2.2.1⟩
theorem k41 : chkNF Tryz.prog Tryz.f41 n41 = true := by kernel_rfl
theorem ok41 : NOk Tryz.prog t41 := NOk.body (T := [t42]) mixed (nall_cons ok42 nall_nil) (oneEach_of (by kernel_rfl)) Tryz.func41 k41 (by kernel_rfl) (fun x h => e41 _ _ x h)
def n62 : NFunc := ⟨12,.seq (.region 0 [
 o1 3 (.move kf) 0] []) (.seq (.region 0 [
 oL 4 0 0,
 oL 5 1 0,
 oB 6 .leq 4 5 0,
 oM 7 6 0,
 o3 8 (.load false 1 (tm 1)) 7 0,
 o3 9 (.load false 1 (tm 2)) 7 0,
 o3 10 (.bin .leq (tm 8) (tm 9)) 7 0,
 o1 11 (.pick (tm 7) (tm 10) kf) 0,
 oM 3 11 0] []) (.ret)),[.tmp 3],true⟩
def s62 : Sig := ⟨(.cons (.iptr (.cons (.v (.int .i64)) .nil) 0) (.cons (.iptr (.cons (.v (.int .i64)) .nil) 0) (.cons (.iptr (.cons (.v (.int .i64)) .nil) 0) .nil))),[],((.v .bool),[]),[]⟩
def F62 (L : Lp)  (a0 : Int) (a1 : Int) (a2 : Int) : Option Bool :=
 cond (decide (a0 ≤ a1))
 (some (decide (a1 ≤ a2)))
 (some false)
theorem e62 (L : Lp)  (x : s62.args.den) (h : denH s62.heap) : nrun [] L n62 s62 x h = F62 L  x.1.1 x.2.1.1 x.2.2.1.1 := by kernel_rfl
def f62 : Int → Int → Int → Option Bool := F62 (@LN LOOPS) 
@[reducible] def t62 : Ent := ⟨62,s62,fun x h => f62 x.1.1 x.2.1.1 x.2.2.1.1⟩
theorem k62 : chkNF Tryz.prog Tryz.f62 n62 = true := by kernel_rfl
theorem ok62 : NOk Tryz.prog t62 := NOk.body (T := []) mixed nall_nil (oneEach_of (by kernel_rfl)) Tryz.func62 k62 (by kernel_rfl) (fun x h => e62 _  x h)
def n45 : NFunc := ⟨69,.seq (.region 1 [
 o1 1 (.box 18 (tm 0)) 0,
 o1 2 (.move kf) 1] []) (.seq (.seq (.region 0 [
 oF 7 2 1 0,
 oL 8 7 0,
 o1 9 (.len (tm 8)) 0,
 oC 10 .lss 9 1 0,
 oM 11 10 0,
 o2 12 (.fieldAddr 2 (tm 1)) 11 0,
 o2 13 (.load false 1 (tm 12)) 11 0,
 o2 14 (.len (tm 13)) 11 0,
 o2 15 (.bin .gtr (tm 14) (ki 8)) 11 0,
 o1 16 (.pick (tm 11) kt (tm 15)) 0] []) (.cond (tm 16) (.seq (.region 0 [
 o1 2 (.move kf) 0] []) (.ret)) (.skip))) (.seq (.seq (.region 0 [
 oF 17 2 1 0,
 oL 18 17 0,
 o1 19 (.len (tm 18)) 0,
 o1 20 (.move (ki 0)) 0] []) (.block 0 (.loop [1,18,19,20] ⟨[(1,(.ptr 0 0 0)),(20,vI)],[18,19],[.one false .spec]⟩ (.seq (.region 0 [
 oB 21 .lss 20 19 0] []) (.seq (.cond (tm 21) (.skip) (.exit 0)) (.seq (.block 1 (.seq (.region 1 [
 o1 22 (.indexSl 6 (tm 18) (tm 20)) 0,
 oT 23 6 22 0,
 o1 4 (.alloc [iz,.zsl,iz,iz,iz,iz]) 0,
 oS 6 4 23 1] []) (.seq (.seq (.region 4 [
 oF 24 0 4 0,
 oL 25 24 0,
 oC 26 .lss 25 0 0,
 oM 27 26 0,
 o2 28 (.fieldAddr 0 (tm 4)) 27 0,
 o2 29 (.load false 1 (tm 28)) 27 0,
 o2 30 (.fieldAddr 1 (tm 1)) 27 0,
 o2 31 (.load false 1 (tm 30)) 27 0,
 o2 32 (.len (tm 31)) 27 0,
 o2 33 (.bin .geq (tm 29) (tm 32)) 27 0,
 o1 34 (.pick (tm 27) kt (tm 33)) 0,
 oM 35 34 0,
 o2 36 (.fieldAddr 1 (tm 4)) 35 0,
 o2 37 (.load false 1 (tm 36)) 35 0,
 o2 38 (.fieldAddr 3 (tm 1)) 35 0,
 o2 39 (.load false 1 (tm 38)) 35 0,
 o2 40 (.call (fc 61) [(vv 37),(vv 39)] false 4) 35 0,
 o2 41 (.un .not (tm 40)) 35 4,
 o1 42 (.pick (tm 35) kt (tm 41)) 4] []) (.cond (tm 42) (.seq (.region 0 [
 o1 2 (.move kf) 0] []) (.ret)) (.skip))) (.seq (.seq (.region 0 [
 oF 43 2 4 0,
 oL 44 43 0,
 oF 45 3 4 0,
 oL 46 45 0,
 oF 47 4 4 0,
 oL 48 47 0,
 o1 49 (.build [iz,iz,iz] [(0,1,(tm 44)),(1,1,(tm 46)),(2,1,(tm 48))]) 0,
 o1 50 (.move (ki 0)) 0] []) (.block 2 (.loopU [1,4,18,19,20,49,50] 4 (.seq (.region 0 [
 oC 51 .lss 50 3 0] []) (.seq (.cond (tm 51) (.skip) (.exit 2)) (.seq (.block 3 (.seq (.region 0 [
 o1 52 (.indexVal false 3 1 (tm 49) (tm 50)) 0,
 oM 6 52 0] []) (.seq (.region 0 [
 oM 53 6 0,
 oC 54 .lss 53 1 0,
 oM 55 54 0,
 oN 56 6 55 0,
 o2 57 (.bin .gtr (tm 56) (ki 256)) 55 0,
 o1 58 (.pick (tm 55) kt (tm 57)) 0] []) (.cond (tm 58) (.seq (.region 0 [
 o1 2 (.move kf) 0] []) (.ret)) (.skip))))) (.region 0 [
 oC 59 .add 50 1 0,
 oM 50 59 0] []))))))) (.seq (.region 0 [
 oF 60 5 4 0,
 oL 61 60 0,
 oC 62 .lss 61 0 0,
 oM 63 62 0,
 o2 64 (.fieldAddr 5 (tm 4)) 63 0,
 o2 65 (.load false 1 (tm 64)) 63 0,
 o2 66 (.bin .gtr (tm 65) (ki 100)) 63 0,
 o1 67 (.pick (tm 63) kt (tm 66)) 0] []) (.cond (tm 67) (.seq (.region 0 [
 o1 2 (.move kf) 0] []) (.ret)) (.skip))))))) (.region 0 [
 oC 68 .add 20 1 0,
 oM 20 68 0] []))))))) (.seq (.region 0 [
 o1 2 (.move kt) 0] []) (.ret)))),[.tmp 2],true⟩
def s45 : Sig := ⟨(.cons (.v .spec) .nil),[],((.v .bool),[]),[]⟩
def l45_0 (g61 : (List Int) → Int → Option Bool) (as0 : Spec) (nx2 : ((Unit × (Int × Unit)) × (Spec × Unit)) → Option Bool) (z3 : Int) (z4 : Spec) : Option Bool :=
 cond (decide (z3 < (List.length as0.queues : Int)))
 (cond (decide (0 ≤ z3))
 (Option.bind (as0.queues[Int.toNat z3]?) fun y5 =>
 cond (decide (y5.part < 0))
 (some false)
 (cond (decide ((List.length z4.parts : Int) ≤ y5.part))
 (some false)
 (Option.bind (g61 y5.users z4.users) fun r6 =>
 cond (!r6)
 (some false)
 (cond (decide (y5.maxJobs < 1))
 (some false)
 (cond (decide (256 < y5.maxJobs))
 (some false)
 (cond (decide (y5.maxRun < 1))
 (some false)
 (cond (decide (256 < y5.maxRun))
 (some false)
 (cond (decide (y5.maxUser < 1))
 (some false)
 (cond (decide (256 < y5.maxUser))
 (some false)
 (cond (decide (y5.qos < 0))
 (some false)
 (cond (decide (100 < y5.qos))
 (some false)
 (nx2 (((),IntKind.wrap .i64 (z3 + 1),()),(z4,()))))))))))))))
 (none))
 (some true)
def F45 (L : Lp) (g61 : (List Int) → Int → Option Bool) (as0 : Spec) : Option Bool :=
 cond (decide ((List.length as0.queues : Int) < 1))
 (some false)
 (cond (decide (8 < (List.length as0.queues : Int)))
 (some false)
 (L (fun (s1 : ((Unit × (Int × Unit)) × (Spec × Unit))) nx2 => l45_0 g61 as0 nx2 s1.1.2.1 s1.2.1) (((),0,()),(as0,()))))
theorem e45 (L : Lp) (g61 : (List Int) → Int → Option Bool) (x : s45.args.den) (h : denH s45.heap) : nrun [⟨61,s61,fun x h => g61 x.1 x.2.1⟩] L n45 s45 x h = F45 L g61 x.1 := by kernel_rfl
def f45 : Spec → Option Bool := F45 (@LN LOOPS) f61
@[reducible] def t45 : Ent := ⟨45,s45,fun x h => f45 x.1⟩
theorem k45 : chkNF Tryz.prog Tryz.f45 n45 = true := by kernel_rfl
theorem ok45 : NOk Tryz.prog t45 := NOk.body (T := [t61]) mixed (nall_cons ok61 nall_nil) (oneEach_of (by kernel_rfl)) Tryz.func45 k45 (by kernel_rfl) (fun x h => e45 _ _ x h)
def n44 : NFunc := ⟨4,.seq (.region 0 [
 o1 1 (.move kf) 0] []) (.seq (.region 4 [
 oT 2 18 0 0,
 o1 3 (.call (fc 45) [(vv 2)] false 4) 0,
 oM 1 3 4] []) (.ret)),[.tmp 1],true⟩
def s44 : Sig := ⟨(.cons (.iptr (.cons (.v (.list .res)) (.cons (.v (.list (.list (.int .i64)))) (.cons (.v (.list .queue)) (.cons (.v (.int .i64)) (.cons (.v (.int .i64)) (.cons (.v (.int .i64)) (.cons (.v (.int .i64)) (.cons (.v (.int .i64)) (.cons (.v (.int .i64)) (.cons (.v (.int .i64)) (.cons (.v (.int .i64)) (.cons (.v (.int .i64)) (.cons (.v (.int .i64)) (.cons (.v (.int .i64)) (.cons (.v (.int .i64)) (.cons (.v (.int .i64)) (.cons (.v (.int .i64)) (.cons (.v (.int .i64)) .nil)))))))))))))))))) 0) .nil),[],((.v .bool),[]),[]⟩
def F44 (L : Lp) (g45 : Spec → Option Bool) (a0 : (List Res)) (a1 : (List (List Int))) (a2 : (List Queue)) (a3 : Int) (a4 : Int) (a5 : Int) (a6 : Int) (a7 : Int) (a8 : Int) (a9 : Int) (a10 : Int) (a11 : Int) (a12 : Int) (a13 : Int) (a14 : Int) (a15 : Int) (a16 : Int) (a17 : Int) : Option Bool :=
 Option.bind (g45 (Spec.mk a0 a1 a2 a3 (Weights.mk a4 a5 a6 a7) a8 a9 a10 a11 a12 a13 a14 a15 a16 a17)) fun r18 =>
 some r18
theorem e44 (L : Lp) (g45 : Spec → Option Bool) (x : s44.args.den) (h : denH s44.heap) : nrun [⟨45,s45,fun x h => g45 x.1⟩] L n44 s44 x h = F44 L g45 x.1.1 x.1.2.1 x.1.2.2.1 x.1.2.2.2.1 x.1.2.2.2.2.1 x.1.2.2.2.2.2.1 x.1.2.2.2.2.2.2.1 x.1.2.2.2.2.2.2.2.1 x.1.2.2.2.2.2.2.2.2.1 x.1.2.2.2.2.2.2.2.2.2.1 x.1.2.2.2.2.2.2.2.2.2.2.1 x.1.2.2.2.2.2.2.2.2.2.2.2.1 x.1.2.2.2.2.2.2.2.2.2.2.2.2.1 x.1.2.2.2.2.2.2.2.2.2.2.2.2.2.1 x.1.2.2.2.2.2.2.2.2.2.2.2.2.2.2.1 x.1.2.2.2.2.2.2.2.2.2.2.2.2.2.2.2.1 x.1.2.2.2.2.2.2.2.2.2.2.2.2.2.2.2.2.1 x.1.2.2.2.2.2.2.2.2.2.2.2.2.2.2.2.2.2.1 := by kernel_rfl
def f44 : (List Res) → (List (List Int)) → (List Queue) → Int → Int → Int → Int → Int → Int → Int → Int → Int → Int → Int → Int → Int → Int → Int → Option Bool := F44 (@LN LOOPS) f45
@[reducible] def t44 : Ent := ⟨44,s44,fun x h => f44 x.1.1 x.1.2.1 x.1.2.2.1 x.1.2.2.2.1 x.1.2.2.2.2.1 x.1.2.2.2.2.2.1 x.1.2.2.2.2.2.2.1 x.1.2.2.2.2.2.2.2.1 x.1.2.2.2.2.2.2.2.2.1 x.1.2.2.2.2.2.2.2.2.2.1 x.1.2.2.2.2.2.2.2.2.2.2.1 x.1.2.2.2.2.2.2.2.2.2.2.2.1 x.1.2.2.2.2.2.2.2.2.2.2.2.2.1 x.1.2.2.2.2.2.2.2.2.2.2.2.2.2.1 x.1.2.2.2.2.2.2.2.2.2.2.2.2.2.2.1 x.1.2.2.2.2.2.2.2.2.2.2.2.2.2.2.2.1 x.1.2.2.2.2.2.2.2.2.2.2.2.2.2.2.2.2.1 x.1.2.2.2.2.2.2.2.2.2.2.2.2.2.2.2.2.2.1⟩
theorem k44 : chkNF Tryz.prog Tryz.f44 n44 = true := by kernel_rfl
theorem ok44 : NOk Tryz.prog t44 := NOk.body (T := [t45]) mixed (nall_cons ok45 nall_nil) (oneEach_of (by kernel_rfl)) Tryz.func44 k44 (by kernel_rfl) (fun x h => e44 _ _ x h)
def n47 : NFunc := ⟨24,.seq (.region 1 [
 o1 1 (.box 4 (tm 0)) 0,
 o1 2 (.move kf) 1] []) (.seq (.seq (.region 0 [
 oF 5 0 1 0,
 oL 6 5 0,
 oF 7 1 1 0,
 oL 8 7 0,
 oF 9 2 1 0,
 oL 10 9 0,
 oF 11 3 1 0,
 oL 12 11 0,
 o1 13 (.build [iz,iz,iz,iz] [(0,1,(tm 6)),(1,1,(tm 8)),(2,1,(tm 10)),(3,1,(tm 12))]) 0,
 o1 14 (.move (ki 0)) 0] []) (.block 0 (.loopU [13,14] 5 (.seq (.region 0 [
 oC 15 .lss 14 4 0] []) (.seq (.cond (tm 15) (.skip) (.exit 0)) (.seq (.block 1 (.seq (.region 0 [
 o1 16 (.indexVal false 4 1 (tm 13) (tm 14)) 0,
 oM 4 16 0] []) (.seq (.region 0 [
 oM 17 4 0,
 oC 18 .lss 17 0 0,
 oM 19 18 0,
 oN 20 4 19 0,
 o2 21 (.bin .gtr (tm 20) (ki 1000)) 19 0,
 o1 22 (.pick (tm 19) kt (tm 21)) 0] []) (.cond (tm 22) (.seq (.region 0 [
 o1 2 (.move kf) 0] []) (.ret)) (.skip))))) (.region 0 [
 oC 23 .add 14 1 0,
 oM 14 23 0] []))))))) (.seq (.region 0 [
 o1 2 (.move kt) 0] []) (.ret))),[.tmp 2],true⟩
def s47 : Sig := ⟨(.cons (.v .weights) .nil),[],((.v .bool),[]),[]⟩
def F47 (L : Lp)  (w0 : Weights) : Option Bool :=
 cond (decide (w0.age < 0))
 (some false)
 (cond (decide (1000 < w0.age))
 (some false)
 (cond (decide (w0.size < 0))
 (some false)
 (cond (decide (1000 < w0.size))
 (some false)
 (cond (decide (w0.qos < 0))
 (some false)
 (cond (decide (1000 < w0.qos))
 (some false)
 (cond (decide (w0.share < 0))
 (some false)
 (cond (decide (1000 < w0.share))
 (some false)
 (some true))))))))
theorem e47 (L : Lp)  (x : s47.args.den) (h : denH s47.heap) : nrun [] L n47 s47 x h = F47 L  x.1 := by kernel_rfl
def f47 : Weights → Option Bool := F47 (@LN LOOPS) 
@[reducible] def t47 : Ent := ⟨47,s47,fun x h => f47 x.1⟩
theorem k47 : chkNF Tryz.prog Tryz.f47 n47 = true := by kernel_rfl
theorem ok47 : NOk Tryz.prog t47 := NOk.body (T := []) mixed nall_nil (oneEach_of (by kernel_rfl)) Tryz.func47 k47 (by kernel_rfl) (fun x h => e47 _  x h)
def n46 : NFunc := ⟨5,.seq (.region 0 [
 o1 1 (.move kf) 0] []) (.seq (.region 4 [
 oF 2 4 0 0,
 oT 3 4 2 0,
 o1 4 (.call (fc 47) [(vv 3)] false 4) 0,
 oM 1 4 4] []) (.ret)),[.tmp 1],true⟩
def s46 : Sig := ⟨(.cons (.iptr (.cons (.v (.list .res)) (.cons (.v (.list (.list (.int .i64)))) (.cons (.v (.list .queue)) (.cons (.v (.int .i64)) (.cons (.v (.int .i64)) (.cons (.v (.int .i64)) (.cons (.v (.int .i64)) (.cons (.v (.int .i64)) (.cons (.v (.int .i64)) (.cons (.v (.int .i64)) (.cons (.v (.int .i64)) (.cons (.v (.int .i64)) (.cons (.v (.int .i64)) (.cons (.v (.int .i64)) (.cons (.v (.int .i64)) (.cons (.v (.int .i64)) (.cons (.v (.int .i64)) (.cons (.v (.int .i64)) .nil)))))))))))))))))) 0) .nil),[],((.v .bool),[]),[]⟩
def F46 (L : Lp) (g47 : Weights → Option Bool) (a0 : (List Res)) (a1 : (List (List Int))) (a2 : (List Queue)) (a3 : Int) (a4 : Int) (a5 : Int) (a6 : Int) (a7 : Int) (a8 : Int) (a9 : Int) (a10 : Int) (a11 : Int) (a12 : Int) (a13 : Int) (a14 : Int) (a15 : Int) (a16 : Int) (a17 : Int) : Option Bool :=
 Option.bind (g47 (Weights.mk a4 a5 a6 a7)) fun r18 =>
 some r18
theorem e46 (L : Lp) (g47 : Weights → Option Bool) (x : s46.args.den) (h : denH s46.heap) : nrun [⟨47,s47,fun x h => g47 x.1⟩] L n46 s46 x h = F46 L g47 x.1.1 x.1.2.1 x.1.2.2.1 x.1.2.2.2.1 x.1.2.2.2.2.1 x.1.2.2.2.2.2.1 x.1.2.2.2.2.2.2.1 x.1.2.2.2.2.2.2.2.1 x.1.2.2.2.2.2.2.2.2.1 x.1.2.2.2.2.2.2.2.2.2.1 x.1.2.2.2.2.2.2.2.2.2.2.1 x.1.2.2.2.2.2.2.2.2.2.2.2.1 x.1.2.2.2.2.2.2.2.2.2.2.2.2.1 x.1.2.2.2.2.2.2.2.2.2.2.2.2.2.1 x.1.2.2.2.2.2.2.2.2.2.2.2.2.2.2.1 x.1.2.2.2.2.2.2.2.2.2.2.2.2.2.2.2.1 x.1.2.2.2.2.2.2.2.2.2.2.2.2.2.2.2.2.1 x.1.2.2.2.2.2.2.2.2.2.2.2.2.2.2.2.2.2.1 := by kernel_rfl
def f46 : (List Res) → (List (List Int)) → (List Queue) → Int → Int → Int → Int → Int → Int → Int → Int → Int → Int → Int → Int → Int → Int → Int → Option Bool := F46 (@LN LOOPS) f47
@[reducible] def t46 : Ent := ⟨46,s46,fun x h => f46 x.1.1 x.1.2.1 x.1.2.2.1 x.1.2.2.2.1 x.1.2.2.2.2.1 x.1.2.2.2.2.2.1 x.1.2.2.2.2.2.2.1 x.1.2.2.2.2.2.2.2.1 x.1.2.2.2.2.2.2.2.2.1 x.1.2.2.2.2.2.2.2.2.2.1 x.1.2.2.2.2.2.2.2.2.2.2.1 x.1.2.2.2.2.2.2.2.2.2.2.2.1 x.1.2.2.2.2.2.2.2.2.2.2.2.2.1 x.1.2.2.2.2.2.2.2.2.2.2.2.2.2.1 x.1.2.2.2.2.2.2.2.2.2.2.2.2.2.2.1 x.1.2.2.2.2.2.2.2.2.2.2.2.2.2.2.2.1 x.1.2.2.2.2.2.2.2.2.2.2.2.2.2.2.2.2.1 x.1.2.2.2.2.2.2.2.2.2.2.2.2.2.2.2.2.2.1⟩
theorem k46 : chkNF Tryz.prog Tryz.f46 n46 = true := by kernel_rfl
theorem ok46 : NOk Tryz.prog t46 := NOk.body (T := [t47]) mixed (nall_cons ok47 nall_nil) (oneEach_of (by kernel_rfl)) Tryz.func46 k46 (by kernel_rfl) (fun x h => e46 _ _ x h)
def n48 : NFunc := ⟨10,.seq (.region 0 [
 o1 1 (.move kf) 0] []) (.seq (.region 0 [
 oF 2 9 0 0,
 oL 3 2 0,
 oC 4 .eql 3 1 0,
 oM 5 4 0,
 o2 6 (.fieldAddr 9 (tm 0)) 5 0,
 o2 7 (.load false 1 (tm 6)) 5 0,
 o2 8 (.bin .eql (tm 7) (ki 2)) 5 0,
 o1 9 (.pick (tm 5) kt (tm 8)) 0,
 oM 1 9 0] []) (.ret)),[.tmp 1],true⟩
def s48 : Sig := ⟨(.cons (.iptr (.cons (.v (.list .res)) (.cons (.v (.list (.list (.int .i64)))) (.cons (.v (.list .queue)) (.cons (.v (.int .i64)) (.cons (.v (.int .i64)) (.cons (.v (.int .i64)) (.cons (.v (.int .i64)) (.cons (.v (.int .i64)) (.cons (.v (.int .i64)) (.cons (.v (.int .i64)) (.cons (.v (.int .i64)) (.cons (.v (.int .i64)) (.cons (.v (.int .i64)) (.cons (.v (.int .i64)) (.cons (.v (.int .i64)) (.cons (.v (.int .i64)) (.cons (.v (.int .i64)) (.cons (.v (.int .i64)) .nil)))))))))))))))))) 0) .nil),[],((.v .bool),[]),[]⟩
def F48 (L : Lp)  (a0 : (List Res)) (a1 : (List (List Int))) (a2 : (List Queue)) (a3 : Int) (a4 : Int) (a5 : Int) (a6 : Int) (a7 : Int) (a8 : Int) (a9 : Int) (a10 : Int) (a11 : Int) (a12 : Int) (a13 : Int) (a14 : Int) (a15 : Int) (a16 : Int) (a17 : Int) : Option Bool :=
 cond (decide (a9 = 1))
 (some true)
 (some (decide (a9 = 2)))
theorem e48 (L : Lp)  (x : s48.args.den) (h : denH s48.heap) : nrun [] L n48 s48 x h = F48 L  x.1.1 x.1.2.1 x.1.2.2.1 x.1.2.2.2.1 x.1.2.2.2.2.1 x.1.2.2.2.2.2.1 x.1.2.2.2.2.2.2.1 x.1.2.2.2.2.2.2.2.1 x.1.2.2.2.2.2.2.2.2.1 x.1.2.2.2.2.2.2.2.2.2.1 x.1.2.2.2.2.2.2.2.2.2.2.1 x.1.2.2.2.2.2.2.2.2.2.2.2.1 x.1.2.2.2.2.2.2.2.2.2.2.2.2.1 x.1.2.2.2.2.2.2.2.2.2.2.2.2.2.1 x.1.2.2.2.2.2.2.2.2.2.2.2.2.2.2.1 x.1.2.2.2.2.2.2.2.2.2.2.2.2.2.2.2.1 x.1.2.2.2.2.2.2.2.2.2.2.2.2.2.2.2.2.1 x.1.2.2.2.2.2.2.2.2.2.2.2.2.2.2.2.2.2.1 := by kernel_rfl
def f48 : (List Res) → (List (List Int)) → (List Queue) → Int → Int → Int → Int → Int → Int → Int → Int → Int → Int → Int → Int → Int → Int → Int → Option Bool := F48 (@LN LOOPS) 
@[reducible] def t48 : Ent := ⟨48,s48,fun x h => f48 x.1.1 x.1.2.1 x.1.2.2.1 x.1.2.2.2.1 x.1.2.2.2.2.1 x.1.2.2.2.2.2.1 x.1.2.2.2.2.2.2.1 x.1.2.2.2.2.2.2.2.1 x.1.2.2.2.2.2.2.2.2.1 x.1.2.2.2.2.2.2.2.2.2.1 x.1.2.2.2.2.2.2.2.2.2.2.1 x.1.2.2.2.2.2.2.2.2.2.2.2.1 x.1.2.2.2.2.2.2.2.2.2.2.2.2.1 x.1.2.2.2.2.2.2.2.2.2.2.2.2.2.1 x.1.2.2.2.2.2.2.2.2.2.2.2.2.2.2.1 x.1.2.2.2.2.2.2.2.2.2.2.2.2.2.2.2.1 x.1.2.2.2.2.2.2.2.2.2.2.2.2.2.2.2.2.1 x.1.2.2.2.2.2.2.2.2.2.2.2.2.2.2.2.2.2.1⟩
theorem k48 : chkNF Tryz.prog Tryz.f48 n48 = true := by kernel_rfl
theorem ok48 : NOk Tryz.prog t48 := NOk.body (T := []) mixed nall_nil (oneEach_of (by kernel_rfl)) Tryz.func48 k48 (by kernel_rfl) (fun x h => e48 _  x h)
def n14 : NFunc := ⟨19,.seq (.region 1 [
 o1 1 (.box 18 (tm 0)) 0,
 o1 2 (.move (.const (.str []))) 1] []) (.seq (.seq (.region 4 [
 oT 5 18 1 0,
 o1 6 (.call (fc 24) [(vv 5)] false 4) 0,
 o1 7 (.len (tm 6)) 4,
 o1 8 (.move (ki 0)) 4] []) (.block 0 (.loopU [6,7,8] 16 (.seq (.region 0 [
 oB 9 .lss 8 7 0] []) (.seq (.cond (tm 9) (.skip) (.exit 0)) (.seq (.block 1 (.seq (.region 1 [
 o1 10 (.indexSl 2 (tm 6) (tm 8)) 0,
 oT 11 2 10 0,
 o1 4 (.alloc [.str [],.nilfn]) 0,
 oS 2 4 11 1] []) (.seq (.region 4 [
 oF 12 1 4 0,
 oL 13 12 0,
 o1 14 (.call (tm 13) [] false 4) 0,
 o1 15 (.un .not (tm 14)) 4] []) (.cond (tm 15) (.seq (.region 0 [
 oF 16 0 4 0,
 oL 17 16 0,
 oM 2 17 0] []) (.ret)) (.skip))))) (.region 0 [
 oC 18 .add 8 1 0,
 oM 8 18 0] []))))))) (.seq (.region 0 [
 o1 2 (.move (.const (.str []))) 0] []) (.ret))),[.tmp 2],true⟩
def s14 : Sig := ⟨(.cons (.v .spec) .nil),[],((.v .str),[]),[]⟩
def F14 (L : Lp) (g24 : Spec → Option y24) (g39 : (List Res) → (List (List Int)) → (List Queue) → Int → Int → Int → Int → Int → Int → Int → Int → Int → Int → Int → Int → Int → Int → Int → Option Bool) (g41 : (List Res) → (List (List Int)) → (List Queue) → Int → Int → Int → Int → Int → Int → Int → Int → Int → Int → Int → Int → Int → Int → Int → Option Bool) (g62 : Int → Int → Int → Option Bool) (g44 : (List Res) → (List (List Int)) → (List Queue) → Int → Int → Int → Int → Int → Int → Int → Int → Int → Int → Int → Int → Int → Int → Int → Option Bool) (g46 : (List Res) → (List (List Int)) → (List Queue) → Int → Int → Int → Int → Int → Int → Int → Int → Int → Int → Int → Int → Int → Int → Int → Option Bool) (g48 : (List Res) → (List (List Int)) → (List Queue) → Int → Int → Int → Int → Int → Int → Int → Int → Int → Int → Int → Int → Int → Int → Int → Option Bool) (as0 : Spec) : Option (List UInt8) :=
 Option.bind (g24 as0) fun r1 =>
 Option.bind (g39 r1.1.2.1.1.1 r1.1.2.1.1.2.1 r1.1.2.1.1.2.2.1 r1.1.2.1.1.2.2.2.1 r1.1.2.1.1.2.2.2.2.1 r1.1.2.1.1.2.2.2.2.2.1 r1.1.2.1.1.2.2.2.2.2.2.1 r1.1.2.1.1.2.2.2.2.2.2.2.1 r1.1.2.1.1.2.2.2.2.2.2.2.2.1 r1.1.2.1.1.2.2.2.2.2.2.2.2.2.1 r1.1.2.1.1.2.2.2.2.2.2.2.2.2.2.1 r1.1.2.1.1.2.2.2.2.2.2.2.2.2.2.2.1 r1.1.2.1.1.2.2.2.2.2.2.2.2.2.2.2.2.1 r1.1.2.1.1.2.2.2.2.2.2.2.2.2.2.2.2.2.1 r1.1.2.1.1.2.2.2.2.2.2.2.2.2.2.2.2.2.2.1 r1.1.2.1.1.2.2.2.2.2.2.2.2.2.2.2.2.2.2.2.1 r1.1.2.1.1.2.2.2.2.2.2.2.2.2.2.2.2.2.2.2.2.1 r1.1.2.1.1.2.2.2.2.2.2.2.2.2.2.2.2.2.2.2.2.2.1) fun r2 =>
 cond (!r2)
 (some r1.1.1)
 (Option.bind (g41 r1.2.1.2.1.1.1 r1.2.1.2.1.1.2.1 r1.2.1.2.1.1.2.2.1 r1.2.1.2.1.1.2.2.2.1 r1.2.1.2.1.1.2.2.2.2.1 r1.2.1.2.1.1.2.2.2.2.2.1 r1.2.1.2.1.1.2.2.2.2.2.2.1 r1.2.1.2.1.1.2.2.2.2.2.2.2.1 r1.2.1.2.1.1.2.2.2.2.2.2.2.2.1 r1.2.1.2.1.1.2.2.2.2.2.2.2.2.2.1 r1.2.1.2.1.1.2.2.2.2.2.2.2.2.2.2.1 r1.2.1.2.1.1.2.2.2.2.2.2.2.2.2.2.2.1 r1.2.1.2.1.1.2.2.2.2.2.2.2.2.2.2.2.2.1 r1.2.1.2.1.1.2.2.2.2.2.2.2.2.2.2.2.2.2.1 r1.2.1.2.1.1.2.2.2.2.2.2.2.2.2.2.2.2.2.2.1 r1.2.1.2.1.1.2.2.2.2.2.2.2.2.2.2.2.2.2.2.2.1 r1.2.1.2.1.1.2.2.2.2.2.2.2.2.2.2.2.2.2.2.2.2.1 r1.2.1.2.1.1.2.2.2.2.2.2.2.2.2.2.2.2.2.2.2.2.2.1) fun r3 =>
 cond (!r3)
 (some r1.2.1.1)
 (Option.bind (g62 r1.2.2.1.2.1.1.1 r1.2.2.1.2.1.2.1.1 r1.2.2.1.2.1.2.2.1.1) fun r4 =>
 cond (!r4)
 (some r1.2.2.1.1)
 (Option.bind (g44 r1.2.2.2.1.2.1.1.1 r1.2.2.2.1.2.1.1.2.1 r1.2.2.2.1.2.1.1.2.2.1 r1.2.2.2.1.2.1.1.2.2.2.1 r1.2.2.2.1.2.1.1.2.2.2.2.1 r1.2.2.2.1.2.1.1.2.2.2.2.2.1 r1.2.2.2.1.2.1.1.2.2.2.2.2.2.1 r1.2.2.2.1.2.1.1.2.2.2.2.2.2.2.1 r1.2.2.2.1.2.1.1.2.2.2.2.2.2.2.2.1 r1.2.2.2.1.2.1.1.2.2.2.2.2.2.2.2.2.1 r1.2.2.2.1.2.1.1.2.2.2.2.2.2.2.2.2.2.1 r1.2.2.2.1.2.1.1.2.2.2.2.2.2.2.2.2.2.2.1 r1.2.2.2.1.2.1.1.2.2.2.2.2.2.2.2.2.2.2.2.1 r1.2.2.2.1.2.1.1.2.2.2.2.2.2.2.2.2.2.2.2.2.1 r1.2.2.2.1.2.1.1.2.2.2.2.2.2.2.2.2.2.2.2.2.2.1 r1.2.2.2.1.2.1.1.2.2.2.2.2.2.2.2.2.2.2.2.2.2.2.1 r1.2.2.2.1.2.1.1.2.2.2.2.2.2.2.2.2.2.2.2.2.2.2.2.1 r1.2.2.2.1.2.1.1.2.2.2.2.2.2.2.2.2.2.2.2.2.2.2.2.2.1) fun r5 =>
 cond (!r5)
 (some r1.2.2.2.1.1)
 (Option.bind (g46 r1.2.2.2.2.1.2.1.1.1 r1.2.2.2.2.1.2.1.1.2.1 r1.2.2.2.2.1.2.1.1.2.2.1 r1.2.2.2.2.1.2.1.1.2.2.2.1 r1.2.2.2.2.1.2.1.1.2.2.2.2.1 r1.2.2.2.2.1.2.1.1.2.2.2.2.2.1 r1.2.2.2.2.1.2.1.1.2.2.2.2.2.2.1 r1.2.2.2.2.1.2.1.1.2.2.2.2.2.2.2.1 r1.2.2.2.2.1.2.1.1.2.2.2.2.2.2.2.2.1 r1.2.2.2.2.1.2.1.1.2.2.2.2.2.2.2.2.2.1 r1.2.2.2.2.1.2.1.1.2.2.2.2.2.2.2.2.2.2.1 r1.2.2.2.2.1.2.1.1.2.2.2.2.2.2.2.2.2.2.2.1 r1.2.2.2.2.1.2.1.1.2.2.2.2.2.2.2.2.2.2.2.2.1 r1.2.2.2.2.1.2.1.1.2.2.2.2.2.2.2.2.2.2.2.2.2.1 r1.2.2.2.2.1.2.1.1.2.2.2.2.2.2.2.2.2.2.2.2.2.2.1 r1.2.2.2.2.1.2.1.1.2.2.2.2.2.2.2.2.2.2.2.2.2.2.2.1 r1.2.2.2.2.1.2.1.1.2.2.2.2.2.2.2.2.2.2.2.2.2.2.2.2.1 r1.2.2.2.2.1.2.1.1.2.2.2.2.2.2.2.2.2.2.2.2.2.2.2.2.2.1) fun r6 =>
 cond (!r6)
 (some r1.2.2.2.2.1.1)
 (Option.bind (g62 r1.2.2.2.2.2.1.2.1.1.1 r1.2.2.2.2.2.1.2.1.2.1.1 r1.2.2.2.2.2.1.2.1.2.2.1.1) fun r7 =>
 cond (!r7)
 (some r1.2.2.2.2.2.1.1)
 (Option.bind (g48 r1.2.2.2.2.2.2.1.2.1.1.1 r1.2.2.2.2.2.2.1.2.1.1.2.1 r1.2.2.2.2.2.2.1.2.1.1.2.2.1 r1.2.2.2.2.2.2.1.2.1.1.2.2.2.1 r1.2.2.2.2.2.2.1.2.1.1.2.2.2.2.1 r1.2.2.2.2.2.2.1.2.1.1.2.2.2.2.2.1 r1.2.2.2.2.2.2.1.2.1.1.2.2.2.2.2.2.1 r1.2.2.2.2.2.2.1.2.1.1.2.2.2.2.2.2.2.1 r1.2.2.2.2.2.2.1.2.1.1.2.2.2.2.2.2.2.2.1 r1.2.2.2.2.2.2.1.2.1.1.2.2.2.2.2.2.2.2.2.1 r1.2.2.2.2.2.2.1.2.1.1.2.2.2.2.2.2.2.2.2.2.1 r1.2.2.2.2.2.2.1.2.1.1.2.2.2.2.2.2.2.2.2.2.2.1 r1.2.2.2.2.2.2.1.2.1.1.2.2.2.2.2.2.2.2.2.2.2.2.1 r1.2.2.2.2.2.2.1.2.1.1.2.2.2.2.2.2.2.2.2.2.2.2.2.1 r1.2.2.2.2.2.2.1.2.1.1.2.2.2.2.2.2.2.2.2.2.2.2.2.2.1 r1.2.2.2.2.2.2.1.2.1.1.2.2.2.2.2.2.2.2.2.2.2.2.2.2.2.1 r1.2.2.2.2.2.2.1.2.1.1.2.2.2.2.2.2.2.2.2.2.2.2.2.2.2.2.1 r1.2.2.2.2.2.2.1.2.1.1.2.2.2.2.2.2.2.2.2.2.2.2.2.2.2.2.2.1) fun r8 =>
 cond (!r8)
 (some r1.2.2.2.2.2.2.1.1)
 (Option.bind (g62 r1.2.2.2.2.2.2.2.1.2.1.1.1 r1.2.2.2.2.2.2.2.1.2.1.2.1.1 r1.2.2.2.2.2.2.2.1.2.1.2.2.1.1) fun r9 =>
 cond (!r9)
 (some r1.2.2.2.2.2.2.2.1.1)
 (Option.bind (g62 r1.2.2.2.2.2.2.2.2.1.2.1.1.1 r1.2.2.2.2.2.2.2.2.1.2.1.2.1.1 r1.2.2.2.2.2.2.2.2.1.2.1.2.2.1.1) fun r10 =>
 cond (!r10)
 (some r1.2.2.2.2.2.2.2.2.1.1)
 (Option.bind (g62 r1.2.2.2.2.2.2.2.2.2.1.2.1.1.1 r1.2.2.2.2.2.2.2.2.2.1.2.1.2.1.1 r1.2.2.2.2.2.2.2.2.2.1.2.1.2.2.1.1) fun r11 =>
 cond (!r11)
 (some r1.2.2.2.2.2.2.2.2.2.1.1)
 (Option.bind (g62 r1.2.2.2.2.2.2.2.2.2.2.1.2.1.1.1 r1.2.2.2.2.2.2.2.2.2.2.1.2.1.2.1.1 r1.2.2.2.2.2.2.2.2.2.2.1.2.1.2.2.1.1) fun r12 =>
 cond (!r12)
 (some r1.2.2.2.2.2.2.2.2.2.2.1.1)
 (Option.bind (g62 r1.2.2.2.2.2.2.2.2.2.2.2.1.2.1.1.1 r1.2.2.2.2.2.2.2.2.2.2.2.1.2.1.2.1.1 r1.2.2.2.2.2.2.2.2.2.2.2.1.2.1.2.2.1.1) fun r13 =>
 cond (!r13)
 (some r1.2.2.2.2.2.2.2.2.2.2.2.1.1)
 (Option.bind (g62 r1.2.2.2.2.2.2.2.2.2.2.2.2.1.2.1.1.1 r1.2.2.2.2.2.2.2.2.2.2.2.2.1.2.1.2.1.1 r1.2.2.2.2.2.2.2.2.2.2.2.2.1.2.1.2.2.1.1) fun r14 =>
 cond (!r14)
 (some r1.2.2.2.2.2.2.2.2.2.2.2.2.1.1)
 (Option.bind (g62 r1.2.2.2.2.2.2.2.2.2.2.2.2.2.1.2.1.1.1 r1.2.2.2.2.2.2.2.2.2.2.2.2.2.1.2.1.2.1.1 r1.2.2.2.2.2.2.2.2.2.2.2.2.2.1.2.1.2.2.1.1) fun r15 =>
 cond (!r15)
 (some r1.2.2.2.2.2.2.2.2.2.2.2.2.2.1.1)
 (Option.bind (g62 r1.2.2.2.2.2.2.2.2.2.2.2.2.2.2.1.2.1.1.1 r1.2.2.2.2.2.2.2.2.2.2.2.2.2.2.1.2.1.2.1.1 r1.2.2.2.2.2.2.2.2.2.2.2.2.2.2.1.2.1.2.2.1.1) fun r16 =>
 cond (!r16)
 (some r1.2.2.2.2.2.2.2.2.2.2.2.2.2.2.1.1)
 (some ([] : List UInt8))))))))))))))))
theorem e14 (L : Lp) (g24 : Spec → Option y24) (g39 : (List Res) → (List (List Int)) → (List Queue) → Int → Int → Int → Int → Int → Int → Int → Int → Int → Int → Int → Int → Int → Int → Int → Option Bool) (g41 : (List Res) → (List (List Int)) → (List Queue) → Int → Int → Int → Int → Int → Int → Int → Int → Int → Int → Int → Int → Int → Int → Int → Option Bool) (g62 : Int → Int → Int → Option Bool) (g44 : (List Res) → (List (List Int)) → (List Queue) → Int → Int → Int → Int → Int → Int → Int → Int → Int → Int → Int → Int → Int → Int → Int → Option Bool) (g46 : (List Res) → (List (List Int)) → (List Queue) → Int → Int → Int → Int → Int → Int → Int → Int → Int → Int → Int → Int → Int → Int → Int → Option Bool) (g48 : (List Res) → (List (List Int)) → (List Queue) → Int → Int → Int → Int → Int → Int → Int → Int → Int → Int → Int → Int → Int → Int → Int → Option Bool) (x : s14.args.den) (h : denH s14.heap) : nrun [⟨24,s24,fun x h => g24 x.1⟩,⟨39,s39,fun x h => g39 x.1.1 x.1.2.1 x.1.2.2.1 x.1.2.2.2.1 x.1.2.2.2.2.1 x.1.2.2.2.2.2.1 x.1.2.2.2.2.2.2.1 x.1.2.2.2.2.2.2.2.1 x.1.2.2.2.2.2.2.2.2.1 x.1.2.2.2.2.2.2.2.2.2.1 x.1.2.2.2.2.2.2.2.2.2.2.1 x.1.2.2.2.2.2.2.2.2.2.2.2.1 x.1.2.2.2.2.2.2.2.2.2.2.2.2.1 x.1.2.2.2.2.2.2.2.2.2.2.2.2.2.1 x.1.2.2.2.2.2.2.2.2.2.2.2.2.2.2.1 x.1.2.2.2.2.2.2.2.2.2.2.2.2.2.2.2.1 x.1.2.2.2.2.2.2.2.2.2.2.2.2.2.2.2.2.1 x.1.2.2.2.2.2.2.2.2.2.2.2.2.2.2.2.2.2.1⟩,⟨41,s41,fun x h => g41 x.1.1 x.1.2.1 x.1.2.2.1 x.1.2.2.2.1 x.1.2.2.2.2.1 x.1.2.2.2.2.2.1 x.1.2.2.2.2.2.2.1 x.1.2.2.2.2.2.2.2.1 x.1.2.2.2.2.2.2.2.2.1 x.1.2.2.2.2.2.2.2.2.2.1 x.1.2.2.2.2.2.2.2.2.2.2.1 x.1.2.2.2.2.2.2.2.2.2.2.2.1 x.1.2.2.2.2.2.2.2.2.2.2.2.2.1 x.1.2.2.2.2.2.2.2.2.2.2.2.2.2.1 x.1.2.2.2.2.2.2.2.2.2.2.2.2.2.2.1 x.1.2.2.2.2.2.2.2.2.2.2.2.2.2.2.2.1 x.1.2.2.2.2.2.2.2.2.2.2.2.2.2.2.2.2.1 x.1.2.2.2.2.2.2.2.2.2.2.2.2.2.2.2.2.2.1⟩,⟨62,s62,fun x h => g62 x.1.1 x.2.1.1 x.2.2.1.1⟩,⟨44,s44,fun x h => g44 x.1.1 x.1.2.1 x.1.2.2.1 x.1.2.2.2.1 x.1.2.2.2.2.1 x.1.2.2.2.2.2.1 x.1.2.2.2.2.2.2.1 x.1.2.2.2.2.2.2.2.1 x.1.2.2.2.2.2.2.2.2.1 x.1.2.2.2.2.2.2.2.2.2.1 x.1.2.2.2.2.2.2.2.2.2.2.1 x.1.2.2.2.2.2.2.2.2.2.2.2.1 x.1.2.2.2.2.2.2.2.2.2.2.2.2.1 x.1.2.2.2.2.2.2.2.2.2.2.2.2.2.1 x.1.2.2.2.2.2.2.2.2.2.2.2.2.2.2.1 x.1.2.2.2.2.2.2.2.2.2.2.2.2.2.2.2.1 x.1.2.2.2.2.2.2.2.2.2.2.2.2.2.2.2.2.1 x.1.2.2.2.2.2.2.2.2.2.2.2.2.2.2.2.2.2.1⟩,⟨46,s46,fun x h => g46 x.1.1 x.1.2.1 x.1.2.2.1 x.1.2.2.2.1 x.1.2.2.2.2.1 x.1.2.2.2.2.2.1 x.1.2.2.2.2.2.2.1 x.1.2.2.2.2.2.2.2.1 x.1.2.2.2.2.2.2.2.2.1 x.1.2.2.2.2.2.2.2.2.2.1 x.1.2.2.2.2.2.2.2.2.2.2.1 x.1.2.2.2.2.2.2.2.2.2.2.2.1 x.1.2.2.2.2.2.2.2.2.2.2.2.2.1 x.1.2.2.2.2.2.2.2.2.2.2.2.2.2.1 x.1.2.2.2.2.2.2.2.2.2.2.2.2.2.2.1 x.1.2.2.2.2.2.2.2.2.2.2.2.2.2.2.2.1 x.1.2.2.2.2.2.2.2.2.2.2.2.2.2.2.2.2.1 x.1.2.2.2.2.2.2.2.2.2.2.2.2.2.2.2.2.2.1⟩,⟨48,s48,fun x h => g48 x.1.1 x.1.2.1 x.1.2.2.1 x.1.2.2.2.1 x.1.2.2.2.2.1 x.1.2.2.2.2.2.1 x.1.2.2.2.2.2.2.1 x.1.2.2.2.2.2.2.2.1 x.1.2.2.2.2.2.2.2.2.1 x.1.2.2.2.2.2.2.2.2.2.1 x.1.2.2.2.2.2.2.2.2.2.2.1 x.1.2.2.2.2.2.2.2.2.2.2.2.1 x.1.2.2.2.2.2.2.2.2.2.2.2.2.1 x.1.2.2.2.2.2.2.2.2.2.2.2.2.2.1 x.1.2.2.2.2.2.2.2.2.2.2.2.2.2.2.1 x.1.2.2.2.2.2.2.2.2.2.2.2.2.2.2.2.1 x.1.2.2.2.2.2.2.2.2.2.2.2.2.2.2.2.2.1 x.1.2.2.2.2.2.2.2.2.2.2.2.2.2.2.2.2.2.1⟩] L n14 s14 x h = F14 L g24 g39 g41 g62 g44 g46 g48 x.1 := by kernel_rfl
def f14 : Spec → Option (List UInt8) := F14 (@LN LOOPS) f24 f39 f41 f62 f44 f46 f48
@[reducible] def t14 : Ent := ⟨14,s14,fun x h => f14 x.1⟩
theorem k14 : chkNF Tryz.prog Tryz.f14 n14 = true := by kernel_rfl
theorem ok14 : NOk Tryz.prog t14 := NOk.body (T := [t24,t39,t41,t62,t44,t46,t48]) mixed (nall_cons ok24 (nall_cons ok39 (nall_cons ok41 (nall_cons ok62 (nall_cons ok44 (nall_cons ok46 (nall_cons ok48 nall_nil))))))) (oneEach_of (by kernel_rfl)) Tryz.func14 k14 (by kernel_rfl) (fun x h => e14 _ _ _ _ _ _ _ _ x h)
def n12 : NFunc := ⟨6,.seq (.region 1 [
 o1 1 (.box 18 (tm 0)) 0,
 o1 2 (.move kf) 1] []) (.seq (.region 4 [
 oT 3 18 1 0,
 o1 4 (.call (fc 14) [(vv 3)] false 4) 0,
 o1 5 (.bin .eql (tm 4) (.const (.str []))) 4,
 oM 2 5 4] []) (.ret)),[.tmp 2],true⟩
def s12 : Sig := ⟨(.cons (.v .spec) .nil),[],((.v .bool),[]),[]⟩
def F12 (L : Lp) (g14 : Spec → Option (List UInt8)) (as0 : Spec) : Option Bool :=
 Option.bind (g14 as0) fun r1 =>
 some (decide (r1 = ([] : List UInt8)))
theorem e12 (L : Lp) (g14 : Spec → Option (List UInt8)) (x : s12.args.den) (h : denH s12.heap) : nrun [⟨14,s14,fun x h => g14 x.1⟩] L n12 s12 x h = F12 L g14 x.1 := by kernel_rfl
def f12 : Spec → Option Bool := F12 (@LN LOOPS) f14
@[reducible] def t12 : Ent := ⟨12,s12,fun x h => f12 x.1⟩
theorem k12 : chkNF Tryz.prog Tryz.f12 n12 = true := by kernel_rfl
theorem ok12 : NOk Tryz.prog t12 := NOk.body (T := [t14]) mixed (nall_cons ok14 nall_nil) (oneEach_of (by kernel_rfl)) Tryz.func12 k12 (by kernel_rfl) (fun x h => e12 _ _ x h)
def n38 : NFunc := ⟨44,.seq (.region 2 [
 o1 2 (.box 4 (tm 0)) 0,
 o1 3 (.box 4 (tm 1)) 1,
 o1 4 (.move (ki 0)) 2] []) (.seq (.seq (.region 8 [
 oT 9 4 2 0,
 o1 10 (.call (fc 25) [(vv 9)] false 4) 0,
 o1 11 (.un .not (tm 10)) 4,
 oM 12 11 4,
 o2 13 (.load true 4 (tm 3)) 12 4,
 o2 14 (.call (fc 25) [(vv 13)] false 4) 12 4,
 o2 15 (.un .not (tm 14)) 12 8,
 o1 16 (.pick (tm 12) kt (tm 15)) 8,
 oM 17 16 8,
 o2 18 (.load true 4 (tm 3)) 17 8,
 o2 19 (.build [iz,iz,iz,iz] []) 17 8,
 o2 20 (.eqAgg (false,[.int .i64,.int .i64,.int .i64,.int .i64]) (tm 18) (tm 19)) 17 8,
 o1 21 (.pick (tm 17) kt (tm 20)) 8] []) (.cond (tm 21) (.seq (.region 0 [
 o1 4 (.move (ki 0)) 0] []) (.ret)) (.skip))) (.seq (.region 0 [
 o1 5 (.move (ki 64)) 0] []) (.seq (.region 10 [
 o4 22 (.load true 4 (tm 2)) 0 [],
 o4 23 (.call (fc 49) [(vv 22)] true 4) 0 [],
 o4 24 (.load true 4 (tm 3)) 4 [],
 o4 25 (.call (fc 49) [(vv 24)] true 4) 4 [0,1,2,3],
 o4 6 (.alloc [iz,iz,iz,iz]) 8 [],
 o4 7 (.alloc [iz,iz,iz,iz]) 9 [],
 ⟨none,.store 4 (tm 6) (tm 23),none,10,(some ([0,1,2,3,4,5,6,7,8,9],none))⟩,
 ⟨none,.store 4 (tm 7) (tm 25),none,10,(some ([0,1,2,3,4,5,6,7,8,9],none))⟩] []) (.seq (.seq (.region 0 [
 o1 26 (.move (ki 0)) 0] []) (.block 0 (.loop [5,6,7,26] ⟨[(5,vI),(6,(.ptr 0 0 0)),(7,(.ptr 1 0 0)),(26,vI)],[],[.one false (.pair (.int .i64) (.pair (.int .i64) (.pair (.int .i64) (.int .i64)))),.one false (.pair (.int .i64) (.pair (.int .i64) (.pair (.int .i64) (.int .i64))))]⟩ (.seq (.region 0 [
 oC 27 .lss 26 4 0] []) (.seq (.cond (tm 27) (.skip) (.exit 0)) (.seq (.meet [5,6,7,26] [] ⟨[(5,vI),(6,(.ptr 0 0 0)),(7,(.ptr 1 0 0))],[26],[.one false (.pair (.int .i64) (.pair (.int .i64) (.pair (.int .i64) (.int .i64)))),.one false (.pair (.int .i64) (.pair (.int .i64) (.pair (.int .i64) (.int .i64))))]⟩ (.block 1 (.seq (.region 0 [
 oM 28 26 0,
 oM 8 28 0] []) (.seq (.meet [6,7,26,8,5,32] [] ⟨[(6,(.ptr 0 0 0)),(7,(.ptr 1 0 0)),(32,(.v .bool))],[5,8,26],[.one false (.pair (.int .i64) (.pair (.int .i64) (.pair (.int .i64) (.int .i64)))),.one false (.pair (.int .i64) (.pair (.int .i64) (.pair (.int .i64) (.int .i64))))]⟩ (.region 0 [
 oM 29 8 0,
 o1 30 (.indexArr 4 1 (tm 7) (tm 29)) 0,
 oL 31 30 0,
 oC 32 .gtr 31 0 0] [⟨30,none,some (29,4)⟩])) (.cond (tm 32) (.region 0 [
 o4 33 (.move (tm 5)) 0 [],
 o4 34 (.move (tm 8)) 0 [],
 o4 35 (.indexArr 4 1 (tm 6) (tm 34)) 0 [],
 o4 36 (.load false 1 (tm 35)) 0 [],
 o4 37 (.move (tm 8)) 0 [],
 o4 38 (.indexArr 4 1 (tm 7) (tm 37)) 0 [],
 o4 39 (.load false 1 (tm 38)) 0 [],
 o4 40 (.bin .quo (tm 36) (tm 39)) 0 [],
 o4 41 (.minmax false (tm 33) (tm 40)) 0 [],
 o4 5 (.move (tm 41)) 0 []] [⟨35,none,some (34,4)⟩,⟨38,none,some (37,4)⟩]) (.skip)))))) (.region 0 [
 oC 42 .add 26 1 0,
 oM 26 42 0] []))))))) (.seq (.region 0 [
 oM 43 5 0,
 oM 4 43 0] []) (.ret)))))),[.tmp 4],true⟩
def s38 : Sig := ⟨(.cons (.v .res) (.cons (.v .res) .nil)),[],((.v (.int .i64)),[]),[]⟩
def l38_0  (nx7 : ((Int × (Unit × (Unit × (Int × Unit)))) × ((Int × (Int × (Int × Int))) × ((Int × (Int × (Int × Int))) × Unit))) → Option Int) (zn8 : Int) (z9 : Int) (z10 : (Int × (Int × (Int × Int)))) (z11 : (Int × (Int × (Int × Int)))) : Option Int :=
 cond (decide (z9 < 4))
 (Option.bind (α := ((Int × (Unit × (Unit × Unit))) × ((Int × (Int × (Int × Int))) × ((Int × (Int × (Int × Int))) × Unit))))
 (Option.bind (α := ((Unit × (Unit × (Bool × Unit))) × ((Int × (Int × (Int × Int))) × ((Int × (Int × (Int × Int))) × Unit))))
 (cond (decide (z9 = 3))
 (some (((),(),decide (0 < z11.2.2.2),()),(z10,z11,())))
 (cond (decide (z9 = 2))
 (some (((),(),decide (0 < z11.2.2.1),()),(z10,z11,())))
 (cond (decide (z9 = 1))
 (some (((),(),decide (0 < z11.2.1),()),(z10,z11,())))
 (cond (decide (z9 = 0))
 (some (((),(),decide (0 < z11.1),()),(z10,z11,())))
 (none))))) fun x12 =>
 cond x12.1.2.2.1
 (cond (decide (z9 = 3))
 (cond (decide (z9 = 3))
 (cond (decide (x12.2.2.1.2.2.2 = 0))
 (none)
 (let v13 := if (IntKind.wrap .i64 (Int.tdiv x12.2.1.2.2.2 x12.2.2.1.2.2.2)) < zn8 then (IntKind.wrap .i64 (Int.tdiv x12.2.1.2.2.2 x12.2.2.1.2.2.2)) else zn8
 some ((v13,(),(),()),(x12.2.1,x12.2.2.1,()))))
 (cond (decide (z9 = 2))
 (cond (decide (x12.2.2.1.2.2.1 = 0))
 (none)
 (let v14 := if (IntKind.wrap .i64 (Int.tdiv x12.2.1.2.2.2 x12.2.2.1.2.2.1)) < zn8 then (IntKind.wrap .i64 (Int.tdiv x12.2.1.2.2.2 x12.2.2.1.2.2.1)) else zn8
 some ((v14,(),(),()),(x12.2.1,x12.2.2.1,()))))
 (cond (decide (z9 = 1))
 (cond (decide (x12.2.2.1.2.1 = 0))
 (none)
 (let v15 := if (IntKind.wrap .i64 (Int.tdiv x12.2.1.2.2.2 x12.2.2.1.2.1)) < zn8 then (IntKind.wrap .i64 (Int.tdiv x12.2.1.2.2.2 x12.2.2.1.2.1)) else zn8
 some ((v15,(),(),()),(x12.2.1,x12.2.2.1,()))))
 (cond (decide (z9 = 0))
 (cond (decide (x12.2.2.1.1 = 0))
 (none)
 (let v16 := if (IntKind.wrap .i64 (Int.tdiv x12.2.1.2.2.2 x12.2.2.1.1)) < zn8 then (IntKind.wrap .i64 (Int.tdiv x12.2.1.2.2.2 x12.2.2.1.1)) else zn8
 some ((v16,(),(),()),(x12.2.1,x12.2.2.1,()))))
 (none)))))
 (cond (decide (z9 = 2))
 (cond (decide (z9 = 3))
 (cond (decide (x12.2.2.1.2.2.2 = 0))
 (none)
 (let v17 := if (IntKind.wrap .i64 (Int.tdiv x12.2.1.2.2.1 x12.2.2.1.2.2.2)) < zn8 then (IntKind.wrap .i64 (Int.tdiv x12.2.1.2.2.1 x12.2.2.1.2.2.2)) else zn8
 some ((v17,(),(),()),(x12.2.1,x12.2.2.1,()))))
 (cond (decide (z9 = 2))
 (cond (decide (x12.2.2.1.2.2.1 = 0))
 (none)
 (let v18 := if (IntKind.wrap .i64 (Int.tdiv x12.2.1.2.2.1 x12.2.2.1.2.2.1)) < zn8 then (IntKind.wrap .i64 (Int.tdiv x12.2.1.2.2.1 x12.2.2.1.2.2.1)) else zn8
 some ((v18,(),(),()),(x12.2.1,x12.2.2.1,()))))
 (cond (decide (z9 = 1))
 (cond (decide (x12.2.2.1.2.1 = 0))
 (none)
 (let v19 := if (IntKind.wrap .i64 (Int.tdiv x12.2.1.2.2.1 x12.2.2.1.2.1)) < zn8 then (IntKind.wrap .i64 (Int.tdiv x12.2.1.2.2.1 x12.2.2.1.2.1)) else zn8
 some ((v19,(),(),()),(x12.2.1,x12.2.2.1,()))))
 (cond (decide (z9 = 0))
 (cond (decide (x12.2.2.1.1 = 0))
 (none)
 (let v20 := if (IntKind.wrap .i64 (Int.tdiv x12.2.1.2.2.1 x12.2.2.1.1)) < zn8 then (IntKind.wrap .i64 (Int.tdiv x12.2.1.2.2.1 x12.2.2.1.1)) else zn8
 some ((v20,(),(),()),(x12.2.1,x12.2.2.1,()))))
 (none)))))
 (cond (decide (z9 = 1))
 (cond (decide (z9 = 3))
 (cond (decide (x12.2.2.1.2.2.2 = 0))
 (none)
 (let v21 := if (IntKind.wrap .i64 (Int.tdiv x12.2.1.2.1 x12.2.2.1.2.2.2)) < zn8 then (IntKind.wrap .i64 (Int.tdiv x12.2.1.2.1 x12.2.2.1.2.2.2)) else zn8
 some ((v21,(),(),()),(x12.2.1,x12.2.2.1,()))))
 (cond (decide (z9 = 2))
 (cond (decide (x12.2.2.1.2.2.1 = 0))
 (none)
 (let v22 := if (IntKind.wrap .i64 (Int.tdiv x12.2.1.2.1 x12.2.2.1.2.2.1)) < zn8 then (IntKind.wrap .i64 (Int.tdiv x12.2.1.2.1 x12.2.2.1.2.2.1)) else zn8
 some ((v22,(),(),()),(x12.2.1,x12.2.2.1,()))))
 (cond (decide (z9 = 1))
 (cond (decide (x12.2.2.1.2.1 = 0))
 (none)
 (let v23 := if (IntKind.wrap .i64 (Int.tdiv x12.2.1.2.1 x12.2.2.1.2.1)) < zn8 then (IntKind.wrap .i64 (Int.tdiv x12.2.1.2.1 x12.2.2.1.2.1)) else zn8
 some ((v23,(),(),()),(x12.2.1,x12.2.2.1,()))))
 (cond (decide (z9 = 0))
 (cond (decide (x12.2.2.1.1 = 0))
 (none)
 (let v24 := if (IntKind.wrap .i64 (Int.tdiv x12.2.1.2.1 x12.2.2.1.1)) < zn8 then (IntKind.wrap .i64 (Int.tdiv x12.2.1.2.1 x12.2.2.1.1)) else zn8
 some ((v24,(),(),()),(x12.2.1,x12.2.2.1,()))))
 (none)))))
 (cond (decide (z9 = 0))
 (cond (decide (z9 = 3))
 (cond (decide (x12.2.2.1.2.2.2 = 0))
 (none)
 (let v25 := if (IntKind.wrap .i64 (Int.tdiv x12.2.1.1 x12.2.2.1.2.2.2)) < zn8 then (IntKind.wrap .i64 (Int.tdiv x12.2.1.1 x12.2.2.1.2.2.2)) else zn8
 some ((v25,(),(),()),(x12.2.1,x12.2.2.1,()))))
 (cond (decide (z9 = 2))
 (cond (decide (x12.2.2.1.2.2.1 = 0))
 (none)
 (let v26 := if (IntKind.wrap .i64 (Int.tdiv x12.2.1.1 x12.2.2.1.2.2.1)) < zn8 then (IntKind.wrap .i64 (Int.tdiv x12.2.1.1 x12.2.2.1.2.2.1)) else zn8
 some ((v26,(),(),()),(x12.2.1,x12.2.2.1,()))))
 (cond (decide (z9 = 1))
 (cond (decide (x12.2.2.1.2.1 = 0))
 (none)
 (let v27 := if (IntKind.wrap .i64 (Int.tdiv x12.2.1.1 x12.2.2.1.2.1)) < zn8 then (IntKind.wrap .i64 (Int.tdiv x12.2.1.1 x12.2.2.1.2.1)) else zn8
 some ((v27,(),(),()),(x12.2.1,x12.2.2.1,()))))
 (cond (decide (z9 = 0))
 (cond (decide (x12.2.2.1.1 = 0))
 (none)
 (let v28 := if (IntKind.wrap .i64 (Int.tdiv x12.2.1.1 x12.2.2.1.1)) < zn8 then (IntKind.wrap .i64 (Int.tdiv x12.2.1.1 x12.2.2.1.1)) else zn8
 some ((v28,(),(),()),(x12.2.1,x12.2.2.1,()))))
 (none)))))
 (none)))))
 (some ((zn8,(),(),()),(x12.2.1,x12.2.2.1,())))) fun x29 =>
 nx7 ((x29.1.1,(),(),IntKind.wrap .i64 (z9 + 1),()),(x29.2.1,x29.2.2.1,())))
 (some zn8)
def F38 (L : Lp) (g25 : Res → Option Bool) (g49 : Res → Option (Int × (Int × (Int × Int)))) (free0 : Res) (need1 : Res) : Option Int :=
 Option.bind (g25 free0) fun r2 =>
 cond (!r2)
 (some 0)
 (Option.bind (g25 need1) fun r3 =>
 cond (!r3)
 (some 0)
 (cond ((decide (need1.cpu = 0)) && ((decide (need1.mem = 0)) && ((decide (need1.gpu = 0)) && ((decide (need1.lic = 0)) && true))))
 (some 0)
 (Option.bind (g49 free0) fun r4 =>
 Option.bind (g49 need1) fun r5 =>
 L (fun (s6 : ((Int × (Unit × (Unit × (Int × Unit)))) × ((Int × (Int × (Int × Int))) × ((Int × (Int × (Int × Int))) × Unit)))) nx7 => l38_0 nx7 s6.1.1 s6.1.2.2.2.1 s6.2.1 s6.2.2.1) ((64,(),(),0,()),(r4,r5,())))))
theorem e38 (L : Lp) (g25 : Res → Option Bool) (g49 : Res → Option (Int × (Int × (Int × Int)))) (x : s38.args.den) (h : denH s38.heap) : nrun [⟨25,s25,fun x h => g25 x.1⟩,⟨49,s49,fun x h => g49 x.1⟩] L n38 s38 x h = F38 L g25 g49 x.1 x.2.1 := by kernel_rfl
def f38 : Res → Res → Option Int := F38 (@LN LOOPS) f25 f49
@[reducible] def t38 : Ent := ⟨38,s38,fun x h => f38 x.1 x.2.1⟩
theorem k38 : chkNF Tryz.prog Tryz.f38 n38 = true := by kernel_rfl
theorem ok38 : NOk Tryz.prog t38 := NOk.body (T := [t25,t49]) mixed (nall_cons ok25 (nall_cons ok49 nall_nil)) (oneEach_of (by kernel_rfl)) Tryz.func38 k38 (by kernel_rfl) (fun x h => e38 _ _ _ x h)
def n23 : NFunc := ⟨45,.seq (.region 2 [
 o1 3 (.box 18 (tm 0)) 0,
 o1 5 (.box 4 (tm 2)) 1,
 o1 6 (.move (ki 0)) 2] []) (.seq (.seq (.region 4 [
 oT 10 18 3 0,
 o1 11 (.call (fc 12) [(vv 10)] false 4) 0,
 o1 12 (.un .not (tm 11)) 4,
 oM 13 12 4,
 oN 14 1 13 4,
 o2 15 (.bin .lss (tm 14) (ki 0)) 13 4,
 o1 16 (.pick (tm 13) kt (tm 15)) 4,
 oM 17 16 4,
 oN 18 1 17 4,
 o2 19 (.fieldAddr 1 (tm 3)) 17 4,
 o2 20 (.load false 1 (tm 19)) 17 4,
 o2 21 (.len (tm 20)) 17 4,
 o2 22 (.bin .geq (tm 18) (tm 21)) 17 4,
 o1 23 (.pick (tm 17) kt (tm 22)) 4] []) (.cond (tm 23) (.seq (.region 0 [
 o1 6 (.move (ki 0)) 0] []) (.ret)) (.skip))) (.seq (.region 0 [
 o1 7 (.move (ki 0)) 0] []) (.seq (.seq (.region 0 [
 oF 24 1 3 0,
 oL 25 24 0,
 oM 26 1 0,
 o1 27 (.indexSl 1 (tm 25) (tm 26)) 0,
 oL 28 27 0,
 o1 29 (.len (tm 28)) 0,
 o1 30 (.move (ki 0)) 0] []) (.block 0 (.loop [3,5,7,28,29,30] ⟨[(3,(.ptr 0 0 0)),(5,(.ptr 1 0 0)),(7,vI),(30,vI)],[28,29],[.one false .spec,.one false .res]⟩ (.seq (.region 0 [
 oB 31 .lss 30 29 0] []) (.seq (.cond (tm 31) (.skip) (.exit 0)) (.seq (.block 1 (.seq (.region 0 [
 o1 32 (.indexSl 1 (tm 28) (tm 30)) 0,
 oL 33 32 0,
 oM 9 33 0] []) (.region 4 [
 o4 34 (.move (tm 7)) 0 [],
 o4 35 (.fieldAddr 0 (tm 3)) 0 [],
 o4 36 (.load false 1 (tm 35)) 0 [],
 o4 37 (.move (tm 9)) 0 [],
 o4 38 (.indexSl 4 (tm 36) (tm 37)) 0 [],
 o4 39 (.load true 4 (tm 38)) 0 [],
 o4 40 (.load true 4 (tm 5)) 0 [],
 o4 41 (.call (fc 38) [(vv 39),(vv 40)] false 4) 0 [],
 o4 42 (.bin .add (tm 34) (tm 41)) 4 [0,1,2,3],
 o4 7 (.move (tm 42)) 4 [0,1,2,3]] []))) (.region 0 [
 oC 43 .add 30 1 0,
 oM 30 43 0] []))))))) (.seq (.region 0 [
 oM 44 7 0,
 oM 6 44 0] []) (.ret))))),[.tmp 6],true⟩
def s23 : Sig := ⟨(.cons (.v .spec) (.cons (.v (.int .i64)) (.cons (.v .res) .nil))),[],((.v (.int .i64)),[]),[]⟩
def l23_0 (g38 : Res → Res → Option Int) (y4 : (List Int)) (nx6 : ((Unit × (Unit × (Int × (Int × Unit)))) × (Spec × (Res × Unit))) → Option Int) (room7 : Int) (z8 : Int) (z9 : Spec) (z10 : Res) : Option Int :=
 cond (decide (z8 < (List.length y4 : Int)))
 (cond (decide (0 ≤ z8))
 (Option.bind (y4[Int.toNat z8]?) fun y11 =>
 cond (decide (0 ≤ y11))
 (Option.bind (z9.nodes[Int.toNat y11]?) fun y12 =>
 Option.bind (g38 y12 z10) fun r13 =>
 nx6 (((),(),IntKind.wrap .i64 (room7 + r13),IntKind.wrap .i64 (z8 + 1),()),(z9,z10,())))
 (none))
 (none))
 (some room7)
def F23 (L : Lp) (g12 : Spec → Option Bool) (g38 : Res → Res → Option Int) (as0 : Spec) (part1 : Int) (need2 : Res) : Option Int :=
 Option.bind (g12 as0) fun r3 =>
 cond (!r3)
 (some 0)
 (cond (decide (part1 < 0))
 (some 0)
 (cond (decide ((List.length as0.parts : Int) ≤ part1))
 (some 0)
 (cond (decide (0 ≤ part1))
 (Option.bind (as0.parts[Int.toNat part1]?) fun y4 =>
 L (fun (s5 : ((Unit × (Unit × (Int × (Int × Unit)))) × (Spec × (Res × Unit)))) nx6 => l23_0 g38 y4 nx6 s5.1.2.2.1 s5.1.2.2.2.1 s5.2.1 s5.2.2.1) (((),(),0,0,()),(as0,need2,())))
 (none))))
theorem e23 (L : Lp) (g12 : Spec → Option Bool) (g38 : Res → Res → Option Int) (x : s23.args.den) (h : denH s23.heap) : nrun [⟨12,s12,fun x h => g12 x.1⟩,⟨38,s38,fun x h => g38 x.1 x.2.1⟩] L n23 s23 x h = F23 L g12 g38 x.1 x.2.1 x.2.2.1 := by kernel_rfl
def f23 : Spec → Int → Res → Option Int := F23 (@LN LOOPS) f12 f38
@[reducible] def t23 : Ent := ⟨23,s23,fun x h => f23 x.1 x.2.1 x.2.2.1⟩
theorem k23 : chkNF Tryz.prog Tryz.f23 n23 = true := by kernel_rfl
theorem ok23 : NOk Tryz.prog t23 := NOk.body (T := [t12,t38]) mixed (nall_cons ok12 (nall_cons ok38 nall_nil)) (oneEach_of (by kernel_rfl)) Tryz.func23 k23 (by kernel_rfl) (fun x h => e23 _ _ _ x h)
def n13 : NFunc := ⟨38,.seq (.region 2 [
 o1 4 (.box 18 (tm 0)) 0,
 o1 7 (.box 4 (tm 3)) 1,
 o1 8 (.move kf) 2] []) (.seq (.seq (.region 4 [
 oT 9 18 4 0,
 o1 10 (.call (fc 12) [(vv 9)] false 4) 0,
 o1 11 (.un .not (tm 10)) 4,
 oM 12 11 4,
 oN 13 1 12 4,
 o2 14 (.bin .lss (tm 13) (ki 0)) 12 4,
 o1 15 (.pick (tm 12) kt (tm 14)) 4,
 oM 16 15 4,
 oN 17 1 16 4,
 o2 18 (.fieldAddr 2 (tm 4)) 16 4,
 o2 19 (.load false 1 (tm 18)) 16 4,
 o2 20 (.len (tm 19)) 16 4,
 o2 21 (.bin .geq (tm 17) (tm 20)) 16 4,
 o1 22 (.pick (tm 16) kt (tm 21)) 4,
 oM 23 22 4,
 oN 24 2 23 4,
 o2 25 (.bin .lss (tm 24) (ki 1)) 23 4,
 o1 26 (.pick (tm 23) kt (tm 25)) 4] []) (.cond (tm 26) (.seq (.region 0 [
 o1 8 (.move kf) 0] []) (.ret)) (.skip))) (.seq (.region 4 [
 o4 27 (.load true 18 (tm 4)) 0 [],
 o4 28 (.fieldAddr 2 (tm 4)) 0 [],
 o4 29 (.load false 1 (tm 28)) 0 [],
 o4 30 (.move (tm 1)) 0 [],
 o4 31 (.indexSl 6 (tm 29) (tm 30)) 0 [],
 o4 32 (.fieldAddr 0 (tm 31)) 0 [],
 o4 33 (.load false 1 (tm 32)) 0 [],
 o4 34 (.load true 4 (tm 7)) 0 [],
 o4 35 (.call (fc 23) [(vv 27),(vv 33),(vv 34)] false 4) 0 [],
 o4 36 (.move (tm 2)) 4 [],
 o4 37 (.bin .geq (tm 35) (tm 36)) 4 [0,1,2,3],
 o4 8 (.move (tm 37)) 4 [0,1,2,3]] []) (.ret))),[.tmp 8],true⟩
def s13 : Sig := ⟨(.cons (.v .spec) (.cons (.v (.int .i64)) (.cons (.v (.int .i64)) (.cons (.v .res) .nil)))),[],((.v .bool),[]),[]⟩
def F13 (L : Lp) (g12 : Spec → Option Bool) (g23 : Spec → Int → Res → Option Int) (as0 : Spec) (queue1 : Int) (many2 : Int) (need3 : Res) : Option Bool :=
 Option.bind (g12 as0) fun r4 =>
 cond (!r4)
 (some false)
 (cond (decide (queue1 < 0))
 (some false)
 (cond (decide ((List.length as0.queues : Int) ≤ queue1))
 (some false)
 (cond (decide (many2 < 1))
 (some false)
 (cond (decide (0 ≤ queue1))
 (Option.bind (as0.queues[Int.toNat queue1]?) fun y5 =>
 Option.bind (g23 as0 y5.part need3) fun r6 =>
 some (decide (many2 ≤ r6)))
 (none)))))
theorem e13 (L : Lp) (g12 : Spec → Option Bool) (g23 : Spec → Int → Res → Option Int) (x : s13.args.den) (h : denH s13.heap) : nrun [⟨12,s12,fun x h => g12 x.1⟩,⟨23,s23,fun x h => g23 x.1 x.2.1 x.2.2.1⟩] L n13 s13 x h = F13 L g12 g23 x.1 x.2.1 x.2.2.1 x.2.2.2.1 := by kernel_rfl
def f13 : Spec → Int → Int → Res → Option Bool := F13 (@LN LOOPS) f12 f23
@[reducible] def t13 : Ent := ⟨13,s13,fun x h => f13 x.1 x.2.1 x.2.2.1 x.2.2.2.1⟩
theorem k13 : chkNF Tryz.prog Tryz.f13 n13 = true := by kernel_rfl
theorem ok13 : NOk Tryz.prog t13 := NOk.body (T := [t12,t23]) mixed (nall_cons ok12 (nall_cons ok23 nall_nil)) (oneEach_of (by kernel_rfl)) Tryz.func13 k13 (by kernel_rfl) (fun x h => e13 _ _ _ x h)
def n4 : NFunc := ⟨23,.seq (.region 0 [
 o1 0 (.move kf) 0] []) (.seq (.region 5 [
 o1 3 (.call (fc 11) [] false 4) 0,
 o1 1 (.alloc [.zsl,.zsl,.zsl,iz,iz,iz,iz,iz,iz,iz,iz,iz,iz,iz,iz,iz,iz,iz]) 4,
 oS 18 1 3 5] []) (.seq (.region 1 [
 o1 4 (.build [iz,iz,iz,iz] [(0,1,(ki 4))]) 0,
 o1 2 (.alloc [iz,iz,iz,iz]) 0,
 oS 4 2 4 1] []) (.seq (.region 16 [
 oT 5 18 1 0,
 o1 6 (.call (fc 12) [(vv 5)] false 4) 0,
 oM 7 6 4,
 o3 8 (.load true 18 (tm 1)) 7 4,
 o3 9 (.load true 4 (tm 2)) 7 4,
 o3 10 (.call (fc 13) [(vv 8),(false,(ki 1)),(false,(ki 2)),(vv 9)] false 4) 7 4,
 o1 11 (.pick (tm 7) (tm 10) kf) 8,
 oM 12 11 8,
 o3 13 (.load true 18 (tm 1)) 12 8,
 o3 14 (.load true 4 (tm 2)) 12 8,
 o3 15 (.call (fc 13) [(vv 13),(false,(ki 1)),(false,(ki 3)),(vv 14)] false 4) 12 8,
 o3 16 (.un .not (tm 15)) 12 12,
 o1 17 (.pick (tm 12) (tm 16) kf) 12,
 oM 18 17 12,
 o3 19 (.build [.zsl,.zsl,.zsl,iz,iz,iz,iz,iz,iz,iz,iz,iz,iz,iz,iz,iz,iz,iz] []) 18 12,
 o3 20 (.call (fc 14) [(vv 19)] false 4) 18 12,
 o3 21 (.bin .eql (tm 20) (.const (.str [78,111,100,101,115]))) 18 16,
 o1 22 (.pick (tm 18) (tm 21) kf) 16,
 oM 0 22 16] []) (.ret)))),[.tmp 0],true⟩
def s4 : Sig := ⟨.nil,[],((.v .bool),[]),[]⟩
def F4 (L : Lp) (g11 : Option Spec) (g12 : Spec → Option Bool) (g13 : Spec → Int → Int → Res → Option Bool) (g14 : Spec → Option (List UInt8))  : Option Bool :=
 Option.bind (g11) fun r0 =>
 Option.bind (g12 r0) fun r1 =>
 cond r1
 (Option.bind (g13 r0 1 2 (Res.mk 4 0 0 0)) fun r2 =>
 cond r2
 (Option.bind (g13 r0 1 3 (Res.mk 4 0 0 0)) fun r3 =>
 cond (!r3)
 (Option.bind (g14 (Spec.mk [] [] [] 0 (Weights.mk 0 0 0 0) 0 0 0 0 0 0 0 0 0 0)) fun r4 =>
 some (decide (r4 = ([78,111,100,101,115] : List UInt8))))
 (some false))
 (some false))
 (some false)
theorem e4 (L : Lp) (g11 : Option Spec) (g12 : Spec → Option Bool) (g13 : Spec → Int → Int → Res → Option Bool) (g14 : Spec → Option (List UInt8)) (x : s4.args.den) (h : denH s4.heap) : nrun [⟨11,s11,fun x h => g11 ⟩,⟨12,s12,fun x h => g12 x.1⟩,⟨13,s13,fun x h => g13 x.1 x.2.1 x.2.2.1 x.2.2.2.1⟩,⟨14,s14,fun x h => g14 x.1⟩] L n4 s4 x h = F4 L g11 g12 g13 g14  := by kernel_rfl
def f4 : Option Bool := F4 (@LN LOOPS) f11 f12 f13 f14
@[reducible] def t4 : Ent := ⟨4,s4,fun x h => f4 ⟩
theorem k4 : chkNF Tryz.prog Tryz.f4 n4 = true := by kernel_rfl
theorem ok4 : NOk Tryz.prog t4 := NOk.body (T := [t11,t12,t13,t14]) mixed (nall_cons ok11 (nall_cons ok12 (nall_cons ok13 (nall_cons ok14 nall_nil)))) (oneEach_of (by kernel_rfl)) Tryz.func4 k4 (by kernel_rfl) (fun x h => e4 _ _ _ _ _ x h)
def n5 : NFunc := ⟨46,.seq (.region 1 [
 o1 1 (.box 18 (tm 0)) 0,
 o1 2 (.move kf) 1] []) (.seq (.seq (.region 0 [
 oF 7 0 1 0,
 oL 8 7 0,
 o1 9 (.len (tm 8)) 0,
 oC 10 .gtr 9 40 0,
 oM 11 10 0,
 o2 12 (.fieldAddr 1 (tm 1)) 11 0,
 o2 13 (.load false 1 (tm 12)) 11 0,
 o2 14 (.len (tm 13)) 11 0,
 o2 15 (.bin .gtr (tm 14) (ki 20)) 11 0,
 o1 16 (.pick (tm 11) kt (tm 15)) 0,
 oM 17 16 0,
 o2 18 (.fieldAddr 2 (tm 1)) 17 0,
 o2 19 (.load false 1 (tm 18)) 17 0,
 o2 20 (.len (tm 19)) 17 0,
 o2 21 (.bin .gtr (tm 20) (ki 20)) 17 0,
 o1 22 (.pick (tm 17) kt (tm 21)) 0] []) (.cond (tm 22) (.seq (.region 0 [
 o1 2 (.move kf) 0] []) (.ret)) (.skip))) (.seq (.seq (.region 0 [
 oF 23 1 1 0,
 oL 24 23 0,
 o1 25 (.len (tm 24)) 0,
 o1 26 (.move (ki 0)) 0] []) (.block 0 (.loop [1,24,25,26] ⟨[(1,(.ptr 0 0 0)),(26,vI)],[24,25],[.one false .spec]⟩ (.seq (.region 0 [
 oB 27 .lss 26 25 0] []) (.seq (.cond (tm 27) (.skip) (.exit 0)) (.seq (.block 1 (.seq (.region 0 [
 o1 28 (.indexSl 1 (tm 24) (tm 26)) 0,
 oL 29 28 0,
 oM 4 29 0] []) (.seq (.region 0 [
 oM 30 4 0,
 o1 31 (.len (tm 30)) 0,
 oC 32 .gtr 31 40 0] []) (.cond (tm 32) (.seq (.region 0 [
 o1 2 (.move kf) 0] []) (.ret)) (.skip))))) (.region 0 [
 oC 33 .add 26 1 0,
 oM 26 33 0] []))))))) (.seq (.seq (.region 0 [
 oF 34 2 1 0,
 oL 35 34 0,
 o1 36 (.len (tm 35)) 0,
 o1 37 (.move (ki 0)) 0] []) (.block 2 (.loop [35,36,37] ⟨[(37,vI)],[35,36],[]⟩ (.seq (.region 0 [
 oB 38 .lss 37 36 0] []) (.seq (.cond (tm 38) (.skip) (.exit 2)) (.seq (.block 3 (.seq (.region 1 [
 o1 39 (.indexSl 6 (tm 35) (tm 37)) 0,
 oT 40 6 39 0,
 o1 6 (.alloc [iz,.zsl,iz,iz,iz,iz]) 0,
 oS 6 6 40 1] []) (.seq (.region 0 [
 oF 41 1 6 0,
 oL 42 41 0,
 o1 43 (.len (tm 42)) 0,
 oC 44 .gtr 43 40 0] []) (.cond (tm 44) (.seq (.region 0 [
 o1 2 (.move kf) 0] []) (.ret)) (.skip))))) (.region 0 [
 oC 45 .add 37 1 0,
 oM 37 45 0] []))))))) (.seq (.region 0 [
 o1 2 (.move kt) 0] []) (.ret))))),[.tmp 2],true⟩
def s5 : Sig := ⟨(.cons (.v .spec) .nil),[],((.v .bool),[]),[]⟩
def l5_0 (z4 : Spec) (nx7 : ((Int × Unit) × Unit) → Option Bool) (z8 : Int) : Option Bool :=
 cond (decide (z8 < (List.length z4.queues : Int)))
 (cond (decide (0 ≤ z8))
 (Option.bind (z4.queues[Int.toNat z8]?) fun y9 =>
 cond (decide (40 < (List.length y9.users : Int)))
 (some false)
 (nx7 ((IntKind.wrap .i64 (z8 + 1),()),())))
 (none))
 (some true)
def l5_1 (L : Lp) (as0 : Spec) (nx2 : ((Unit × (Int × Unit)) × (Spec × Unit)) → Option Bool) (z3 : Int) (z4 : Spec) : Option Bool :=
 cond (decide (z3 < (List.length as0.parts : Int)))
 (cond (decide (0 ≤ z3))
 (Option.bind (as0.parts[Int.toNat z3]?) fun y5 =>
 cond (decide (40 < (List.length y5 : Int)))
 (some false)
 (nx2 (((),IntKind.wrap .i64 (z3 + 1),()),(z4,()))))
 (none))
 (L (fun (s6 : ((Int × Unit) × Unit)) nx7 => l5_0 z4 nx7 s6.1.1) ((0,()),()))
def F5 (L : Lp)  (as0 : Spec) : Option Bool :=
 cond (decide (40 < (List.length as0.nodes : Int)))
 (some false)
 (cond (decide (20 < (List.length as0.parts : Int)))
 (some false)
 (cond (decide (20 < (List.length as0.queues : Int)))
 (some false)
 (L (fun (s1 : ((Unit × (Int × Unit)) × (Spec × Unit))) nx2 => l5_1 L as0 nx2 s1.1.2.1 s1.2.1) (((),0,()),(as0,())))))
theorem e5 (L : Lp)  (x : s5.args.den) (h : denH s5.heap) : nrun [] L n5 s5 x h = F5 L  x.1 := by kernel_rfl
def f5 : Spec → Option Bool := F5 (@LN LOOPS) 
@[reducible] def t5 : Ent := ⟨5,s5,fun x h => f5 x.1⟩
theorem k5 : chkNF Tryz.prog Tryz.f5 n5 = true := by kernel_rfl
theorem ok5 : NOk Tryz.prog t5 := NOk.body (T := []) mixed nall_nil (oneEach_of (by kernel_rfl)) Tryz.func5 k5 (by kernel_rfl) (fun x h => e5 _  x h)
def n26 : NFunc := ⟨2,.seq (.region 0 [
 o1 0 (.move (.const (.zsl))) 0] []) (.seq (.region 1 [
 o1 1 (.buildSlice 1 4 true [.str []] [(0,(.const (.str [99,112,117]))),(1,(.const (.str [109,101,109]))),(2,(.const (.str [103,112,117]))),(3,(.const (.str [108,105,99])))]) 0,
 oM 0 1 1] []) (.ret)),[.tmp 0],true⟩
def s26 : Sig := ⟨.nil,[],((.v (.list .str)),[]),[]⟩
def F26 (L : Lp)   : Option (List (List UInt8)) :=
 some [([99,112,117] : List UInt8),([109,101,109] : List UInt8),([103,112,117] : List UInt8),([108,105,99] : List UInt8)]
theorem e26 (L : Lp)  (x : s26.args.den) (h : denH s26.heap) : nrun [] L n26 s26 x h = F26 L   := by kernel_rfl
def f26 : Option (List (List UInt8)) := F26 (@LN LOOPS) 
@[reducible] def t26 : Ent := ⟨26,s26,fun x h => f26 ⟩
theorem k26 : chkNF Tryz.prog Tryz.f26 n26 = true := by kernel_rfl
theorem ok26 : NOk Tryz.prog t26 := NOk.body (T := []) mixed nall_nil (oneEach_of (by kernel_rfl)) Tryz.func26 k26 (by kernel_rfl) (fun x h => e26 _  x h)
def s27 : Sig := ⟨(.cons (.v (.int .i64)) .nil),[],((.v .str),[]),[]⟩
def f27 : Int → Option (List UInt8) := itoaF
@[reducible] def t27 : Ent := ⟨27,s27,fun x h => f27 x.1⟩
theorem ok27 : NOk Tryz.prog t27 := ext27
def s28 : Sig := ⟨(.cons (.v (.list .str)) (.cons (.v .str) .nil)),[],((.v .str),[]),[]⟩
def f28 : (List (List UInt8)) → (List UInt8) → Option (List UInt8) := joinF
@[reducible] def t28 : Ent := ⟨28,s28,fun x h => f28 x.1 x.2.1⟩
theorem ok28 : NOk Tryz.prog t28 := ext28
def n15 : NFunc := ⟨44,.seq (.region 1 [
 o1 1 (.box 4 (tm 0)) 0,
 o1 2 (.move (.const (.str []))) 1,
 o1 3 (.move (ki 0)) 1] []) (.seq (.seq (.region 4 [
 oT 8 4 1 0,
 o1 9 (.call (fc 25) [(vv 8)] false 4) 0,
 o1 10 (.un .not (tm 9)) 4] []) (.cond (tm 10) (.seq (.region 0 [
 o1 2 (.move (.const (.str []))) 0,
 o1 3 (.move (ki 2)) 0] []) (.ret)) (.skip))) (.seq (.region 4 [
 o1 11 (.call (fc 26) [] false 4) 0,
 oM 4 11 4] []) (.seq (.region 0 [
 o1 5 (.move (.const (.zsl))) 0] []) (.seq (.seq (.region 0 [
 oF 12 0 1 0,
 oL 13 12 0,
 oF 14 1 1 0,
 oL 15 14 0,
 oF 16 2 1 0,
 oL 17 16 0,
 oF 18 3 1 0,
 oL 19 18 0,
 o1 20 (.build [iz,iz,iz,iz] [(0,1,(tm 13)),(1,1,(tm 15)),(2,1,(tm 17)),(3,1,(tm 19))]) 0,
 o1 21 (.move (ki 0)) 0] []) (.block 0 (.pre [4,5,20,21] [.mat 5 1 true] (.loop [4,5,20,21] ⟨[(5,(.slw 0 1)),(21,vI)],[4,20],[.typed .str]⟩ (.seq (.region 0 [
 oC 22 .lss 21 4 0] []) (.seq (.cond (tm 22) (.skip) (.exit 0)) (.seq (.block 1 (.seq (.meet [4,20,21,7,6,5] [] ⟨[(5,(.slw 0 1)),(6,vI),(7,vI)],[4,20,21],[.typed .str]⟩ (.region 0 [
 oM 23 21 0,
 o1 24 (.indexVal false 4 1 (tm 20) (tm 21)) 0,
 oM 6 23 0,
 oM 7 24 0] [⟨24,none,some (21,4)⟩])) (.seq (.region 0 [
 oM 25 7 0,
 oC 26 .neq 25 0 0] []) (.cond (tm 26) (.region 6 [
 o4 27 (.move (tm 5)) 0 [],
 o4 28 (.move (tm 4)) 0 [],
 o4 29 (.move (tm 6)) 0 [],
 o4 30 (.indexSl 1 (tm 28) (tm 29)) 0 [],
 o4 31 (.load false 1 (tm 30)) 0 [],
 o4 32 (.bin .add (tm 31) (.const (.str [61]))) 0 [],
 o4 33 (.move (tm 7)) 0 [],
 o4 34 (.call (fc 27) [(vv 33)] true 4) 0 [],
 o4 35 (.bin .add (tm 32) (tm 34)) 4 [0,1,2,3],
 o4 36 (.buildSlice 1 1 true [.str []] [(0,(tm 35))]) 4 [0,1,2,3],
 o4 37 (.append 1 16 true (tm 27) (tm 36)) 5 [0,1,2,3,4],
 o4 5 (.move (tm 37)) 6 [0,1,2,3,4,5]] []) (.skip))))) (.region 0 [
 oC 38 .add 21 1 0,
 oM 21 38 0] [])))))))) (.seq (.seq (.region 0 [
 oM 39 5 0,
 o1 40 (.len (tm 39)) 0,
 oC 41 .eql 40 0 0] []) (.cond (tm 41) (.seq (.region 0 [
 o1 2 (.move (.const (.str [110,111,110,101]))) 0,
 o1 3 (.move (ki 0)) 0] []) (.ret)) (.skip))) (.seq (.region 4 [
 oM 42 5 0,
 o1 43 (.call (fc 28) [(vv 42),(false,(.const (.str [44])))] false 4) 0,
 oM 2 43 4,
 o1 3 (.move (ki 0)) 4] []) (.ret))))))),[.tmp 2,.tmp 3],true⟩
def s15 : Sig := ⟨(.cons (.v .res) .nil),[],((.tup (.cons (.v .str) (.cons (.v (.int .i64)) .nil))),[]),[]⟩
def l15_0 (g27 : Int → Option (List UInt8)) (g28 : (List (List UInt8)) → (List UInt8) → Option (List UInt8)) (a0 : Res) (r2 : (List (List UInt8))) (nx4 : ((Unit × (Int × Unit)) × ((List (List UInt8)) × Unit)) → Option ((List UInt8) × (Int × Unit))) (z5 : Int) (z6 : (List (List UInt8))) : Option ((List UInt8) × (Int × Unit)) :=
 cond (decide (z5 < 4))
 (Option.bind (α := ((Unit × (Int × (Int × Unit))) × ((List (List UInt8)) × Unit)))
 (cond (decide (z5 = 3))
 (some (((),z5,a0.lic,()),(z6,())))
 (cond (decide (z5 = 2))
 (some (((),z5,a0.gpu,()),(z6,())))
 (cond (decide (z5 = 1))
 (some (((),z5,a0.mem,()),(z6,())))
 (cond (decide (z5 = 0))
 (some (((),z5,a0.cpu,()),(z6,())))
 (none))))) fun x7 =>
 cond (!decide (x7.1.2.2.1 = 0))
 (cond (decide (0 ≤ x7.1.2.1))
 (Option.bind (r2[Int.toNat x7.1.2.1]?) fun y8 =>
 cond (decide (y8.length + ([61] : List UInt8).length ≤ 4294967296))
 (Option.bind (g27 x7.1.2.2.1) fun r9 =>
 cond (decide ((y8 ++ ([61] : List UInt8)).length + r9.length ≤ 4294967296))
 (cond (smallB ((List.length x7.2.1) + 1) 16)
 (nx4 (((),IntKind.wrap .i64 (z5 + 1),()),(x7.2.1 ++ [(y8 ++ ([61] : List UInt8)) ++ r9],())))
 (none))
 (none))
 (none))
 (none))
 (nx4 (((),IntKind.wrap .i64 (z5 + 1),()),(x7.2.1,()))))
 (cond (decide ((List.length z6 : Int) = 0))
 (some (([110,111,110,101] : List UInt8),0,()))
 (Option.bind (g28 z6 ([44] : List UInt8)) fun r10 =>
 some (r10,0,())))
def F15 (L : Lp) (g25 : Res → Option Bool) (g26 : Option (List (List UInt8))) (g27 : Int → Option (List UInt8)) (g28 : (List (List UInt8)) → (List UInt8) → Option (List UInt8)) (a0 : Res) : Option ((List UInt8) × (Int × Unit)) :=
 Option.bind (g25 a0) fun r1 =>
 cond (!r1)
 (some (([] : List UInt8),2,()))
 (Option.bind (g26) fun r2 =>
 L (fun (s3 : ((Unit × (Int × Unit)) × ((List (List UInt8)) × Unit))) nx4 => l15_0 g27 g28 a0 r2 nx4 s3.1.2.1 s3.2.1) (((),0,()),([],())))
theorem e15 (L : Lp) (g25 : Res → Option Bool) (g26 : Option (List (List UInt8))) (g27 : Int → Option (List UInt8)) (g28 : (List (List UInt8)) → (List UInt8) → Option (List UInt8)) (x : s15.args.den) (h : denH s15.heap) : nrun [⟨25,s25,fun x h => g25 x.1⟩,⟨26,s26,fun x h => g26 ⟩,⟨27,s27,fun x h => g27 x.1⟩,⟨28,s28,fun x h => g28 x.1 x.2.1⟩] L n15 s15 x h = F15 L g25 g26 g27 g28 x.1 := by kernel_rfl
def f15 : Res → Option ((List UInt8) × (Int × Unit)) := F15 (@LN LOOPS) f25 f26 f27 f28
@[reducible] def t15 : Ent := ⟨15,s15,fun x h => f15 x.1⟩
theorem k15 : chkNF Tryz.prog Tryz.f15 n15 = true := by kernel_rfl
theorem ok15 : NOk Tryz.prog t15 := NOk.body (T := [t25,t26,t27,t28]) mixed (nall_cons ok25 (nall_cons ok26 (nall_cons ok27 (nall_cons ok28 nall_nil)))) (oneEach_of (by kernel_rfl)) Tryz.func15 k15 (by kernel_rfl) (fun x h => e15 _ _ _ _ _ x h)
def n16 : NFunc := ⟨21,.seq (.region 0 [
 o1 4 (.move (.const (.str []))) 0] []) (.seq (.seq (.region 0 [
 oM 7 1 0,
 o1 8 (.len (tm 7)) 0,
 o1 9 (.move (ki 0)) 0] []) (.block 0 (.loop [0,7,8,9] ⟨[(0,(.v .str)),(9,vI)],[7,8],[]⟩ (.seq (.region 0 [
 oB 10 .lss 9 8 0] []) (.seq (.cond (tm 10) (.skip) (.exit 0)) (.seq (.block 1 (.seq (.region 0 [
 o1 11 (.indexSl 1 (tm 7) (tm 9)) 0,
 oL 12 11 0,
 oM 6 12 0] []) (.region 4 [
 oM 13 0 0,
 oM 14 6 0,
 o1 15 (.call (fc 27) [(vv 14)] false 4) 0,
 o1 16 (.bin .add (.const (.str [32])) (tm 15)) 4,
 oB 17 .add 13 16 4,
 oM 0 17 4] []))) (.region 0 [
 oC 18 .add 9 1 0,
 oM 9 18 0] []))))))) (.seq (.region 0 [
 oM 19 0 0,
 o1 20 (.bin .add (tm 19) (.const (.str [10]))) 0,
 oM 4 20 0] []) (.ret))),[.tmp 4],true⟩
def s16 : Sig := ⟨(.cons (.v .str) (.cons (.v (.list (.int .i64))) .nil)),[],((.v .str),[]),[]⟩
def l16_0 (g27 : Int → Option (List UInt8)) (al1 : (List Int)) (nx3 : (((List UInt8) × (Int × Unit)) × Unit) → Option (List UInt8)) (word4 : (List UInt8)) (z5 : Int) : Option (List UInt8) :=
 cond (decide (z5 < (List.length al1 : Int)))
 (cond (decide (0 ≤ z5))
 (Option.bind (al1[Int.toNat z5]?) fun y6 =>
 Option.bind (g27 y6) fun r7 =>
 cond (decide (([32] : List UInt8).length + r7.length ≤ 4294967296))
 (cond (decide (word4.length + (([32] : List UInt8) ++ r7).length ≤ 4294967296))
 (nx3 ((word4 ++ (([32] : List UInt8) ++ r7),IntKind.wrap .i64 (z5 + 1),()),()))
 (none))
 (none))
 (none))
 (cond (decide (word4.length + ([10] : List UInt8).length ≤ 4294967296))
 (some (word4 ++ ([10] : List UInt8)))
 (none))
def F16 (L : Lp) (g27 : Int → Option (List UInt8)) (word0 : (List UInt8)) (al1 : (List Int)) : Option (List UInt8) :=
 L (fun (s2 : (((List UInt8) × (Int × Unit)) × Unit)) nx3 => l16_0 g27 al1 nx3 s2.1.1 s2.1.2.1) ((word0,0,()),())
theorem e16 (L : Lp) (g27 : Int → Option (List UInt8)) (x : s16.args.den) (h : denH s16.heap) : nrun [⟨27,s27,fun x h => g27 x.1⟩] L n16 s16 x h = F16 L g27 x.1 x.2.1 := by kernel_rfl
def f16 : (List UInt8) → (List Int) → Option (List UInt8) := F16 (@LN LOOPS) f27
@[reducible] def t16 : Ent := ⟨16,s16,fun x h => f16 x.1 x.2.1⟩
theorem k16 : chkNF Tryz.prog Tryz.f16 n16 = true := by kernel_rfl
theorem ok16 : NOk Tryz.prog t16 := NOk.body (T := [t27]) mixed (nall_cons ok27 nall_nil) (oneEach_of (by kernel_rfl)) Tryz.func16 k16 (by kernel_rfl) (fun x h => e16 _ _ x h)
def n6 : NFunc := ⟨157,.seq (.region 1 [
 o1 1 (.box 18 (tm 0)) 0,
 o1 2 (.move (.const (.str []))) 1,
 o1 3 (.move (ki 0)) 1] []) (.seq (.seq (.region 4 [
 oT 15 18 1 0,
 o1 16 (.call (fc 12) [(vv 15)] false 4) 0,
 o1 17 (.un .not (tm 16)) 4] []) (.cond (tm 17) (.seq (.region 0 [
 o1 2 (.move (.const (.str []))) 0,
 o1 3 (.move (ki 2)) 0] []) (.ret)) (.skip))) (.seq (.region 0 [
 o1 4 (.move (.const (.str []))) 0] []) (.seq (.seq (.region 0 [
 oF 18 0 1 0,
 oL 19 18 0,
 o1 20 (.len (tm 19)) 0,
 o1 21 (.move (ki 0)) 0] []) (.block 0 (.loop [1,4,19,20,21] ⟨[(1,(.ptr 0 0 0)),(4,(.v .str)),(21,vI)],[19,20],[.one false .spec]⟩ (.seq (.region 0 [
 oB 22 .lss 21 20 0] []) (.seq (.cond (tm 22) (.skip) (.exit 0)) (.seq (.block 1 (.seq (.region 1 [
 o1 23 (.indexSl 4 (tm 19) (tm 21)) 0,
 oT 24 4 23 0,
 o1 6 (.alloc [iz,iz,iz,iz]) 0,
 oS 4 6 24 1] []) (.seq (.region 4 [
 oT 26 4 6 0,
 o1 27 (.call (fc 15) [(vv 26)] false 4) 0,
 oM 25 27 4,
 oX 28 25 0 4,
 oX 29 25 1 4,
 oM 7 28 4,
 oM 8 29 4] []) (.seq (.seq (.region 0 [
 oM 30 8 0,
 oC 31 .neq 30 0 0] []) (.cond (tm 31) (.seq (.region 0 [
 oM 32 8 0,
 o1 2 (.move (.const (.str []))) 0,
 oM 3 32 0] []) (.ret)) (.skip))) (.region 0 [
 oM 33 4 0,
 oM 34 7 0,
 o1 35 (.bin .add (.const (.str [110,111,100,101,32])) (tm 34)) 0,
 o1 36 (.bin .add (tm 35) (.const (.str [10]))) 0,
 oB 37 .add 33 36 0,
 oM 4 37 0] []))))) (.region 0 [
 oC 38 .add 21 1 0,
 oM 21 38 0] []))))))) (.seq (.seq (.region 0 [
 oF 39 1 1 0,
 oL 40 39 0,
 o1 41 (.len (tm 40)) 0,
 o1 42 (.move (ki 0)) 0] []) (.block 2 (.loop [1,4,40,41,42] ⟨[(1,(.ptr 0 0 0)),(4,(.v .str)),(42,vI)],[40,41],[.one false .spec]⟩ (.seq (.region 0 [
 oB 43 .lss 42 41 0] []) (.seq (.cond (tm 43) (.skip) (.exit 2)) (.seq (.block 3 (.seq (.region 0 [
 o1 44 (.indexSl 1 (tm 40) (tm 42)) 0,
 oL 45 44 0,
 oM 10 45 0] []) (.region 4 [
 oM 46 4 0,
 oM 47 10 0,
 o1 48 (.call (fc 16) [(false,(.const (.str [112,97,114,116]))),(vv 47)] false 4) 0,
 oB 49 .add 46 48 4,
 oM 4 49 4] []))) (.region 0 [
 oC 50 .add 42 1 0,
 oM 42 50 0] []))))))) (.seq (.region 5 [
 oM 51 4 0,
 oF 52 3 1 0,
 oL 53 52 0,
 o1 54 (.buildSlice 1 1 true [iz] [(0,(tm 53))]) 0,
 o1 55 (.call (fc 16) [(false,(.const (.str [117,115,101,114,115]))),(vv 54)] false 4) 1,
 oB 56 .add 51 55 5,
 oM 4 56 5] []) (.seq (.seq (.region 0 [
 oF 57 2 1 0,
 oL 58 57 0,
 o1 59 (.len (tm 58)) 0,
 o1 60 (.move (ki 0)) 0] []) (.block 4 (.loop [1,4,58,59,60] ⟨[(1,(.ptr 0 0 0)),(4,(.v .str)),(60,vI)],[58,59],[.one false .spec]⟩ (.seq (.region 0 [
 oB 61 .lss 60 59 0] []) (.seq (.cond (tm 61) (.skip) (.exit 4)) (.seq (.block 5 (.seq (.region 1 [
 o1 62 (.indexSl 6 (tm 58) (tm 60)) 0,
 oT 63 6 62 0,
 o1 12 (.alloc [iz,.zsl,iz,iz,iz,iz]) 0,
 oS 6 12 63 1] []) (.seq (.region 2 [
 oF 64 0 12 0,
 oL 65 64 0,
 oF 66 2 12 0,
 oL 67 66 0,
 oF 68 3 12 0,
 oL 69 68 0,
 oF 70 4 12 0,
 oL 71 70 0,
 oF 72 5 12 0,
 oL 73 72 0,
 o1 74 (.buildSlice 1 5 true [iz] [(0,(tm 65)),(1,(tm 67)),(2,(tm 69)),(3,(tm 71)),(4,(tm 73))]) 0,
 oF 75 1 12 1,
 oL 76 75 1,
 o1 77 (.append 1 8 true (tm 74) (tm 76)) 1,
 oM 13 77 2] []) (.region 4 [
 oM 78 4 0,
 oM 79 13 0,
 o1 80 (.call (fc 16) [(false,(.const (.str [113,117,101,117,101]))),(vv 79)] false 4) 0,
 oB 81 .add 78 80 4,
 oM 4 81 4] [])))) (.region 0 [
 oC 82 .add 60 1 0,
 oM 60 82 0] []))))))) (.seq (.region 5 [
 oM 83 4 0,
 oF 84 4 1 0,
 oF 85 0 84 0,
 oL 86 85 0,
 oF 87 4 1 0,
 oF 88 1 87 0,
 oL 89 88 0,
 oF 90 4 1 0,
 oF 91 2 90 0,
 oL 92 91 0,
 oF 93 4 1 0,
 oF 94 3 93 0,
 oL 95 94 0,
 o1 96 (.buildSlice 1 4 true [iz] [(0,(tm 86)),(1,(tm 89)),(2,(tm 92)),(3,(tm 95))]) 0,
 o1 97 (.call (fc 16) [(false,(.const (.str [119,101,105,103,104,116,115]))),(vv 96)] false 4) 1,
 oB 98 .add 83 97 5,
 oM 4 98 5] []) (.seq (.region 5 [
 oM 99 4 0,
 oF 100 8 1 0,
 oL 101 100 0,
 o1 102 (.buildSlice 1 1 true [iz] [(0,(tm 101))]) 0,
 o1 103 (.call (fc 16) [(false,(.const (.str [100,101,99,97,121]))),(vv 102)] false 4) 1,
 oB 104 .add 99 103 5,
 oM 4 104 5] []) (.seq (.region 0 [
 o1 14 (.move (.const (.str [101,97,115,121]))) 0] []) (.seq (.meet [1,14,4] [] ⟨[(1,(.ptr 0 0 0)),(14,(.v .str))],[4],[.one false .spec]⟩ (.seq (.region 0 [
 oF 105 9 1 0,
 oL 106 105 0,
 oC 107 .eql 106 2 0] []) (.cond (tm 107) (.region 0 [
 o1 14 (.move (.const (.str [99,111,110,115,101,114,118,97,116,105,118,101]))) 0] []) (.skip)))) (.seq (.region 4 [
 oM 108 4 0,
 oM 109 14 0,
 o1 110 (.bin .add (.const (.str [109,111,100,101,32])) (tm 109)) 0,
 o1 111 (.call (fc 16) [(vv 110),(false,(.const (.zsl)))] false 4) 0,
 oB 112 .add 108 111 4,
 oM 4 112 4] []) (.seq (.region 15 [
 o4 113 (.move (tm 4)) 0 [],
 o4 114 (.fieldAddr 10 (tm 1)) 0 [],
 o4 115 (.load false 1 (tm 114)) 0 [],
 o4 116 (.buildSlice 1 1 true [iz] [(0,(tm 115))]) 0 [],
 o4 117 (.call (fc 16) [(false,(.const (.str [106,111,98,115]))),(vv 116)] true 4) 1 [0],
 o4 118 (.fieldAddr 11 (tm 1)) 5 [],
 o4 119 (.load false 1 (tm 118)) 5 [],
 o4 120 (.buildSlice 1 1 true [iz] [(0,(tm 119))]) 5 [],
 o4 121 (.call (fc 16) [(false,(.const (.str [105,100,115]))),(vv 120)] true 4) 6 [0,1,2,3,4,5],
 o4 122 (.bin .add (tm 117) (tm 121)) 10 [0,1,2,3,4,5,6,7,8,9],
 o4 123 (.fieldAddr 12 (tm 1)) 10 [],
 o4 124 (.load false 1 (tm 123)) 10 [],
 o4 125 (.buildSlice 1 1 true [iz] [(0,(tm 124))]) 10 [],
 o4 126 (.call (fc 16) [(false,(.const (.str [118,101,114,115,105,111,110,115]))),(vv 125)] false 4) 11 [0,1,2,3,4,5,6,7,8,9,10],
 o4 127 (.bin .add (tm 122) (tm 126)) 15 [0,1,2,3,4,5,6,7,8,9,10,11,12,13,14],
 o4 128 (.bin .add (tm 113) (tm 127)) 15 [0,1,2,3,4,5,6,7,8,9,10,11,12,13,14],
 o4 4 (.move (tm 128)) 15 [0,1,2,3,4,5,6,7,8,9,10,11,12,13,14]] []) (.seq (.region 15 [
 o4 129 (.move (tm 4)) 0 [],
 o4 130 (.fieldAddr 13 (tm 1)) 0 [],
 o4 131 (.load false 1 (tm 130)) 0 [],
 o4 132 (.buildSlice 1 1 true [iz] [(0,(tm 131))]) 0 [],
 o4 133 (.call (fc 16) [(false,(.const (.str [108,105,110,103,101,114]))),(vv 132)] true 4) 1 [0],
 o4 134 (.fieldAddr 14 (tm 1)) 5 [],
 o4 135 (.load false 1 (tm 134)) 5 [],
 o4 136 (.buildSlice 1 1 true [iz] [(0,(tm 135))]) 5 [],
 o4 137 (.call (fc 16) [(false,(.const (.str [107,101,101,112]))),(vv 136)] true 4) 6 [0,1,2,3,4,5],
 o4 138 (.bin .add (tm 133) (tm 137)) 10 [0,1,2,3,4,5,6,7,8,9],
 o4 139 (.fieldAddr 15 (tm 1)) 10 [],
 o4 140 (.load false 1 (tm 139)) 10 [],
 o4 141 (.buildSlice 1 1 true [iz] [(0,(tm 140))]) 10 [],
 o4 142 (.call (fc 16) [(false,(.const (.str [105,110]))),(vv 141)] false 4) 11 [0,1,2,3,4,5,6,7,8,9,10],
 o4 143 (.bin .add (tm 138) (tm 142)) 15 [0,1,2,3,4,5,6,7,8,9,10,11,12,13,14],
 o4 144 (.bin .add (tm 129) (tm 143)) 15 [0,1,2,3,4,5,6,7,8,9,10,11,12,13,14],
 o4 4 (.move (tm 144)) 15 [0,1,2,3,4,5,6,7,8,9,10,11,12,13,14]] []) (.seq (.region 10 [
 o4 145 (.move (tm 4)) 0 [],
 o4 146 (.fieldAddr 16 (tm 1)) 0 [],
 o4 147 (.load false 1 (tm 146)) 0 [],
 o4 148 (.buildSlice 1 1 true [iz] [(0,(tm 147))]) 0 [],
 o4 149 (.call (fc 16) [(false,(.const (.str [111,117,116]))),(vv 148)] true 4) 1 [0],
 o4 150 (.fieldAddr 17 (tm 1)) 5 [],
 o4 151 (.load false 1 (tm 150)) 5 [],
 o4 152 (.buildSlice 1 1 true [iz] [(0,(tm 151))]) 5 [],
 o4 153 (.call (fc 16) [(false,(.const (.str [99,97,99,104,101]))),(vv 152)] false 4) 6 [0,1,2,3,4,5],
 o4 154 (.bin .add (tm 149) (tm 153)) 10 [0,1,2,3,4,5,6,7,8,9],
 o4 155 (.bin .add (tm 145) (tm 154)) 10 [0,1,2,3,4,5,6,7,8,9],
 o4 4 (.move (tm 155)) 10 [0,1,2,3,4,5,6,7,8,9]] []) (.seq (.region 0 [
 oM 156 4 0,
 oM 2 156 0,
 o1 3 (.move (ki 0)) 0] []) (.ret)))))))))))))))),[.tmp 2,.tmp 3],true⟩
def s6 : Sig := ⟨(.cons (.v .spec) .nil),[],((.tup (.cons (.v .str) (.cons (.v (.int .i64)) .nil))),[]),[]⟩
def l6_0 (g16 : (List UInt8) → (List Int) → Option (List UInt8)) (z14 : Spec) (nx19 : ((Unit × ((List UInt8) × (Int × Unit))) × (Spec × Unit)) → Option ((List UInt8) × (Int × Unit))) (text20 : (List UInt8)) (z21 : Int) (z22 : Spec) : Option ((List UInt8) × (Int × Unit)) :=
 cond (decide (z21 < (List.length z14.queues : Int)))
 (cond (decide (0 ≤ z21))
 (Option.bind (z14.queues[Int.toNat z21]?) fun y23 =>
 cond (smallB (5 + (List.length y23.users)) 8)
 (Option.bind (g16 ([113,117,101,117,101] : List UInt8) ([y23.part,y23.maxJobs,y23.maxRun,y23.maxUser,y23.qos] ++ y23.users)) fun r24 =>
 cond (decide (text20.length + r24.length ≤ 4294967296))
 (nx19 (((),text20 ++ r24,IntKind.wrap .i64 (z21 + 1),()),(z22,())))
 (none))
 (none))
 (none))
 (Option.bind (g16 ([119,101,105,103,104,116,115] : List UInt8) [z22.weights.age,z22.weights.size,z22.weights.qos,z22.weights.share]) fun r25 =>
 cond (decide (text20.length + r25.length ≤ 4294967296))
 (Option.bind (g16 ([100,101,99,97,121] : List UInt8) [z22.decay]) fun r26 =>
 cond (decide ((text20 ++ r25).length + r26.length ≤ 4294967296))
 (Option.bind (α := ((Unit × ((List UInt8) × Unit)) × (Spec × Unit)))
 (cond (decide (z22.mode = 2))
 (some (((),([99,111,110,115,101,114,118,97,116,105,118,101] : List UInt8),()),(z22,())))
 (some (((),([101,97,115,121] : List UInt8),()),(z22,())))) fun x27 =>
 cond (decide (([109,111,100,101,32] : List UInt8).length + x27.1.2.1.length ≤ 4294967296))
 (Option.bind (g16 (([109,111,100,101,32] : List UInt8) ++ x27.1.2.1) []) fun r28 =>
 cond (decide (((text20 ++ r25) ++ r26).length + r28.length ≤ 4294967296))
 (Option.bind (g16 ([106,111,98,115] : List UInt8) [x27.2.1.jobs]) fun r29 =>
 Option.bind (g16 ([105,100,115] : List UInt8) [x27.2.1.ids]) fun r30 =>
 cond (decide (r29.length + r30.length ≤ 4294967296))
 (Option.bind (g16 ([118,101,114,115,105,111,110,115] : List UInt8) [x27.2.1.versions]) fun r31 =>
 cond (decide ((r29 ++ r30).length + r31.length ≤ 4294967296))
 (cond (decide ((((text20 ++ r25) ++ r26) ++ r28).length + ((r29 ++ r30) ++ r31).length ≤ 4294967296))
 (Option.bind (g16 ([108,105,110,103,101,114] : List UInt8) [x27.2.1.linger]) fun r32 =>
 Option.bind (g16 ([107,101,101,112] : List UInt8) [x27.2.1.keep]) fun r33 =>
 cond (decide (r32.length + r33.length ≤ 4294967296))
 (Option.bind (g16 ([105,110] : List UInt8) [x27.2.1.inn]) fun r34 =>
 cond (decide ((r32 ++ r33).length + r34.length ≤ 4294967296))
 (cond (decide (((((text20 ++ r25) ++ r26) ++ r28) ++ ((r29 ++ r30) ++ r31)).length + ((r32 ++ r33) ++ r34).length ≤ 4294967296))
 (let v35 := ((((text20 ++ r25) ++ r26) ++ r28) ++ ((r29 ++ r30) ++ r31)) ++ ((r32 ++ r33) ++ r34)
 Option.bind (g16 ([111,117,116] : List UInt8) [x27.2.1.out]) fun r36 =>
 Option.bind (g16 ([99,97,99,104,101] : List UInt8) [x27.2.1.cache]) fun r37 =>
 cond (decide (r36.length + r37.length ≤ 4294967296))
 (cond (decide (v35.length + (r36 ++ r37).length ≤ 4294967296))
 (some (v35 ++ (r36 ++ r37),0,()))
 (none))
 (none))
 (none))
 (none))
 (none))
 (none))
 (none))
 (none))
 (none))
 (none))
 (none))
 (none))
def l6_1 (L : Lp) (g16 : (List UInt8) → (List Int) → Option (List UInt8)) (z6 : Spec) (nx11 : ((Unit × ((List UInt8) × (Int × Unit))) × (Spec × Unit)) → Option ((List UInt8) × (Int × Unit))) (text12 : (List UInt8)) (z13 : Int) (z14 : Spec) : Option ((List UInt8) × (Int × Unit)) :=
 cond (decide (z13 < (List.length z6.parts : Int)))
 (cond (decide (0 ≤ z13))
 (Option.bind (z6.parts[Int.toNat z13]?) fun y15 =>
 Option.bind (g16 ([112,97,114,116] : List UInt8) y15) fun r16 =>
 cond (decide (text12.length + r16.length ≤ 4294967296))
 (nx11 (((),text12 ++ r16,IntKind.wrap .i64 (z13 + 1),()),(z14,())))
 (none))
 (none))
 (Option.bind (g16 ([117,115,101,114,115] : List UInt8) [z14.users]) fun r17 =>
 cond (decide (text12.length + r17.length ≤ 4294967296))
 (L (fun (s18 : ((Unit × ((List UInt8) × (Int × Unit))) × (Spec × Unit))) nx19 => l6_0 g16 z14 nx19 s18.1.2.1 s18.1.2.2.1 s18.2.1) (((),text12 ++ r17,0,()),(z14,())))
 (none))
def l6_2 (L : Lp) (g15 : Res → Option ((List UInt8) × (Int × Unit))) (g16 : (List UInt8) → (List Int) → Option (List UInt8)) (as0 : Spec) (nx3 : ((Unit × ((List UInt8) × (Int × Unit))) × (Spec × Unit)) → Option ((List UInt8) × (Int × Unit))) (text4 : (List UInt8)) (z5 : Int) (z6 : Spec) : Option ((List UInt8) × (Int × Unit)) :=
 cond (decide (z5 < (List.length as0.nodes : Int)))
 (cond (decide (0 ≤ z5))
 (Option.bind (as0.nodes[Int.toNat z5]?) fun y7 =>
 Option.bind (g15 y7) fun r8 =>
 cond (!decide (r8.2.1 = 0))
 (some (([] : List UInt8),r8.2.1,()))
 (cond (decide (([110,111,100,101,32] : List UInt8).length + r8.1.length ≤ 4294967296))
 (cond (decide ((([110,111,100,101,32] : List UInt8) ++ r8.1).length + ([10] : List UInt8).length ≤ 4294967296))
 (cond (decide (text4.length + ((([110,111,100,101,32] : List UInt8) ++ r8.1) ++ ([10] : List UInt8)).length ≤ 4294967296))
 (let v9 := text4 ++ ((([110,111,100,101,32] : List UInt8) ++ r8.1) ++ ([10] : List UInt8))
 nx3 (((),v9,IntKind.wrap .i64 (z5 + 1),()),(z6,())))
 (none))
 (none))
 (none)))
 (none))
 (L (fun (s10 : ((Unit × ((List UInt8) × (Int × Unit))) × (Spec × Unit))) nx11 => l6_1 L g16 z6 nx11 s10.1.2.1 s10.1.2.2.1 s10.2.1) (((),text4,0,()),(z6,())))
def F6 (L : Lp) (g12 : Spec → Option Bool) (g15 : Res → Option ((List UInt8) × (Int × Unit))) (g16 : (List UInt8) → (List Int) → Option (List UInt8)) (as0 : Spec) : Option ((List UInt8) × (Int × Unit)) :=
 Option.bind (g12 as0) fun r1 =>
 cond (!r1)
 (some (([] : List UInt8),2,()))
 (L (fun (s2 : ((Unit × ((List UInt8) × (Int × Unit))) × (Spec × Unit))) nx3 => l6_2 L g15 g16 as0 nx3 s2.1.2.1 s2.1.2.2.1 s2.2.1) (((),([] : List UInt8),0,()),(as0,())))
theorem e6 (L : Lp) (g12 : Spec → Option Bool) (g15 : Res → Option ((List UInt8) × (Int × Unit))) (g16 : (List UInt8) → (List Int) → Option (List UInt8)) (x : s6.args.den) (h : denH s6.heap) : nrun [⟨12,s12,fun x h => g12 x.1⟩,⟨15,s15,fun x h => g15 x.1⟩,⟨16,s16,fun x h => g16 x.1 x.2.1⟩] L n6 s6 x h = F6 L g12 g15 g16 x.1 := by kernel_rfl
def f6 : Spec → Option ((List UInt8) × (Int × Unit)) := F6 (@LN LOOPS) f12 f15 f16
@[reducible] def t6 : Ent := ⟨6,s6,fun x h => f6 x.1⟩
theorem k6 : chkNF Tryz.prog Tryz.f6 n6 = true := by kernel_rfl
theorem ok6 : NOk Tryz.prog t6 := NOk.body (T := [t12,t15,t16]) mixed (nall_cons ok12 (nall_cons ok15 (nall_cons ok16 nall_nil))) (oneEach_of (by kernel_rfl)) Tryz.func6 k6 (by kernel_rfl) (fun x h => e6 _ _ _ _ x h)
def n29 : NFunc := ⟨15,.seq (.region 0 [
 o1 6 (.move kf) 0] []) (.seq (.region 0 [
 oM 7 1 0,
 oM 8 0 0,
 oB 9 .leq 7 8 0,
 oM 10 9 0,
 o3 11 (.move (tm 0)) 10 0,
 o3 12 (.move (tm 2)) 10 0,
 o3 13 (.bin .leq (tm 11) (tm 12)) 10 0,
 o1 14 (.pick (tm 10) (tm 13) kf) 0,
 oM 6 14 0] []) (.ret)),[.tmp 6],true⟩
def s29 : Sig := ⟨(.cons (.v (.int .i64)) (.cons (.v (.int .i64)) (.cons (.v (.int .i64)) .nil))),[],((.v .bool),[]),[]⟩
def F29 (L : Lp)  (an0 : Int) (lo1 : Int) (hi2 : Int) : Option Bool :=
 cond (decide (lo1 ≤ an0))
 (some (decide (an0 ≤ hi2)))
 (some false)
theorem e29 (L : Lp)  (x : s29.args.den) (h : denH s29.heap) : nrun [] L n29 s29 x h = F29 L  x.1 x.2.1 x.2.2.1 := by kernel_rfl
def f29 : Int → Int → Int → Option Bool := F29 (@LN LOOPS) 
@[reducible] def t29 : Ent := ⟨29,s29,fun x h => f29 x.1 x.2.1 x.2.2.1⟩
theorem k29 : chkNF Tryz.prog Tryz.f29 n29 = true := by kernel_rfl
theorem ok29 : NOk Tryz.prog t29 := NOk.body (T := []) mixed nall_nil (oneEach_of (by kernel_rfl)) Tryz.func29 k29 (by kernel_rfl) (fun x h => e29 _  x h)
def n66 : NFunc := ⟨9,.seq (.region 0 [
 o1 2 (.move kf) 0] []) (.seq (.region 0 [
 oM 3 0 0,
 oC 4 .geq 3 0 0,
 oM 5 4 0,
 o3 6 (.move (tm 0)) 5 0,
 o3 7 (.bin .leq (tm 6) (ki 1048576)) 5 0,
 o1 8 (.pick (tm 5) (tm 7) kf) 0,
 oM 2 8 0] []) (.ret)),[.tmp 2],true⟩
def s66 : Sig := ⟨(.cons (.v (.int .i64)) .nil),[],((.v .bool),[]),[]⟩
def F66 (L : Lp)  (an0 : Int) : Option Bool :=
 cond (decide (0 ≤ an0))
 (some (decide (an0 ≤ 1048576)))
 (some false)
theorem e66 (L : Lp)  (x : s66.args.den) (h : denH s66.heap) : nrun [] L n66 s66 x h = F66 L  x.1 := by kernel_rfl
def f66 : Int → Option Bool := F66 (@LN LOOPS) 
@[reducible] def t66 : Ent := ⟨66,s66,fun x h => f66 x.1⟩
theorem k66 : chkNF Tryz.prog Tryz.f66 n66 = true := by kernel_rfl
theorem ok66 : NOk Tryz.prog t66 := NOk.body (T := []) mixed nall_nil (oneEach_of (by kernel_rfl)) Tryz.func66 k66 (by kernel_rfl) (fun x h => e66 _  x h)
def n54 : NFunc := ⟨21,.seq (.region 1 [
 o1 1 (.box 4 (tm 0)) 0,
 o1 2 (.move kf) 1] []) (.seq (.region 16 [
 oF 3 0 1 0,
 oL 4 3 0,
 o1 5 (.call (fc 66) [(vv 4)] false 4) 0,
 oM 6 5 4,
 o3 7 (.fieldAddr 1 (tm 1)) 6 4,
 o3 8 (.load false 1 (tm 7)) 6 4,
 o3 9 (.call (fc 66) [(vv 8)] false 4) 6 4,
 o1 10 (.pick (tm 6) (tm 9) kf) 8,
 oM 11 10 8,
 o3 12 (.fieldAddr 2 (tm 1)) 11 8,
 o3 13 (.load false 1 (tm 12)) 11 8,
 o3 14 (.call (fc 66) [(vv 13)] false 4) 11 8,
 o1 15 (.pick (tm 11) (tm 14) kf) 12,
 oM 16 15 12,
 o3 17 (.fieldAddr 3 (tm 1)) 16 12,
 o3 18 (.load false 1 (tm 17)) 16 12,
 o3 19 (.call (fc 66) [(vv 18)] false 4) 16 12,
 o1 20 (.pick (tm 16) (tm 19) kf) 16,
 oM 2 20 16] []) (.ret)),[.tmp 2],true⟩
def s54 : Sig := ⟨(.cons (.v .res) .nil),[],((.v .bool),[]),[]⟩
def F54 (L : Lp) (g66 : Int → Option Bool) (a0 : Res) : Option Bool :=
 Option.bind (g66 a0.cpu) fun r1 =>
 cond r1
 (Option.bind (g66 a0.mem) fun r2 =>
 cond r2
 (Option.bind (g66 a0.gpu) fun r3 =>
 cond r3
 (Option.bind (g66 a0.lic) fun r4 =>
 some r4)
 (some false))
 (some false))
 (some false)
theorem e54 (L : Lp) (g66 : Int → Option Bool) (x : s54.args.den) (h : denH s54.heap) : nrun [⟨66,s66,fun x h => g66 x.1⟩] L n54 s54 x h = F54 L g66 x.1 := by kernel_rfl
def f54 : Res → Option Bool := F54 (@LN LOOPS) f66
@[reducible] def t54 : Ent := ⟨54,s54,fun x h => f54 x.1⟩
theorem k54 : chkNF Tryz.prog Tryz.f54 n54 = true := by kernel_rfl
theorem ok54 : NOk Tryz.prog t54 := NOk.body (T := [t66]) mixed (nall_cons ok66 nall_nil) (oneEach_of (by kernel_rfl)) Tryz.func54 k54 (by kernel_rfl) (fun x h => e54 _ _ x h)
def n30 : NFunc := ⟨22,.seq (.region 1 [
 o1 1 (.box 18 (tm 0)) 0,
 o1 2 (.move kf) 1] []) (.seq (.seq (.region 0 [
 o1 3 (.move (ki 0)) 0] []) (.block 0 (.loop [1,3] ⟨[(1,(.ptr 0 0 0)),(3,vI)],[],[.one false .spec]⟩ (.seq (.seq (.region 0 [
 oM 4 3 0,
 oF 5 0 1 0,
 oL 6 5 0,
 o1 7 (.len (tm 6)) 0,
 oB 8 .lss 4 7 0] []) (.cond (tm 8) (.skip) (.exit 0))) (.seq (.block 1 (.seq (.region 4 [
 oF 11 0 1 0,
 oL 12 11 0,
 oM 13 3 0,
 o1 14 (.indexSl 4 (tm 12) (tm 13)) 0,
 oT 15 4 14 0,
 o1 16 (.call (fc 54) [(vv 15)] false 4) 0,
 o1 17 (.un .not (tm 16)) 4] []) (.cond (tm 17) (.seq (.region 0 [
 o1 2 (.move kf) 0] []) (.ret)) (.skip)))) (.region 0 [
 oM 9 3 0,
 oC 10 .add 9 1 0,
 oM 3 10 0] [])))))) (.seq (.region 4 [
 oF 18 0 1 0,
 oL 19 18 0,
 o1 20 (.len (tm 19)) 0,
 o1 21 (.call (fc 29) [(vv 20),(false,(ki 1)),(false,(ki 16))] false 4) 0,
 oM 2 21 4] []) (.ret))),[.tmp 2],true⟩
def s30 : Sig := ⟨(.cons (.v .spec) .nil),[],((.v .bool),[]),[]⟩
def l30_0 (g54 : Res → Option Bool) (g29 : Int → Int → Int → Option Bool) (nx2 : ((Unit × (Int × Unit)) × (Spec × Unit)) → Option Bool) (i3 : Int) (z4 : Spec) : Option Bool :=
 cond (decide (i3 < (List.length z4.nodes : Int)))
 (cond (decide (0 ≤ i3))
 (Option.bind (z4.nodes[Int.toNat i3]?) fun y5 =>
 Option.bind (g54 y5) fun r6 =>
 cond (!r6)
 (some false)
 (nx2 (((),IntKind.wrap .i64 (i3 + 1),()),(z4,()))))
 (none))
 (Option.bind (g29 (List.length z4.nodes : Int) 1 16) fun r7 =>
 some r7)
def F30 (L : Lp) (g54 : Res → Option Bool) (g29 : Int → Int → Int → Option Bool) (as0 : Spec) : Option Bool :=
 L (fun (s1 : ((Unit × (Int × Unit)) × (Spec × Unit))) nx2 => l30_0 g54 g29 nx2 s1.1.2.1 s1.2.1) (((),0,()),(as0,()))
theorem e30 (L : Lp) (g54 : Res → Option Bool) (g29 : Int → Int → Int → Option Bool) (x : s30.args.den) (h : denH s30.heap) : nrun [⟨54,s54,fun x h => g54 x.1⟩,⟨29,s29,fun x h => g29 x.1 x.2.1 x.2.2.1⟩] L n30 s30 x h = F30 L g54 g29 x.1 := by kernel_rfl
def f30 : Spec → Option Bool := F30 (@LN LOOPS) f54 f29
@[reducible] def t30 : Ent := ⟨30,s30,fun x h => f30 x.1⟩
theorem k30 : chkNF Tryz.prog Tryz.f30 n30 = true := by kernel_rfl
theorem ok30 : NOk Tryz.prog t30 := NOk.body (T := [t54,t29]) mixed (nall_cons ok54 (nall_cons ok29 nall_nil)) (oneEach_of (by kernel_rfl)) Tryz.func30 k30 (by kernel_rfl) (fun x h => e30 _ _ _ x h)
def n55 : NFunc := ⟨41,.seq (.region 0 [
 o1 4 (.move kf) 0] []) (.seq (.seq (.region 0 [
 o1 5 (.move (ki 0)) 0] []) (.block 0 (.loop [0,1,5] ⟨[(5,vI)],[0,1],[]⟩ (.seq (.seq (.region 0 [
 oM 6 5 0,
 oM 7 0 0,
 o1 8 (.len (tm 7)) 0,
 oB 9 .lss 6 8 0] []) (.cond (tm 9) (.skip) (.exit 0))) (.seq (.block 1 (.seq (.region 0 [
 o4 12 (.move (tm 0)) 0 [],
 o4 13 (.move (tm 5)) 0 [],
 o4 14 (.indexSl 1 (tm 12) (tm 13)) 0 [],
 o4 15 (.load false 1 (tm 14)) 0 [],
 o4 16 (.bin .lss (tm 15) (ki 0)) 0 [],
 o4 17 (.move (tm 16)) 0 [],
 ⟨(some 18),.move (tm 0),(some (17,false)),0,(some ([],none))⟩,
 ⟨(some 19),.move (tm 5),(some (17,false)),0,(some ([],none))⟩,
 ⟨(some 20),.indexSl 1 (tm 18) (tm 19),(some (17,false)),0,(some ([],none))⟩,
 ⟨(some 21),.load false 1 (tm 20),(some (17,false)),0,(some ([],none))⟩,
 ⟨(some 22),.move (tm 1),(some (17,false)),0,(some ([],none))⟩,
 ⟨(some 23),.bin .geq (tm 21) (tm 22),(some (17,false)),0,(some ([],none))⟩,
 o4 24 (.pick (tm 17) kt (tm 23)) 0 [],
 o4 25 (.move (tm 24)) 0 [],
 ⟨(some 26),.move (tm 5),(some (25,false)),0,(some ([],none))⟩,
 ⟨(some 27),.bin .gtr (tm 26) (ki 0),(some (25,false)),0,(some ([],none))⟩,
 ⟨(some 28),.move (tm 27),(some (25,false)),0,(some ([],none))⟩,
 ⟨(some 29),.move (tm 0),(some (28,true)),0,(some ([],none))⟩,
 ⟨(some 30),.move (tm 5),(some (28,true)),0,(some ([],none))⟩,
 ⟨(some 31),.bin .sub (tm 30) (ki 1),(some (28,true)),0,(some ([],none))⟩,
 ⟨(some 32),.indexSl 1 (tm 29) (tm 31),(some (28,true)),0,(some ([],none))⟩,
 ⟨(some 33),.load false 1 (tm 32),(some (28,true)),0,(some ([],none))⟩,
 ⟨(some 34),.move (tm 0),(some (28,true)),0,(some ([],none))⟩,
 ⟨(some 35),.move (tm 5),(some (28,true)),0,(some ([],none))⟩,
 ⟨(some 36),.indexSl 1 (tm 34) (tm 35),(some (28,true)),0,(some ([],none))⟩,
 ⟨(some 37),.load false 1 (tm 36),(some (28,true)),0,(some ([],none))⟩,
 ⟨(some 38),.bin .geq (tm 33) (tm 37),(some (28,true)),0,(some ([],none))⟩,
 ⟨(some 39),.pick (tm 28) (tm 38) kf,(some (25,false)),0,(some ([],none))⟩,
 o4 40 (.pick (tm 25) kt (tm 39)) 0 []] []) (.cond (tm 40) (.seq (.region 0 [
 o1 4 (.move kf) 0] []) (.ret)) (.skip)))) (.region 0 [
 oM 10 5 0,
 oC 11 .add 10 1 0,
 oM 5 11 0] [])))))) (.seq (.region 0 [
 o1 4 (.move kt) 0] []) (.ret))),[.tmp 4],true⟩
def s55 : Sig := ⟨(.cons (.v (.list (.int .i64))) (.cons (.v (.int .i64)) .nil)),[],((.v .bool),[]),[]⟩
def l55_0 (al0 : (List Int)) (below1 : Int) (nx3 : ((Int × Unit) × Unit) → Option Bool) (i4 : Int) : Option Bool :=
 cond (decide (i4 < (List.length al0 : Int)))
 (cond (decide (0 ≤ i4))
 (Option.bind (al0[Int.toNat i4]?) fun y5 =>
 cond (decide (y5 < 0))
 (some false)
 (cond (decide (0 ≤ i4))
 (Option.bind (al0[Int.toNat i4]?) fun y6 =>
 cond (decide (below1 ≤ y6))
 (some false)
 (cond (decide (0 < i4))
 (cond (decide (0 ≤ (IntKind.wrap .i64 (i4 - 1))))
 (Option.bind (al0[Int.toNat (IntKind.wrap .i64 (i4 - 1))]?) fun y7 =>
 cond (decide (0 ≤ i4))
 (Option.bind (al0[Int.toNat i4]?) fun y8 =>
 cond (decide (y8 ≤ y7))
 (some false)
 (nx3 ((IntKind.wrap .i64 (i4 + 1),()),())))
 (none))
 (none))
 (nx3 ((IntKind.wrap .i64 (i4 + 1),()),()))))
 (none)))
 (none))
 (some true)
def F55 (L : Lp)  (al0 : (List Int)) (below1 : Int) : Option Bool :=
 L (fun (s2 : ((Int × Unit) × Unit)) nx3 => l55_0 al0 below1 nx3 s2.1.1) ((0,()),())
theorem e55 (L : Lp)  (x : s55.args.den) (h : denH s55.heap) : nrun [] L n55 s55 x h = F55 L  x.1 x.2.1 := by kernel_rfl
def f55 : (List Int) → Int → Option Bool := F55 (@LN LOOPS) 
@[reducible] def t55 : Ent := ⟨55,s55,fun x h => f55 x.1 x.2.1⟩
theorem k55 : chkNF Tryz.prog Tryz.f55 n55 = true := by kernel_rfl
theorem ok55 : NOk Tryz.prog t55 := NOk.body (T := []) mixed nall_nil (oneEach_of (by kernel_rfl)) Tryz.func55 k55 (by kernel_rfl) (fun x h => e55 _  x h)
def n31 : NFunc := ⟨34,.seq (.region 1 [
 o1 1 (.box 18 (tm 0)) 0,
 o1 2 (.move kf) 1] []) (.seq (.seq (.region 0 [
 o1 3 (.move (ki 0)) 0] []) (.block 0 (.loop [1,3] ⟨[(1,(.ptr 0 0 0)),(3,vI)],[],[.one false .spec]⟩ (.seq (.seq (.region 0 [
 oM 4 3 0,
 oF 5 1 1 0,
 oL 6 5 0,
 o1 7 (.len (tm 6)) 0,
 oB 8 .lss 4 7 0] []) (.cond (tm 8) (.skip) (.exit 0))) (.seq (.block 1 (.seq (.region 4 [
 o4 11 (.fieldAddr 1 (tm 1)) 0 [],
 o4 12 (.load false 1 (tm 11)) 0 [],
 o4 13 (.move (tm 3)) 0 [],
 o4 14 (.indexSl 1 (tm 12) (tm 13)) 0 [],
 o4 15 (.load false 1 (tm 14)) 0 [],
 o4 16 (.len (tm 15)) 0 [],
 o4 17 (.bin .lss (tm 16) (ki 1)) 0 [],
 o4 18 (.move (tm 17)) 0 [],
 ⟨(some 19),.fieldAddr 1 (tm 1),(some (18,false)),0,(some ([],none))⟩,
 ⟨(some 20),.load false 1 (tm 19),(some (18,false)),0,(some ([],none))⟩,
 ⟨(some 21),.move (tm 3),(some (18,false)),0,(some ([],none))⟩,
 ⟨(some 22),.indexSl 1 (tm 20) (tm 21),(some (18,false)),0,(some ([],none))⟩,
 ⟨(some 23),.load false 1 (tm 22),(some (18,false)),0,(some ([],none))⟩,
 ⟨(some 24),.fieldAddr 0 (tm 1),(some (18,false)),0,(some ([],none))⟩,
 ⟨(some 25),.load false 1 (tm 24),(some (18,false)),0,(some ([],none))⟩,
 ⟨(some 26),.len (tm 25),(some (18,false)),0,(some ([],none))⟩,
 ⟨(some 27),.call (fc 55) [(vv 23),(vv 26)] false 4,(some (18,false)),0,(some ([],none))⟩,
 ⟨(some 28),.un .not (tm 27),(some (18,false)),4,(some ([0,1,2,3],none))⟩,
 o4 29 (.pick (tm 18) kt (tm 28)) 4 [0,1,2,3]] []) (.cond (tm 29) (.seq (.region 0 [
 o1 2 (.move kf) 0] []) (.ret)) (.skip)))) (.region 0 [
 oM 9 3 0,
 oC 10 .add 9 1 0,
 oM 3 10 0] [])))))) (.seq (.region 4 [
 oF 30 1 1 0,
 oL 31 30 0,
 o1 32 (.len (tm 31)) 0,
 o1 33 (.call (fc 29) [(vv 32),(false,(ki 1)),(false,(ki 8))] false 4) 0,
 oM 2 33 4] []) (.ret))),[.tmp 2],true⟩
def s31 : Sig := ⟨(.cons (.v .spec) .nil),[],((.v .bool),[]),[]⟩
def l31_0 (g55 : (List Int) → Int → Option Bool) (g29 : Int → Int → Int → Option Bool) (nx2 : ((Unit × (Int × Unit)) × (Spec × Unit)) → Option Bool) (i3 : Int) (z4 : Spec) : Option Bool :=
 cond (decide (i3 < (List.length z4.parts : Int)))
 (cond (decide (0 ≤ i3))
 (Option.bind (z4.parts[Int.toNat i3]?) fun y5 =>
 cond (decide ((List.length y5 : Int) < 1))
 (some false)
 (cond (decide (0 ≤ i3))
 (Option.bind (z4.parts[Int.toNat i3]?) fun y6 =>
 Option.bind (g55 y6 (List.length z4.nodes : Int)) fun r7 =>
 cond (!r7)
 (some false)
 (nx2 (((),IntKind.wrap .i64 (i3 + 1),()),(z4,()))))
 (none)))
 (none))
 (Option.bind (g29 (List.length z4.parts : Int) 1 8) fun r8 =>
 some r8)
def F31 (L : Lp) (g55 : (List Int) → Int → Option Bool) (g29 : Int → Int → Int → Option Bool) (as0 : Spec) : Option Bool :=
 L (fun (s1 : ((Unit × (Int × Unit)) × (Spec × Unit))) nx2 => l31_0 g55 g29 nx2 s1.1.2.1 s1.2.1) (((),0,()),(as0,()))
theorem e31 (L : Lp) (g55 : (List Int) → Int → Option Bool) (g29 : Int → Int → Int → Option Bool) (x : s31.args.den) (h : denH s31.heap) : nrun [⟨55,s55,fun x h => g55 x.1 x.2.1⟩,⟨29,s29,fun x h => g29 x.1 x.2.1 x.2.2.1⟩] L n31 s31 x h = F31 L g55 g29 x.1 := by kernel_rfl
def f31 : Spec → Option Bool := F31 (@LN LOOPS) f55 f29
@[reducible] def t31 : Ent := ⟨31,s31,fun x h => f31 x.1⟩
theorem k31 : chkNF Tryz.prog Tryz.f31 n31 = true := by kernel_rfl
theorem ok31 : NOk Tryz.prog t31 := NOk.body (T := [t55,t29]) mixed (nall_cons ok55 (nall_cons ok29 nall_nil)) (oneEach_of (by kernel_rfl)) Tryz.func31 k31 (by kernel_rfl) (fun x h => e31 _ _ _ x h)
def n32 : NFunc := ⟨64,.seq (.region 1 [
 o1 1 (.box 18 (tm 0)) 0,
 o1 2 (.move kf) 1] []) (.seq (.seq (.region 0 [
 o1 3 (.move (ki 0)) 0] []) (.block 0 (.loop [1,3] ⟨[(1,(.ptr 0 0 0)),(3,vI)],[],[.one false .spec]⟩ (.seq (.seq (.region 0 [
 oM 5 3 0,
 oF 6 2 1 0,
 oL 7 6 0,
 o1 8 (.len (tm 7)) 0,
 oB 9 .lss 5 8 0] []) (.cond (tm 9) (.skip) (.exit 0))) (.seq (.block 1 (.seq (.region 1 [
 oF 12 2 1 0,
 oL 13 12 0,
 oM 14 3 0,
 o1 15 (.indexSl 6 (tm 13) (tm 14)) 0,
 oT 16 6 15 0,
 o1 4 (.alloc [iz,.zsl,iz,iz,iz,iz]) 0,
 oS 6 4 16 1] []) (.seq (.region 20 [
 oF 17 0 4 0,
 oL 18 17 0,
 oC 19 .lss 18 0 0,
 oM 20 19 0,
 o2 21 (.fieldAddr 0 (tm 4)) 20 0,
 o2 22 (.load false 1 (tm 21)) 20 0,
 o2 23 (.fieldAddr 1 (tm 1)) 20 0,
 o2 24 (.load false 1 (tm 23)) 20 0,
 o2 25 (.len (tm 24)) 20 0,
 o2 26 (.bin .geq (tm 22) (tm 25)) 20 0,
 o1 27 (.pick (tm 20) kt (tm 26)) 0,
 oM 28 27 0,
 o2 29 (.fieldAddr 1 (tm 4)) 28 0,
 o2 30 (.load false 1 (tm 29)) 28 0,
 o2 31 (.fieldAddr 3 (tm 1)) 28 0,
 o2 32 (.load false 1 (tm 31)) 28 0,
 o2 33 (.call (fc 55) [(vv 30),(vv 32)] false 4) 28 0,
 o2 34 (.un .not (tm 33)) 28 4,
 o1 35 (.pick (tm 28) kt (tm 34)) 4,
 oM 36 35 4,
 o2 37 (.fieldAddr 2 (tm 4)) 36 4,
 o2 38 (.load false 1 (tm 37)) 36 4,
 o2 39 (.call (fc 29) [(vv 38),(false,(ki 1)),(false,(ki 256))] false 4) 36 4,
 o2 40 (.un .not (tm 39)) 36 8,
 o1 41 (.pick (tm 36) kt (tm 40)) 8,
 oM 42 41 8,
 o2 43 (.fieldAddr 3 (tm 4)) 42 8,
 o2 44 (.load false 1 (tm 43)) 42 8,
 o2 45 (.call (fc 29) [(vv 44),(false,(ki 1)),(false,(ki 256))] false 4) 42 8,
 o2 46 (.un .not (tm 45)) 42 12,
 o1 47 (.pick (tm 42) kt (tm 46)) 12,
 oM 48 47 12,
 o2 49 (.fieldAddr 4 (tm 4)) 48 12,
 o2 50 (.load false 1 (tm 49)) 48 12,
 o2 51 (.call (fc 29) [(vv 50),(false,(ki 1)),(false,(ki 256))] false 4) 48 12,
 o2 52 (.un .not (tm 51)) 48 16,
 o1 53 (.pick (tm 48) kt (tm 52)) 16,
 oM 54 53 16,
 o2 55 (.fieldAddr 5 (tm 4)) 54 16,
 o2 56 (.load false 1 (tm 55)) 54 16,
 o2 57 (.call (fc 29) [(vv 56),(false,(ki 0)),(false,(ki 100))] false 4) 54 16,
 o2 58 (.un .not (tm 57)) 54 20,
 o1 59 (.pick (tm 54) kt (tm 58)) 20] []) (.cond (tm 59) (.seq (.region 0 [
 o1 2 (.move kf) 0] []) (.ret)) (.skip))))) (.region 0 [
 oM 10 3 0,
 oC 11 .add 10 1 0,
 oM 3 11 0] [])))))) (.seq (.region 4 [
 oF 60 2 1 0,
 oL 61 60 0,
 o1 62 (.len (tm 61)) 0,
 o1 63 (.call (fc 29) [(vv 62),(false,(ki 1)),(false,(ki 8))] false 4) 0,
 oM 2 63 4] []) (.ret))),[.tmp 2],true⟩
def s32 : Sig := ⟨(.cons (.v .spec) .nil),[],((.v .bool),[]),[]⟩
def l32_0 (g55 : (List Int) → Int → Option Bool) (g29 : Int → Int → Int → Option Bool) (nx2 : ((Unit × (Int × Unit)) × (Spec × Unit)) → Option Bool) (i3 : Int) (z4 : Spec) : Option Bool :=
 cond (decide (i3 < (List.length z4.queues : Int)))
 (cond (decide (0 ≤ i3))
 (Option.bind (z4.queues[Int.toNat i3]?) fun y5 =>
 cond (decide (y5.part < 0))
 (some false)
 (cond (decide ((List.length z4.parts : Int) ≤ y5.part))
 (some false)
 (Option.bind (g55 y5.users z4.users) fun r6 =>
 cond (!r6)
 (some false)
 (Option.bind (g29 y5.maxJobs 1 256) fun r7 =>
 cond (!r7)
 (some false)
 (Option.bind (g29 y5.maxRun 1 256) fun r8 =>
 cond (!r8)
 (some false)
 (Option.bind (g29 y5.maxUser 1 256) fun r9 =>
 cond (!r9)
 (some false)
 (Option.bind (g29 y5.qos 0 100) fun r10 =>
 cond (!r10)
 (some false)
 (nx2 (((),IntKind.wrap .i64 (i3 + 1),()),(z4,()))))))))))
 (none))
 (Option.bind (g29 (List.length z4.queues : Int) 1 8) fun r11 =>
 some r11)
def F32 (L : Lp) (g55 : (List Int) → Int → Option Bool) (g29 : Int → Int → Int → Option Bool) (as0 : Spec) : Option Bool :=
 L (fun (s1 : ((Unit × (Int × Unit)) × (Spec × Unit))) nx2 => l32_0 g55 g29 nx2 s1.1.2.1 s1.2.1) (((),0,()),(as0,()))
theorem e32 (L : Lp) (g55 : (List Int) → Int → Option Bool) (g29 : Int → Int → Int → Option Bool) (x : s32.args.den) (h : denH s32.heap) : nrun [⟨55,s55,fun x h => g55 x.1 x.2.1⟩,⟨29,s29,fun x h => g29 x.1 x.2.1 x.2.2.1⟩] L n32 s32 x h = F32 L g55 g29 x.1 := by kernel_rfl
def f32 : Spec → Option Bool := F32 (@LN LOOPS) f55 f29
@[reducible] def t32 : Ent := ⟨32,s32,fun x h => f32 x.1⟩
theorem k32 : chkNF Tryz.prog Tryz.f32 n32 = true := by kernel_rfl
theorem ok32 : NOk Tryz.prog t32 := NOk.body (T := [t55,t29]) mixed (nall_cons ok55 (nall_cons ok29 nall_nil)) (oneEach_of (by kernel_rfl)) Tryz.func32 k32 (by kernel_rfl) (fun x h => e32 _ _ _ x h)
def n17 : NFunc := ⟨83,.seq (.region 1 [
 o1 1 (.box 18 (tm 0)) 0,
 o1 2 (.move (.const (.str []))) 1] []) (.seq (.region 1 [
 oF 8 4 1 0,
 oT 9 4 8 0,
 o1 3 (.alloc [iz,iz,iz,iz]) 0,
 oS 4 3 9 1] []) (.seq (.meet [1,4] [] ⟨[(1,(.ptr 0 0 0)),(4,(.v .bool))],[],[.one false .spec]⟩ (.region 16 [
 oF 10 0 3 0,
 oL 11 10 0,
 o1 12 (.call (fc 29) [(vv 11),(false,(ki 0)),(false,(ki 1000))] false 4) 0,
 oM 13 12 4,
 o3 14 (.fieldAddr 1 (tm 3)) 13 4,
 o3 15 (.load false 1 (tm 14)) 13 4,
 o3 16 (.call (fc 29) [(vv 15),(false,(ki 0)),(false,(ki 1000))] false 4) 13 4,
 o1 17 (.pick (tm 13) (tm 16) kf) 8,
 oM 18 17 8,
 o3 19 (.fieldAddr 2 (tm 3)) 18 8,
 o3 20 (.load false 1 (tm 19)) 18 8,
 o3 21 (.call (fc 29) [(vv 20),(false,(ki 0)),(false,(ki 1000))] false 4) 18 8,
 o1 22 (.pick (tm 18) (tm 21) kf) 12,
 oM 23 22 12,
 o3 24 (.fieldAddr 3 (tm 3)) 23 12,
 o3 25 (.load false 1 (tm 24)) 23 12,
 o3 26 (.call (fc 29) [(vv 25),(false,(ki 0)),(false,(ki 1000))] false 4) 23 12,
 o1 27 (.pick (tm 23) (tm 26) kf) 16,
 oM 4 27 16] [])) (.seq (.region 1 [
 o1 28 (.buildSlice 1 15 true [.str []] [(0,(.const (.str [78,111,100,101,115]))),(1,(.const (.str [80,97,114,116,115]))),(2,(.const (.str [85,115,101,114,115]))),(3,(.const (.str [81,117,101,117,101,115]))),(4,(.const (.str [87,101,105,103,104,116,115]))),(5,(.const (.str [68,101,99,97,121]))),(6,(.const (.str [77,111,100,101]))),(7,(.const (.str [74,111,98,115]))),(8,(.const (.str [73,100,115]))),(9,(.const (.str [86,101,114,115,105,111,110,115]))),(10,(.const (.str [76,105,110,103,101,114]))),(11,(.const (.str [75,101,101,112]))),(12,(.const (.str [73,110]))),(13,(.const (.str [79,117,116]))),(14,(.const (.str [67,97,99,104,101])))]) 0,
 oM 5 28 1] []) (.seq (.region 57 [
 o4 29 (.load true 18 (tm 1)) 0 [],
 o4 30 (.call (fc 30) [(vv 29)] true 4) 0 [],
 o4 31 (.load true 18 (tm 1)) 4 [],
 o4 32 (.call (fc 31) [(vv 31)] true 4) 4 [0,1,2,3],
 o4 33 (.fieldAddr 3 (tm 1)) 8 [],
 o4 34 (.load false 1 (tm 33)) 8 [],
 o4 35 (.call (fc 29) [(vv 34),(false,(ki 1)),(false,(ki 8))] true 4) 8 [0,1,2,3,4,5,6,7],
 o4 36 (.load true 18 (tm 1)) 12 [],
 o4 37 (.call (fc 32) [(vv 36)] true 4) 12 [0,1,2,3,4,5,6,7,8,9,10,11],
 o4 38 (.move (tm 4)) 16 [],
 o4 39 (.fieldAddr 8 (tm 1)) 16 [],
 o4 40 (.load false 1 (tm 39)) 16 [],
 o4 41 (.call (fc 29) [(vv 40),(false,(ki 1)),(false,(ki 16))] true 4) 16 [0,1,2,3,4,5,6,7,8,9,10,11,12,13,14,15],
 o4 42 (.fieldAddr 9 (tm 1)) 20 [],
 o4 43 (.load false 1 (tm 42)) 20 [],
 o4 44 (.call (fc 29) [(vv 43),(false,(ki 1)),(false,(ki 2))] true 4) 20 [0,1,2,3,4,5,6,7,8,9,10,11,12,13,14,15,16,17,18,19],
 o4 45 (.fieldAddr 10 (tm 1)) 24 [],
 o4 46 (.load false 1 (tm 45)) 24 [],
 o4 47 (.call (fc 29) [(vv 46),(false,(ki 1)),(false,(ki 256))] true 4) 24 [0,1,2,3,4,5,6,7,8,9,10,11,12,13,14,15,16,17,18,19,20,21,22,23],
 o4 48 (.fieldAddr 11 (tm 1)) 28 [],
 o4 49 (.load false 1 (tm 48)) 28 [],
 o4 50 (.call (fc 29) [(vv 49),(false,(ki 1)),(false,(ki 1048576))] true 4) 28 [0,1,2,3,4,5,6,7,8,9,10,11,12,13,14,15,16,17,18,19,20,21,22,23,24,25,26,27],
 o4 51 (.fieldAddr 12 (tm 1)) 32 [],
 o4 52 (.load false 1 (tm 51)) 32 [],
 o4 53 (.call (fc 29) [(vv 52),(false,(ki 1)),(false,(ki 65536))] true 4) 32 [0,1,2,3,4,5,6,7,8,9,10,11,12,13,14,15,16,17,18,19,20,21,22,23,24,25,26,27,28,29,30,31],
 o4 54 (.fieldAddr 13 (tm 1)) 36 [],
 o4 55 (.load false 1 (tm 54)) 36 [],
 o4 56 (.call (fc 29) [(vv 55),(false,(ki 0)),(false,(ki 65536))] true 4) 36 [0,1,2,3,4,5,6,7,8,9,10,11,12,13,14,15,16,17,18,19,20,21,22,23,24,25,26,27,28,29,30,31,32,33,34,35],
 o4 57 (.fieldAddr 14 (tm 1)) 40 [],
 o4 58 (.load false 1 (tm 57)) 40 [],
 o4 59 (.call (fc 29) [(vv 58),(false,(ki 1)),(false,(ki 16))] true 4) 40 [0,1,2,3,4,5,6,7,8,9,10,11,12,13,14,15,16,17,18,19,20,21,22,23,24,25,26,27,28,29,30,31,32,33,34,35,36,37,38,39],
 o4 60 (.fieldAddr 15 (tm 1)) 44 [],
 o4 61 (.load false 1 (tm 60)) 44 [],
 o4 62 (.call (fc 29) [(vv 61),(false,(ki 1)),(false,(ki 8))] true 4) 44 [0,1,2,3,4,5,6,7,8,9,10,11,12,13,14,15,16,17,18,19,20,21,22,23,24,25,26,27,28,29,30,31,32,33,34,35,36,37,38,39,40,41,42,43],
 o4 63 (.fieldAddr 16 (tm 1)) 48 [],
 o4 64 (.load false 1 (tm 63)) 48 [],
 o4 65 (.call (fc 29) [(vv 64),(false,(ki 1)),(false,(ki 16))] true 4) 48 [0,1,2,3,4,5,6,7,8,9,10,11,12,13,14,15,16,17,18,19,20,21,22,23,24,25,26,27,28,29,30,31,32,33,34,35,36,37,38,39,40,41,42,43,44,45,46,47],
 o4 66 (.fieldAddr 17 (tm 1)) 52 [],
 o4 67 (.load false 1 (tm 66)) 52 [],
 o4 68 (.call (fc 29) [(vv 67),(false,(ki 0)),(false,(ki 16))] false 4) 52 [0,1,2,3,4,5,6,7,8,9,10,11,12,13,14,15,16,17,18,19,20,21,22,23,24,25,26,27,28,29,30,31,32,33,34,35,36,37,38,39,40,41,42,43,44,45,46,47,48,49,50,51],
 o4 69 (.buildSlice 1 15 true [.bool false] [(0,(tm 30)),(1,(tm 32)),(2,(tm 35)),(3,(tm 37)),(4,(tm 38)),(5,(tm 41)),(6,(tm 44)),(7,(tm 47)),(8,(tm 50)),(9,(tm 53)),(10,(tm 56)),(11,(tm 59)),(12,(tm 62)),(13,(tm 65)),(14,(tm 68))]) 56 [0,1,2,3,4,5,6,7,8,9,10,11,12,13,14,15,16,17,18,19,20,21,22,23,24,25,26,27,28,29,30,31,32,33,34,35,36,37,38,39,40,41,42,43,44,45,46,47,48,49,50,51,52,53,54,55],
 o4 6 (.move (tm 69)) 57 [0,1,2,3,4,5,6,7,8,9,10,11,12,13,14,15,16,17,18,19,20,21,22,23,24,25,26,27,28,29,30,31,32,33,34,35,36,37,38,39,40,41,42,43,44,45,46,47,48,49,50,51,52,53,54,55,56]] []) (.seq (.seq (.region 0 [
 o1 7 (.move (ki 0)) 0] []) (.block 0 (.loopU [5,6,7] 16 (.seq (.seq (.region 0 [
 oM 70 7 0,
 oC 71 .lss 70 15 0] []) (.cond (tm 71) (.skip) (.exit 0))) (.seq (.block 1 (.seq (.region 0 [
 oM 74 6 0,
 oM 75 7 0,
 o1 76 (.indexSl 1 (tm 74) (tm 75)) 0,
 oL 77 76 0,
 o1 78 (.un .not (tm 77)) 0] []) (.cond (tm 78) (.seq (.region 0 [
 oM 79 5 0,
 oM 80 7 0,
 o1 81 (.indexSl 1 (tm 79) (tm 80)) 0,
 oL 82 81 0,
 oM 2 82 0] []) (.ret)) (.skip)))) (.region 0 [
 oM 72 7 0,
 oC 73 .add 72 1 0,
 oM 7 73 0] [])))))) (.seq (.region 0 [
 o1 2 (.move (.const (.str []))) 0] []) (.ret))))))),[.tmp 2],true⟩
def s17 : Sig := ⟨(.cons (.v .spec) .nil),[],((.v .str),[]),[]⟩
def F17 (L : Lp) (g29 : Int → Int → Int → Option Bool) (g30 : Spec → Option Bool) (g31 : Spec → Option Bool) (g32 : Spec → Option Bool) (as0 : Spec) : Option (List UInt8) :=
 Option.bind (α := ((Unit × (Bool × Unit)) × (Spec × Unit)))
 (Option.bind (g29 as0.weights.age 0 1000) fun r1 =>
 cond r1
 (Option.bind (g29 as0.weights.size 0 1000) fun r2 =>
 cond r2
 (Option.bind (g29 as0.weights.qos 0 1000) fun r3 =>
 cond r3
 (Option.bind (g29 as0.weights.share 0 1000) fun r4 =>
 some (((),r4,()),(as0,())))
 (some (((),false,()),(as0,()))))
 (some (((),false,()),(as0,()))))
 (some (((),false,()),(as0,())))) fun x5 =>
 Option.bind (g30 x5.2.1) fun r6 =>
 Option.bind (g31 x5.2.1) fun r7 =>
 Option.bind (g29 x5.2.1.users 1 8) fun r8 =>
 Option.bind (g32 x5.2.1) fun r9 =>
 Option.bind (g29 x5.2.1.decay 1 16) fun r10 =>
 Option.bind (g29 x5.2.1.mode 1 2) fun r11 =>
 Option.bind (g29 x5.2.1.jobs 1 256) fun r12 =>
 Option.bind (g29 x5.2.1.ids 1 1048576) fun r13 =>
 Option.bind (g29 x5.2.1.versions 1 65536) fun r14 =>
 Option.bind (g29 x5.2.1.linger 0 65536) fun r15 =>
 Option.bind (g29 x5.2.1.keep 1 16) fun r16 =>
 Option.bind (g29 x5.2.1.inn 1 8) fun r17 =>
 Option.bind (g29 x5.2.1.out 1 16) fun r18 =>
 Option.bind (g29 x5.2.1.cache 0 16) fun r19 =>
 cond (!r6)
 (some ([78,111,100,101,115] : List UInt8))
 (cond (!r7)
 (some ([80,97,114,116,115] : List UInt8))
 (cond (!r8)
 (some ([85,115,101,114,115] : List UInt8))
 (cond (!r9)
 (some ([81,117,101,117,101,115] : List UInt8))
 (cond (!x5.1.2.1)
 (some ([87,101,105,103,104,116,115] : List UInt8))
 (cond (!r10)
 (some ([68,101,99,97,121] : List UInt8))
 (cond (!r11)
 (some ([77,111,100,101] : List UInt8))
 (cond (!r12)
 (some ([74,111,98,115] : List UInt8))
 (cond (!r13)
 (some ([73,100,115] : List UInt8))
 (cond (!r14)
 (some ([86,101,114,115,105,111,110,115] : List UInt8))
 (cond (!r15)
 (some ([76,105,110,103,101,114] : List UInt8))
 (cond (!r16)
 (some ([75,101,101,112] : List UInt8))
 (cond (!r17)
 (some ([73,110] : List UInt8))
 (cond (!r18)
 (some ([79,117,116] : List UInt8))
 (cond (!r19)
 (some ([67,97,99,104,101] : List UInt8))
 (some ([] : List UInt8))))))))))))))))
theorem e17 (L : Lp) (g29 : Int → Int → Int → Option Bool) (g30 : Spec → Option Bool) (g31 : Spec → Option Bool) (g32 : Spec → Option Bool) (x : s17.args.den) (h : denH s17.heap) : nrun [⟨29,s29,fun x h => g29 x.1 x.2.1 x.2.2.1⟩,⟨30,s30,fun x h => g30 x.1⟩,⟨31,s31,fun x h => g31 x.1⟩,⟨32,s32,fun x h => g32 x.1⟩] L n17 s17 x h = F17 L g29 g30 g31 g32 x.1 := by kernel_rfl
def f17 : Spec → Option (List UInt8) := F17 (@LN LOOPS) f29 f30 f31 f32
@[reducible] def t17 : Ent := ⟨17,s17,fun x h => f17 x.1⟩
theorem k17 : chkNF Tryz.prog Tryz.f17 n17 = true := by kernel_rfl
theorem ok17 : NOk Tryz.prog t17 := NOk.body (T := [t29,t30,t31,t32]) mixed (nall_cons ok29 (nall_cons ok30 (nall_cons ok31 (nall_cons ok32 nall_nil)))) (oneEach_of (by kernel_rfl)) Tryz.func17 k17 (by kernel_rfl) (fun x h => e17 _ _ _ _ _ x h)
def n7 : NFunc := ⟨6,.seq (.region 1 [
 o1 1 (.box 18 (tm 0)) 0,
 o1 2 (.move kf) 1] []) (.seq (.region 4 [
 oT 3 18 1 0,
 o1 4 (.call (fc 17) [(vv 3)] false 4) 0,
 o1 5 (.bin .eql (tm 4) (.const (.str []))) 4,
 oM 2 5 4] []) (.ret)),[.tmp 2],true⟩
def s7 : Sig := ⟨(.cons (.v .spec) .nil),[],((.v .bool),[]),[]⟩
def F7 (L : Lp) (g17 : Spec → Option (List UInt8)) (as0 : Spec) : Option Bool :=
 Option.bind (g17 as0) fun r1 =>
 some (decide (r1 = ([] : List UInt8)))
theorem e7 (L : Lp) (g17 : Spec → Option (List UInt8)) (x : s7.args.den) (h : denH s7.heap) : nrun [⟨17,s17,fun x h => g17 x.1⟩] L n7 s7 x h = F7 L g17 x.1 := by kernel_rfl
def f7 : Spec → Option Bool := F7 (@LN LOOPS) f17
@[reducible] def t7 : Ent := ⟨7,s7,fun x h => f7 x.1⟩
theorem k7 : chkNF Tryz.prog Tryz.f7 n7 = true := by kernel_rfl
theorem ok7 : NOk Tryz.prog t7 := NOk.body (T := [t17]) mixed (nall_cons ok17 nall_nil) (oneEach_of (by kernel_rfl)) Tryz.func7 k7 (by kernel_rfl) (fun x h => e7 _ _ x h)
def s56 : Sig := ⟨(.cons (.v .str) (.cons (.v .str) .nil)),[],((.v (.int .i64)),[]),[]⟩
def f56 : (List UInt8) → (List UInt8) → Option Int := strIdx
@[reducible] def t56 : Ent := ⟨56,s56,fun x h => f56 x.1 x.2.1⟩
theorem ok56 : NOk Tryz.prog t56 := ext56
def n33 : NFunc := ⟨23,.seq (.region 0 [
 o1 4 (.move (.const (.str []))) 0,
 o1 5 (.move (.const (.str []))) 0,
 o1 6 (.move kf) 0] []) (.seq (.seq (.region 4 [
 oM 8 0 0,
 oM 9 1 0,
 o1 10 (.call (fc 56) [(vv 8),(vv 9)] false 4) 0,
 oM 7 10 4] []) (.seq (.region 0 [
 oM 11 7 0,
 oC 12 .geq 11 0 0] []) (.cond (tm 12) (.seq (.region 0 [
 o4 13 (.move (tm 0)) 0 [],
 o4 14 (.move (tm 7)) 0 [],
 o4 15 (.sliceStr (tm 13) none (some (tm 14))) 0 [],
 o4 16 (.move (tm 0)) 0 [],
 o4 17 (.move (tm 7)) 0 [],
 o4 18 (.move (tm 1)) 0 [],
 o4 19 (.lenStr (tm 18)) 0 [],
 o4 20 (.bin .add (tm 17) (tm 19)) 0 [],
 o4 21 (.sliceStr (tm 16) (some (tm 20)) none) 0 [],
 o4 4 (.move (tm 15)) 0 [],
 o4 5 (.move (tm 21)) 0 [],
 o4 6 (.move kt) 0 []] []) (.ret)) (.skip)))) (.seq (.region 0 [
 oM 22 0 0,
 oM 4 22 0,
 o1 5 (.move (.const (.str []))) 0,
 o1 6 (.move kf) 0] []) (.ret))),[.tmp 4,.tmp 5,.tmp 6],true⟩
def s33 : Sig := ⟨(.cons (.v .str) (.cons (.v .str) .nil)),[],((.tup (.cons (.v .str) (.cons (.v .str) (.cons (.v .bool) .nil)))),[]),[]⟩
def F33 (L : Lp) (g56 : (List UInt8) → (List UInt8) → Option Int) (as0 : (List UInt8)) (sep1 : (List UInt8)) : Option ((List UInt8) × ((List UInt8) × (Bool × Unit))) :=
 Option.bind (g56 as0 sep1) fun r2 =>
 cond (decide (0 ≤ r2))
 (cond (decide (0 ≤ r2))
 (cond (decide ((Int.toNat r2) ≤ (List.length as0)))
 (cond (decide (0 ≤ (IntKind.wrap .i64 (r2 + (List.length sep1 : Int)))))
 (cond (decide ((Int.toNat (IntKind.wrap .i64 (r2 + (List.length sep1 : Int)))) ≤ (List.length as0)))
 (some (List.take (Int.toNat r2) as0,List.drop (Int.toNat (IntKind.wrap .i64 (r2 + (List.length sep1 : Int)))) as0,true,()))
 (none))
 (none))
 (none))
 (none))
 (some (as0,([] : List UInt8),false,()))
theorem e33 (L : Lp) (g56 : (List UInt8) → (List UInt8) → Option Int) (x : s33.args.den) (h : denH s33.heap) : nrun [⟨56,s56,fun x h => g56 x.1 x.2.1⟩] L n33 s33 x h = F33 L g56 x.1 x.2.1 := by kernel_rfl
def f33 : (List UInt8) → (List UInt8) → Option ((List UInt8) × ((List UInt8) × (Bool × Unit))) := F33 (@LN LOOPS) f56
@[reducible] def t33 : Ent := ⟨33,s33,fun x h => f33 x.1 x.2.1⟩
theorem k33 : chkNF Tryz.prog Tryz.f33 n33 = true := by kernel_rfl
theorem ok33 : NOk Tryz.prog t33 := NOk.body (T := [t56]) mixed (nall_cons ok56 nall_nil) (oneEach_of (by kernel_rfl)) Tryz.func33 k33 (by kernel_rfl) (fun x h => e33 _ _ x h)
def n18 : NFunc := ⟨13,.seq (.region 0 [
 o1 4 (.move (.const (.str []))) 0,
 o1 5 (.move (.const (.str []))) 0,
 o1 6 (.move kf) 0] []) (.seq (.region 4 [
 oM 7 0 0,
 oM 8 1 0,
 o1 9 (.call (fc 33) [(vv 7),(vv 8)] false 4) 0,
 oX 10 9 0 4,
 oX 11 9 1 4,
 oX 12 9 2 4,
 oM 4 10 4,
 oM 5 11 4,
 oM 6 12 4] []) (.ret)),[.tmp 4,.tmp 5,.tmp 6],true⟩
def s18 : Sig := ⟨(.cons (.v .str) (.cons (.v .str) .nil)),[],((.tup (.cons (.v .str) (.cons (.v .str) (.cons (.v .bool) .nil)))),[]),[]⟩
def F18 (L : Lp) (g33 : (List UInt8) → (List UInt8) → Option ((List UInt8) × ((List UInt8) × (Bool × Unit)))) (as0 : (List UInt8)) (sep1 : (List UInt8)) : Option ((List UInt8) × ((List UInt8) × (Bool × Unit))) :=
 Option.bind (g33 as0 sep1) fun r2 =>
 some (r2.1,r2.2.1,r2.2.2.1,())
theorem e18 (L : Lp) (g33 : (List UInt8) → (List UInt8) → Option ((List UInt8) × ((List UInt8) × (Bool × Unit)))) (x : s18.args.den) (h : denH s18.heap) : nrun [⟨33,s33,fun x h => g33 x.1 x.2.1⟩] L n18 s18 x h = F18 L g33 x.1 x.2.1 := by kernel_rfl
def f18 : (List UInt8) → (List UInt8) → Option ((List UInt8) × ((List UInt8) × (Bool × Unit))) := F18 (@LN LOOPS) f33
@[reducible] def t18 : Ent := ⟨18,s18,fun x h => f18 x.1 x.2.1⟩
theorem k18 : chkNF Tryz.prog Tryz.f18 n18 = true := by kernel_rfl
theorem ok18 : NOk Tryz.prog t18 := NOk.body (T := [t33]) mixed (nall_cons ok33 nall_nil) (oneEach_of (by kernel_rfl)) Tryz.func18 k18 (by kernel_rfl) (fun x h => e18 _ _ x h)
def n57 : NFunc := ⟨22,.seq (.region 0 [
 o1 6 (.move (ki 0)) 0] []) (.seq (.seq (.region 0 [
 oM 8 1 0,
 oM 7 8 0] []) (.block 0 (.loop [0,2,7] ⟨[(7,vI)],[0,2],[]⟩ (.seq (.seq (.region 0 [
 oM 9 7 0,
 oM 10 0 0,
 o1 11 (.len (tm 10)) 0,
 oB 12 .lss 9 11 0] []) (.cond (tm 12) (.skip) (.exit 0))) (.seq (.block 1 (.seq (.region 0 [
 oM 15 0 0,
 oM 16 7 0,
 o1 17 (.indexSl 1 (tm 15) (tm 16)) 0,
 oL 18 17 0,
 oM 19 2 0,
 oB 20 .eql 18 19 0] []) (.cond (tm 20) (.seq (.region 0 [
 oM 21 7 0,
 oM 6 21 0] []) (.ret)) (.skip)))) (.region 0 [
 oM 13 7 0,
 oC 14 .add 13 1 0,
 oM 7 14 0] [])))))) (.seq (.region 0 [
 o1 6 (.move (.const (.int .i64 (-1)))) 0] []) (.ret))),[.tmp 6],true⟩
def s57 : Sig := ⟨(.cons (.v (.list .str)) (.cons (.v (.int .i64)) (.cons (.v .str) .nil))),[],((.v (.int .i64)),[]),[]⟩
def l57_0 (words0 : (List (List UInt8))) (word2 : (List UInt8)) (nx4 : ((Int × Unit) × Unit) → Option Int) (i5 : Int) : Option Int :=
 cond (decide (i5 < (List.length words0 : Int)))
 (cond (decide (0 ≤ i5))
 (Option.bind (words0[Int.toNat i5]?) fun y6 =>
 cond (decide (y6 = word2))
 (some i5)
 (nx4 ((IntKind.wrap .i64 (i5 + 1),()),())))
 (none))
 (some (-1))
def F57 (L : Lp)  (words0 : (List (List UInt8))) (from1 : Int) (word2 : (List UInt8)) : Option Int :=
 L (fun (s3 : ((Int × Unit) × Unit)) nx4 => l57_0 words0 word2 nx4 s3.1.1) ((from1,()),())
theorem e57 (L : Lp)  (x : s57.args.den) (h : denH s57.heap) : nrun [] L n57 s57 x h = F57 L  x.1 x.2.1 x.2.2.1 := by kernel_rfl
def f57 : (List (List UInt8)) → Int → (List UInt8) → Option Int := F57 (@LN LOOPS) 
@[reducible] def t57 : Ent := ⟨57,s57,fun x h => f57 x.1 x.2.1 x.2.2.1⟩
theorem k57 : chkNF Tryz.prog Tryz.f57 n57 = true := by kernel_rfl
theorem ok57 : NOk Tryz.prog t57 := NOk.body (T := []) mixed nall_nil (oneEach_of (by kernel_rfl)) Tryz.func57 k57 (by kernel_rfl) (fun x h => e57 _  x h)
def s58 : Sig := ⟨(.cons (.v .str) .nil),[],((.v (.int .i64)),[]),[]⟩
def f58 : (List UInt8) → Option Int := unitsNum
@[reducible] def t58 : Ent := ⟨58,s58,fun x h => f58 x.1⟩
theorem ok58 : NOk Tryz.prog t58 := ext58
def n34 : NFunc := ⟨58,.seq (.region 1 [
 o1 2 (.alloc [iz,iz,iz,iz]) 0,
 o1 3 (.move (ki 0)) 1] []) (.seq (.seq (.region 0 [
 oM 14 0 0,
 o1 15 (.bin .eql (tm 14) (.const (.str [110,111,110,101]))) 0] []) (.cond (tm 15) (.seq (.region 0 [
 o1 16 (.build [iz,iz,iz,iz] []) 0,
 oS 4 2 16 0,
 o1 3 (.move (ki 0)) 0] []) (.ret)) (.skip))) (.seq (.region 4 [
 o1 17 (.call (fc 26) [] false 4) 0,
 oM 4 17 4] []) (.seq (.region 1 [
 o1 5 (.alloc [iz,iz,iz,iz]) 0] []) (.seq (.region 0 [
 o1 6 (.move (ki 0)) 0] []) (.seq (.seq (.region 0 [
 o1 7 (.move kt) 0] []) (.block 0 (.loop [0,2,4,5,6,7] ⟨[(0,(.v .str)),(2,(.ptr 0 0 0)),(5,(.ptr 1 0 0)),(6,vI),(7,(.v .bool))],[4],[.one false .res,.one false (.pair (.int .i64) (.pair (.int .i64) (.pair (.int .i64) (.int .i64))))]⟩ (.seq (.seq (.region 0 [
 oM 18 7 0] []) (.cond (tm 18) (.skip) (.exit 0))) (.block 1 (.seq (.region 0 [
 o1 8 (.move (.const (.str []))) 0] []) (.seq (.region 4 [
 oM 20 0 0,
 o1 21 (.call (fc 18) [(vv 20),(false,(.const (.str [44])))] false 4) 0,
 oM 19 21 4,
 oX 22 19 0 4,
 oX 23 19 1 4,
 oX 24 19 2 4,
 oM 8 22 4,
 oM 0 23 4,
 oM 7 24 4] []) (.seq (.region 4 [
 oM 26 8 0,
 o1 27 (.call (fc 18) [(vv 26),(false,(.const (.str [61])))] false 4) 0,
 oM 25 27 4,
 oX 28 25 0 4,
 oX 29 25 1 4,
 oX 30 25 2 4,
 oM 9 28 4,
 oM 10 29 4,
 oM 11 30 4] []) (.seq (.region 4 [
 oM 31 4 0,
 oM 32 6 0,
 oM 33 9 0,
 o1 34 (.call (fc 57) [(vv 31),(vv 32),(vv 33)] false 4) 0,
 oM 12 34 4] []) (.seq (.region 4 [
 oM 35 10 0,
 o1 36 (.call (fc 58) [(vv 35)] false 4) 0,
 oM 13 36 4] []) (.seq (.seq (.region 0 [
 oM 37 12 0,
 oC 38 .lss 37 0 0,
 oM 39 38 0,
 oN 40 13 39 0,
 o2 41 (.bin .lss (tm 40) (ki 1)) 39 0,
 o1 42 (.pick (tm 39) kt (tm 41)) 0] []) (.cond (tm 42) (.seq (.region 0 [
 o1 43 (.build [iz,iz,iz,iz] []) 0,
 oS 4 2 43 0,
 o1 3 (.move (ki 11)) 0] []) (.ret)) (.skip))) (.seq (.region 0 [
 oM 44 12 0,
 oM 45 13 0,
 o1 46 (.indexArr 4 1 (tm 5) (tm 44)) 0,
 oS 1 46 45 0] [⟨46,none,some (44,4)⟩]) (.region 0 [
 oM 47 12 0,
 oC 48 .add 47 1 0,
 oM 6 48 0] []))))))))))))) (.seq (.region 0 [
 o1 49 (.indexArr 4 1 (tm 5) (ki 0)) 0,
 oL 50 49 0,
 o1 51 (.indexArr 4 1 (tm 5) (ki 1)) 0,
 oL 52 51 0,
 o1 53 (.indexArr 4 1 (tm 5) (ki 2)) 0,
 oL 54 53 0,
 o1 55 (.indexArr 4 1 (tm 5) (ki 3)) 0,
 oL 56 55 0,
 o1 57 (.build [iz,iz,iz,iz] [(0,1,(tm 50)),(1,1,(tm 52)),(2,1,(tm 54)),(3,1,(tm 56))]) 0,
 oS 4 2 57 0,
 o1 3 (.move (ki 0)) 0] []) (.ret))))))),[.cell true 4 2,.tmp 3],true⟩
def s34 : Sig := ⟨(.cons (.v .str) .nil),[],((.tup (.cons (.v .res) (.cons (.v (.int .i64)) .nil))),[]),[]⟩
def l34_0 (g18 : (List UInt8) → (List UInt8) → Option ((List UInt8) × ((List UInt8) × (Bool × Unit)))) (g57 : (List (List UInt8)) → Int → (List UInt8) → Option Int) (g58 : (List UInt8) → Option Int) (r1 : (List (List UInt8))) (nx3 : (((List UInt8) × (Unit × (Unit × (Int × (Bool × Unit))))) × (Res × ((Int × (Int × (Int × Int))) × Unit))) → Option (Res × (Int × Unit))) (zs4 : (List UInt8)) (from5 : Int) (more6 : Bool) (z7 : Res) (z8 : (Int × (Int × (Int × Int)))) : Option (Res × (Int × Unit)) :=
 cond more6
 (Option.bind (g18 zs4 ([44] : List UInt8)) fun r9 =>
 Option.bind (g18 r9.1 ([61] : List UInt8)) fun r10 =>
 Option.bind (g57 r1 from5 r10.1) fun r11 =>
 Option.bind (g58 r10.2.1) fun r12 =>
 cond (decide (r11 < 0))
 (some (Res.mk 0 0 0 0,11,()))
 (cond (decide (r12 < 1))
 (some (Res.mk 0 0 0 0,11,()))
 (cond (decide (r11 = 3))
 (nx3 ((r9.2.1,(),(),IntKind.wrap .i64 (r11 + 1),r9.2.2.1,()),(z7,(z8.1,(z8.2.1,(z8.2.2.1,r12))),())))
 (cond (decide (r11 = 2))
 (nx3 ((r9.2.1,(),(),IntKind.wrap .i64 (r11 + 1),r9.2.2.1,()),(z7,(z8.1,(z8.2.1,(r12,z8.2.2.2))),())))
 (cond (decide (r11 = 1))
 (nx3 ((r9.2.1,(),(),IntKind.wrap .i64 (r11 + 1),r9.2.2.1,()),(z7,(z8.1,(r12,z8.2.2)),())))
 (cond (decide (r11 = 0))
 (nx3 ((r9.2.1,(),(),IntKind.wrap .i64 (r11 + 1),r9.2.2.1,()),(z7,(r12,z8.2),())))
 (none)))))))
 (some (Res.mk z8.1 z8.2.1 z8.2.2.1 z8.2.2.2,0,()))
def F34 (L : Lp) (g26 : Option (List (List UInt8))) (g18 : (List UInt8) → (List UInt8) → Option ((List UInt8) × ((List UInt8) × (Bool × Unit)))) (g57 : (List (List UInt8)) → Int → (List UInt8) → Option Int) (g58 : (List UInt8) → Option Int) (as0 : (List UInt8)) : Option (Res × (Int × Unit)) :=
 cond (decide (as0 = ([110,111,110,101] : List UInt8)))
 (some (Res.mk 0 0 0 0,0,()))
 (Option.bind (g26) fun r1 =>
 L (fun (s2 : (((List UInt8) × (Unit × (Unit × (Int × (Bool × Unit))))) × (Res × ((Int × (Int × (Int × Int))) × Unit)))) nx3 => l34_0 g18 g57 g58 r1 nx3 s2.1.1 s2.1.2.2.2.1 s2.1.2.2.2.2.1 s2.2.1 s2.2.2.1) ((as0,(),(),0,true,()),(Res.mk 0 0 0 0,(0,(0,(0,0))),())))
theorem e34 (L : Lp) (g26 : Option (List (List UInt8))) (g18 : (List UInt8) → (List UInt8) → Option ((List UInt8) × ((List UInt8) × (Bool × Unit)))) (g57 : (List (List UInt8)) → Int → (List UInt8) → Option Int) (g58 : (List UInt8) → Option Int) (x : s34.args.den) (h : denH s34.heap) : nrun [⟨26,s26,fun x h => g26 ⟩,⟨18,s18,fun x h => g18 x.1 x.2.1⟩,⟨57,s57,fun x h => g57 x.1 x.2.1 x.2.2.1⟩,⟨58,s58,fun x h => g58 x.1⟩] L n34 s34 x h = F34 L g26 g18 g57 g58 x.1 := by kernel_rfl
def f34 : (List UInt8) → Option (Res × (Int × Unit)) := F34 (@LN LOOPS) f26 f18 f57 f58
@[reducible] def t34 : Ent := ⟨34,s34,fun x h => f34 x.1⟩
theorem k34 : chkNF Tryz.prog Tryz.f34 n34 = true := by kernel_rfl
theorem ok34 : NOk Tryz.prog t34 := NOk.body (T := [t26,t18,t57,t58]) mixed (nall_cons ok26 (nall_cons ok18 (nall_cons ok57 (nall_cons ok58 nall_nil)))) (oneEach_of (by kernel_rfl)) Tryz.func34 k34 (by kernel_rfl) (fun x h => e34 _ _ _ _ _ x h)
def s35 : Sig := ⟨(.cons (.v .str) .nil),[],((.tup (.cons (.v (.list (.int .i64))) (.cons (.v .bool) .nil))),[]),[]⟩
def f35 : (List UInt8) → Option (((List Int) × (Bool × Unit))) := specNums
@[reducible] def t35 : Ent := ⟨35,s35,fun x h => f35 x.1⟩
theorem ok35 : NOk Tryz.prog t35 := ext35
def s36 : Sig := ⟨(.cons (.ptr 0 0 0) (.cons (.v .str) .nil)),[.cell false (.cons .zsl (.cons .zsl (.cons .zsl (.cons (.v (.int .i64)) (.cons (.v (.int .i64)) (.cons (.v (.int .i64)) (.cons (.v (.int .i64)) (.cons (.v (.int .i64)) (.cons (.v (.int .i64)) (.cons (.v (.int .i64)) (.cons (.v (.int .i64)) (.cons (.v (.int .i64)) (.cons (.v (.int .i64)) (.cons (.v (.int .i64)) (.cons (.v (.int .i64)) (.cons (.v (.int .i64)) (.cons (.v (.int .i64)) (.cons (.v (.int .i64)) .nil))))))))))))))))))],((.ptr 0 0 3),[.cell false (.cons .zsl (.cons .zsl (.cons .zsl (.cons (.v (.int .i64)) (.cons (.v (.int .i64)) (.cons (.v (.int .i64)) (.cons (.v (.int .i64)) (.cons (.v (.int .i64)) (.cons (.v (.int .i64)) (.cons (.v (.int .i64)) (.cons (.v (.int .i64)) (.cons (.v (.int .i64)) (.cons (.v (.int .i64)) (.cons (.v (.int .i64)) (.cons (.v (.int .i64)) (.cons (.v (.int .i64)) (.cons (.v (.int .i64)) (.cons (.v (.int .i64)) .nil))))))))))))))))))]),[((.ptr 0 0 8),[.cell false (.cons .zsl (.cons .zsl (.cons .zsl (.cons (.v (.int .i64)) (.cons (.v (.int .i64)) (.cons (.v (.int .i64)) (.cons (.v (.int .i64)) (.cons (.v (.int .i64)) (.cons (.v (.int .i64)) (.cons (.v (.int .i64)) (.cons (.v (.int .i64)) (.cons (.v (.int .i64)) (.cons (.v (.int .i64)) (.cons (.v (.int .i64)) (.cons (.v (.int .i64)) (.cons (.v (.int .i64)) (.cons (.v (.int .i64)) (.cons (.v (.int .i64)) .nil))))))))))))))))))]),((.ptr 0 0 10),[.cell false (.cons .zsl (.cons .zsl (.cons .zsl (.cons (.v (.int .i64)) (.cons (.v (.int .i64)) (.cons (.v (.int .i64)) (.cons (.v (.int .i64)) (.cons (.v (.int .i64)) (.cons (.v (.int .i64)) (.cons (.v (.int .i64)) (.cons (.v (.int .i64)) (.cons (.v (.int .i64)) (.cons (.v (.int .i64)) (.cons (.v (.int .i64)) (.cons (.v (.int .i64)) (.cons (.v (.int .i64)) (.cons (.v (.int .i64)) (.cons (.v (.int .i64)) .nil))))))))))))))))))]),((.ptr 0 0 11),[.cell false (.cons .zsl (.cons .zsl (.cons .zsl (.cons (.v (.int .i64)) (.cons (.v (.int .i64)) (.cons (.v (.int .i64)) (.cons (.v (.int .i64)) (.cons (.v (.int .i64)) (.cons (.v (.int .i64)) (.cons (.v (.int .i64)) (.cons (.v (.int .i64)) (.cons (.v (.int .i64)) (.cons (.v (.int .i64)) (.cons (.v (.int .i64)) (.cons (.v (.int .i64)) (.cons (.v (.int .i64)) (.cons (.v (.int .i64)) (.cons (.v (.int .i64)) .nil))))))))))))))))))]),((.ptr 0 0 12),[.cell false (.cons .zsl (.cons .zsl (.cons .zsl (.cons (.v (.int .i64)) (.cons (.v (.int .i64)) (.cons (.v (.int .i64)) (.cons (.v (.int .i64)) (.cons (.v (.int .i64)) (.cons (.v (.int .i64)) (.cons (.v (.int .i64)) (.cons (.v (.int .i64)) (.cons (.v (.int .i64)) (.cons (.v (.int .i64)) (.cons (.v (.int .i64)) (.cons (.v (.int .i64)) (.cons (.v (.int .i64)) (.cons (.v (.int .i64)) (.cons (.v (.int .i64)) .nil))))))))))))))))))]),((.ptr 0 0 13),[.cell false (.cons .zsl (.cons .zsl (.cons .zsl (.cons (.v (.int .i64)) (.cons (.v (.int .i64)) (.cons (.v (.int .i64)) (.cons (.v (.int .i64)) (.cons (.v (.int .i64)) (.cons (.v (.int .i64)) (.cons (.v (.int .i64)) (.cons (.v (.int .i64)) (.cons (.v (.int .i64)) (.cons (.v (.int .i64)) (.cons (.v (.int .i64)) (.cons (.v (.int .i64)) (.cons (.v (.int .i64)) (.cons (.v (.int .i64)) (.cons (.v (.int .i64)) .nil))))))))))))))))))]),((.ptr 0 0 14),[.cell false (.cons .zsl (.cons .zsl (.cons .zsl (.cons (.v (.int .i64)) (.cons (.v (.int .i64)) (.cons (.v (.int .i64)) (.cons (.v (.int .i64)) (.cons (.v (.int .i64)) (.cons (.v (.int .i64)) (.cons (.v (.int .i64)) (.cons (.v (.int .i64)) (.cons (.v (.int .i64)) (.cons (.v (.int .i64)) (.cons (.v (.int .i64)) (.cons (.v (.int .i64)) (.cons (.v (.int .i64)) (.cons (.v (.int .i64)) (.cons (.v (.int .i64)) .nil))))))))))))))))))]),((.ptr 0 0 15),[.cell false (.cons .zsl (.cons .zsl (.cons .zsl (.cons (.v (.int .i64)) (.cons (.v (.int .i64)) (.cons (.v (.int .i64)) (.cons (.v (.int .i64)) (.cons (.v (.int .i64)) (.cons (.v (.int .i64)) (.cons (.v (.int .i64)) (.cons (.v (.int .i64)) (.cons (.v (.int .i64)) (.cons (.v (.int .i64)) (.cons (.v (.int .i64)) (.cons (.v (.int .i64)) (.cons (.v (.int .i64)) (.cons (.v (.int .i64)) (.cons (.v (.int .i64)) .nil))))))))))))))))))]),((.ptr 0 0 16),[.cell false (.cons .zsl (.cons .zsl (.cons .zsl (.cons (.v (.int .i64)) (.cons (.v (.int .i64)) (.cons (.v (.int .i64)) (.cons (.v (.int .i64)) (.cons (.v (.int .i64)) (.cons (.v (.int .i64)) (.cons (.v (.int .i64)) (.cons (.v (.int .i64)) (.cons (.v (.int .i64)) (.cons (.v (.int .i64)) (.cons (.v (.int .i64)) (.cons (.v (.int .i64)) (.cons (.v (.int .i64)) (.cons (.v (.int .i64)) (.cons (.v (.int .i64)) .nil))))))))))))))))))]),((.ptr 0 0 17),[.cell false (.cons .zsl (.cons .zsl (.cons .zsl (.cons (.v (.int .i64)) (.cons (.v (.int .i64)) (.cons (.v (.int .i64)) (.cons (.v (.int .i64)) (.cons (.v (.int .i64)) (.cons (.v (.int .i64)) (.cons (.v (.int .i64)) (.cons (.v (.int .i64)) (.cons (.v (.int .i64)) (.cons (.v (.int .i64)) (.cons (.v (.int .i64)) (.cons (.v (.int .i64)) (.cons (.v (.int .i64)) (.cons (.v (.int .i64)) (.cons (.v (.int .i64)) .nil))))))))))))))))))]),(.nilp,[.cell false (.cons .zsl (.cons .zsl (.cons .zsl (.cons (.v (.int .i64)) (.cons (.v (.int .i64)) (.cons (.v (.int .i64)) (.cons (.v (.int .i64)) (.cons (.v (.int .i64)) (.cons (.v (.int .i64)) (.cons (.v (.int .i64)) (.cons (.v (.int .i64)) (.cons (.v (.int .i64)) (.cons (.v (.int .i64)) (.cons (.v (.int .i64)) (.cons (.v (.int .i64)) (.cons (.v (.int .i64)) (.cons (.v (.int .i64)) (.cons (.v (.int .i64)) .nil))))))))))))))))))])]⟩
@[reducible] def y36 : Type := ((Unit × ((Unit × (Unit × (Unit × (Int × (Int × (Int × (Int × (Int × (Int × (Int × (Int × (Int × (Int × (Int × (Int × (Int × (Int × (Int × Unit)))))))))))))))))) × Unit)) ⊕ ((Unit × ((Unit × (Unit × (Unit × (Int × (Int × (Int × (Int × (Int × (Int × (Int × (Int × (Int × (Int × (Int × (Int × (Int × (Int × (Int × Unit)))))))))))))))))) × Unit)) ⊕ ((Unit × ((Unit × (Unit × (Unit × (Int × (Int × (Int × (Int × (Int × (Int × (Int × (Int × (Int × (Int × (Int × (Int × (Int × (Int × (Int × Unit)))))))))))))))))) × Unit)) ⊕ ((Unit × ((Unit × (Unit × (Unit × (Int × (Int × (Int × (Int × (Int × (Int × (Int × (Int × (Int × (Int × (Int × (Int × (Int × (Int × (Int × Unit)))))))))))))))))) × Unit)) ⊕ ((Unit × ((Unit × (Unit × (Unit × (Int × (Int × (Int × (Int × (Int × (Int × (Int × (Int × (Int × (Int × (Int × (Int × (Int × (Int × (Int × Unit)))))))))))))))))) × Unit)) ⊕ ((Unit × ((Unit × (Unit × (Unit × (Int × (Int × (Int × (Int × (Int × (Int × (Int × (Int × (Int × (Int × (Int × (Int × (Int × (Int × (Int × Unit)))))))))))))))))) × Unit)) ⊕ ((Unit × ((Unit × (Unit × (Unit × (Int × (Int × (Int × (Int × (Int × (Int × (Int × (Int × (Int × (Int × (Int × (Int × (Int × (Int × (Int × Unit)))))))))))))))))) × Unit)) ⊕ ((Unit × ((Unit × (Unit × (Unit × (Int × (Int × (Int × (Int × (Int × (Int × (Int × (Int × (Int × (Int × (Int × (Int × (Int × (Int × (Int × Unit)))))))))))))))))) × Unit)) ⊕ ((Unit × ((Unit × (Unit × (Unit × (Int × (Int × (Int × (Int × (Int × (Int × (Int × (Int × (Int × (Int × (Int × (Int × (Int × (Int × (Int × Unit)))))))))))))))))) × Unit)) ⊕ ((Unit × ((Unit × (Unit × (Unit × (Int × (Int × (Int × (Int × (Int × (Int × (Int × (Int × (Int × (Int × (Int × (Int × (Int × (Int × (Int × Unit)))))))))))))))))) × Unit)) ⊕ (Unit × ((Unit × (Unit × (Unit × (Int × (Int × (Int × (Int × (Int × (Int × (Int × (Int × (Int × (Int × (Int × (Int × (Int × (Int × (Int × Unit)))))))))))))))))) × Unit))))))))))))
def F36 (L : Lp)  (word0 : (List UInt8)) (a1 : Int) (a2 : Int) (a3 : Int) (a4 : Int) (a5 : Int) (a6 : Int) (a7 : Int) (a8 : Int) (a9 : Int) (a10 : Int) (a11 : Int) (a12 : Int) (a13 : Int) (a14 : Int) (a15 : Int) : Option y36 :=
 cond (decide (word0 = ([117,115,101,114,115] : List UInt8)))
 (some (.inl ((),(((),(),(),a1,a2,a3,a4,a5,a6,a7,a8,a9,a10,a11,a12,a13,a14,a15,()),()))))
 (cond (decide (word0 = ([100,101,99,97,121] : List UInt8)))
 (some (.inr (.inl ((),(((),(),(),a1,a2,a3,a4,a5,a6,a7,a8,a9,a10,a11,a12,a13,a14,a15,()),())))))
 (cond (decide (word0 = ([106,111,98,115] : List UInt8)))
 (some (.inr (.inr (.inl ((),(((),(),(),a1,a2,a3,a4,a5,a6,a7,a8,a9,a10,a11,a12,a13,a14,a15,()),()))))))
 (cond (decide (word0 = ([105,100,115] : List UInt8)))
 (some (.inr (.inr (.inr (.inl ((),(((),(),(),a1,a2,a3,a4,a5,a6,a7,a8,a9,a10,a11,a12,a13,a14,a15,()),())))))))
 (cond (decide (word0 = ([118,101,114,115,105,111,110,115] : List UInt8)))
 (some (.inr (.inr (.inr (.inr (.inl ((),(((),(),(),a1,a2,a3,a4,a5,a6,a7,a8,a9,a10,a11,a12,a13,a14,a15,()),()))))))))
 (cond (decide (word0 = ([108,105,110,103,101,114] : List UInt8)))
 (some (.inr (.inr (.inr (.inr (.inr (.inl ((),(((),(),(),a1,a2,a3,a4,a5,a6,a7,a8,a9,a10,a11,a12,a13,a14,a15,()),())))))))))
 (cond (decide (word0 = ([107,101,101,112] : List UInt8)))
 (some (.inr (.inr (.inr (.inr (.inr (.inr (.inl ((),(((),(),(),a1,a2,a3,a4,a5,a6,a7,a8,a9,a10,a11,a12,a13,a14,a15,()),()))))))))))
 (cond (decide (word0 = ([105,110] : List UInt8)))
 (some (.inr (.inr (.inr (.inr (.inr (.inr (.inr (.inl ((),(((),(),(),a1,a2,a3,a4,a5,a6,a7,a8,a9,a10,a11,a12,a13,a14,a15,()),())))))))))))
 (cond (decide (word0 = ([111,117,116] : List UInt8)))
 (some (.inr (.inr (.inr (.inr (.inr (.inr (.inr (.inr (.inl ((),(((),(),(),a1,a2,a3,a4,a5,a6,a7,a8,a9,a10,a11,a12,a13,a14,a15,()),()))))))))))))
 (cond (decide (word0 = ([99,97,99,104,101] : List UInt8)))
 (some (.inr (.inr (.inr (.inr (.inr (.inr (.inr (.inr (.inr (.inl ((),(((),(),(),a1,a2,a3,a4,a5,a6,a7,a8,a9,a10,a11,a12,a13,a14,a15,()),())))))))))))))
 (some (.inr (.inr (.inr (.inr (.inr (.inr (.inr (.inr (.inr (.inr ((),(((),(),(),a1,a2,a3,a4,a5,a6,a7,a8,a9,a10,a11,a12,a13,a14,a15,()),()))))))))))))))))))))))
def f36 : (List UInt8) → Int → Int → Int → Int → Int → Int → Int → Int → Int → Int → Int → Int → Int → Int → Int → Option y36 := F36 (@LN LOOPS) 
@[reducible] def t36 : Ent := ⟨36,s36,fun x h => f36 x.2.1 h.1.2.2.2.1 h.1.2.2.2.2.1 h.1.2.2.2.2.2.1 h.1.2.2.2.2.2.2.1 h.1.2.2.2.2.2.2.2.1 h.1.2.2.2.2.2.2.2.2.1 h.1.2.2.2.2.2.2.2.2.2.1 h.1.2.2.2.2.2.2.2.2.2.2.1 h.1.2.2.2.2.2.2.2.2.2.2.2.1 h.1.2.2.2.2.2.2.2.2.2.2.2.2.1 h.1.2.2.2.2.2.2.2.2.2.2.2.2.2.1 h.1.2.2.2.2.2.2.2.2.2.2.2.2.2.2.1 h.1.2.2.2.2.2.2.2.2.2.2.2.2.2.2.2.1 h.1.2.2.2.2.2.2.2.2.2.2.2.2.2.2.2.2.1 h.1.2.2.2.2.2.2.2.2.2.2.2.2.2.2.2.2.2.1⟩
def s19 : Sig := ⟨(.cons (.ptr 0 0 0) (.cons (.v .str) (.cons (.v .str) .nil))),[.cell false (.cons .zsl (.cons .zsl (.cons .zsl (.cons (.v (.int .i64)) (.cons (.v (.int .i64)) (.cons (.v (.int .i64)) (.cons (.v (.int .i64)) (.cons (.v (.int .i64)) (.cons (.v (.int .i64)) (.cons (.v (.int .i64)) (.cons (.v (.int .i64)) (.cons (.v (.int .i64)) (.cons (.v (.int .i64)) (.cons (.v (.int .i64)) (.cons (.v (.int .i64)) (.cons (.v (.int .i64)) (.cons (.v (.int .i64)) (.cons (.v (.int .i64)) .nil))))))))))))))))))],((.v .bool),[.cell false (.cons (.slw 1 4) (.cons .zsl (.cons .zsl (.cons (.v (.int .i64)) (.cons (.v (.int .i64)) (.cons (.v (.int .i64)) (.cons (.v (.int .i64)) (.cons (.v (.int .i64)) (.cons (.v (.int .i64)) (.cons (.v (.int .i64)) (.cons (.v (.int .i64)) (.cons (.v (.int .i64)) (.cons (.v (.int .i64)) (.cons (.v (.int .i64)) (.cons (.v (.int .i64)) (.cons (.v (.int .i64)) (.cons (.v (.int .i64)) (.cons (.v (.int .i64)) .nil)))))))))))))))))),.typed .res]),[((.v .bool),[.cell false (.cons .zsl (.cons .zsl (.cons .zsl (.cons (.v (.int .i64)) (.cons (.v (.int .i64)) (.cons (.v (.int .i64)) (.cons (.v (.int .i64)) (.cons (.v (.int .i64)) (.cons (.v (.int .i64)) (.cons (.v (.int .i64)) (.cons (.v (.int .i64)) (.cons (.v (.int .i64)) (.cons (.v (.int .i64)) (.cons (.v (.int .i64)) (.cons (.v (.int .i64)) (.cons (.v (.int .i64)) (.cons (.v (.int .i64)) (.cons (.v (.int .i64)) .nil))))))))))))))))))]),((.v .bool),[.cell false (.cons .zsl (.cons (.slw 1 1) (.cons .zsl (.cons (.v (.int .i64)) (.cons (.v (.int .i64)) (.cons (.v (.int .i64)) (.cons (.v (.int .i64)) (.cons (.v (.int .i64)) (.cons (.v (.int .i64)) (.cons (.v (.int .i64)) (.cons (.v (.int .i64)) (.cons (.v (.int .i64)) (.cons (.v (.int .i64)) (.cons (.v (.int .i64)) (.cons (.v (.int .i64)) (.cons (.v (.int .i64)) (.cons (.v (.int .i64)) (.cons (.v (.int .i64)) .nil)))))))))))))))))),.typed (.list (.int .i64))]),((.v .bool),[.cell false (.cons .zsl (.cons .zsl (.cons (.slw 1 6) (.cons (.v (.int .i64)) (.cons (.v (.int .i64)) (.cons (.v (.int .i64)) (.cons (.v (.int .i64)) (.cons (.v (.int .i64)) (.cons (.v (.int .i64)) (.cons (.v (.int .i64)) (.cons (.v (.int .i64)) (.cons (.v (.int .i64)) (.cons (.v (.int .i64)) (.cons (.v (.int .i64)) (.cons (.v (.int .i64)) (.cons (.v (.int .i64)) (.cons (.v (.int .i64)) (.cons (.v (.int .i64)) .nil)))))))))))))))))),.typed .queue])]⟩
@[reducible] def y19 : Type := ((Bool × ((Unit × (Unit × (Unit × (Int × (Int × (Int × (Int × (Int × (Int × (Int × (Int × (Int × (Int × (Int × (Int × (Int × (Int × (Int × Unit)))))))))))))))))) × ((List Res) × Unit))) ⊕ ((Bool × ((Unit × (Unit × (Unit × (Int × (Int × (Int × (Int × (Int × (Int × (Int × (Int × (Int × (Int × (Int × (Int × (Int × (Int × (Int × Unit)))))))))))))))))) × Unit)) ⊕ ((Bool × ((Unit × (Unit × (Unit × (Int × (Int × (Int × (Int × (Int × (Int × (Int × (Int × (Int × (Int × (Int × (Int × (Int × (Int × (Int × Unit)))))))))))))))))) × ((List (List Int)) × Unit))) ⊕ (Bool × ((Unit × (Unit × (Unit × (Int × (Int × (Int × (Int × (Int × (Int × (Int × (Int × (Int × (Int × (Int × (Int × (Int × (Int × (Int × Unit)))))))))))))))))) × ((List Queue) × Unit))))))
def F19 (L : Lp) (g34 : (List UInt8) → Option (Res × (Int × Unit))) (g35 : (List UInt8) → Option ((List Int) × (Bool × Unit))) (g36 : (List UInt8) → Int → Int → Int → Int → Int → Int → Int → Int → Int → Int → Int → Int → Int → Int → Int → Option y36) (word0 : (List UInt8)) (words1 : (List UInt8)) (a2 : Int) (a3 : Int) (a4 : Int) (a5 : Int) (a6 : Int) (a7 : Int) (a8 : Int) (a9 : Int) (a10 : Int) (a11 : Int) (a12 : Int) (a13 : Int) (a14 : Int) (a15 : Int) (a16 : Int) : Option y19 :=
 cond (decide (word0 = ([110,111,100,101] : List UInt8)))
 (Option.bind (g34 words1) fun r17 =>
 some (.inl (decide (r17.2.1 = 0),(((),(),(),a2,a3,a4,a5,a6,a7,a8,a9,a10,a11,a12,a13,a14,a15,a16,()),[r17.1],()))))
 (cond (decide (word0 = ([109,111,100,101] : List UInt8)))
 (cond (decide (words1 = ([99,111,110,115,101,114,118,97,116,105,118,101] : List UInt8)))
 (some (.inr (.inl (true,(((),(),(),a2,a3,a4,a5,a6,a7,2,a9,a10,a11,a12,a13,a14,a15,a16,()),())))))
 (some (.inr (.inl (true,(((),(),(),a2,a3,a4,a5,a6,a7,1,a9,a10,a11,a12,a13,a14,a15,a16,()),()))))))
 (Option.bind (g35 words1) fun r18 =>
 cond (!r18.2.1)
 (some (.inr (.inl (false,(((),(),(),a2,a3,a4,a5,a6,a7,a8,a9,a10,a11,a12,a13,a14,a15,a16,()),())))))
 (cond (decide (word0 = ([112,97,114,116] : List UInt8)))
 (some (.inr (.inr (.inl (true,(((),(),(),a2,a3,a4,a5,a6,a7,a8,a9,a10,a11,a12,a13,a14,a15,a16,()),[r18.1],()))))))
 (cond (decide (word0 = ([113,117,101,117,101] : List UInt8)))
 (cond (decide ((List.length r18.1 : Int) < 5))
 (some (.inr (.inl (false,(((),(),(),a2,a3,a4,a5,a6,a7,a8,a9,a10,a11,a12,a13,a14,a15,a16,()),())))))
 (Option.bind (r18.1[0]?) fun y19 =>
 Option.bind (r18.1[1]?) fun y20 =>
 Option.bind (r18.1[2]?) fun y21 =>
 Option.bind (r18.1[3]?) fun y22 =>
 Option.bind (r18.1[4]?) fun y23 =>
 cond (decide (5 ≤ (List.length r18.1)))
 (some (.inr (.inr (.inr (true,(((),(),(),a2,a3,a4,a5,a6,a7,a8,a9,a10,a11,a12,a13,a14,a15,a16,()),[Queue.mk y19 (List.drop 5 r18.1) y20 y21 y22 y23],()))))))
 (none)))
 (cond (decide (word0 = ([119,101,105,103,104,116,115] : List UInt8)))
 (cond (!decide ((List.length r18.1 : Int) = 4))
 (some (.inr (.inl (false,(((),(),(),a2,a3,a4,a5,a6,a7,a8,a9,a10,a11,a12,a13,a14,a15,a16,()),())))))
 (Option.bind (r18.1[0]?) fun y24 =>
 Option.bind (r18.1[1]?) fun y25 =>
 Option.bind (r18.1[2]?) fun y26 =>
 Option.bind (r18.1[3]?) fun y27 =>
 some (.inr (.inl (true,(((),(),(),a2,y24,y25,y26,y27,a7,a8,a9,a10,a11,a12,a13,a14,a15,a16,()),()))))))
 (Option.bind (g36 word0 a2 a3 a4 a5 a6 a7 a8 a9 a10 a11 a12 a13 a14 a15 a16) (Sum.elim (fun r28 =>
 cond (!decide ((List.length r18.1 : Int) = 1))
 (some (.inr (.inl (false,(((),(),(),r28.2.1.2.2.2.1,r28.2.1.2.2.2.2.1,r28.2.1.2.2.2.2.2.1,r28.2.1.2.2.2.2.2.2.1,r28.2.1.2.2.2.2.2.2.2.1,r28.2.1.2.2.2.2.2.2.2.2.1,r28.2.1.2.2.2.2.2.2.2.2.2.1,r28.2.1.2.2.2.2.2.2.2.2.2.2.1,r28.2.1.2.2.2.2.2.2.2.2.2.2.2.1,r28.2.1.2.2.2.2.2.2.2.2.2.2.2.2.1,r28.2.1.2.2.2.2.2.2.2.2.2.2.2.2.2.1,r28.2.1.2.2.2.2.2.2.2.2.2.2.2.2.2.2.1,r28.2.1.2.2.2.2.2.2.2.2.2.2.2.2.2.2.2.1,r28.2.1.2.2.2.2.2.2.2.2.2.2.2.2.2.2.2.2.1,r28.2.1.2.2.2.2.2.2.2.2.2.2.2.2.2.2.2.2.2.1,()),())))))
 (Option.bind (r18.1[0]?) fun y29 =>
 some (.inr (.inl (true,(((),(),(),y29,r28.2.1.2.2.2.2.1,r28.2.1.2.2.2.2.2.1,r28.2.1.2.2.2.2.2.2.1,r28.2.1.2.2.2.2.2.2.2.1,r28.2.1.2.2.2.2.2.2.2.2.1,r28.2.1.2.2.2.2.2.2.2.2.2.1,r28.2.1.2.2.2.2.2.2.2.2.2.2.1,r28.2.1.2.2.2.2.2.2.2.2.2.2.2.1,r28.2.1.2.2.2.2.2.2.2.2.2.2.2.2.1,r28.2.1.2.2.2.2.2.2.2.2.2.2.2.2.2.1,r28.2.1.2.2.2.2.2.2.2.2.2.2.2.2.2.2.1,r28.2.1.2.2.2.2.2.2.2.2.2.2.2.2.2.2.2.1,r28.2.1.2.2.2.2.2.2.2.2.2.2.2.2.2.2.2.2.1,r28.2.1.2.2.2.2.2.2.2.2.2.2.2.2.2.2.2.2.2.1,()),())))))) (Sum.elim (fun r30 =>
 cond (!decide ((List.length r18.1 : Int) = 1))
 (some (.inr (.inl (false,(((),(),(),r30.2.1.2.2.2.1,r30.2.1.2.2.2.2.1,r30.2.1.2.2.2.2.2.1,r30.2.1.2.2.2.2.2.2.1,r30.2.1.2.2.2.2.2.2.2.1,r30.2.1.2.2.2.2.2.2.2.2.1,r30.2.1.2.2.2.2.2.2.2.2.2.1,r30.2.1.2.2.2.2.2.2.2.2.2.2.1,r30.2.1.2.2.2.2.2.2.2.2.2.2.2.1,r30.2.1.2.2.2.2.2.2.2.2.2.2.2.2.1,r30.2.1.2.2.2.2.2.2.2.2.2.2.2.2.2.1,r30.2.1.2.2.2.2.2.2.2.2.2.2.2.2.2.2.1,r30.2.1.2.2.2.2.2.2.2.2.2.2.2.2.2.2.2.1,r30.2.1.2.2.2.2.2.2.2.2.2.2.2.2.2.2.2.2.1,r30.2.1.2.2.2.2.2.2.2.2.2.2.2.2.2.2.2.2.2.1,()),())))))
 (Option.bind (r18.1[0]?) fun y31 =>
 some (.inr (.inl (true,(((),(),(),r30.2.1.2.2.2.1,r30.2.1.2.2.2.2.1,r30.2.1.2.2.2.2.2.1,r30.2.1.2.2.2.2.2.2.1,r30.2.1.2.2.2.2.2.2.2.1,y31,r30.2.1.2.2.2.2.2.2.2.2.2.1,r30.2.1.2.2.2.2.2.2.2.2.2.2.1,r30.2.1.2.2.2.2.2.2.2.2.2.2.2.1,r30.2.1.2.2.2.2.2.2.2.2.2.2.2.2.1,r30.2.1.2.2.2.2.2.2.2.2.2.2.2.2.2.1,r30.2.1.2.2.2.2.2.2.2.2.2.2.2.2.2.2.1,r30.2.1.2.2.2.2.2.2.2.2.2.2.2.2.2.2.2.1,r30.2.1.2.2.2.2.2.2.2.2.2.2.2.2.2.2.2.2.1,r30.2.1.2.2.2.2.2.2.2.2.2.2.2.2.2.2.2.2.2.1,()),())))))) (Sum.elim (fun r32 =>
 cond (!decide ((List.length r18.1 : Int) = 1))
 (some (.inr (.inl (false,(((),(),(),r32.2.1.2.2.2.1,r32.2.1.2.2.2.2.1,r32.2.1.2.2.2.2.2.1,r32.2.1.2.2.2.2.2.2.1,r32.2.1.2.2.2.2.2.2.2.1,r32.2.1.2.2.2.2.2.2.2.2.1,r32.2.1.2.2.2.2.2.2.2.2.2.1,r32.2.1.2.2.2.2.2.2.2.2.2.2.1,r32.2.1.2.2.2.2.2.2.2.2.2.2.2.1,r32.2.1.2.2.2.2.2.2.2.2.2.2.2.2.1,r32.2.1.2.2.2.2.2.2.2.2.2.2.2.2.2.1,r32.2.1.2.2.2.2.2.2.2.2.2.2.2.2.2.2.1,r32.2.1.2.2.2.2.2.2.2.2.2.2.2.2.2.2.2.1,r32.2.1.2.2.2.2.2.2.2.2.2.2.2.2.2.2.2.2.1,r32.2.1.2.2.2.2.2.2.2.2.2.2.2.2.2.2.2.2.2.1,()),())))))
 (Option.bind (r18.1[0]?) fun y33 =>
 some (.inr (.inl (true,(((),(),(),r32.2.1.2.2.2.1,r32.2.1.2.2.2.2.1,r32.2.1.2.2.2.2.2.1,r32.2.1.2.2.2.2.2.2.1,r32.2.1.2.2.2.2.2.2.2.1,r32.2.1.2.2.2.2.2.2.2.2.1,r32.2.1.2.2.2.2.2.2.2.2.2.1,y33,r32.2.1.2.2.2.2.2.2.2.2.2.2.2.1,r32.2.1.2.2.2.2.2.2.2.2.2.2.2.2.1,r32.2.1.2.2.2.2.2.2.2.2.2.2.2.2.2.1,r32.2.1.2.2.2.2.2.2.2.2.2.2.2.2.2.2.1,r32.2.1.2.2.2.2.2.2.2.2.2.2.2.2.2.2.2.1,r32.2.1.2.2.2.2.2.2.2.2.2.2.2.2.2.2.2.2.1,r32.2.1.2.2.2.2.2.2.2.2.2.2.2.2.2.2.2.2.2.1,()),())))))) (Sum.elim (fun r34 =>
 cond (!decide ((List.length r18.1 : Int) = 1))
 (some (.inr (.inl (false,(((),(),(),r34.2.1.2.2.2.1,r34.2.1.2.2.2.2.1,r34.2.1.2.2.2.2.2.1,r34.2.1.2.2.2.2.2.2.1,r34.2.1.2.2.2.2.2.2.2.1,r34.2.1.2.2.2.2.2.2.2.2.1,r34.2.1.2.2.2.2.2.2.2.2.2.1,r34.2.1.2.2.2.2.2.2.2.2.2.2.1,r34.2.1.2.2.2.2.2.2.2.2.2.2.2.1,r34.2.1.2.2.2.2.2.2.2.2.2.2.2.2.1,r34.2.1.2.2.2.2.2.2.2.2.2.2.2.2.2.1,r34.2.1.2.2.2.2.2.2.2.2.2.2.2.2.2.2.1,r34.2.1.2.2.2.2.2.2.2.2.2.2.2.2.2.2.2.1,r34.2.1.2.2.2.2.2.2.2.2.2.2.2.2.2.2.2.2.1,r34.2.1.2.2.2.2.2.2.2.2.2.2.2.2.2.2.2.2.2.1,()),())))))
 (Option.bind (r18.1[0]?) fun y35 =>
 some (.inr (.inl (true,(((),(),(),r34.2.1.2.2.2.1,r34.2.1.2.2.2.2.1,r34.2.1.2.2.2.2.2.1,r34.2.1.2.2.2.2.2.2.1,r34.2.1.2.2.2.2.2.2.2.1,r34.2.1.2.2.2.2.2.2.2.2.1,r34.2.1.2.2.2.2.2.2.2.2.2.1,r34.2.1.2.2.2.2.2.2.2.2.2.2.1,y35,r34.2.1.2.2.2.2.2.2.2.2.2.2.2.2.1,r34.2.1.2.2.2.2.2.2.2.2.2.2.2.2.2.1,r34.2.1.2.2.2.2.2.2.2.2.2.2.2.2.2.2.1,r34.2.1.2.2.2.2.2.2.2.2.2.2.2.2.2.2.2.1,r34.2.1.2.2.2.2.2.2.2.2.2.2.2.2.2.2.2.2.1,r34.2.1.2.2.2.2.2.2.2.2.2.2.2.2.2.2.2.2.2.1,()),())))))) (Sum.elim (fun r36 =>
 cond (!decide ((List.length r18.1 : Int) = 1))
 (some (.inr (.inl (false,(((),(),(),r36.2.1.2.2.2.1,r36.2.1.2.2.2.2.1,r36.2.1.2.2.2.2.2.1,r36.2.1.2.2.2.2.2.2.1,r36.2.1.2.2.2.2.2.2.2.1,r36.2.1.2.2.2.2.2.2.2.2.1,r36.2.1.2.2.2.2.2.2.2.2.2.1,r36.2.1.2.2.2.2.2.2.2.2.2.2.1,r36.2.1.2.2.2.2.2.2.2.2.2.2.2.1,r36.2.1.2.2.2.2.2.2.2.2.2.2.2.2.1,r36.2.1.2.2.2.2.2.2.2.2.2.2.2.2.2.1,r36.2.1.2.2.2.2.2.2.2.2.2.2.2.2.2.2.1,r36.2.1.2.2.2.2.2.2.2.2.2.2.2.2.2.2.2.1,r36.2.1.2.2.2.2.2.2.2.2.2.2.2.2.2.2.2.2.1,r36.2.1.2.2.2.2.2.2.2.2.2.2.2.2.2.2.2.2.2.1,()),())))))
 (Option.bind (r18.1[0]?) fun y37 =>
 some (.inr (.inl (true,(((),(),(),r36.2.1.2.2.2.1,r36.2.1.2.2.2.2.1,r36.2.1.2.2.2.2.2.1,r36.2.1.2.2.2.2.2.2.1,r36.2.1.2.2.2.2.2.2.2.1,r36.2.1.2.2.2.2.2.2.2.2.1,r36.2.1.2.2.2.2.2.2.2.2.2.1,r36.2.1.2.2.2.2.2.2.2.2.2.2.1,r36.2.1.2.2.2.2.2.2.2.2.2.2.2.1,y37,r36.2.1.2.2.2.2.2.2.2.2.2.2.2.2.2.1,r36.2.1.2.2.2.2.2.2.2.2.2.2.2.2.2.2.1,r36.2.1.2.2.2.2.2.2.2.2.2.2.2.2.2.2.2.1,r36.2.1.2.2.2.2.2.2.2.2.2.2.2.2.2.2.2.2.1,r36.2.1.2.2.2.2.2.2.2.2.2.2.2.2.2.2.2.2.2.1,()),())))))) (Sum.elim (fun r38 =>
 cond (!decide ((List.length r18.1 : Int) = 1))
 (some (.inr (.inl (false,(((),(),(),r38.2.1.2.2.2.1,r38.2.1.2.2.2.2.1,r38.2.1.2.2.2.2.2.1,r38.2.1.2.2.2.2.2.2.1,r38.2.1.2.2.2.2.2.2.2.1,r38.2.1.2.2.2.2.2.2.2.2.1,r38.2.1.2.2.2.2.2.2.2.2.2.1,r38.2.1.2.2.2.2.2.2.2.2.2.2.1,r38.2.1.2.2.2.2.2.2.2.2.2.2.2.1,r38.2.1.2.2.2.2.2.2.2.2.2.2.2.2.1,r38.2.1.2.2.2.2.2.2.2.2.2.2.2.2.2.1,r38.2.1.2.2.2.2.2.2.2.2.2.2.2.2.2.2.1,r38.2.1.2.2.2.2.2.2.2.2.2.2.2.2.2.2.2.1,r38.2.1.2.2.2.2.2.2.2.2.2.2.2.2.2.2.2.2.1,r38.2.1.2.2.2.2.2.2.2.2.2.2.2.2.2.2.2.2.2.1,()),())))))
 (Option.bind (r18.1[0]?) fun y39 =>
 some (.inr (.inl (true,(((),(),(),r38.2.1.2.2.2.1,r38.2.1.2.2.2.2.1,r38.2.1.2.2.2.2.2.1,r38.2.1.2.2.2.2.2.2.1,r38.2.1.2.2.2.2.2.2.2.1,r38.2.1.2.2.2.2.2.2.2.2.1,r38.2.1.2.2.2.2.2.2.2.2.2.1,r38.2.1.2.2.2.2.2.2.2.2.2.2.1,r38.2.1.2.2.2.2.2.2.2.2.2.2.2.1,r38.2.1.2.2.2.2.2.2.2.2.2.2.2.2.1,y39,r38.2.1.2.2.2.2.2.2.2.2.2.2.2.2.2.2.1,r38.2.1.2.2.2.2.2.2.2.2.2.2.2.2.2.2.2.1,r38.2.1.2.2.2.2.2.2.2.2.2.2.2.2.2.2.2.2.1,r38.2.1.2.2.2.2.2.2.2.2.2.2.2.2.2.2.2.2.2.1,()),())))))) (Sum.elim (fun r40 =>
 cond (!decide ((List.length r18.1 : Int) = 1))
 (some (.inr (.inl (false,(((),(),(),r40.2.1.2.2.2.1,r40.2.1.2.2.2.2.1,r40.2.1.2.2.2.2.2.1,r40.2.1.2.2.2.2.2.2.1,r40.2.1.2.2.2.2.2.2.2.1,r40.2.1.2.2.2.2.2.2.2.2.1,r40.2.1.2.2.2.2.2.2.2.2.2.1,r40.2.1.2.2.2.2.2.2.2.2.2.2.1,r40.2.1.2.2.2.2.2.2.2.2.2.2.2.1,r40.2.1.2.2.2.2.2.2.2.2.2.2.2.2.1,r40.2.1.2.2.2.2.2.2.2.2.2.2.2.2.2.1,r40.2.1.2.2.2.2.2.2.2.2.2.2.2.2.2.2.1,r40.2.1.2.2.2.2.2.2.2.2.2.2.2.2.2.2.2.1,r40.2.1.2.2.2.2.2.2.2.2.2.2.2.2.2.2.2.2.1,r40.2.1.2.2.2.2.2.2.2.2.2.2.2.2.2.2.2.2.2.1,()),())))))
 (Option.bind (r18.1[0]?) fun y41 =>
 some (.inr (.inl (true,(((),(),(),r40.2.1.2.2.2.1,r40.2.1.2.2.2.2.1,r40.2.1.2.2.2.2.2.1,r40.2.1.2.2.2.2.2.2.1,r40.2.1.2.2.2.2.2.2.2.1,r40.2.1.2.2.2.2.2.2.2.2.1,r40.2.1.2.2.2.2.2.2.2.2.2.1,r40.2.1.2.2.2.2.2.2.2.2.2.2.1,r40.2.1.2.2.2.2.2.2.2.2.2.2.2.1,r40.2.1.2.2.2.2.2.2.2.2.2.2.2.2.1,r40.2.1.2.2.2.2.2.2.2.2.2.2.2.2.2.1,y41,r40.2.1.2.2.2.2.2.2.2.2.2.2.2.2.2.2.2.1,r40.2.1.2.2.2.2.2.2.2.2.2.2.2.2.2.2.2.2.1,r40.2.1.2.2.2.2.2.2.2.2.2.2.2.2.2.2.2.2.2.1,()),())))))) (Sum.elim (fun r42 =>
 cond (!decide ((List.length r18.1 : Int) = 1))
 (some (.inr (.inl (false,(((),(),(),r42.2.1.2.2.2.1,r42.2.1.2.2.2.2.1,r42.2.1.2.2.2.2.2.1,r42.2.1.2.2.2.2.2.2.1,r42.2.1.2.2.2.2.2.2.2.1,r42.2.1.2.2.2.2.2.2.2.2.1,r42.2.1.2.2.2.2.2.2.2.2.2.1,r42.2.1.2.2.2.2.2.2.2.2.2.2.1,r42.2.1.2.2.2.2.2.2.2.2.2.2.2.1,r42.2.1.2.2.2.2.2.2.2.2.2.2.2.2.1,r42.2.1.2.2.2.2.2.2.2.2.2.2.2.2.2.1,r42.2.1.2.2.2.2.2.2.2.2.2.2.2.2.2.2.1,r42.2.1.2.2.2.2.2.2.2.2.2.2.2.2.2.2.2.1,r42.2.1.2.2.2.2.2.2.2.2.2.2.2.2.2.2.2.2.1,r42.2.1.2.2.2.2.2.2.2.2.2.2.2.2.2.2.2.2.2.1,()),())))))
 (Option.bind (r18.1[0]?) fun y43 =>
 some (.inr (.inl (true,(((),(),(),r42.2.1.2.2.2.1,r42.2.1.2.2.2.2.1,r42.2.1.2.2.2.2.2.1,r42.2.1.2.2.2.2.2.2.1,r42.2.1.2.2.2.2.2.2.2.1,r42.2.1.2.2.2.2.2.2.2.2.1,r42.2.1.2.2.2.2.2.2.2.2.2.1,r42.2.1.2.2.2.2.2.2.2.2.2.2.1,r42.2.1.2.2.2.2.2.2.2.2.2.2.2.1,r42.2.1.2.2.2.2.2.2.2.2.2.2.2.2.1,r42.2.1.2.2.2.2.2.2.2.2.2.2.2.2.2.1,r42.2.1.2.2.2.2.2.2.2.2.2.2.2.2.2.2.1,y43,r42.2.1.2.2.2.2.2.2.2.2.2.2.2.2.2.2.2.2.1,r42.2.1.2.2.2.2.2.2.2.2.2.2.2.2.2.2.2.2.2.1,()),())))))) (Sum.elim (fun r44 =>
 cond (!decide ((List.length r18.1 : Int) = 1))
 (some (.inr (.inl (false,(((),(),(),r44.2.1.2.2.2.1,r44.2.1.2.2.2.2.1,r44.2.1.2.2.2.2.2.1,r44.2.1.2.2.2.2.2.2.1,r44.2.1.2.2.2.2.2.2.2.1,r44.2.1.2.2.2.2.2.2.2.2.1,r44.2.1.2.2.2.2.2.2.2.2.2.1,r44.2.1.2.2.2.2.2.2.2.2.2.2.1,r44.2.1.2.2.2.2.2.2.2.2.2.2.2.1,r44.2.1.2.2.2.2.2.2.2.2.2.2.2.2.1,r44.2.1.2.2.2.2.2.2.2.2.2.2.2.2.2.1,r44.2.1.2.2.2.2.2.2.2.2.2.2.2.2.2.2.1,r44.2.1.2.2.2.2.2.2.2.2.2.2.2.2.2.2.2.1,r44.2.1.2.2.2.2.2.2.2.2.2.2.2.2.2.2.2.2.1,r44.2.1.2.2.2.2.2.2.2.2.2.2.2.2.2.2.2.2.2.1,()),())))))
 (Option.bind (r18.1[0]?) fun y45 =>
 some (.inr (.inl (true,(((),(),(),r44.2.1.2.2.2.1,r44.2.1.2.2.2.2.1,r44.2.1.2.2.2.2.2.1,r44.2.1.2.2.2.2.2.2.1,r44.2.1.2.2.2.2.2.2.2.1,r44.2.1.2.2.2.2.2.2.2.2.1,r44.2.1.2.2.2.2.2.2.2.2.2.1,r44.2.1.2.2.2.2.2.2.2.2.2.2.1,r44.2.1.2.2.2.2.2.2.2.2.2.2.2.1,r44.2.1.2.2.2.2.2.2.2.2.2.2.2.2.1,r44.2.1.2.2.2.2.2.2.2.2.2.2.2.2.2.1,r44.2.1.2.2.2.2.2.2.2.2.2.2.2.2.2.2.1,r44.2.1.2.2.2.2.2.2.2.2.2.2.2.2.2.2.2.1,y45,r44.2.1.2.2.2.2.2.2.2.2.2.2.2.2.2.2.2.2.2.1,()),())))))) (Sum.elim (fun r46 =>
 cond (!decide ((List.length r18.1 : Int) = 1))
 (some (.inr (.inl (false,(((),(),(),r46.2.1.2.2.2.1,r46.2.1.2.2.2.2.1,r46.2.1.2.2.2.2.2.1,r46.2.1.2.2.2.2.2.2.1,r46.2.1.2.2.2.2.2.2.2.1,r46.2.1.2.2.2.2.2.2.2.2.1,r46.2.1.2.2.2.2.2.2.2.2.2.1,r46.2.1.2.2.2.2.2.2.2.2.2.2.1,r46.2.1.2.2.2.2.2.2.2.2.2.2.2.1,r46.2.1.2.2.2.2.2.2.2.2.2.2.2.2.1,r46.2.1.2.2.2.2.2.2.2.2.2.2.2.2.2.1,r46.2.1.2.2.2.2.2.2.2.2.2.2.2.2.2.2.1,r46.2.1.2.2.2.2.2.2.2.2.2.2.2.2.2.2.2.1,r46.2.1.2.2.2.2.2.2.2.2.2.2.2.2.2.2.2.2.1,r46.2.1.2.2.2.2.2.2.2.2.2.2.2.2.2.2.2.2.2.1,()),())))))
 (Option.bind (r18.1[0]?) fun y47 =>
 some (.inr (.inl (true,(((),(),(),r46.2.1.2.2.2.1,r46.2.1.2.2.2.2.1,r46.2.1.2.2.2.2.2.1,r46.2.1.2.2.2.2.2.2.1,r46.2.1.2.2.2.2.2.2.2.1,r46.2.1.2.2.2.2.2.2.2.2.1,r46.2.1.2.2.2.2.2.2.2.2.2.1,r46.2.1.2.2.2.2.2.2.2.2.2.2.1,r46.2.1.2.2.2.2.2.2.2.2.2.2.2.1,r46.2.1.2.2.2.2.2.2.2.2.2.2.2.2.1,r46.2.1.2.2.2.2.2.2.2.2.2.2.2.2.2.1,r46.2.1.2.2.2.2.2.2.2.2.2.2.2.2.2.2.1,r46.2.1.2.2.2.2.2.2.2.2.2.2.2.2.2.2.2.1,r46.2.1.2.2.2.2.2.2.2.2.2.2.2.2.2.2.2.2.1,y47,()),())))))) (fun r48 =>
 some (.inr (.inl (false,(((),(),(),r48.2.1.2.2.2.1,r48.2.1.2.2.2.2.1,r48.2.1.2.2.2.2.2.1,r48.2.1.2.2.2.2.2.2.1,r48.2.1.2.2.2.2.2.2.2.1,r48.2.1.2.2.2.2.2.2.2.2.1,r48.2.1.2.2.2.2.2.2.2.2.2.1,r48.2.1.2.2.2.2.2.2.2.2.2.2.1,r48.2.1.2.2.2.2.2.2.2.2.2.2.2.1,r48.2.1.2.2.2.2.2.2.2.2.2.2.2.2.1,r48.2.1.2.2.2.2.2.2.2.2.2.2.2.2.2.1,r48.2.1.2.2.2.2.2.2.2.2.2.2.2.2.2.2.1,r48.2.1.2.2.2.2.2.2.2.2.2.2.2.2.2.2.2.1,r48.2.1.2.2.2.2.2.2.2.2.2.2.2.2.2.2.2.2.1,r48.2.1.2.2.2.2.2.2.2.2.2.2.2.2.2.2.2.2.2.1,()),())))))))))))))))))))))
def f19 : (List UInt8) → (List UInt8) → Int → Int → Int → Int → Int → Int → Int → Int → Int → Int → Int → Int → Int → Int → Int → Option y19 := F19 (@LN LOOPS) f34 f35 f36
@[reducible] def t19 : Ent := ⟨19,s19,fun x h => f19 x.2.1 x.2.2.1 h.1.2.2.2.1 h.1.2.2.2.2.1 h.1.2.2.2.2.2.1 h.1.2.2.2.2.2.2.1 h.1.2.2.2.2.2.2.2.1 h.1.2.2.2.2.2.2.2.2.1 h.1.2.2.2.2.2.2.2.2.2.1 h.1.2.2.2.2.2.2.2.2.2.2.1 h.1.2.2.2.2.2.2.2.2.2.2.2.1 h.1.2.2.2.2.2.2.2.2.2.2.2.2.1 h.1.2.2.2.2.2.2.2.2.2.2.2.2.2.1 h.1.2.2.2.2.2.2.2.2.2.2.2.2.2.2.1 h.1.2.2.2.2.2.2.2.2.2.2.2.2.2.2.2.1 h.1.2.2.2.2.2.2.2.2.2.2.2.2.2.2.2.2.1 h.1.2.2.2.2.2.2.2.2.2.2.2.2.2.2.2.2.2.1⟩
end NM
end Go.Proofs.YtjngkfdclcgfhaaGreatDoor
end
