/-
  What the proof of SpecTexts leans on, part 21. (Many texts laid together by program.)
-/
import Derived.Test.YtjngkfdclcgfhaaGreatDoorPkTt
set_option linter.unnecessarySimpa false
set_option linter.unusedSimpArgs false
set_option linter.unusedVariables false
section
set_option maxRecDepth 100000
set_option maxHeartbeats 4000000
namespace Go.Proofs.YtjngkfdclcgfhaaGreatDoor
namespace NM
open AM Go.RowKit
def n36_3 : NFunc := ⟨56,.seq (.region 0 [
 o1 4 (.move (.const (.nilp))) 0] []) (.seq (.seq (.region 0 [
 oM 5 1 0] []) (.block 0 (.seq (.region 0 [
 o1 7 (.bin .eql (tm 5) (.const (.str [117,115,101,114,115]))) 0,
 oM 6 7 0] []) (.cond (tm 6) (.seq (.region 0 [
 oM 8 0 0,
 o1 9 (.nilCheck (tm 8)) 0,
 oF 10 3 9 0,
 oM 4 10 0] []) (.ret)) (.seq (.region 0 [
 o1 12 (.bin .eql (tm 5) (.const (.str [100,101,99,97,121]))) 0,
 oM 11 12 0] []) (.cond (tm 11) (.seq (.region 0 [
 oM 13 0 0,
 o1 14 (.nilCheck (tm 13)) 0,
 oF 15 8 14 0,
 oM 4 15 0] []) (.ret)) (.seq (.region 0 [
 o1 17 (.bin .eql (tm 5) (.const (.str [106,111,98,115]))) 0,
 oM 16 17 0] []) (.cond (tm 16) (.seq (.region 0 [
 oM 18 0 0,
 o1 19 (.nilCheck (tm 18)) 0,
 oF 20 10 19 0,
 oM 4 20 0] []) (.ret)) (.seq (.region 0 [
 o1 22 (.bin .eql (tm 5) (.const (.str [105,100,115]))) 0,
 oM 21 22 0] []) (.cond (tm 21) (.seq (.region 0 [
 oM 23 0 0,
 o1 24 (.nilCheck (tm 23)) 0,
 oF 25 11 24 0,
 oM 4 25 0] []) (.ret)) (.seq (.region 0 [
 o1 27 (.bin .eql (tm 5) (.const (.str [118,101,114,115,105,111,110,115]))) 0,
 oM 26 27 0] []) (.cond (tm 26) (.seq (.region 0 [
 oM 28 0 0,
 o1 29 (.nilCheck (tm 28)) 0,
 oF 30 12 29 0,
 oM 4 30 0] []) (.ret)) (.seq (.region 0 [
 o1 32 (.bin .eql (tm 5) (.const (.str [108,105,110,103,101,114]))) 0,
 oM 31 32 0] []) (.cond (tm 31) (.seq (.region 0 [
 oM 33 0 0,
 o1 34 (.nilCheck (tm 33)) 0,
 oF 35 13 34 0,
 oM 4 35 0] []) (.ret)) (.seq (.region 0 [
 o1 37 (.bin .eql (tm 5) (.const (.str [107,101,101,112]))) 0,
 oM 36 37 0] []) (.cond (tm 36) (.seq (.region 0 [
 oM 38 0 0,
 o1 39 (.nilCheck (tm 38)) 0,
 oF 40 14 39 0,
 oM 4 40 0] []) (.ret)) (.seq (.region 0 [
 o1 42 (.bin .eql (tm 5) (.const (.str [105,110]))) 0,
 oM 41 42 0] []) (.cond (tm 41) (.seq (.region 0 [
 oM 43 0 0,
 o1 44 (.nilCheck (tm 43)) 0,
 oF 45 15 44 0,
 oM 4 45 0] []) (.ret)) (.seq (.region 0 [
 o1 47 (.bin .eql (tm 5) (.const (.str [111,117,116]))) 0,
 oM 46 47 0] []) (.cond (tm 46) (.seq (.region 0 [
 oM 48 0 0,
 o1 49 (.nilCheck (tm 48)) 0,
 oF 50 16 49 0,
 oM 4 50 0] []) (.ret)) (.seq (.region 0 [
 o1 52 (.bin .eql (tm 5) (.const (.str [99,97,99,104,101]))) 0,
 oM 51 52 0] []) (.cond (tm 51) (.seq (.region 0 [
 oM 53 0 0,
 o1 54 (.nilCheck (tm 53)) 0,
 oF 55 17 54 0,
 oM 4 55 0] []) (.ret)) (.skip))))))))))))))))))))))) (.seq (.region 0 [
 o1 4 (.move (.const (.nilp))) 0] []) (.ret))),[.tmp 4],false⟩
def s36_3 : Sig := ⟨(.cons (.ptr 0 0 0) (.cons (.v .str) .nil)),[.cell false (.cons (.slw 1 4) (.cons (.slw 2 1) (.cons (.slw 3 6) (.cons (.v (.int .i64)) (.cons (.v (.int .i64)) (.cons (.v (.int .i64)) (.cons (.v (.int .i64)) (.cons (.v (.int .i64)) (.cons (.v (.int .i64)) (.cons (.v (.int .i64)) (.cons (.v (.int .i64)) (.cons (.v (.int .i64)) (.cons (.v (.int .i64)) (.cons (.v (.int .i64)) (.cons (.v (.int .i64)) (.cons (.v (.int .i64)) (.cons (.v (.int .i64)) (.cons (.v (.int .i64)) .nil)))))))))))))))))),.typed .res,.typed (.list (.int .i64)),.typed .queue],((.ptr 0 0 3),[.cell false (.cons (.slw 1 4) (.cons (.slw 2 1) (.cons (.slw 3 6) (.cons (.v (.int .i64)) (.cons (.v (.int .i64)) (.cons (.v (.int .i64)) (.cons (.v (.int .i64)) (.cons (.v (.int .i64)) (.cons (.v (.int .i64)) (.cons (.v (.int .i64)) (.cons (.v (.int .i64)) (.cons (.v (.int .i64)) (.cons (.v (.int .i64)) (.cons (.v (.int .i64)) (.cons (.v (.int .i64)) (.cons (.v (.int .i64)) (.cons (.v (.int .i64)) (.cons (.v (.int .i64)) .nil)))))))))))))))))),.typed .res,.typed (.list (.int .i64)),.typed .queue]),[((.ptr 0 0 8),[.cell false (.cons (.slw 1 4) (.cons (.slw 2 1) (.cons (.slw 3 6) (.cons (.v (.int .i64)) (.cons (.v (.int .i64)) (.cons (.v (.int .i64)) (.cons (.v (.int .i64)) (.cons (.v (.int .i64)) (.cons (.v (.int .i64)) (.cons (.v (.int .i64)) (.cons (.v (.int .i64)) (.cons (.v (.int .i64)) (.cons (.v (.int .i64)) (.cons (.v (.int .i64)) (.cons (.v (.int .i64)) (.cons (.v (.int .i64)) (.cons (.v (.int .i64)) (.cons (.v (.int .i64)) .nil)))))))))))))))))),.typed .res,.typed (.list (.int .i64)),.typed .queue]),((.ptr 0 0 10),[.cell false (.cons (.slw 1 4) (.cons (.slw 2 1) (.cons (.slw 3 6) (.cons (.v (.int .i64)) (.cons (.v (.int .i64)) (.cons (.v (.int .i64)) (.cons (.v (.int .i64)) (.cons (.v (.int .i64)) (.cons (.v (.int .i64)) (.cons (.v (.int .i64)) (.cons (.v (.int .i64)) (.cons (.v (.int .i64)) (.cons (.v (.int .i64)) (.cons (.v (.int .i64)) (.cons (.v (.int .i64)) (.cons (.v (.int .i64)) (.cons (.v (.int .i64)) (.cons (.v (.int .i64)) .nil)))))))))))))))))),.typed .res,.typed (.list (.int .i64)),.typed .queue]),((.ptr 0 0 11),[.cell false (.cons (.slw 1 4) (.cons (.slw 2 1) (.cons (.slw 3 6) (.cons (.v (.int .i64)) (.cons (.v (.int .i64)) (.cons (.v (.int .i64)) (.cons (.v (.int .i64)) (.cons (.v (.int .i64)) (.cons (.v (.int .i64)) (.cons (.v (.int .i64)) (.cons (.v (.int .i64)) (.cons (.v (.int .i64)) (.cons (.v (.int .i64)) (.cons (.v (.int .i64)) (.cons (.v (.int .i64)) (.cons (.v (.int .i64)) (.cons (.v (.int .i64)) (.cons (.v (.int .i64)) .nil)))))))))))))))))),.typed .res,.typed (.list (.int .i64)),.typed .queue]),((.ptr 0 0 12),[.cell false (.cons (.slw 1 4) (.cons (.slw 2 1) (.cons (.slw 3 6) (.cons (.v (.int .i64)) (.cons (.v (.int .i64)) (.cons (.v (.int .i64)) (.cons (.v (.int .i64)) (.cons (.v (.int .i64)) (.cons (.v (.int .i64)) (.cons (.v (.int .i64)) (.cons (.v (.int .i64)) (.cons (.v (.int .i64)) (.cons (.v (.int .i64)) (.cons (.v (.int .i64)) (.cons (.v (.int .i64)) (.cons (.v (.int .i64)) (.cons (.v (.int .i64)) (.cons (.v (.int .i64)) .nil)))))))))))))))))),.typed .res,.typed (.list (.int .i64)),.typed .queue]),((.ptr 0 0 13),[.cell false (.cons (.slw 1 4) (.cons (.slw 2 1) (.cons (.slw 3 6) (.cons (.v (.int .i64)) (.cons (.v (.int .i64)) (.cons (.v (.int .i64)) (.cons (.v (.int .i64)) (.cons (.v (.int .i64)) (.cons (.v (.int .i64)) (.cons (.v (.int .i64)) (.cons (.v (.int .i64)) (.cons (.v (.int .i64)) (.cons (.v (.int .i64)) (.cons (.v (.int .i64)) (.cons (.v (.int .i64)) (.cons (.v (.int .i64)) (.cons (.v (.int .i64)) (.cons (.v (.int .i64)) .nil)))))))))))))))))),.typed .res,.typed (.list (.int .i64)),.typed .queue]),((.ptr 0 0 14),[.cell false (.cons (.slw 1 4) (.cons (.slw 2 1) (.cons (.slw 3 6) (.cons (.v (.int .i64)) (.cons (.v (.int .i64)) (.cons (.v (.int .i64)) (.cons (.v (.int .i64)) (.cons (.v (.int .i64)) (.cons (.v (.int .i64)) (.cons (.v (.int .i64)) (.cons (.v (.int .i64)) (.cons (.v (.int .i64)) (.cons (.v (.int .i64)) (.cons (.v (.int .i64)) (.cons (.v (.int .i64)) (.cons (.v (.int .i64)) (.cons (.v (.int .i64)) (.cons (.v (.int .i64)) .nil)))))))))))))))))),.typed .res,.typed (.list (.int .i64)),.typed .queue]),((.ptr 0 0 15),[.cell false (.cons (.slw 1 4) (.cons (.slw 2 1) (.cons (.slw 3 6) (.cons (.v (.int .i64)) (.cons (.v (.int .i64)) (.cons (.v (.int .i64)) (.cons (.v (.int .i64)) (.cons (.v (.int .i64)) (.cons (.v (.int .i64)) (.cons (.v (.int .i64)) (.cons (.v (.int .i64)) (.cons (.v (.int .i64)) (.cons (.v (.int .i64)) (.cons (.v (.int .i64)) (.cons (.v (.int .i64)) (.cons (.v (.int .i64)) (.cons (.v (.int .i64)) (.cons (.v (.int .i64)) .nil)))))))))))))))))),.typed .res,.typed (.list (.int .i64)),.typed .queue]),((.ptr 0 0 16),[.cell false (.cons (.slw 1 4) (.cons (.slw 2 1) (.cons (.slw 3 6) (.cons (.v (.int .i64)) (.cons (.v (.int .i64)) (.cons (.v (.int .i64)) (.cons (.v (.int .i64)) (.cons (.v (.int .i64)) (.cons (.v (.int .i64)) (.cons (.v (.int .i64)) (.cons (.v (.int .i64)) (.cons (.v (.int .i64)) (.cons (.v (.int .i64)) (.cons (.v (.int .i64)) (.cons (.v (.int .i64)) (.cons (.v (.int .i64)) (.cons (.v (.int .i64)) (.cons (.v (.int .i64)) .nil)))))))))))))))))),.typed .res,.typed (.list (.int .i64)),.typed .queue]),((.ptr 0 0 17),[.cell false (.cons (.slw 1 4) (.cons (.slw 2 1) (.cons (.slw 3 6) (.cons (.v (.int .i64)) (.cons (.v (.int .i64)) (.cons (.v (.int .i64)) (.cons (.v (.int .i64)) (.cons (.v (.int .i64)) (.cons (.v (.int .i64)) (.cons (.v (.int .i64)) (.cons (.v (.int .i64)) (.cons (.v (.int .i64)) (.cons (.v (.int .i64)) (.cons (.v (.int .i64)) (.cons (.v (.int .i64)) (.cons (.v (.int .i64)) (.cons (.v (.int .i64)) (.cons (.v (.int .i64)) .nil)))))))))))))))))),.typed .res,.typed (.list (.int .i64)),.typed .queue]),(.nilp,[.cell false (.cons (.slw 1 4) (.cons (.slw 2 1) (.cons (.slw 3 6) (.cons (.v (.int .i64)) (.cons (.v (.int .i64)) (.cons (.v (.int .i64)) (.cons (.v (.int .i64)) (.cons (.v (.int .i64)) (.cons (.v (.int .i64)) (.cons (.v (.int .i64)) (.cons (.v (.int .i64)) (.cons (.v (.int .i64)) (.cons (.v (.int .i64)) (.cons (.v (.int .i64)) (.cons (.v (.int .i64)) (.cons (.v (.int .i64)) (.cons (.v (.int .i64)) (.cons (.v (.int .i64)) .nil)))))))))))))))))),.typed .res,.typed (.list (.int .i64)),.typed .queue])]⟩
@[reducible] def y36_3 : Type := ((Unit × ((Unit × (Unit × (Unit × (Int × (Int × (Int × (Int × (Int × (Int × (Int × (Int × (Int × (Int × (Int × (Int × (Int × (Int × (Int × Unit)))))))))))))))))) × ((List Res) × ((List (List Int)) × ((List Queue) × Unit))))) ⊕ ((Unit × ((Unit × (Unit × (Unit × (Int × (Int × (Int × (Int × (Int × (Int × (Int × (Int × (Int × (Int × (Int × (Int × (Int × (Int × (Int × Unit)))))))))))))))))) × ((List Res) × ((List (List Int)) × ((List Queue) × Unit))))) ⊕ ((Unit × ((Unit × (Unit × (Unit × (Int × (Int × (Int × (Int × (Int × (Int × (Int × (Int × (Int × (Int × (Int × (Int × (Int × (Int × (Int × Unit)))))))))))))))))) × ((List Res) × ((List (List Int)) × ((List Queue) × Unit))))) ⊕ ((Unit × ((Unit × (Unit × (Unit × (Int × (Int × (Int × (Int × (Int × (Int × (Int × (Int × (Int × (Int × (Int × (Int × (Int × (Int × (Int × Unit)))))))))))))))))) × ((List Res) × ((List (List Int)) × ((List Queue) × Unit))))) ⊕ ((Unit × ((Unit × (Unit × (Unit × (Int × (Int × (Int × (Int × (Int × (Int × (Int × (Int × (Int × (Int × (Int × (Int × (Int × (Int × (Int × Unit)))))))))))))))))) × ((List Res) × ((List (List Int)) × ((List Queue) × Unit))))) ⊕ ((Unit × ((Unit × (Unit × (Unit × (Int × (Int × (Int × (Int × (Int × (Int × (Int × (Int × (Int × (Int × (Int × (Int × (Int × (Int × (Int × Unit)))))))))))))))))) × ((List Res) × ((List (List Int)) × ((List Queue) × Unit))))) ⊕ ((Unit × ((Unit × (Unit × (Unit × (Int × (Int × (Int × (Int × (Int × (Int × (Int × (Int × (Int × (Int × (Int × (Int × (Int × (Int × (Int × Unit)))))))))))))))))) × ((List Res) × ((List (List Int)) × ((List Queue) × Unit))))) ⊕ ((Unit × ((Unit × (Unit × (Unit × (Int × (Int × (Int × (Int × (Int × (Int × (Int × (Int × (Int × (Int × (Int × (Int × (Int × (Int × (Int × Unit)))))))))))))))))) × ((List Res) × ((List (List Int)) × ((List Queue) × Unit))))) ⊕ ((Unit × ((Unit × (Unit × (Unit × (Int × (Int × (Int × (Int × (Int × (Int × (Int × (Int × (Int × (Int × (Int × (Int × (Int × (Int × (Int × Unit)))))))))))))))))) × ((List Res) × ((List (List Int)) × ((List Queue) × Unit))))) ⊕ ((Unit × ((Unit × (Unit × (Unit × (Int × (Int × (Int × (Int × (Int × (Int × (Int × (Int × (Int × (Int × (Int × (Int × (Int × (Int × (Int × Unit)))))))))))))))))) × ((List Res) × ((List (List Int)) × ((List Queue) × Unit))))) ⊕ (Unit × ((Unit × (Unit × (Unit × (Int × (Int × (Int × (Int × (Int × (Int × (Int × (Int × (Int × (Int × (Int × (Int × (Int × (Int × (Int × Unit)))))))))))))))))) × ((List Res) × ((List (List Int)) × ((List Queue) × Unit)))))))))))))))
def F36_3 (L : Lp)  (word0 : (List UInt8)) (a1 : Int) (a2 : Int) (a3 : Int) (a4 : Int) (a5 : Int) (a6 : Int) (a7 : Int) (a8 : Int) (a9 : Int) (a10 : Int) (a11 : Int) (a12 : Int) (a13 : Int) (a14 : Int) (a15 : Int) (a16 : (List Res)) (a17 : (List (List Int))) (a18 : (List Queue)) : Option y36_3 :=
 cond (decide (word0 = ([117,115,101,114,115] : List UInt8)))
 (some (.inl ((),(((),(),(),a1,a2,a3,a4,a5,a6,a7,a8,a9,a10,a11,a12,a13,a14,a15,()),a16,a17,a18,()))))
 (cond (decide (word0 = ([100,101,99,97,121] : List UInt8)))
 (some (.inr (.inl ((),(((),(),(),a1,a2,a3,a4,a5,a6,a7,a8,a9,a10,a11,a12,a13,a14,a15,()),a16,a17,a18,())))))
 (cond (decide (word0 = ([106,111,98,115] : List UInt8)))
 (some (.inr (.inr (.inl ((),(((),(),(),a1,a2,a3,a4,a5,a6,a7,a8,a9,a10,a11,a12,a13,a14,a15,()),a16,a17,a18,()))))))
 (cond (decide (word0 = ([105,100,115] : List UInt8)))
 (some (.inr (.inr (.inr (.inl ((),(((),(),(),a1,a2,a3,a4,a5,a6,a7,a8,a9,a10,a11,a12,a13,a14,a15,()),a16,a17,a18,())))))))
 (cond (decide (word0 = ([118,101,114,115,105,111,110,115] : List UInt8)))
 (some (.inr (.inr (.inr (.inr (.inl ((),(((),(),(),a1,a2,a3,a4,a5,a6,a7,a8,a9,a10,a11,a12,a13,a14,a15,()),a16,a17,a18,()))))))))
 (cond (decide (word0 = ([108,105,110,103,101,114] : List UInt8)))
 (some (.inr (.inr (.inr (.inr (.inr (.inl ((),(((),(),(),a1,a2,a3,a4,a5,a6,a7,a8,a9,a10,a11,a12,a13,a14,a15,()),a16,a17,a18,())))))))))
 (cond (decide (word0 = ([107,101,101,112] : List UInt8)))
 (some (.inr (.inr (.inr (.inr (.inr (.inr (.inl ((),(((),(),(),a1,a2,a3,a4,a5,a6,a7,a8,a9,a10,a11,a12,a13,a14,a15,()),a16,a17,a18,()))))))))))
 (cond (decide (word0 = ([105,110] : List UInt8)))
 (some (.inr (.inr (.inr (.inr (.inr (.inr (.inr (.inl ((),(((),(),(),a1,a2,a3,a4,a5,a6,a7,a8,a9,a10,a11,a12,a13,a14,a15,()),a16,a17,a18,())))))))))))
 (cond (decide (word0 = ([111,117,116] : List UInt8)))
 (some (.inr (.inr (.inr (.inr (.inr (.inr (.inr (.inr (.inl ((),(((),(),(),a1,a2,a3,a4,a5,a6,a7,a8,a9,a10,a11,a12,a13,a14,a15,()),a16,a17,a18,()))))))))))))
 (cond (decide (word0 = ([99,97,99,104,101] : List UInt8)))
 (some (.inr (.inr (.inr (.inr (.inr (.inr (.inr (.inr (.inr (.inl ((),(((),(),(),a1,a2,a3,a4,a5,a6,a7,a8,a9,a10,a11,a12,a13,a14,a15,()),a16,a17,a18,())))))))))))))
 (some (.inr (.inr (.inr (.inr (.inr (.inr (.inr (.inr (.inr (.inr ((),(((),(),(),a1,a2,a3,a4,a5,a6,a7,a8,a9,a10,a11,a12,a13,a14,a15,()),a16,a17,a18,()))))))))))))))))))))))
theorem e36_3 (L : Lp)  (x : s36_3.args.den) (h : denH s36_3.heap) : nrun [] L n36_3 s36_3 x h = F36_3 L  x.2.1 h.1.2.2.2.1 h.1.2.2.2.2.1 h.1.2.2.2.2.2.1 h.1.2.2.2.2.2.2.1 h.1.2.2.2.2.2.2.2.1 h.1.2.2.2.2.2.2.2.2.1 h.1.2.2.2.2.2.2.2.2.2.1 h.1.2.2.2.2.2.2.2.2.2.2.1 h.1.2.2.2.2.2.2.2.2.2.2.2.1 h.1.2.2.2.2.2.2.2.2.2.2.2.2.1 h.1.2.2.2.2.2.2.2.2.2.2.2.2.2.1 h.1.2.2.2.2.2.2.2.2.2.2.2.2.2.2.1 h.1.2.2.2.2.2.2.2.2.2.2.2.2.2.2.2.1 h.1.2.2.2.2.2.2.2.2.2.2.2.2.2.2.2.2.1 h.1.2.2.2.2.2.2.2.2.2.2.2.2.2.2.2.2.2.1 h.2.1 h.2.2.1 h.2.2.2.1 := by kernel_rfl
def f36_3 : (List UInt8) → Int → Int → Int → Int → Int → Int → Int → Int → Int → Int → Int → Int → Int → Int → Int → (List Res) → (List (List Int)) → (List Queue) → Option y36_3 := F36_3 (@LN LOOPS) 
@[reducible] def t36_3 : Ent := ⟨36,s36_3,fun x h => f36_3 x.2.1 h.1.2.2.2.1 h.1.2.2.2.2.1 h.1.2.2.2.2.2.1 h.1.2.2.2.2.2.2.1 h.1.2.2.2.2.2.2.2.1 h.1.2.2.2.2.2.2.2.2.1 h.1.2.2.2.2.2.2.2.2.2.1 h.1.2.2.2.2.2.2.2.2.2.2.1 h.1.2.2.2.2.2.2.2.2.2.2.2.1 h.1.2.2.2.2.2.2.2.2.2.2.2.2.1 h.1.2.2.2.2.2.2.2.2.2.2.2.2.2.1 h.1.2.2.2.2.2.2.2.2.2.2.2.2.2.2.1 h.1.2.2.2.2.2.2.2.2.2.2.2.2.2.2.2.1 h.1.2.2.2.2.2.2.2.2.2.2.2.2.2.2.2.2.1 h.1.2.2.2.2.2.2.2.2.2.2.2.2.2.2.2.2.2.1 h.2.1 h.2.2.1 h.2.2.2.1⟩
theorem k36_3 : chkNF Tryz.prog Tryz.f36 n36_3 = true := by kernel_rfl
theorem ok36_3 : NOk Tryz.prog t36_3 := NOk.body (T := []) mixed nall_nil (oneEach_of (by kernel_rfl)) Tryz.func36 k36_3 (by kernel_rfl) (fun x h => e36_3 _  x h)
def n19_3 : NFunc := ⟨130,.seq (.region 0 [
 o1 6 (.move kf) 0] []) (.seq (.seq (.region 0 [
 oM 12 1 0] []) (.block 0 (.seq (.region 0 [
 o1 14 (.bin .eql (tm 12) (.const (.str [110,111,100,101]))) 0,
 oM 13 14 0] []) (.cond (tm 13) (.seq (.region 5 [
 oM 16 2 0,
 o1 17 (.call (fc 34) [(vv 16)] false 4) 0,
 oM 15 17 4,
 oX 18 15 0 4,
 oX 19 15 1 4,
 o1 7 (.alloc [iz,iz,iz,iz]) 4,
 oS 4 7 18 5,
 oM 8 19 5] []) (.seq (.region 2 [
 o4 20 (.move (tm 0)) 0 [],
 o4 21 (.move (tm 0)) 0 [],
 o4 22 (.nilCheck (tm 21)) 0 [],
 o4 23 (.fieldAddr 0 (tm 22)) 0 [],
 o4 24 (.load false 1 (tm 23)) 0 [],
 o4 25 (.load true 4 (tm 7)) 0 [],
 o4 26 (.buildSlice 4 1 true [iz,iz,iz,iz] [(0,(tm 25))]) 0 [],
 o4 27 (.append 4 32 true (tm 24) (tm 26)) 1 [0],
 o4 28 (.nilCheck (tm 20)) 2 [0,1],
 o4 29 (.fieldAddr 0 (tm 28)) 2 [0,1],
 ⟨none,.store 1 (tm 29) (tm 27),none,2,(some ([0,1],none))⟩] []) (.seq (.region 0 [
 oM 30 8 0,
 oC 31 .eql 30 0 0,
 oM 6 31 0] []) (.ret)))) (.seq (.region 0 [
 o1 33 (.bin .eql (tm 12) (.const (.str [109,111,100,101]))) 0,
 oM 32 33 0] []) (.cond (tm 32) (.seq (.region 0 [
 oM 34 0 0,
 o1 35 (.nilCheck (tm 34)) 0,
 oF 36 9 35 0,
 ⟨none,.store 1 (tm 36) (ki 1),none,0,none⟩] []) (.seq (.seq (.region 0 [
 oM 37 2 0,
 o1 38 (.bin .eql (tm 37) (.const (.str [99,111,110,115,101,114,118,97,116,105,118,101]))) 0] []) (.cond (tm 38) (.region 0 [
 oM 39 0 0,
 o1 40 (.nilCheck (tm 39)) 0,
 oF 41 9 40 0,
 ⟨none,.store 1 (tm 41) (ki 2),none,0,none⟩] []) (.skip))) (.seq (.region 0 [
 o1 6 (.move kt) 0] []) (.ret)))) (.skip))))))) (.seq (.region 4 [
 oM 43 2 0,
 o1 44 (.call (fc 35) [(vv 43)] false 4) 0,
 oM 42 44 4,
 oX 45 42 0 4,
 oX 46 42 1 4,
 oM 9 45 4,
 oM 10 46 4] []) (.seq (.seq (.region 0 [
 oM 47 10 0,
 o1 48 (.un .not (tm 47)) 0] []) (.cond (tm 48) (.seq (.region 0 [
 o1 6 (.move kf) 0] []) (.ret)) (.skip))) (.seq (.seq (.region 0 [
 oM 49 1 0] []) (.block 1 (.seq (.region 0 [
 o1 51 (.bin .eql (tm 49) (.const (.str [112,97,114,116]))) 0,
 oM 50 51 0] []) (.cond (tm 50) (.seq (.region 2 [
 oM 52 0 0,
 oM 53 0 0,
 o1 54 (.nilCheck (tm 53)) 0,
 oF 55 1 54 0,
 oL 56 55 0,
 oM 57 9 0,
 o1 58 (.buildSlice 1 1 true [.zsl] [(0,(tm 57))]) 0,
 o1 59 (.append 1 24 true (tm 56) (tm 58)) 1,
 o1 60 (.nilCheck (tm 52)) 2,
 oF 61 1 60 2,
 oS 1 61 59 2] []) (.seq (.region 0 [
 o1 6 (.move kt) 0] []) (.ret))) (.seq (.region 0 [
 o1 63 (.bin .eql (tm 49) (.const (.str [113,117,101,117,101]))) 0,
 oM 62 63 0] []) (.cond (tm 62) (.seq (.seq (.region 0 [
 oM 64 9 0,
 o1 65 (.len (tm 64)) 0,
 oC 66 .lss 65 5 0] []) (.cond (tm 66) (.seq (.region 0 [
 o1 6 (.move kf) 0] []) (.ret)) (.skip))) (.seq (.region 2 [
 o4 67 (.move (tm 0)) 0 [],
 o4 68 (.move (tm 0)) 0 [],
 o4 69 (.nilCheck (tm 68)) 0 [],
 o4 70 (.fieldAddr 2 (tm 69)) 0 [],
 o4 71 (.load false 1 (tm 70)) 0 [],
 o4 72 (.move (tm 9)) 0 [],
 o4 73 (.indexSl 1 (tm 72) (ki 0)) 0 [],
 o4 74 (.load false 1 (tm 73)) 0 [],
 o4 75 (.move (tm 9)) 0 [],
 o4 76 (.indexSl 1 (tm 75) (ki 1)) 0 [],
 o4 77 (.load false 1 (tm 76)) 0 [],
 o4 78 (.move (tm 9)) 0 [],
 o4 79 (.indexSl 1 (tm 78) (ki 2)) 0 [],
 o4 80 (.load false 1 (tm 79)) 0 [],
 o4 81 (.move (tm 9)) 0 [],
 o4 82 (.indexSl 1 (tm 81) (ki 3)) 0 [],
 o4 83 (.load false 1 (tm 82)) 0 [],
 o4 84 (.move (tm 9)) 0 [],
 o4 85 (.indexSl 1 (tm 84) (ki 4)) 0 [],
 o4 86 (.load false 1 (tm 85)) 0 [],
 o4 87 (.move (tm 9)) 0 [],
 o4 88 (.slice 1 (tm 87) (some (ki 5)) none none) 0 [],
 o4 89 (.build [iz,.zsl,iz,iz,iz,iz] [(0,1,(tm 74)),(2,1,(tm 77)),(3,1,(tm 80)),(4,1,(tm 83)),(5,1,(tm 86)),(1,1,(tm 88))]) 0 [],
 o4 90 (.buildSlice 6 1 true [iz,.zsl,iz,iz,iz,iz] [(0,(tm 89))]) 0 [],
 o4 91 (.append 6 64 true (tm 71) (tm 90)) 1 [0],
 o4 92 (.nilCheck (tm 67)) 2 [0,1],
 o4 93 (.fieldAddr 2 (tm 92)) 2 [0,1],
 ⟨none,.store 1 (tm 93) (tm 91),none,2,(some ([0,1],none))⟩] []) (.seq (.region 0 [
 o1 6 (.move kt) 0] []) (.ret)))) (.seq (.region 0 [
 o1 95 (.bin .eql (tm 49) (.const (.str [119,101,105,103,104,116,115]))) 0,
 oM 94 95 0] []) (.cond (tm 94) (.seq (.seq (.region 0 [
 oM 96 9 0,
 o1 97 (.len (tm 96)) 0,
 oC 98 .neq 97 4 0] []) (.cond (tm 98) (.seq (.region 0 [
 o1 6 (.move kf) 0] []) (.ret)) (.skip))) (.seq (.region 0 [
 o4 99 (.move (tm 0)) 0 [],
 o4 100 (.move (tm 9)) 0 [],
 o4 101 (.indexSl 1 (tm 100) (ki 0)) 0 [],
 o4 102 (.load false 1 (tm 101)) 0 [],
 o4 103 (.move (tm 9)) 0 [],
 o4 104 (.indexSl 1 (tm 103) (ki 1)) 0 [],
 o4 105 (.load false 1 (tm 104)) 0 [],
 o4 106 (.move (tm 9)) 0 [],
 o4 107 (.indexSl 1 (tm 106) (ki 2)) 0 [],
 o4 108 (.load false 1 (tm 107)) 0 [],
 o4 109 (.move (tm 9)) 0 [],
 o4 110 (.indexSl 1 (tm 109) (ki 3)) 0 [],
 o4 111 (.load false 1 (tm 110)) 0 [],
 o4 112 (.build [iz,iz,iz,iz] [(0,1,(tm 102)),(1,1,(tm 105)),(2,1,(tm 108)),(3,1,(tm 111))]) 0 [],
 o4 113 (.nilCheck (tm 99)) 0 [],
 o4 114 (.fieldAddr 4 (tm 113)) 0 [],
 ⟨none,.store 4 (tm 114) (tm 112),none,0,(some ([],none))⟩] []) (.seq (.region 0 [
 o1 6 (.move kt) 0] []) (.ret)))) (.skip))))))))) (.seq (.region 4 [
 oM 115 0 0,
 oM 116 1 0,
 o1 117 (.call (fc 36) [(vw 115),(vv 116)] false 4) 0,
 oM 11 117 4] []) (.seq (.seq (.region 0 [
 oM 118 11 0,
 o1 119 (.eqP false (tm 118) (.const (.nilp))) 0,
 oM 120 119 0,
 oN 121 9 120 0,
 o2 122 (.len (tm 121)) 120 0,
 o2 123 (.bin .neq (tm 122) (ki 1)) 120 0,
 o1 124 (.pick (tm 120) kt (tm 123)) 0] []) (.cond (tm 124) (.seq (.region 0 [
 o1 6 (.move kf) 0] []) (.ret)) (.skip))) (.seq (.region 0 [
 oM 125 11 0,
 oM 126 9 0,
 o1 127 (.indexSl 1 (tm 126) (ki 0)) 0,
 oL 128 127 0,
 o1 129 (.nilCheck (tm 125)) 0,
 oS 1 129 128 0] []) (.seq (.region 0 [
 o1 6 (.move kt) 0] []) (.ret))))))))),[.tmp 6],true⟩
def s19_3 : Sig := ⟨(.cons (.ptr 0 0 0) (.cons (.v .str) (.cons (.v .str) .nil))),[.cell false (.cons (.slw 1 4) (.cons (.slw 2 1) (.cons (.slw 3 6) (.cons (.v (.int .i64)) (.cons (.v (.int .i64)) (.cons (.v (.int .i64)) (.cons (.v (.int .i64)) (.cons (.v (.int .i64)) (.cons (.v (.int .i64)) (.cons (.v (.int .i64)) (.cons (.v (.int .i64)) (.cons (.v (.int .i64)) (.cons (.v (.int .i64)) (.cons (.v (.int .i64)) (.cons (.v (.int .i64)) (.cons (.v (.int .i64)) (.cons (.v (.int .i64)) (.cons (.v (.int .i64)) .nil)))))))))))))))))),.typed .res,.typed (.list (.int .i64)),.typed .queue],((.v .bool),[.cell false (.cons (.slw 4 4) (.cons (.slw 2 1) (.cons (.slw 3 6) (.cons (.v (.int .i64)) (.cons (.v (.int .i64)) (.cons (.v (.int .i64)) (.cons (.v (.int .i64)) (.cons (.v (.int .i64)) (.cons (.v (.int .i64)) (.cons (.v (.int .i64)) (.cons (.v (.int .i64)) (.cons (.v (.int .i64)) (.cons (.v (.int .i64)) (.cons (.v (.int .i64)) (.cons (.v (.int .i64)) (.cons (.v (.int .i64)) (.cons (.v (.int .i64)) (.cons (.v (.int .i64)) .nil)))))))))))))))))),.dead,.typed (.list (.int .i64)),.typed .queue,.typed .res]),[((.v .bool),[.cell false (.cons (.slw 1 4) (.cons (.slw 2 1) (.cons (.slw 3 6) (.cons (.v (.int .i64)) (.cons (.v (.int .i64)) (.cons (.v (.int .i64)) (.cons (.v (.int .i64)) (.cons (.v (.int .i64)) (.cons (.v (.int .i64)) (.cons (.v (.int .i64)) (.cons (.v (.int .i64)) (.cons (.v (.int .i64)) (.cons (.v (.int .i64)) (.cons (.v (.int .i64)) (.cons (.v (.int .i64)) (.cons (.v (.int .i64)) (.cons (.v (.int .i64)) (.cons (.v (.int .i64)) .nil)))))))))))))))))),.typed .res,.typed (.list (.int .i64)),.typed .queue]),((.v .bool),[.cell false (.cons (.slw 1 4) (.cons (.slw 4 1) (.cons (.slw 3 6) (.cons (.v (.int .i64)) (.cons (.v (.int .i64)) (.cons (.v (.int .i64)) (.cons (.v (.int .i64)) (.cons (.v (.int .i64)) (.cons (.v (.int .i64)) (.cons (.v (.int .i64)) (.cons (.v (.int .i64)) (.cons (.v (.int .i64)) (.cons (.v (.int .i64)) (.cons (.v (.int .i64)) (.cons (.v (.int .i64)) (.cons (.v (.int .i64)) (.cons (.v (.int .i64)) (.cons (.v (.int .i64)) .nil)))))))))))))))))),.typed .res,.dead,.typed .queue,.typed (.list (.int .i64))]),((.v .bool),[.cell false (.cons (.slw 1 4) (.cons (.slw 2 1) (.cons (.slw 4 6) (.cons (.v (.int .i64)) (.cons (.v (.int .i64)) (.cons (.v (.int .i64)) (.cons (.v (.int .i64)) (.cons (.v (.int .i64)) (.cons (.v (.int .i64)) (.cons (.v (.int .i64)) (.cons (.v (.int .i64)) (.cons (.v (.int .i64)) (.cons (.v (.int .i64)) (.cons (.v (.int .i64)) (.cons (.v (.int .i64)) (.cons (.v (.int .i64)) (.cons (.v (.int .i64)) (.cons (.v (.int .i64)) .nil)))))))))))))))))),.typed .res,.typed (.list (.int .i64)),.dead,.typed .queue])]⟩
@[reducible] def y19_3 : Type := ((Bool × ((Unit × (Unit × (Unit × (Int × (Int × (Int × (Int × (Int × (Int × (Int × (Int × (Int × (Int × (Int × (Int × (Int × (Int × (Int × Unit)))))))))))))))))) × (Unit × ((List (List Int)) × ((List Queue) × ((List Res) × Unit)))))) ⊕ ((Bool × ((Unit × (Unit × (Unit × (Int × (Int × (Int × (Int × (Int × (Int × (Int × (Int × (Int × (Int × (Int × (Int × (Int × (Int × (Int × Unit)))))))))))))))))) × ((List Res) × ((List (List Int)) × ((List Queue) × Unit))))) ⊕ ((Bool × ((Unit × (Unit × (Unit × (Int × (Int × (Int × (Int × (Int × (Int × (Int × (Int × (Int × (Int × (Int × (Int × (Int × (Int × (Int × Unit)))))))))))))))))) × ((List Res) × (Unit × ((List Queue) × ((List (List Int)) × Unit)))))) ⊕ (Bool × ((Unit × (Unit × (Unit × (Int × (Int × (Int × (Int × (Int × (Int × (Int × (Int × (Int × (Int × (Int × (Int × (Int × (Int × (Int × Unit)))))))))))))))))) × ((List Res) × ((List (List Int)) × (Unit × ((List Queue) × Unit)))))))))
def F19_3 (L : Lp) (g34 : (List UInt8) → Option (Res × (Int × Unit))) (g35 : (List UInt8) → Option ((List Int) × (Bool × Unit))) (g36_3 : (List UInt8) → Int → Int → Int → Int → Int → Int → Int → Int → Int → Int → Int → Int → Int → Int → Int → (List Res) → (List (List Int)) → (List Queue) → Option y36_3) (word0 : (List UInt8)) (words1 : (List UInt8)) (a2 : Int) (a3 : Int) (a4 : Int) (a5 : Int) (a6 : Int) (a7 : Int) (a8 : Int) (a9 : Int) (a10 : Int) (a11 : Int) (a12 : Int) (a13 : Int) (a14 : Int) (a15 : Int) (a16 : Int) (a17 : (List Res)) (a18 : (List (List Int))) (a19 : (List Queue)) : Option y19_3 :=
 cond (decide (word0 = ([110,111,100,101] : List UInt8)))
 (Option.bind (g34 words1) fun r20 =>
 cond (smallB ((List.length a17) + 1) 32)
 (some (.inl (decide (r20.2.1 = 0),(((),(),(),a2,a3,a4,a5,a6,a7,a8,a9,a10,a11,a12,a13,a14,a15,a16,()),(),a18,a19,a17 ++ [r20.1],()))))
 (none))
 (cond (decide (word0 = ([109,111,100,101] : List UInt8)))
 (cond (decide (words1 = ([99,111,110,115,101,114,118,97,116,105,118,101] : List UInt8)))
 (some (.inr (.inl (true,(((),(),(),a2,a3,a4,a5,a6,a7,2,a9,a10,a11,a12,a13,a14,a15,a16,()),a17,a18,a19,())))))
 (some (.inr (.inl (true,(((),(),(),a2,a3,a4,a5,a6,a7,1,a9,a10,a11,a12,a13,a14,a15,a16,()),a17,a18,a19,()))))))
 (Option.bind (g35 words1) fun r21 =>
 cond (!r21.2.1)
 (some (.inr (.inl (false,(((),(),(),a2,a3,a4,a5,a6,a7,a8,a9,a10,a11,a12,a13,a14,a15,a16,()),a17,a18,a19,())))))
 (cond (decide (word0 = ([112,97,114,116] : List UInt8)))
 (cond (smallB ((List.length a18) + 1) 24)
 (some (.inr (.inr (.inl (true,(((),(),(),a2,a3,a4,a5,a6,a7,a8,a9,a10,a11,a12,a13,a14,a15,a16,()),a17,(),a19,a18 ++ [r21.1],()))))))
 (none))
 (cond (decide (word0 = ([113,117,101,117,101] : List UInt8)))
 (cond (decide ((List.length r21.1 : Int) < 5))
 (some (.inr (.inl (false,(((),(),(),a2,a3,a4,a5,a6,a7,a8,a9,a10,a11,a12,a13,a14,a15,a16,()),a17,a18,a19,())))))
 (Option.bind (r21.1[0]?) fun y22 =>
 Option.bind (r21.1[1]?) fun y23 =>
 Option.bind (r21.1[2]?) fun y24 =>
 Option.bind (r21.1[3]?) fun y25 =>
 Option.bind (r21.1[4]?) fun y26 =>
 cond (decide (5 ≤ (List.length r21.1)))
 (cond (smallB ((List.length a19) + 1) 64)
 (some (.inr (.inr (.inr (true,(((),(),(),a2,a3,a4,a5,a6,a7,a8,a9,a10,a11,a12,a13,a14,a15,a16,()),a17,a18,(),a19 ++ [Queue.mk y22 (List.drop 5 r21.1) y23 y24 y25 y26],()))))))
 (none))
 (none)))
 (cond (decide (word0 = ([119,101,105,103,104,116,115] : List UInt8)))
 (cond (!decide ((List.length r21.1 : Int) = 4))
 (some (.inr (.inl (false,(((),(),(),a2,a3,a4,a5,a6,a7,a8,a9,a10,a11,a12,a13,a14,a15,a16,()),a17,a18,a19,())))))
 (Option.bind (r21.1[0]?) fun y27 =>
 Option.bind (r21.1[1]?) fun y28 =>
 Option.bind (r21.1[2]?) fun y29 =>
 Option.bind (r21.1[3]?) fun y30 =>
 some (.inr (.inl (true,(((),(),(),a2,y27,y28,y29,y30,a7,a8,a9,a10,a11,a12,a13,a14,a15,a16,()),a17,a18,a19,()))))))
 (Option.bind (g36_3 word0 a2 a3 a4 a5 a6 a7 a8 a9 a10 a11 a12 a13 a14 a15 a16 a17 a18 a19) (Sum.elim (fun r31 =>
 cond (true && ((decide ((List.length r31.2.2.1) = (List.length a17))) && ((decide ((List.length r31.2.2.2.1) = (List.length a18))) && ((decide ((List.length r31.2.2.2.2.1) = (List.length a19))) && true))))
 (cond (!decide ((List.length r21.1 : Int) = 1))
 (some (.inr (.inl (false,(((),(),(),r31.2.1.2.2.2.1,r31.2.1.2.2.2.2.1,r31.2.1.2.2.2.2.2.1,r31.2.1.2.2.2.2.2.2.1,r31.2.1.2.2.2.2.2.2.2.1,r31.2.1.2.2.2.2.2.2.2.2.1,r31.2.1.2.2.2.2.2.2.2.2.2.1,r31.2.1.2.2.2.2.2.2.2.2.2.2.1,r31.2.1.2.2.2.2.2.2.2.2.2.2.2.1,r31.2.1.2.2.2.2.2.2.2.2.2.2.2.2.1,r31.2.1.2.2.2.2.2.2.2.2.2.2.2.2.2.1,r31.2.1.2.2.2.2.2.2.2.2.2.2.2.2.2.2.1,r31.2.1.2.2.2.2.2.2.2.2.2.2.2.2.2.2.2.1,r31.2.1.2.2.2.2.2.2.2.2.2.2.2.2.2.2.2.2.1,r31.2.1.2.2.2.2.2.2.2.2.2.2.2.2.2.2.2.2.2.1,()),r31.2.2.1,r31.2.2.2.1,r31.2.2.2.2.1,())))))
 (Option.bind (r21.1[0]?) fun y32 =>
 some (.inr (.inl (true,(((),(),(),y32,r31.2.1.2.2.2.2.1,r31.2.1.2.2.2.2.2.1,r31.2.1.2.2.2.2.2.2.1,r31.2.1.2.2.2.2.2.2.2.1,r31.2.1.2.2.2.2.2.2.2.2.1,r31.2.1.2.2.2.2.2.2.2.2.2.1,r31.2.1.2.2.2.2.2.2.2.2.2.2.1,r31.2.1.2.2.2.2.2.2.2.2.2.2.2.1,r31.2.1.2.2.2.2.2.2.2.2.2.2.2.2.1,r31.2.1.2.2.2.2.2.2.2.2.2.2.2.2.2.1,r31.2.1.2.2.2.2.2.2.2.2.2.2.2.2.2.2.1,r31.2.1.2.2.2.2.2.2.2.2.2.2.2.2.2.2.2.1,r31.2.1.2.2.2.2.2.2.2.2.2.2.2.2.2.2.2.2.1,r31.2.1.2.2.2.2.2.2.2.2.2.2.2.2.2.2.2.2.2.1,()),r31.2.2.1,r31.2.2.2.1,r31.2.2.2.2.1,()))))))
 (none)) (Sum.elim (fun r33 =>
 cond (true && ((decide ((List.length r33.2.2.1) = (List.length a17))) && ((decide ((List.length r33.2.2.2.1) = (List.length a18))) && ((decide ((List.length r33.2.2.2.2.1) = (List.length a19))) && true))))
 (cond (!decide ((List.length r21.1 : Int) = 1))
 (some (.inr (.inl (false,(((),(),(),r33.2.1.2.2.2.1,r33.2.1.2.2.2.2.1,r33.2.1.2.2.2.2.2.1,r33.2.1.2.2.2.2.2.2.1,r33.2.1.2.2.2.2.2.2.2.1,r33.2.1.2.2.2.2.2.2.2.2.1,r33.2.1.2.2.2.2.2.2.2.2.2.1,r33.2.1.2.2.2.2.2.2.2.2.2.2.1,r33.2.1.2.2.2.2.2.2.2.2.2.2.2.1,r33.2.1.2.2.2.2.2.2.2.2.2.2.2.2.1,r33.2.1.2.2.2.2.2.2.2.2.2.2.2.2.2.1,r33.2.1.2.2.2.2.2.2.2.2.2.2.2.2.2.2.1,r33.2.1.2.2.2.2.2.2.2.2.2.2.2.2.2.2.2.1,r33.2.1.2.2.2.2.2.2.2.2.2.2.2.2.2.2.2.2.1,r33.2.1.2.2.2.2.2.2.2.2.2.2.2.2.2.2.2.2.2.1,()),r33.2.2.1,r33.2.2.2.1,r33.2.2.2.2.1,())))))
 (Option.bind (r21.1[0]?) fun y34 =>
 some (.inr (.inl (true,(((),(),(),r33.2.1.2.2.2.1,r33.2.1.2.2.2.2.1,r33.2.1.2.2.2.2.2.1,r33.2.1.2.2.2.2.2.2.1,r33.2.1.2.2.2.2.2.2.2.1,y34,r33.2.1.2.2.2.2.2.2.2.2.2.1,r33.2.1.2.2.2.2.2.2.2.2.2.2.1,r33.2.1.2.2.2.2.2.2.2.2.2.2.2.1,r33.2.1.2.2.2.2.2.2.2.2.2.2.2.2.1,r33.2.1.2.2.2.2.2.2.2.2.2.2.2.2.2.1,r33.2.1.2.2.2.2.2.2.2.2.2.2.2.2.2.2.1,r33.2.1.2.2.2.2.2.2.2.2.2.2.2.2.2.2.2.1,r33.2.1.2.2.2.2.2.2.2.2.2.2.2.2.2.2.2.2.1,r33.2.1.2.2.2.2.2.2.2.2.2.2.2.2.2.2.2.2.2.1,()),r33.2.2.1,r33.2.2.2.1,r33.2.2.2.2.1,()))))))
 (none)) (Sum.elim (fun r35 =>
 cond (true && ((decide ((List.length r35.2.2.1) = (List.length a17))) && ((decide ((List.length r35.2.2.2.1) = (List.length a18))) && ((decide ((List.length r35.2.2.2.2.1) = (List.length a19))) && true))))
 (cond (!decide ((List.length r21.1 : Int) = 1))
 (some (.inr (.inl (false,(((),(),(),r35.2.1.2.2.2.1,r35.2.1.2.2.2.2.1,r35.2.1.2.2.2.2.2.1,r35.2.1.2.2.2.2.2.2.1,r35.2.1.2.2.2.2.2.2.2.1,r35.2.1.2.2.2.2.2.2.2.2.1,r35.2.1.2.2.2.2.2.2.2.2.2.1,r35.2.1.2.2.2.2.2.2.2.2.2.2.1,r35.2.1.2.2.2.2.2.2.2.2.2.2.2.1,r35.2.1.2.2.2.2.2.2.2.2.2.2.2.2.1,r35.2.1.2.2.2.2.2.2.2.2.2.2.2.2.2.1,r35.2.1.2.2.2.2.2.2.2.2.2.2.2.2.2.2.1,r35.2.1.2.2.2.2.2.2.2.2.2.2.2.2.2.2.2.1,r35.2.1.2.2.2.2.2.2.2.2.2.2.2.2.2.2.2.2.1,r35.2.1.2.2.2.2.2.2.2.2.2.2.2.2.2.2.2.2.2.1,()),r35.2.2.1,r35.2.2.2.1,r35.2.2.2.2.1,())))))
 (Option.bind (r21.1[0]?) fun y36 =>
 some (.inr (.inl (true,(((),(),(),r35.2.1.2.2.2.1,r35.2.1.2.2.2.2.1,r35.2.1.2.2.2.2.2.1,r35.2.1.2.2.2.2.2.2.1,r35.2.1.2.2.2.2.2.2.2.1,r35.2.1.2.2.2.2.2.2.2.2.1,r35.2.1.2.2.2.2.2.2.2.2.2.1,y36,r35.2.1.2.2.2.2.2.2.2.2.2.2.2.1,r35.2.1.2.2.2.2.2.2.2.2.2.2.2.2.1,r35.2.1.2.2.2.2.2.2.2.2.2.2.2.2.2.1,r35.2.1.2.2.2.2.2.2.2.2.2.2.2.2.2.2.1,r35.2.1.2.2.2.2.2.2.2.2.2.2.2.2.2.2.2.1,r35.2.1.2.2.2.2.2.2.2.2.2.2.2.2.2.2.2.2.1,r35.2.1.2.2.2.2.2.2.2.2.2.2.2.2.2.2.2.2.2.1,()),r35.2.2.1,r35.2.2.2.1,r35.2.2.2.2.1,()))))))
 (none)) (Sum.elim (fun r37 =>
 cond (true && ((decide ((List.length r37.2.2.1) = (List.length a17))) && ((decide ((List.length r37.2.2.2.1) = (List.length a18))) && ((decide ((List.length r37.2.2.2.2.1) = (List.length a19))) && true))))
 (cond (!decide ((List.length r21.1 : Int) = 1))
 (some (.inr (.inl (false,(((),(),(),r37.2.1.2.2.2.1,r37.2.1.2.2.2.2.1,r37.2.1.2.2.2.2.2.1,r37.2.1.2.2.2.2.2.2.1,r37.2.1.2.2.2.2.2.2.2.1,r37.2.1.2.2.2.2.2.2.2.2.1,r37.2.1.2.2.2.2.2.2.2.2.2.1,r37.2.1.2.2.2.2.2.2.2.2.2.2.1,r37.2.1.2.2.2.2.2.2.2.2.2.2.2.1,r37.2.1.2.2.2.2.2.2.2.2.2.2.2.2.1,r37.2.1.2.2.2.2.2.2.2.2.2.2.2.2.2.1,r37.2.1.2.2.2.2.2.2.2.2.2.2.2.2.2.2.1,r37.2.1.2.2.2.2.2.2.2.2.2.2.2.2.2.2.2.1,r37.2.1.2.2.2.2.2.2.2.2.2.2.2.2.2.2.2.2.1,r37.2.1.2.2.2.2.2.2.2.2.2.2.2.2.2.2.2.2.2.1,()),r37.2.2.1,r37.2.2.2.1,r37.2.2.2.2.1,())))))
 (Option.bind (r21.1[0]?) fun y38 =>
 some (.inr (.inl (true,(((),(),(),r37.2.1.2.2.2.1,r37.2.1.2.2.2.2.1,r37.2.1.2.2.2.2.2.1,r37.2.1.2.2.2.2.2.2.1,r37.2.1.2.2.2.2.2.2.2.1,r37.2.1.2.2.2.2.2.2.2.2.1,r37.2.1.2.2.2.2.2.2.2.2.2.1,r37.2.1.2.2.2.2.2.2.2.2.2.2.1,y38,r37.2.1.2.2.2.2.2.2.2.2.2.2.2.2.1,r37.2.1.2.2.2.2.2.2.2.2.2.2.2.2.2.1,r37.2.1.2.2.2.2.2.2.2.2.2.2.2.2.2.2.1,r37.2.1.2.2.2.2.2.2.2.2.2.2.2.2.2.2.2.1,r37.2.1.2.2.2.2.2.2.2.2.2.2.2.2.2.2.2.2.1,r37.2.1.2.2.2.2.2.2.2.2.2.2.2.2.2.2.2.2.2.1,()),r37.2.2.1,r37.2.2.2.1,r37.2.2.2.2.1,()))))))
 (none)) (Sum.elim (fun r39 =>
 cond (true && ((decide ((List.length r39.2.2.1) = (List.length a17))) && ((decide ((List.length r39.2.2.2.1) = (List.length a18))) && ((decide ((List.length r39.2.2.2.2.1) = (List.length a19))) && true))))
 (cond (!decide ((List.length r21.1 : Int) = 1))
 (some (.inr (.inl (false,(((),(),(),r39.2.1.2.2.2.1,r39.2.1.2.2.2.2.1,r39.2.1.2.2.2.2.2.1,r39.2.1.2.2.2.2.2.2.1,r39.2.1.2.2.2.2.2.2.2.1,r39.2.1.2.2.2.2.2.2.2.2.1,r39.2.1.2.2.2.2.2.2.2.2.2.1,r39.2.1.2.2.2.2.2.2.2.2.2.2.1,r39.2.1.2.2.2.2.2.2.2.2.2.2.2.1,r39.2.1.2.2.2.2.2.2.2.2.2.2.2.2.1,r39.2.1.2.2.2.2.2.2.2.2.2.2.2.2.2.1,r39.2.1.2.2.2.2.2.2.2.2.2.2.2.2.2.2.1,r39.2.1.2.2.2.2.2.2.2.2.2.2.2.2.2.2.2.1,r39.2.1.2.2.2.2.2.2.2.2.2.2.2.2.2.2.2.2.1,r39.2.1.2.2.2.2.2.2.2.2.2.2.2.2.2.2.2.2.2.1,()),r39.2.2.1,r39.2.2.2.1,r39.2.2.2.2.1,())))))
 (Option.bind (r21.1[0]?) fun y40 =>
 some (.inr (.inl (true,(((),(),(),r39.2.1.2.2.2.1,r39.2.1.2.2.2.2.1,r39.2.1.2.2.2.2.2.1,r39.2.1.2.2.2.2.2.2.1,r39.2.1.2.2.2.2.2.2.2.1,r39.2.1.2.2.2.2.2.2.2.2.1,r39.2.1.2.2.2.2.2.2.2.2.2.1,r39.2.1.2.2.2.2.2.2.2.2.2.2.1,r39.2.1.2.2.2.2.2.2.2.2.2.2.2.1,y40,r39.2.1.2.2.2.2.2.2.2.2.2.2.2.2.2.1,r39.2.1.2.2.2.2.2.2.2.2.2.2.2.2.2.2.1,r39.2.1.2.2.2.2.2.2.2.2.2.2.2.2.2.2.2.1,r39.2.1.2.2.2.2.2.2.2.2.2.2.2.2.2.2.2.2.1,r39.2.1.2.2.2.2.2.2.2.2.2.2.2.2.2.2.2.2.2.1,()),r39.2.2.1,r39.2.2.2.1,r39.2.2.2.2.1,()))))))
 (none)) (Sum.elim (fun r41 =>
 cond (true && ((decide ((List.length r41.2.2.1) = (List.length a17))) && ((decide ((List.length r41.2.2.2.1) = (List.length a18))) && ((decide ((List.length r41.2.2.2.2.1) = (List.length a19))) && true))))
 (cond (!decide ((List.length r21.1 : Int) = 1))
 (some (.inr (.inl (false,(((),(),(),r41.2.1.2.2.2.1,r41.2.1.2.2.2.2.1,r41.2.1.2.2.2.2.2.1,r41.2.1.2.2.2.2.2.2.1,r41.2.1.2.2.2.2.2.2.2.1,r41.2.1.2.2.2.2.2.2.2.2.1,r41.2.1.2.2.2.2.2.2.2.2.2.1,r41.2.1.2.2.2.2.2.2.2.2.2.2.1,r41.2.1.2.2.2.2.2.2.2.2.2.2.2.1,r41.2.1.2.2.2.2.2.2.2.2.2.2.2.2.1,r41.2.1.2.2.2.2.2.2.2.2.2.2.2.2.2.1,r41.2.1.2.2.2.2.2.2.2.2.2.2.2.2.2.2.1,r41.2.1.2.2.2.2.2.2.2.2.2.2.2.2.2.2.2.1,r41.2.1.2.2.2.2.2.2.2.2.2.2.2.2.2.2.2.2.1,r41.2.1.2.2.2.2.2.2.2.2.2.2.2.2.2.2.2.2.2.1,()),r41.2.2.1,r41.2.2.2.1,r41.2.2.2.2.1,())))))
 (Option.bind (r21.1[0]?) fun y42 =>
 some (.inr (.inl (true,(((),(),(),r41.2.1.2.2.2.1,r41.2.1.2.2.2.2.1,r41.2.1.2.2.2.2.2.1,r41.2.1.2.2.2.2.2.2.1,r41.2.1.2.2.2.2.2.2.2.1,r41.2.1.2.2.2.2.2.2.2.2.1,r41.2.1.2.2.2.2.2.2.2.2.2.1,r41.2.1.2.2.2.2.2.2.2.2.2.2.1,r41.2.1.2.2.2.2.2.2.2.2.2.2.2.1,r41.2.1.2.2.2.2.2.2.2.2.2.2.2.2.1,y42,r41.2.1.2.2.2.2.2.2.2.2.2.2.2.2.2.2.1,r41.2.1.2.2.2.2.2.2.2.2.2.2.2.2.2.2.2.1,r41.2.1.2.2.2.2.2.2.2.2.2.2.2.2.2.2.2.2.1,r41.2.1.2.2.2.2.2.2.2.2.2.2.2.2.2.2.2.2.2.1,()),r41.2.2.1,r41.2.2.2.1,r41.2.2.2.2.1,()))))))
 (none)) (Sum.elim (fun r43 =>
 cond (true && ((decide ((List.length r43.2.2.1) = (List.length a17))) && ((decide ((List.length r43.2.2.2.1) = (List.length a18))) && ((decide ((List.length r43.2.2.2.2.1) = (List.length a19))) && true))))
 (cond (!decide ((List.length r21.1 : Int) = 1))
 (some (.inr (.inl (false,(((),(),(),r43.2.1.2.2.2.1,r43.2.1.2.2.2.2.1,r43.2.1.2.2.2.2.2.1,r43.2.1.2.2.2.2.2.2.1,r43.2.1.2.2.2.2.2.2.2.1,r43.2.1.2.2.2.2.2.2.2.2.1,r43.2.1.2.2.2.2.2.2.2.2.2.1,r43.2.1.2.2.2.2.2.2.2.2.2.2.1,r43.2.1.2.2.2.2.2.2.2.2.2.2.2.1,r43.2.1.2.2.2.2.2.2.2.2.2.2.2.2.1,r43.2.1.2.2.2.2.2.2.2.2.2.2.2.2.2.1,r43.2.1.2.2.2.2.2.2.2.2.2.2.2.2.2.2.1,r43.2.1.2.2.2.2.2.2.2.2.2.2.2.2.2.2.2.1,r43.2.1.2.2.2.2.2.2.2.2.2.2.2.2.2.2.2.2.1,r43.2.1.2.2.2.2.2.2.2.2.2.2.2.2.2.2.2.2.2.1,()),r43.2.2.1,r43.2.2.2.1,r43.2.2.2.2.1,())))))
 (Option.bind (r21.1[0]?) fun y44 =>
 some (.inr (.inl (true,(((),(),(),r43.2.1.2.2.2.1,r43.2.1.2.2.2.2.1,r43.2.1.2.2.2.2.2.1,r43.2.1.2.2.2.2.2.2.1,r43.2.1.2.2.2.2.2.2.2.1,r43.2.1.2.2.2.2.2.2.2.2.1,r43.2.1.2.2.2.2.2.2.2.2.2.1,r43.2.1.2.2.2.2.2.2.2.2.2.2.1,r43.2.1.2.2.2.2.2.2.2.2.2.2.2.1,r43.2.1.2.2.2.2.2.2.2.2.2.2.2.2.1,r43.2.1.2.2.2.2.2.2.2.2.2.2.2.2.2.1,y44,r43.2.1.2.2.2.2.2.2.2.2.2.2.2.2.2.2.2.1,r43.2.1.2.2.2.2.2.2.2.2.2.2.2.2.2.2.2.2.1,r43.2.1.2.2.2.2.2.2.2.2.2.2.2.2.2.2.2.2.2.1,()),r43.2.2.1,r43.2.2.2.1,r43.2.2.2.2.1,()))))))
 (none)) (Sum.elim (fun r45 =>
 cond (true && ((decide ((List.length r45.2.2.1) = (List.length a17))) && ((decide ((List.length r45.2.2.2.1) = (List.length a18))) && ((decide ((List.length r45.2.2.2.2.1) = (List.length a19))) && true))))
 (cond (!decide ((List.length r21.1 : Int) = 1))
 (some (.inr (.inl (false,(((),(),(),r45.2.1.2.2.2.1,r45.2.1.2.2.2.2.1,r45.2.1.2.2.2.2.2.1,r45.2.1.2.2.2.2.2.2.1,r45.2.1.2.2.2.2.2.2.2.1,r45.2.1.2.2.2.2.2.2.2.2.1,r45.2.1.2.2.2.2.2.2.2.2.2.1,r45.2.1.2.2.2.2.2.2.2.2.2.2.1,r45.2.1.2.2.2.2.2.2.2.2.2.2.2.1,r45.2.1.2.2.2.2.2.2.2.2.2.2.2.2.1,r45.2.1.2.2.2.2.2.2.2.2.2.2.2.2.2.1,r45.2.1.2.2.2.2.2.2.2.2.2.2.2.2.2.2.1,r45.2.1.2.2.2.2.2.2.2.2.2.2.2.2.2.2.2.1,r45.2.1.2.2.2.2.2.2.2.2.2.2.2.2.2.2.2.2.1,r45.2.1.2.2.2.2.2.2.2.2.2.2.2.2.2.2.2.2.2.1,()),r45.2.2.1,r45.2.2.2.1,r45.2.2.2.2.1,())))))
 (Option.bind (r21.1[0]?) fun y46 =>
 some (.inr (.inl (true,(((),(),(),r45.2.1.2.2.2.1,r45.2.1.2.2.2.2.1,r45.2.1.2.2.2.2.2.1,r45.2.1.2.2.2.2.2.2.1,r45.2.1.2.2.2.2.2.2.2.1,r45.2.1.2.2.2.2.2.2.2.2.1,r45.2.1.2.2.2.2.2.2.2.2.2.1,r45.2.1.2.2.2.2.2.2.2.2.2.2.1,r45.2.1.2.2.2.2.2.2.2.2.2.2.2.1,r45.2.1.2.2.2.2.2.2.2.2.2.2.2.2.1,r45.2.1.2.2.2.2.2.2.2.2.2.2.2.2.2.1,r45.2.1.2.2.2.2.2.2.2.2.2.2.2.2.2.2.1,y46,r45.2.1.2.2.2.2.2.2.2.2.2.2.2.2.2.2.2.2.1,r45.2.1.2.2.2.2.2.2.2.2.2.2.2.2.2.2.2.2.2.1,()),r45.2.2.1,r45.2.2.2.1,r45.2.2.2.2.1,()))))))
 (none)) (Sum.elim (fun r47 =>
 cond (true && ((decide ((List.length r47.2.2.1) = (List.length a17))) && ((decide ((List.length r47.2.2.2.1) = (List.length a18))) && ((decide ((List.length r47.2.2.2.2.1) = (List.length a19))) && true))))
 (cond (!decide ((List.length r21.1 : Int) = 1))
 (some (.inr (.inl (false,(((),(),(),r47.2.1.2.2.2.1,r47.2.1.2.2.2.2.1,r47.2.1.2.2.2.2.2.1,r47.2.1.2.2.2.2.2.2.1,r47.2.1.2.2.2.2.2.2.2.1,r47.2.1.2.2.2.2.2.2.2.2.1,r47.2.1.2.2.2.2.2.2.2.2.2.1,r47.2.1.2.2.2.2.2.2.2.2.2.2.1,r47.2.1.2.2.2.2.2.2.2.2.2.2.2.1,r47.2.1.2.2.2.2.2.2.2.2.2.2.2.2.1,r47.2.1.2.2.2.2.2.2.2.2.2.2.2.2.2.1,r47.2.1.2.2.2.2.2.2.2.2.2.2.2.2.2.2.1,r47.2.1.2.2.2.2.2.2.2.2.2.2.2.2.2.2.2.1,r47.2.1.2.2.2.2.2.2.2.2.2.2.2.2.2.2.2.2.1,r47.2.1.2.2.2.2.2.2.2.2.2.2.2.2.2.2.2.2.2.1,()),r47.2.2.1,r47.2.2.2.1,r47.2.2.2.2.1,())))))
 (Option.bind (r21.1[0]?) fun y48 =>
 some (.inr (.inl (true,(((),(),(),r47.2.1.2.2.2.1,r47.2.1.2.2.2.2.1,r47.2.1.2.2.2.2.2.1,r47.2.1.2.2.2.2.2.2.1,r47.2.1.2.2.2.2.2.2.2.1,r47.2.1.2.2.2.2.2.2.2.2.1,r47.2.1.2.2.2.2.2.2.2.2.2.1,r47.2.1.2.2.2.2.2.2.2.2.2.2.1,r47.2.1.2.2.2.2.2.2.2.2.2.2.2.1,r47.2.1.2.2.2.2.2.2.2.2.2.2.2.2.1,r47.2.1.2.2.2.2.2.2.2.2.2.2.2.2.2.1,r47.2.1.2.2.2.2.2.2.2.2.2.2.2.2.2.2.1,r47.2.1.2.2.2.2.2.2.2.2.2.2.2.2.2.2.2.1,y48,r47.2.1.2.2.2.2.2.2.2.2.2.2.2.2.2.2.2.2.2.1,()),r47.2.2.1,r47.2.2.2.1,r47.2.2.2.2.1,()))))))
 (none)) (Sum.elim (fun r49 =>
 cond (true && ((decide ((List.length r49.2.2.1) = (List.length a17))) && ((decide ((List.length r49.2.2.2.1) = (List.length a18))) && ((decide ((List.length r49.2.2.2.2.1) = (List.length a19))) && true))))
 (cond (!decide ((List.length r21.1 : Int) = 1))
 (some (.inr (.inl (false,(((),(),(),r49.2.1.2.2.2.1,r49.2.1.2.2.2.2.1,r49.2.1.2.2.2.2.2.1,r49.2.1.2.2.2.2.2.2.1,r49.2.1.2.2.2.2.2.2.2.1,r49.2.1.2.2.2.2.2.2.2.2.1,r49.2.1.2.2.2.2.2.2.2.2.2.1,r49.2.1.2.2.2.2.2.2.2.2.2.2.1,r49.2.1.2.2.2.2.2.2.2.2.2.2.2.1,r49.2.1.2.2.2.2.2.2.2.2.2.2.2.2.1,r49.2.1.2.2.2.2.2.2.2.2.2.2.2.2.2.1,r49.2.1.2.2.2.2.2.2.2.2.2.2.2.2.2.2.1,r49.2.1.2.2.2.2.2.2.2.2.2.2.2.2.2.2.2.1,r49.2.1.2.2.2.2.2.2.2.2.2.2.2.2.2.2.2.2.1,r49.2.1.2.2.2.2.2.2.2.2.2.2.2.2.2.2.2.2.2.1,()),r49.2.2.1,r49.2.2.2.1,r49.2.2.2.2.1,())))))
 (Option.bind (r21.1[0]?) fun y50 =>
 some (.inr (.inl (true,(((),(),(),r49.2.1.2.2.2.1,r49.2.1.2.2.2.2.1,r49.2.1.2.2.2.2.2.1,r49.2.1.2.2.2.2.2.2.1,r49.2.1.2.2.2.2.2.2.2.1,r49.2.1.2.2.2.2.2.2.2.2.1,r49.2.1.2.2.2.2.2.2.2.2.2.1,r49.2.1.2.2.2.2.2.2.2.2.2.2.1,r49.2.1.2.2.2.2.2.2.2.2.2.2.2.1,r49.2.1.2.2.2.2.2.2.2.2.2.2.2.2.1,r49.2.1.2.2.2.2.2.2.2.2.2.2.2.2.2.1,r49.2.1.2.2.2.2.2.2.2.2.2.2.2.2.2.2.1,r49.2.1.2.2.2.2.2.2.2.2.2.2.2.2.2.2.2.1,r49.2.1.2.2.2.2.2.2.2.2.2.2.2.2.2.2.2.2.1,y50,()),r49.2.2.1,r49.2.2.2.1,r49.2.2.2.2.1,()))))))
 (none)) (fun r51 =>
 cond (true && ((decide ((List.length r51.2.2.1) = (List.length a17))) && ((decide ((List.length r51.2.2.2.1) = (List.length a18))) && ((decide ((List.length r51.2.2.2.2.1) = (List.length a19))) && true))))
 (some (.inr (.inl (false,(((),(),(),r51.2.1.2.2.2.1,r51.2.1.2.2.2.2.1,r51.2.1.2.2.2.2.2.1,r51.2.1.2.2.2.2.2.2.1,r51.2.1.2.2.2.2.2.2.2.1,r51.2.1.2.2.2.2.2.2.2.2.1,r51.2.1.2.2.2.2.2.2.2.2.2.1,r51.2.1.2.2.2.2.2.2.2.2.2.2.1,r51.2.1.2.2.2.2.2.2.2.2.2.2.2.1,r51.2.1.2.2.2.2.2.2.2.2.2.2.2.2.1,r51.2.1.2.2.2.2.2.2.2.2.2.2.2.2.2.1,r51.2.1.2.2.2.2.2.2.2.2.2.2.2.2.2.2.1,r51.2.1.2.2.2.2.2.2.2.2.2.2.2.2.2.2.2.1,r51.2.1.2.2.2.2.2.2.2.2.2.2.2.2.2.2.2.2.1,r51.2.1.2.2.2.2.2.2.2.2.2.2.2.2.2.2.2.2.2.1,()),r51.2.2.1,r51.2.2.2.1,r51.2.2.2.2.1,())))))
 (none))))))))))))))))))
theorem e19_3 (L : Lp) (g34 : (List UInt8) → Option (Res × (Int × Unit))) (g35 : (List UInt8) → Option ((List Int) × (Bool × Unit))) (g36_3 : (List UInt8) → Int → Int → Int → Int → Int → Int → Int → Int → Int → Int → Int → Int → Int → Int → Int → (List Res) → (List (List Int)) → (List Queue) → Option y36_3) (x : s19_3.args.den) (h : denH s19_3.heap) : nrun [⟨34,s34,fun x h => g34 x.1⟩,⟨35,s35,fun x h => g35 x.1⟩,⟨36,s36_3,fun x h => g36_3 x.2.1 h.1.2.2.2.1 h.1.2.2.2.2.1 h.1.2.2.2.2.2.1 h.1.2.2.2.2.2.2.1 h.1.2.2.2.2.2.2.2.1 h.1.2.2.2.2.2.2.2.2.1 h.1.2.2.2.2.2.2.2.2.2.1 h.1.2.2.2.2.2.2.2.2.2.2.1 h.1.2.2.2.2.2.2.2.2.2.2.2.1 h.1.2.2.2.2.2.2.2.2.2.2.2.2.1 h.1.2.2.2.2.2.2.2.2.2.2.2.2.2.1 h.1.2.2.2.2.2.2.2.2.2.2.2.2.2.2.1 h.1.2.2.2.2.2.2.2.2.2.2.2.2.2.2.2.1 h.1.2.2.2.2.2.2.2.2.2.2.2.2.2.2.2.2.1 h.1.2.2.2.2.2.2.2.2.2.2.2.2.2.2.2.2.2.1 h.2.1 h.2.2.1 h.2.2.2.1⟩] L n19_3 s19_3 x h = F19_3 L g34 g35 g36_3 x.2.1 x.2.2.1 h.1.2.2.2.1 h.1.2.2.2.2.1 h.1.2.2.2.2.2.1 h.1.2.2.2.2.2.2.1 h.1.2.2.2.2.2.2.2.1 h.1.2.2.2.2.2.2.2.2.1 h.1.2.2.2.2.2.2.2.2.2.1 h.1.2.2.2.2.2.2.2.2.2.2.1 h.1.2.2.2.2.2.2.2.2.2.2.2.1 h.1.2.2.2.2.2.2.2.2.2.2.2.2.1 h.1.2.2.2.2.2.2.2.2.2.2.2.2.2.1 h.1.2.2.2.2.2.2.2.2.2.2.2.2.2.2.1 h.1.2.2.2.2.2.2.2.2.2.2.2.2.2.2.2.1 h.1.2.2.2.2.2.2.2.2.2.2.2.2.2.2.2.2.1 h.1.2.2.2.2.2.2.2.2.2.2.2.2.2.2.2.2.2.1 h.2.1 h.2.2.1 h.2.2.2.1 := by kernel_rfl
def f19_3 : (List UInt8) → (List UInt8) → Int → Int → Int → Int → Int → Int → Int → Int → Int → Int → Int → Int → Int → Int → Int → (List Res) → (List (List Int)) → (List Queue) → Option y19_3 := F19_3 (@LN LOOPS) f34 f35 f36_3
@[reducible] def t19_3 : Ent := ⟨19,s19_3,fun x h => f19_3 x.2.1 x.2.2.1 h.1.2.2.2.1 h.1.2.2.2.2.1 h.1.2.2.2.2.2.1 h.1.2.2.2.2.2.2.1 h.1.2.2.2.2.2.2.2.1 h.1.2.2.2.2.2.2.2.2.1 h.1.2.2.2.2.2.2.2.2.2.1 h.1.2.2.2.2.2.2.2.2.2.2.1 h.1.2.2.2.2.2.2.2.2.2.2.2.1 h.1.2.2.2.2.2.2.2.2.2.2.2.2.1 h.1.2.2.2.2.2.2.2.2.2.2.2.2.2.1 h.1.2.2.2.2.2.2.2.2.2.2.2.2.2.2.1 h.1.2.2.2.2.2.2.2.2.2.2.2.2.2.2.2.1 h.1.2.2.2.2.2.2.2.2.2.2.2.2.2.2.2.2.1 h.1.2.2.2.2.2.2.2.2.2.2.2.2.2.2.2.2.2.1 h.2.1 h.2.2.1 h.2.2.2.1⟩
theorem k19_3 : chkNF Tryz.prog Tryz.f19 n19_3 = true := by kernel_rfl
theorem ok19_3 : NOk Tryz.prog t19_3 := NOk.body (T := [t34,t35,t36_3]) mixed (nall_cons ok34 (nall_cons ok35 (nall_cons ok36_3 nall_nil))) (oneEach_of (by kernel_rfl)) Tryz.func19 k19_3 (by kernel_rfl) (fun x h => e19_3 _ _ _ _ x h)
def n8 : NFunc := ⟨50,.seq (.region 1 [
 o1 2 (.alloc [.zsl,.zsl,.zsl,iz,iz,iz,iz,iz,iz,iz,iz,iz,iz,iz,iz,iz,iz,iz]) 0,
 o1 3 (.move (ki 0)) 1] []) (.seq (.seq (.region 0 [
 oM 12 0 0,
 o1 13 (.lenStr (tm 12)) 0,
 oC 14 .gtr 13 4096 0] []) (.cond (tm 14) (.seq (.region 0 [
 o1 15 (.build [.zsl,.zsl,.zsl,iz,iz,iz,iz,iz,iz,iz,iz,iz,iz,iz,iz,iz,iz,iz] []) 0,
 oS 18 2 15 0,
 o1 3 (.move (ki 11)) 0] []) (.ret)) (.skip))) (.seq (.region 1 [
 o1 4 (.alloc [.zsl,.zsl,.zsl,iz,iz,iz,iz,iz,iz,iz,iz,iz,iz,iz,iz,iz,iz,iz]) 0] []) (.seq (.seq (.region 0 [
 oM 16 0 0,
 oM 5 16 0] []) (.block 0 (.pre [0,2,4,5] [.matC 4 2 6 true,.matC 4 1 1 true,.matC 4 0 4 true] (.loop [0,2,4,5] ⟨[(2,(.ptr 0 0 0)),(4,(.ptr 1 0 0)),(5,(.v .str))],[0],[.cell false (.cons .zsl (.cons .zsl (.cons .zsl (.cons vI (.cons vI (.cons vI (.cons vI (.cons vI (.cons vI (.cons vI (.cons vI (.cons vI (.cons vI (.cons vI (.cons vI (.cons vI (.cons vI (.cons vI .nil)))))))))))))))))),.cell false (.cons (.slw 2 4) (.cons (.slw 3 1) (.cons (.slw 4 6) (.cons vI (.cons vI (.cons vI (.cons vI (.cons vI (.cons vI (.cons vI (.cons vI (.cons vI (.cons vI (.cons vI (.cons vI (.cons vI (.cons vI (.cons vI .nil)))))))))))))))))),.typed .res,.typed (.list (.int .i64)),.typed .queue]⟩ (.seq (.seq (.region 0 [
 oM 17 5 0,
 o1 18 (.bin .neq (tm 17) (.const (.str []))) 0] []) (.cond (tm 18) (.skip) (.exit 0))) (.block 1 (.seq (.region 0 [
 o1 6 (.move (.const (.str []))) 0] []) (.seq (.region 4 [
 oM 20 5 0,
 o1 21 (.call (fc 18) [(vv 20),(false,(.const (.str [10])))] false 4) 0,
 oM 19 21 4,
 oX 22 19 0 4,
 oX 23 19 1 4,
 oX 24 19 2 4,
 oM 6 22 4,
 oM 5 23 4] []) (.seq (.region 4 [
 oM 26 6 0,
 o1 27 (.call (fc 18) [(vv 26),(false,(.const (.str [32])))] false 4) 0,
 oM 25 27 4,
 oX 28 25 0 4,
 oX 29 25 1 4,
 oX 30 25 2 4,
 oM 7 28 4,
 oM 8 29 4,
 oM 9 30 4] []) (.seq (.region 4 [
 oM 31 7 0,
 oM 32 8 0,
 o1 33 (.call (fc 19) [(vw 4),(vv 31),(vv 32)] false 4) 0,
 o1 34 (.un .not (tm 33)) 4] []) (.cond (tm 34) (.seq (.region 0 [
 o1 35 (.build [.zsl,.zsl,.zsl,iz,iz,iz,iz,iz,iz,iz,iz,iz,iz,iz,iz,iz,iz,iz] []) 0,
 oS 18 2 35 0,
 o1 3 (.move (ki 11)) 0] []) (.ret)) (.skip)))))))))))) (.seq (.region 4 [
 oT 37 18 4 0,
 o1 38 (.call (fc 6) [(vv 37)] false 4) 0,
 oM 36 38 4,
 oX 39 36 0 4,
 oX 40 36 1 4,
 oM 10 39 4,
 oM 11 40 4] []) (.seq (.seq (.region 0 [
 oM 41 11 0,
 oC 42 .neq 41 0 0,
 oM 43 42 0,
 oN 44 10 43 0,
 oN 45 0 43 0,
 o2 46 (.bin .neq (tm 44) (tm 45)) 43 0,
 o1 47 (.pick (tm 43) kt (tm 46)) 0] []) (.cond (tm 47) (.seq (.region 0 [
 o1 48 (.build [.zsl,.zsl,.zsl,iz,iz,iz,iz,iz,iz,iz,iz,iz,iz,iz,iz,iz,iz,iz] []) 0,
 oS 18 2 48 0,
 o1 3 (.move (ki 11)) 0] []) (.ret)) (.skip))) (.seq (.region 0 [
 oT 49 18 4 0,
 oS 18 2 49 0,
 o1 3 (.move (ki 0)) 0] []) (.ret))))))),[.cell true 18 2,.tmp 3],true⟩
def s8 : Sig := ⟨(.cons (.v .str) .nil),[],((.tup (.cons (.v .spec) (.cons (.v (.int .i64)) .nil))),[]),[]⟩
def l8_0 (g18 : (List UInt8) → (List UInt8) → Option ((List UInt8) × ((List UInt8) × (Bool × Unit)))) (g19_3 : (List UInt8) → (List UInt8) → Int → Int → Int → Int → Int → Int → Int → Int → Int → Int → Int → Int → Int → Int → Int → (List Res) → (List (List Int)) → (List Queue) → Option y19_3) (g6 : Spec → Option ((List UInt8) × (Int × Unit))) (text0 : (List UInt8)) (nx2 : ((Unit × (Unit × ((List UInt8) × Unit))) × ((Unit × (Unit × (Unit × (Int × (Int × (Int × (Int × (Int × (Int × (Int × (Int × (Int × (Int × (Int × (Int × (Int × (Int × (Int × Unit)))))))))))))))))) × ((Unit × (Unit × (Unit × (Int × (Int × (Int × (Int × (Int × (Int × (Int × (Int × (Int × (Int × (Int × (Int × (Int × (Int × (Int × Unit)))))))))))))))))) × ((List Res) × ((List (List Int)) × ((List Queue) × Unit)))))) → Option (Spec × (Int × Unit))) (rest3 : (List UInt8)) (z4 : Int) (z5 : Int) (z6 : Int) (z7 : Int) (z8 : Int) (z9 : Int) (z10 : Int) (z11 : Int) (z12 : Int) (z13 : Int) (z14 : Int) (z15 : Int) (z16 : Int) (z17 : Int) (z18 : Int) (z19 : Int) (z20 : Int) (z21 : Int) (z22 : Int) (z23 : Int) (z24 : Int) (z25 : Int) (z26 : Int) (z27 : Int) (z28 : Int) (z29 : Int) (z30 : Int) (z31 : Int) (z32 : Int) (z33 : Int) (z34 : (List Res)) (z35 : (List (List Int))) (z36 : (List Queue)) : Option (Spec × (Int × Unit)) :=
 cond (!decide (rest3 = ([] : List UInt8)))
 (Option.bind (g18 rest3 ([10] : List UInt8)) fun r37 =>
 Option.bind (g18 r37.1 ([32] : List UInt8)) fun r38 =>
 Option.bind (g19_3 r38.1 r38.2.1 z19 z20 z21 z22 z23 z24 z25 z26 z27 z28 z29 z30 z31 z32 z33 z34 z35 z36) (Sum.elim (fun r39 =>
 cond (true && (true && ((decide ((List.length r39.2.2.2.1) = (List.length z35))) && ((decide ((List.length r39.2.2.2.2.1) = (List.length z36))) && true))))
 (cond (!r39.1)
 (some (Spec.mk [] [] [] 0 (Weights.mk 0 0 0 0) 0 0 0 0 0 0 0 0 0 0,11,()))
 (nx2 (((),(),r37.2.1,()),(((),(),(),z4,z5,z6,z7,z8,z9,z10,z11,z12,z13,z14,z15,z16,z17,z18,()),((),(),(),r39.2.1.2.2.2.1,r39.2.1.2.2.2.2.1,r39.2.1.2.2.2.2.2.1,r39.2.1.2.2.2.2.2.2.1,r39.2.1.2.2.2.2.2.2.2.1,r39.2.1.2.2.2.2.2.2.2.2.1,r39.2.1.2.2.2.2.2.2.2.2.2.1,r39.2.1.2.2.2.2.2.2.2.2.2.2.1,r39.2.1.2.2.2.2.2.2.2.2.2.2.2.1,r39.2.1.2.2.2.2.2.2.2.2.2.2.2.2.1,r39.2.1.2.2.2.2.2.2.2.2.2.2.2.2.2.1,r39.2.1.2.2.2.2.2.2.2.2.2.2.2.2.2.2.1,r39.2.1.2.2.2.2.2.2.2.2.2.2.2.2.2.2.2.1,r39.2.1.2.2.2.2.2.2.2.2.2.2.2.2.2.2.2.2.1,r39.2.1.2.2.2.2.2.2.2.2.2.2.2.2.2.2.2.2.2.1,()),r39.2.2.2.2.2.1,r39.2.2.2.1,r39.2.2.2.2.1,()))))
 (none)) (Sum.elim (fun r40 =>
 cond (true && ((decide ((List.length r40.2.2.1) = (List.length z34))) && ((decide ((List.length r40.2.2.2.1) = (List.length z35))) && ((decide ((List.length r40.2.2.2.2.1) = (List.length z36))) && true))))
 (cond (!r40.1)
 (some (Spec.mk [] [] [] 0 (Weights.mk 0 0 0 0) 0 0 0 0 0 0 0 0 0 0,11,()))
 (nx2 (((),(),r37.2.1,()),(((),(),(),z4,z5,z6,z7,z8,z9,z10,z11,z12,z13,z14,z15,z16,z17,z18,()),((),(),(),r40.2.1.2.2.2.1,r40.2.1.2.2.2.2.1,r40.2.1.2.2.2.2.2.1,r40.2.1.2.2.2.2.2.2.1,r40.2.1.2.2.2.2.2.2.2.1,r40.2.1.2.2.2.2.2.2.2.2.1,r40.2.1.2.2.2.2.2.2.2.2.2.1,r40.2.1.2.2.2.2.2.2.2.2.2.2.1,r40.2.1.2.2.2.2.2.2.2.2.2.2.2.1,r40.2.1.2.2.2.2.2.2.2.2.2.2.2.2.1,r40.2.1.2.2.2.2.2.2.2.2.2.2.2.2.2.1,r40.2.1.2.2.2.2.2.2.2.2.2.2.2.2.2.2.1,r40.2.1.2.2.2.2.2.2.2.2.2.2.2.2.2.2.2.1,r40.2.1.2.2.2.2.2.2.2.2.2.2.2.2.2.2.2.2.1,r40.2.1.2.2.2.2.2.2.2.2.2.2.2.2.2.2.2.2.2.1,()),r40.2.2.1,r40.2.2.2.1,r40.2.2.2.2.1,()))))
 (none)) (Sum.elim (fun r41 =>
 cond (true && ((decide ((List.length r41.2.2.1) = (List.length z34))) && (true && ((decide ((List.length r41.2.2.2.2.1) = (List.length z36))) && true))))
 (cond (!r41.1)
 (some (Spec.mk [] [] [] 0 (Weights.mk 0 0 0 0) 0 0 0 0 0 0 0 0 0 0,11,()))
 (nx2 (((),(),r37.2.1,()),(((),(),(),z4,z5,z6,z7,z8,z9,z10,z11,z12,z13,z14,z15,z16,z17,z18,()),((),(),(),r41.2.1.2.2.2.1,r41.2.1.2.2.2.2.1,r41.2.1.2.2.2.2.2.1,r41.2.1.2.2.2.2.2.2.1,r41.2.1.2.2.2.2.2.2.2.1,r41.2.1.2.2.2.2.2.2.2.2.1,r41.2.1.2.2.2.2.2.2.2.2.2.1,r41.2.1.2.2.2.2.2.2.2.2.2.2.1,r41.2.1.2.2.2.2.2.2.2.2.2.2.2.1,r41.2.1.2.2.2.2.2.2.2.2.2.2.2.2.1,r41.2.1.2.2.2.2.2.2.2.2.2.2.2.2.2.1,r41.2.1.2.2.2.2.2.2.2.2.2.2.2.2.2.2.1,r41.2.1.2.2.2.2.2.2.2.2.2.2.2.2.2.2.2.1,r41.2.1.2.2.2.2.2.2.2.2.2.2.2.2.2.2.2.2.1,r41.2.1.2.2.2.2.2.2.2.2.2.2.2.2.2.2.2.2.2.1,()),r41.2.2.1,r41.2.2.2.2.2.1,r41.2.2.2.2.1,()))))
 (none)) (fun r42 =>
 cond (true && ((decide ((List.length r42.2.2.1) = (List.length z34))) && ((decide ((List.length r42.2.2.2.1) = (List.length z35))) && true)))
 (cond (!r42.1)
 (some (Spec.mk [] [] [] 0 (Weights.mk 0 0 0 0) 0 0 0 0 0 0 0 0 0 0,11,()))
 (nx2 (((),(),r37.2.1,()),(((),(),(),z4,z5,z6,z7,z8,z9,z10,z11,z12,z13,z14,z15,z16,z17,z18,()),((),(),(),r42.2.1.2.2.2.1,r42.2.1.2.2.2.2.1,r42.2.1.2.2.2.2.2.1,r42.2.1.2.2.2.2.2.2.1,r42.2.1.2.2.2.2.2.2.2.1,r42.2.1.2.2.2.2.2.2.2.2.1,r42.2.1.2.2.2.2.2.2.2.2.2.1,r42.2.1.2.2.2.2.2.2.2.2.2.2.1,r42.2.1.2.2.2.2.2.2.2.2.2.2.2.1,r42.2.1.2.2.2.2.2.2.2.2.2.2.2.2.1,r42.2.1.2.2.2.2.2.2.2.2.2.2.2.2.2.1,r42.2.1.2.2.2.2.2.2.2.2.2.2.2.2.2.2.1,r42.2.1.2.2.2.2.2.2.2.2.2.2.2.2.2.2.2.1,r42.2.1.2.2.2.2.2.2.2.2.2.2.2.2.2.2.2.2.1,r42.2.1.2.2.2.2.2.2.2.2.2.2.2.2.2.2.2.2.2.1,()),r42.2.2.1,r42.2.2.2.1,r42.2.2.2.2.2.1,()))))
 (none))))))
 (Option.bind (g6 (Spec.mk z34 z35 z36 z19 (Weights.mk z20 z21 z22 z23) z24 z25 z26 z27 z28 z29 z30 z31 z32 z33)) fun r43 =>
 cond (!decide (r43.2.1 = 0))
 (some (Spec.mk [] [] [] 0 (Weights.mk 0 0 0 0) 0 0 0 0 0 0 0 0 0 0,11,()))
 (cond (!decide (r43.1 = text0))
 (some (Spec.mk [] [] [] 0 (Weights.mk 0 0 0 0) 0 0 0 0 0 0 0 0 0 0,11,()))
 (some (Spec.mk z34 z35 z36 z19 (Weights.mk z20 z21 z22 z23) z24 z25 z26 z27 z28 z29 z30 z31 z32 z33,0,()))))
def F8 (L : Lp) (g18 : (List UInt8) → (List UInt8) → Option ((List UInt8) × ((List UInt8) × (Bool × Unit)))) (g19_3 : (List UInt8) → (List UInt8) → Int → Int → Int → Int → Int → Int → Int → Int → Int → Int → Int → Int → Int → Int → Int → (List Res) → (List (List Int)) → (List Queue) → Option y19_3) (g6 : Spec → Option ((List UInt8) × (Int × Unit))) (text0 : (List UInt8)) : Option (Spec × (Int × Unit)) :=
 cond (decide (4096 < (List.length text0 : Int)))
 (some (Spec.mk [] [] [] 0 (Weights.mk 0 0 0 0) 0 0 0 0 0 0 0 0 0 0,11,()))
 (L (fun (s1 : ((Unit × (Unit × ((List UInt8) × Unit))) × ((Unit × (Unit × (Unit × (Int × (Int × (Int × (Int × (Int × (Int × (Int × (Int × (Int × (Int × (Int × (Int × (Int × (Int × (Int × Unit)))))))))))))))))) × ((Unit × (Unit × (Unit × (Int × (Int × (Int × (Int × (Int × (Int × (Int × (Int × (Int × (Int × (Int × (Int × (Int × (Int × (Int × Unit)))))))))))))))))) × ((List Res) × ((List (List Int)) × ((List Queue) × Unit))))))) nx2 => l8_0 g18 g19_3 g6 text0 nx2 s1.1.2.2.1 s1.2.1.2.2.2.1 s1.2.1.2.2.2.2.1 s1.2.1.2.2.2.2.2.1 s1.2.1.2.2.2.2.2.2.1 s1.2.1.2.2.2.2.2.2.2.1 s1.2.1.2.2.2.2.2.2.2.2.1 s1.2.1.2.2.2.2.2.2.2.2.2.1 s1.2.1.2.2.2.2.2.2.2.2.2.2.1 s1.2.1.2.2.2.2.2.2.2.2.2.2.2.1 s1.2.1.2.2.2.2.2.2.2.2.2.2.2.2.1 s1.2.1.2.2.2.2.2.2.2.2.2.2.2.2.2.1 s1.2.1.2.2.2.2.2.2.2.2.2.2.2.2.2.2.1 s1.2.1.2.2.2.2.2.2.2.2.2.2.2.2.2.2.2.1 s1.2.1.2.2.2.2.2.2.2.2.2.2.2.2.2.2.2.2.1 s1.2.1.2.2.2.2.2.2.2.2.2.2.2.2.2.2.2.2.2.1 s1.2.2.1.2.2.2.1 s1.2.2.1.2.2.2.2.1 s1.2.2.1.2.2.2.2.2.1 s1.2.2.1.2.2.2.2.2.2.1 s1.2.2.1.2.2.2.2.2.2.2.1 s1.2.2.1.2.2.2.2.2.2.2.2.1 s1.2.2.1.2.2.2.2.2.2.2.2.2.1 s1.2.2.1.2.2.2.2.2.2.2.2.2.2.1 s1.2.2.1.2.2.2.2.2.2.2.2.2.2.2.1 s1.2.2.1.2.2.2.2.2.2.2.2.2.2.2.2.1 s1.2.2.1.2.2.2.2.2.2.2.2.2.2.2.2.2.1 s1.2.2.1.2.2.2.2.2.2.2.2.2.2.2.2.2.2.1 s1.2.2.1.2.2.2.2.2.2.2.2.2.2.2.2.2.2.2.1 s1.2.2.1.2.2.2.2.2.2.2.2.2.2.2.2.2.2.2.2.1 s1.2.2.1.2.2.2.2.2.2.2.2.2.2.2.2.2.2.2.2.2.1 s1.2.2.2.1 s1.2.2.2.2.1 s1.2.2.2.2.2.1) (((),(),text0,()),(((),(),(),0,0,0,0,0,0,0,0,0,0,0,0,0,0,0,()),((),(),(),0,0,0,0,0,0,0,0,0,0,0,0,0,0,0,()),[],[],[],())))
theorem e8 (L : Lp) (g18 : (List UInt8) → (List UInt8) → Option ((List UInt8) × ((List UInt8) × (Bool × Unit)))) (g19_3 : (List UInt8) → (List UInt8) → Int → Int → Int → Int → Int → Int → Int → Int → Int → Int → Int → Int → Int → Int → Int → (List Res) → (List (List Int)) → (List Queue) → Option y19_3) (g6 : Spec → Option ((List UInt8) × (Int × Unit))) (x : s8.args.den) (h : denH s8.heap) : nrun [⟨18,s18,fun x h => g18 x.1 x.2.1⟩,⟨19,s19_3,fun x h => g19_3 x.2.1 x.2.2.1 h.1.2.2.2.1 h.1.2.2.2.2.1 h.1.2.2.2.2.2.1 h.1.2.2.2.2.2.2.1 h.1.2.2.2.2.2.2.2.1 h.1.2.2.2.2.2.2.2.2.1 h.1.2.2.2.2.2.2.2.2.2.1 h.1.2.2.2.2.2.2.2.2.2.2.1 h.1.2.2.2.2.2.2.2.2.2.2.2.1 h.1.2.2.2.2.2.2.2.2.2.2.2.2.1 h.1.2.2.2.2.2.2.2.2.2.2.2.2.2.1 h.1.2.2.2.2.2.2.2.2.2.2.2.2.2.2.1 h.1.2.2.2.2.2.2.2.2.2.2.2.2.2.2.2.1 h.1.2.2.2.2.2.2.2.2.2.2.2.2.2.2.2.2.1 h.1.2.2.2.2.2.2.2.2.2.2.2.2.2.2.2.2.2.1 h.2.1 h.2.2.1 h.2.2.2.1⟩,⟨6,s6,fun x h => g6 x.1⟩] L n8 s8 x h = F8 L g18 g19_3 g6 x.1 := by kernel_rfl
def f8 : (List UInt8) → Option (Spec × (Int × Unit)) := F8 (@LN LOOPS) f18 f19_3 f6
@[reducible] def t8 : Ent := ⟨8,s8,fun x h => f8 x.1⟩
theorem k8 : chkNF Tryz.prog Tryz.f8 n8 = true := by kernel_rfl
theorem ok8 : NOk Tryz.prog t8 := NOk.body (T := [t18,t19_3,t6]) mixed (nall_cons ok18 (nall_cons ok19_3 (nall_cons ok6 nall_nil))) (oneEach_of (by kernel_rfl)) Tryz.func8 k8 (by kernel_rfl) (fun x h => e8 _ _ _ _ x h)
def n37 : NFunc := ⟨21,.seq (.region 0 [
 o1 2 (.move (.const (.str []))) 0] []) (.seq (.region 0 [
 o1 3 (.move (.const (.str []))) 0] []) (.seq (.block 0 (.loop [0,3] ⟨[(0,vI),(3,(.v .str))],[],[]⟩ (.seq (.seq (.region 0 [
 oM 4 3 0,
 o1 5 (.bin .eql (tm 4) (.const (.str []))) 0,
 oM 6 5 0,
 oN 7 0 6 0,
 o2 8 (.bin .gtr (tm 7) (ki 0)) 6 0,
 o1 9 (.pick (tm 6) kt (tm 8)) 0] []) (.cond (tm 9) (.skip) (.exit 0))) (.block 1 (.seq (.region 1 [
 oM 10 0 0,
 oC 11 .rem 10 10 0,
 o1 12 (.bin .add (ki 48) (tm 11)) 0,
 o1 13 (.conv .u8 (tm 12)) 0,
 o1 14 (.buildSlice 1 1 true [.int .u8 (0)] [(0,(tm 13))]) 0,
 o1 15 (.load false 0 (tm 14)) 1,
 oM 16 3 1,
 oB 17 .add 15 16 1,
 oM 3 17 1] []) (.region 0 [
 oM 18 0 0,
 oC 19 .quo 18 10 0,
 oM 0 19 0] [])))))) (.seq (.region 0 [
 oM 20 3 0,
 oM 2 20 0] []) (.ret)))),[.tmp 2],true⟩
def s37 : Sig := ⟨(.cons (.v (.int .i64)) .nil),[],((.v .str),[]),[]⟩
def l37_0  (nx2 : ((Int × ((List UInt8) × Unit)) × Unit) → Option (List UInt8)) (zn3 : Int) (zs4 : (List UInt8)) : Option (List UInt8) :=
 cond (decide (zs4 = ([] : List UInt8)))
 (Option.bind (nbytes (([IntKind.wrap .u8 (IntKind.wrap .i64 (48 + (Int.tmod zn3 10)))] : List Int))) fun s5 =>
 cond (decide (s5.length + zs4.length ≤ 4294967296))
 (nx2 ((IntKind.wrap .i64 (Int.tdiv zn3 10),s5 ++ zs4,()),()))
 (none))
 (cond (decide (0 < zn3))
 (Option.bind (nbytes (([IntKind.wrap .u8 (IntKind.wrap .i64 (48 + (Int.tmod zn3 10)))] : List Int))) fun s6 =>
 cond (decide (s6.length + zs4.length ≤ 4294967296))
 (nx2 ((IntKind.wrap .i64 (Int.tdiv zn3 10),s6 ++ zs4,()),()))
 (none))
 (some zs4))
def F37 (L : Lp)  (an0 : Int) : Option (List UInt8) :=
 L (fun (s1 : ((Int × ((List UInt8) × Unit)) × Unit)) nx2 => l37_0 nx2 s1.1.1 s1.1.2.1) ((an0,([] : List UInt8),()),())
theorem e37 (L : Lp)  (x : s37.args.den) (h : denH s37.heap) : nrun [] L n37 s37 x h = F37 L  x.1 := by kernel_rfl
def f37 : Int → Option (List UInt8) := F37 (@LN LOOPS) 
@[reducible] def t37 : Ent := ⟨37,s37,fun x h => f37 x.1⟩
theorem k37 : chkNF Tryz.prog Tryz.f37 n37 = true := by kernel_rfl
theorem ok37 : NOk Tryz.prog t37 := NOk.body (T := []) mixed nall_nil (oneEach_of (by kernel_rfl)) Tryz.func37 k37 (by kernel_rfl) (fun x h => e37 _  x h)
def n20 : NFunc := ⟨46,.seq (.region 1 [
 o1 1 (.box 4 (tm 0)) 0,
 o1 2 (.move (.const (.str []))) 1] []) (.seq (.region 1 [
 oF 7 0 1 0,
 oL 8 7 0,
 oF 9 1 1 0,
 oL 10 9 0,
 oF 11 2 1 0,
 oL 12 11 0,
 oF 13 3 1 0,
 oL 14 13 0,
 o1 15 (.buildSlice 1 4 true [iz] [(0,(tm 8)),(1,(tm 10)),(2,(tm 12)),(3,(tm 14))]) 0,
 oM 3 15 1] []) (.seq (.region 1 [
 o1 16 (.buildSlice 1 4 true [.str []] [(0,(.const (.str [99,112,117]))),(1,(.const (.str [109,101,109]))),(2,(.const (.str [103,112,117]))),(3,(.const (.str [108,105,99])))]) 0,
 oM 4 16 1] []) (.seq (.region 0 [
 o1 5 (.move (.const (.str []))) 0] []) (.seq (.seq (.region 0 [
 o1 6 (.move (ki 0)) 0] []) (.block 0 (.loop [3,4,5,6] ⟨[(3,(.slw 0 1)),(4,(.slw 1 1)),(5,(.v .str)),(6,vI)],[],[.typed (.int .i64),.typed .str]⟩ (.seq (.seq (.region 0 [
 oM 17 6 0,
 oC 18 .lss 17 4 0] []) (.cond (tm 18) (.skip) (.exit 0))) (.seq (.block 1 (.seq (.seq (.region 0 [
 oM 21 3 0,
 oM 22 6 0,
 o1 23 (.indexSl 1 (tm 21) (tm 22)) 0,
 oL 24 23 0,
 oC 25 .eql 24 0 0] []) (.cond (tm 25) (.exit 1) (.skip))) (.seq (.seq (.region 0 [
 oM 26 5 0,
 o1 27 (.bin .neq (tm 26) (.const (.str []))) 0] []) (.cond (tm 27) (.region 0 [
 oM 28 5 0,
 o1 29 (.bin .add (tm 28) (.const (.str [44]))) 0,
 oM 5 29 0] []) (.skip))) (.region 4 [
 o4 30 (.move (tm 5)) 0 [],
 o4 31 (.move (tm 4)) 0 [],
 o4 32 (.move (tm 6)) 0 [],
 o4 33 (.indexSl 1 (tm 31) (tm 32)) 0 [],
 o4 34 (.load false 1 (tm 33)) 0 [],
 o4 35 (.bin .add (tm 30) (tm 34)) 0 [],
 o4 36 (.bin .add (tm 35) (.const (.str [61]))) 0 [],
 o4 37 (.move (tm 3)) 0 [],
 o4 38 (.move (tm 6)) 0 [],
 o4 39 (.indexSl 1 (tm 37) (tm 38)) 0 [],
 o4 40 (.load false 1 (tm 39)) 0 [],
 o4 41 (.call (fc 37) [(vv 40)] true 4) 0 [],
 o4 42 (.bin .add (tm 36) (tm 41)) 4 [0,1,2,3],
 o4 5 (.move (tm 42)) 4 [0,1,2,3]] [])))) (.region 0 [
 oM 19 6 0,
 oC 20 .add 19 1 0,
 oM 6 20 0] [])))))) (.seq (.seq (.region 0 [
 oM 43 5 0,
 o1 44 (.bin .eql (tm 43) (.const (.str []))) 0] []) (.cond (tm 44) (.seq (.region 0 [
 o1 2 (.move (.const (.str [110,111,110,101]))) 0] []) (.ret)) (.skip))) (.seq (.region 0 [
 oM 45 5 0,
 oM 2 45 0] []) (.ret))))))),[.tmp 2],true⟩
def s20 : Sig := ⟨(.cons (.v .res) .nil),[],((.v .str),[]),[]⟩
def l20_0 (g37 : Int → Option (List UInt8)) (nx2 : ((Unit × (Unit × ((List UInt8) × (Int × Unit)))) × ((List Int) × ((List (List UInt8)) × Unit))) → Option (List UInt8)) (zs3 : (List UInt8)) (i4 : Int) (z5 : (List Int)) (z6 : (List (List UInt8))) : Option (List UInt8) :=
 cond (decide (i4 < 4))
 (cond (decide (0 ≤ i4))
 (cond (decide ((Int.toNat i4) < (List.length z5)))
 (Option.bind (z5[Int.toNat i4]?) fun y7 =>
 cond (decide (y7 = 0))
 (nx2 (((),(),zs3,IntKind.wrap .i64 (i4 + 1),()),(z5,z6,())))
 (cond (!decide (zs3 = ([] : List UInt8)))
 (cond (decide (zs3.length + ([44] : List UInt8).length ≤ 4294967296))
 (cond (decide (0 ≤ i4))
 (cond (decide ((Int.toNat i4) < (List.length z6)))
 (Option.bind (z6[Int.toNat i4]?) fun y8 =>
 cond (decide ((zs3 ++ ([44] : List UInt8)).length + y8.length ≤ 4294967296))
 (cond (decide (((zs3 ++ ([44] : List UInt8)) ++ y8).length + ([61] : List UInt8).length ≤ 4294967296))
 (cond (decide (0 ≤ i4))
 (cond (decide ((Int.toNat i4) < (List.length z5)))
 (Option.bind (z5[Int.toNat i4]?) fun y9 =>
 Option.bind (g37 y9) fun r10 =>
 cond (decide ((((zs3 ++ ([44] : List UInt8)) ++ y8) ++ ([61] : List UInt8)).length + r10.length ≤ 4294967296))
 (nx2 (((),(),(((zs3 ++ ([44] : List UInt8)) ++ y8) ++ ([61] : List UInt8)) ++ r10,IntKind.wrap .i64 (i4 + 1),()),(z5,z6,())))
 (none))
 (none))
 (none))
 (none))
 (none))
 (none))
 (none))
 (none))
 (cond (decide (0 ≤ i4))
 (cond (decide ((Int.toNat i4) < (List.length z6)))
 (Option.bind (z6[Int.toNat i4]?) fun y11 =>
 cond (decide (zs3.length + y11.length ≤ 4294967296))
 (cond (decide ((zs3 ++ y11).length + ([61] : List UInt8).length ≤ 4294967296))
 (cond (decide (0 ≤ i4))
 (cond (decide ((Int.toNat i4) < (List.length z5)))
 (Option.bind (z5[Int.toNat i4]?) fun y12 =>
 Option.bind (g37 y12) fun r13 =>
 cond (decide (((zs3 ++ y11) ++ ([61] : List UInt8)).length + r13.length ≤ 4294967296))
 (nx2 (((),(),((zs3 ++ y11) ++ ([61] : List UInt8)) ++ r13,IntKind.wrap .i64 (i4 + 1),()),(z5,z6,())))
 (none))
 (none))
 (none))
 (none))
 (none))
 (none))
 (none))))
 (none))
 (none))
 (cond (decide (zs3 = ([] : List UInt8)))
 (some ([110,111,110,101] : List UInt8))
 (some zs3))
def F20 (L : Lp) (g37 : Int → Option (List UInt8)) (a0 : Res) : Option (List UInt8) :=
 L (fun (s1 : ((Unit × (Unit × ((List UInt8) × (Int × Unit)))) × ((List Int) × ((List (List UInt8)) × Unit)))) nx2 => l20_0 g37 nx2 s1.1.2.2.1 s1.1.2.2.2.1 s1.2.1 s1.2.2.1) (((),(),([] : List UInt8),0,()),([a0.cpu,a0.mem,a0.gpu,a0.lic],[([99,112,117] : List UInt8),([109,101,109] : List UInt8),([103,112,117] : List UInt8),([108,105,99] : List UInt8)],()))
theorem e20 (L : Lp) (g37 : Int → Option (List UInt8)) (x : s20.args.den) (h : denH s20.heap) : nrun [⟨37,s37,fun x h => g37 x.1⟩] L n20 s20 x h = F20 L g37 x.1 := by kernel_rfl
def f20 : Res → Option (List UInt8) := F20 (@LN LOOPS) f37
@[reducible] def t20 : Ent := ⟨20,s20,fun x h => f20 x.1⟩
theorem k20 : chkNF Tryz.prog Tryz.f20 n20 = true := by kernel_rfl
theorem ok20 : NOk Tryz.prog t20 := NOk.body (T := [t37]) mixed (nall_cons ok37 nall_nil) (oneEach_of (by kernel_rfl)) Tryz.func20 k20 (by kernel_rfl) (fun x h => e20 _ _ x h)
def n21 : NFunc := ⟨20,.seq (.region 0 [
 o1 2 (.move (.const (.str []))) 0] []) (.seq (.region 0 [
 o1 3 (.move (.const (.str []))) 0] []) (.seq (.seq (.region 0 [
 o1 4 (.move (ki 0)) 0] []) (.block 0 (.loop [0,3,4] ⟨[(3,(.v .str)),(4,vI)],[0],[]⟩ (.seq (.seq (.region 0 [
 oM 5 4 0,
 oM 6 0 0,
 o1 7 (.len (tm 6)) 0,
 oB 8 .lss 5 7 0] []) (.cond (tm 8) (.skip) (.exit 0))) (.seq (.block 1 (.region 4 [
 oM 11 3 0,
 o1 12 (.bin .add (tm 11) (.const (.str [32]))) 0,
 oM 13 0 0,
 oM 14 4 0,
 o1 15 (.indexSl 1 (tm 13) (tm 14)) 0,
 oL 16 15 0,
 o1 17 (.call (fc 37) [(vv 16)] false 4) 0,
 oB 18 .add 12 17 4,
 oM 3 18 4] [])) (.region 0 [
 oM 9 4 0,
 oC 10 .add 9 1 0,
 oM 4 10 0] [])))))) (.seq (.region 0 [
 oM 19 3 0,
 oM 2 19 0] []) (.ret)))),[.tmp 2],true⟩
def s21 : Sig := ⟨(.cons (.v (.list (.int .i64))) .nil),[],((.v .str),[]),[]⟩
def l21_0 (g37 : Int → Option (List UInt8)) (al0 : (List Int)) (nx2 : (((List UInt8) × (Int × Unit)) × Unit) → Option (List UInt8)) (zs3 : (List UInt8)) (i4 : Int) : Option (List UInt8) :=
 cond (decide (i4 < (List.length al0 : Int)))
 (cond (decide (zs3.length + ([32] : List UInt8).length ≤ 4294967296))
 (cond (decide (0 ≤ i4))
 (Option.bind (al0[Int.toNat i4]?) fun y5 =>
 Option.bind (g37 y5) fun r6 =>
 cond (decide ((zs3 ++ ([32] : List UInt8)).length + r6.length ≤ 4294967296))
 (nx2 (((zs3 ++ ([32] : List UInt8)) ++ r6,IntKind.wrap .i64 (i4 + 1),()),()))
 (none))
 (none))
 (none))
 (some zs3)
def F21 (L : Lp) (g37 : Int → Option (List UInt8)) (al0 : (List Int)) : Option (List UInt8) :=
 L (fun (s1 : (((List UInt8) × (Int × Unit)) × Unit)) nx2 => l21_0 g37 al0 nx2 s1.1.1 s1.1.2.1) ((([] : List UInt8),0,()),())
theorem e21 (L : Lp) (g37 : Int → Option (List UInt8)) (x : s21.args.den) (h : denH s21.heap) : nrun [⟨37,s37,fun x h => g37 x.1⟩] L n21 s21 x h = F21 L g37 x.1 := by kernel_rfl
def f21 : (List Int) → Option (List UInt8) := F21 (@LN LOOPS) f37
@[reducible] def t21 : Ent := ⟨21,s21,fun x h => f21 x.1⟩
theorem k21 : chkNF Tryz.prog Tryz.f21 n21 = true := by kernel_rfl
theorem ok21 : NOk Tryz.prog t21 := NOk.body (T := [t37]) mixed (nall_cons ok37 nall_nil) (oneEach_of (by kernel_rfl)) Tryz.func21 k21 (by kernel_rfl) (fun x h => e21 _ _ x h)
def n9 : NFunc := ⟨153,.seq (.region 1 [
 o1 1 (.box 18 (tm 0)) 0,
 o1 2 (.move (.const (.str []))) 1] []) (.seq (.region 0 [
 o1 3 (.move (.const (.str []))) 0] []) (.seq (.seq (.region 0 [
 o1 4 (.move (ki 0)) 0] []) (.block 0 (.loop [1,3,4] ⟨[(1,(.ptr 0 0 0)),(3,(.v .str)),(4,vI)],[],[.one false .spec]⟩ (.seq (.seq (.region 0 [
 oM 12 4 0,
 oF 13 0 1 0,
 oL 14 13 0,
 o1 15 (.len (tm 14)) 0,
 oB 16 .lss 12 15 0] []) (.cond (tm 16) (.skip) (.exit 0))) (.seq (.block 1 (.region 4 [
 oM 19 3 0,
 o1 20 (.bin .add (tm 19) (.const (.str [110,111,100,101,32]))) 0,
 oF 21 0 1 0,
 oL 22 21 0,
 oM 23 4 0,
 o1 24 (.indexSl 4 (tm 22) (tm 23)) 0,
 oT 25 4 24 0,
 o1 26 (.call (fc 20) [(vv 25)] false 4) 0,
 oB 27 .add 20 26 4,
 o1 28 (.bin .add (tm 27) (.const (.str [10]))) 4,
 oM 3 28 4] [])) (.region 0 [
 oM 17 4 0,
 oC 18 .add 17 1 0,
 oM 4 18 0] [])))))) (.seq (.seq (.region 0 [
 o1 5 (.move (ki 0)) 0] []) (.block 2 (.loop [1,3,5] ⟨[(1,(.ptr 0 0 0)),(3,(.v .str)),(5,vI)],[],[.one false .spec]⟩ (.seq (.seq (.region 0 [
 oM 29 5 0,
 oF 30 1 1 0,
 oL 31 30 0,
 o1 32 (.len (tm 31)) 0,
 oB 33 .lss 29 32 0] []) (.cond (tm 33) (.skip) (.exit 2))) (.seq (.block 3 (.region 4 [
 oM 36 3 0,
 o1 37 (.bin .add (tm 36) (.const (.str [112,97,114,116]))) 0,
 oF 38 1 1 0,
 oL 39 38 0,
 oM 40 5 0,
 o1 41 (.indexSl 1 (tm 39) (tm 40)) 0,
 oL 42 41 0,
 o1 43 (.call (fc 21) [(vv 42)] false 4) 0,
 oB 44 .add 37 43 4,
 o1 45 (.bin .add (tm 44) (.const (.str [10]))) 4,
 oM 3 45 4] [])) (.region 0 [
 oM 34 5 0,
 oC 35 .add 34 1 0,
 oM 5 35 0] [])))))) (.seq (.region 5 [
 oM 46 3 0,
 o1 47 (.bin .add (tm 46) (.const (.str [117,115,101,114,115]))) 0,
 oF 48 3 1 0,
 oL 49 48 0,
 o1 50 (.buildSlice 1 1 true [iz] [(0,(tm 49))]) 0,
 o1 51 (.call (fc 21) [(vv 50)] false 4) 1,
 oB 52 .add 47 51 5,
 o1 53 (.bin .add (tm 52) (.const (.str [10]))) 5,
 oM 3 53 5] []) (.seq (.seq (.region 0 [
 o1 6 (.move (ki 0)) 0] []) (.block 4 (.loop [1,3,6] ⟨[(1,(.ptr 0 0 0)),(3,(.v .str)),(6,vI)],[],[.one false .spec]⟩ (.seq (.seq (.region 0 [
 oM 54 6 0,
 oF 55 2 1 0,
 oL 56 55 0,
 o1 57 (.len (tm 56)) 0,
 oB 58 .lss 54 57 0] []) (.cond (tm 58) (.skip) (.exit 4))) (.seq (.block 5 (.seq (.region 1 [
 oF 61 2 1 0,
 oL 62 61 0,
 oM 63 6 0,
 o1 64 (.indexSl 6 (tm 62) (tm 63)) 0,
 oT 65 6 64 0,
 o1 7 (.alloc [iz,.zsl,iz,iz,iz,iz]) 0,
 oS 6 7 65 1] []) (.region 9 [
 o4 66 (.move (tm 3)) 0 [],
 o4 67 (.bin .add (tm 66) (.const (.str [113,117,101,117,101]))) 0 [],
 o4 68 (.fieldAddr 0 (tm 7)) 0 [],
 o4 69 (.load false 1 (tm 68)) 0 [],
 o4 70 (.fieldAddr 2 (tm 7)) 0 [],
 o4 71 (.load false 1 (tm 70)) 0 [],
 o4 72 (.fieldAddr 3 (tm 7)) 0 [],
 o4 73 (.load false 1 (tm 72)) 0 [],
 o4 74 (.fieldAddr 4 (tm 7)) 0 [],
 o4 75 (.load false 1 (tm 74)) 0 [],
 o4 76 (.fieldAddr 5 (tm 7)) 0 [],
 o4 77 (.load false 1 (tm 76)) 0 [],
 o4 78 (.buildSlice 1 5 true [iz] [(0,(tm 69)),(1,(tm 71)),(2,(tm 73)),(3,(tm 75)),(4,(tm 77))]) 0 [],
 o4 79 (.call (fc 21) [(vv 78)] true 4) 1 [0],
 o4 80 (.bin .add (tm 67) (tm 79)) 5 [0,1,2,3,4],
 o4 81 (.fieldAddr 1 (tm 7)) 5 [],
 o4 82 (.load false 1 (tm 81)) 5 [],
 o4 83 (.call (fc 21) [(vv 82)] false 4) 5 [0,1,2,3,4],
 o4 84 (.bin .add (tm 80) (tm 83)) 9 [0,1,2,3,4,5,6,7,8],
 o4 85 (.bin .add (tm 84) (.const (.str [10]))) 9 [0,1,2,3,4,5,6,7,8],
 o4 3 (.move (tm 85)) 9 [0,1,2,3,4,5,6,7,8]] []))) (.region 0 [
 oM 59 6 0,
 oC 60 .add 59 1 0,
 oM 6 60 0] [])))))) (.seq (.region 1 [
 oF 86 4 1 0,
 oT 87 4 86 0,
 o1 8 (.alloc [iz,iz,iz,iz]) 0,
 oS 4 8 87 1] []) (.seq (.region 10 [
 o4 88 (.move (tm 3)) 0 [],
 o4 89 (.bin .add (tm 88) (.const (.str [119,101,105,103,104,116,115]))) 0 [],
 o4 90 (.fieldAddr 0 (tm 8)) 0 [],
 o4 91 (.load false 1 (tm 90)) 0 [],
 o4 92 (.fieldAddr 1 (tm 8)) 0 [],
 o4 93 (.load false 1 (tm 92)) 0 [],
 o4 94 (.fieldAddr 2 (tm 8)) 0 [],
 o4 95 (.load false 1 (tm 94)) 0 [],
 o4 96 (.fieldAddr 3 (tm 8)) 0 [],
 o4 97 (.load false 1 (tm 96)) 0 [],
 o4 98 (.buildSlice 1 4 true [iz] [(0,(tm 91)),(1,(tm 93)),(2,(tm 95)),(3,(tm 97))]) 0 [],
 o4 99 (.call (fc 21) [(vv 98)] true 4) 1 [0],
 o4 100 (.bin .add (tm 89) (tm 99)) 5 [0,1,2,3,4],
 o4 101 (.bin .add (tm 100) (.const (.str [10]))) 5 [0,1,2,3,4],
 o4 102 (.bin .add (tm 101) (.const (.str [100,101,99,97,121]))) 5 [0,1,2,3,4],
 o4 103 (.fieldAddr 8 (tm 1)) 5 [],
 o4 104 (.load false 1 (tm 103)) 5 [],
 o4 105 (.buildSlice 1 1 true [iz] [(0,(tm 104))]) 5 [],
 o4 106 (.call (fc 21) [(vv 105)] false 4) 6 [0,1,2,3,4,5],
 o4 107 (.bin .add (tm 102) (tm 106)) 10 [0,1,2,3,4,5,6,7,8,9],
 o4 108 (.bin .add (tm 107) (.const (.str [10]))) 10 [0,1,2,3,4,5,6,7,8,9],
 o4 3 (.move (tm 108)) 10 [0,1,2,3,4,5,6,7,8,9]] []) (.seq (.meet [3,1] [] ⟨[(1,(.ptr 0 0 0)),(3,(.v .str))],[],[.one false .spec]⟩ (.seq (.region 0 [
 oF 109 9 1 0,
 oL 110 109 0,
 oC 111 .eql 110 1 0] []) (.cond (tm 111) (.region 0 [
 oM 112 3 0,
 o1 113 (.bin .add (tm 112) (.const (.str [109,111,100,101,32,101,97,115,121,10]))) 0,
 oM 3 113 0] []) (.region 0 [
 oM 114 3 0,
 o1 115 (.bin .add (tm 114) (.const (.str [109,111,100,101,32,99,111,110,115,101,114,118,97,116,105,118,101,10]))) 0,
 oM 3 115 0] [])))) (.seq (.region 1 [
 o1 116 (.buildSlice 1 8 true [.str []] [(0,(.const (.str [106,111,98,115]))),(1,(.const (.str [105,100,115]))),(2,(.const (.str [118,101,114,115,105,111,110,115]))),(3,(.const (.str [108,105,110,103,101,114]))),(4,(.const (.str [107,101,101,112]))),(5,(.const (.str [105,110]))),(6,(.const (.str [111,117,116]))),(7,(.const (.str [99,97,99,104,101])))]) 0,
 oM 9 116 1] []) (.seq (.post [3,9,10] [.frz 10] (.region 1 [
 oF 117 10 1 0,
 oL 118 117 0,
 oF 119 11 1 0,
 oL 120 119 0,
 oF 121 12 1 0,
 oL 122 121 0,
 oF 123 13 1 0,
 oL 124 123 0,
 oF 125 14 1 0,
 oL 126 125 0,
 oF 127 15 1 0,
 oL 128 127 0,
 oF 129 16 1 0,
 oL 130 129 0,
 oF 131 17 1 0,
 oL 132 131 0,
 o1 133 (.buildSlice 1 8 true [iz] [(0,(tm 118)),(1,(tm 120)),(2,(tm 122)),(3,(tm 124)),(4,(tm 126)),(5,(tm 128)),(6,(tm 130)),(7,(tm 132))]) 0,
 oM 10 133 1] [])) (.seq (.seq (.region 0 [
 o1 11 (.move (ki 0)) 0] []) (.block 6 (.loopU [3,9,10,11] 9 (.seq (.seq (.region 0 [
 oM 134 11 0,
 oC 135 .lss 134 8 0] []) (.cond (tm 135) (.skip) (.exit 6))) (.seq (.block 7 (.region 4 [
 o4 138 (.move (tm 3)) 0 [],
 o4 139 (.move (tm 9)) 0 [],
 o4 140 (.move (tm 11)) 0 [],
 o4 141 (.indexSl 1 (tm 139) (tm 140)) 0 [],
 o4 142 (.load false 1 (tm 141)) 0 [],
 o4 143 (.bin .add (tm 138) (tm 142)) 0 [],
 o4 144 (.move (tm 10)) 0 [],
 o4 145 (.move (tm 11)) 0 [],
 o4 146 (.move (tm 11)) 0 [],
 o4 147 (.bin .add (tm 146) (ki 1)) 0 [],
 o4 148 (.slice 1 (tm 144) (some (tm 145)) (some (tm 147)) none) 0 [],
 o4 149 (.call (fc 21) [(vv 148)] true 4) 0 [],
 o4 150 (.bin .add (tm 143) (tm 149)) 4 [0,1,2,3],
 o4 151 (.bin .add (tm 150) (.const (.str [10]))) 4 [0,1,2,3],
 o4 3 (.move (tm 151)) 4 [0,1,2,3]] [])) (.region 0 [
 oM 136 11 0,
 oC 137 .add 136 1 0,
 oM 11 137 0] [])))))) (.seq (.region 0 [
 oM 152 3 0,
 oM 2 152 0] []) (.ret))))))))))))),[.tmp 2],true⟩
def s9 : Sig := ⟨(.cons (.v .spec) .nil),[],((.v .str),[]),[]⟩
def l9_0 (g21 : (List Int) → Option (List UInt8)) (nx18 : ((Unit × ((List UInt8) × (Int × Unit))) × (Spec × Unit)) → Option (List UInt8)) (zt19 : (List UInt8)) (i20 : Int) (z21 : Spec) : Option (List UInt8) :=
 cond (decide (i20 < (List.length z21.queues : Int)))
 (cond (decide (0 ≤ i20))
 (Option.bind (z21.queues[Int.toNat i20]?) fun y22 =>
 cond (decide (zt19.length + ([113,117,101,117,101] : List UInt8).length ≤ 4294967296))
 (Option.bind (g21 [y22.part,y22.maxJobs,y22.maxRun,y22.maxUser,y22.qos]) fun r23 =>
 cond (decide ((zt19 ++ ([113,117,101,117,101] : List UInt8)).length + r23.length ≤ 4294967296))
 (Option.bind (g21 y22.users) fun r24 =>
 cond (decide (((zt19 ++ ([113,117,101,117,101] : List UInt8)) ++ r23).length + r24.length ≤ 4294967296))
 (cond (decide ((((zt19 ++ ([113,117,101,117,101] : List UInt8)) ++ r23) ++ r24).length + ([10] : List UInt8).length ≤ 4294967296))
 (let v25 := (((zt19 ++ ([113,117,101,117,101] : List UInt8)) ++ r23) ++ r24) ++ ([10] : List UInt8)
 nx18 (((),v25,IntKind.wrap .i64 (i20 + 1),()),(z21,())))
 (none))
 (none))
 (none))
 (none))
 (none))
 (cond (decide (zt19.length + ([119,101,105,103,104,116,115] : List UInt8).length ≤ 4294967296))
 (Option.bind (g21 [z21.weights.age,z21.weights.size,z21.weights.qos,z21.weights.share]) fun r26 =>
 cond (decide ((zt19 ++ ([119,101,105,103,104,116,115] : List UInt8)).length + r26.length ≤ 4294967296))
 (cond (decide (((zt19 ++ ([119,101,105,103,104,116,115] : List UInt8)) ++ r26).length + ([10] : List UInt8).length ≤ 4294967296))
 (let v27 := ((zt19 ++ ([119,101,105,103,104,116,115] : List UInt8)) ++ r26) ++ ([10] : List UInt8)
 cond (decide (v27.length + ([100,101,99,97,121] : List UInt8).length ≤ 4294967296))
 (Option.bind (g21 [z21.decay]) fun r28 =>
 cond (decide ((v27 ++ ([100,101,99,97,121] : List UInt8)).length + r28.length ≤ 4294967296))
 (cond (decide (((v27 ++ ([100,101,99,97,121] : List UInt8)) ++ r28).length + ([10] : List UInt8).length ≤ 4294967296))
 (Option.bind (α := ((Unit × ((List UInt8) × Unit)) × (Spec × Unit)))
 (cond (decide (z21.mode = 1))
 (cond (decide ((((v27 ++ ([100,101,99,97,121] : List UInt8)) ++ r28) ++ ([10] : List UInt8)).length + ([109,111,100,101,32,101,97,115,121,10] : List UInt8).length ≤ 4294967296))
 (let v29 := (((v27 ++ ([100,101,99,97,121] : List UInt8)) ++ r28) ++ ([10] : List UInt8)) ++ ([109,111,100,101,32,101,97,115,121,10] : List UInt8)
 some (((),v29,()),(z21,())))
 (none))
 (cond (decide ((((v27 ++ ([100,101,99,97,121] : List UInt8)) ++ r28) ++ ([10] : List UInt8)).length + ([109,111,100,101,32,99,111,110,115,101,114,118,97,116,105,118,101,10] : List UInt8).length ≤ 4294967296))
 (let v30 := (((v27 ++ ([100,101,99,97,121] : List UInt8)) ++ r28) ++ ([10] : List UInt8)) ++ ([109,111,100,101,32,99,111,110,115,101,114,118,97,116,105,118,101,10] : List UInt8)
 some (((),v30,()),(z21,())))
 (none))) fun x31 =>
 cond (decide (x31.1.2.1.length + ([106,111,98,115] : List UInt8).length ≤ 4294967296))
 (Option.bind (g21 [x31.2.1.jobs]) fun r32 =>
 cond (decide ((x31.1.2.1 ++ ([106,111,98,115] : List UInt8)).length + r32.length ≤ 4294967296))
 (cond (decide (((x31.1.2.1 ++ ([106,111,98,115] : List UInt8)) ++ r32).length + ([10] : List UInt8).length ≤ 4294967296))
 (let v33 := ((x31.1.2.1 ++ ([106,111,98,115] : List UInt8)) ++ r32) ++ ([10] : List UInt8)
 cond (decide (v33.length + ([105,100,115] : List UInt8).length ≤ 4294967296))
 (Option.bind (g21 [x31.2.1.ids]) fun r34 =>
 cond (decide ((v33 ++ ([105,100,115] : List UInt8)).length + r34.length ≤ 4294967296))
 (cond (decide (((v33 ++ ([105,100,115] : List UInt8)) ++ r34).length + ([10] : List UInt8).length ≤ 4294967296))
 (cond (decide ((((v33 ++ ([105,100,115] : List UInt8)) ++ r34) ++ ([10] : List UInt8)).length + ([118,101,114,115,105,111,110,115] : List UInt8).length ≤ 4294967296))
 (let v35 := (((v33 ++ ([105,100,115] : List UInt8)) ++ r34) ++ ([10] : List UInt8)) ++ ([118,101,114,115,105,111,110,115] : List UInt8)
 Option.bind (g21 [x31.2.1.versions]) fun r36 =>
 cond (decide (v35.length + r36.length ≤ 4294967296))
 (cond (decide ((v35 ++ r36).length + ([10] : List UInt8).length ≤ 4294967296))
 (cond (decide (((v35 ++ r36) ++ ([10] : List UInt8)).length + ([108,105,110,103,101,114] : List UInt8).length ≤ 4294967296))
 (let v37 := ((v35 ++ r36) ++ ([10] : List UInt8)) ++ ([108,105,110,103,101,114] : List UInt8)
 Option.bind (g21 [x31.2.1.linger]) fun r38 =>
 cond (decide (v37.length + r38.length ≤ 4294967296))
 (cond (decide ((v37 ++ r38).length + ([10] : List UInt8).length ≤ 4294967296))
 (cond (decide (((v37 ++ r38) ++ ([10] : List UInt8)).length + ([107,101,101,112] : List UInt8).length ≤ 4294967296))
 (Option.bind (g21 [x31.2.1.keep]) fun r39 =>
 cond (decide ((((v37 ++ r38) ++ ([10] : List UInt8)) ++ ([107,101,101,112] : List UInt8)).length + r39.length ≤ 4294967296))
 (let v40 := (((v37 ++ r38) ++ ([10] : List UInt8)) ++ ([107,101,101,112] : List UInt8)) ++ r39
 cond (decide (v40.length + ([10] : List UInt8).length ≤ 4294967296))
 (cond (decide ((v40 ++ ([10] : List UInt8)).length + ([105,110] : List UInt8).length ≤ 4294967296))
 (Option.bind (g21 [x31.2.1.inn]) fun r41 =>
 cond (decide (((v40 ++ ([10] : List UInt8)) ++ ([105,110] : List UInt8)).length + r41.length ≤ 4294967296))
 (cond (decide ((((v40 ++ ([10] : List UInt8)) ++ ([105,110] : List UInt8)) ++ r41).length + ([10] : List UInt8).length ≤ 4294967296))
 (let v42 := (((v40 ++ ([10] : List UInt8)) ++ ([105,110] : List UInt8)) ++ r41) ++ ([10] : List UInt8)
 cond (decide (v42.length + ([111,117,116] : List UInt8).length ≤ 4294967296))
 (Option.bind (g21 [x31.2.1.out]) fun r43 =>
 cond (decide ((v42 ++ ([111,117,116] : List UInt8)).length + r43.length ≤ 4294967296))
 (cond (decide (((v42 ++ ([111,117,116] : List UInt8)) ++ r43).length + ([10] : List UInt8).length ≤ 4294967296))
 (cond (decide ((((v42 ++ ([111,117,116] : List UInt8)) ++ r43) ++ ([10] : List UInt8)).length + ([99,97,99,104,101] : List UInt8).length ≤ 4294967296))
 (let v44 := (((v42 ++ ([111,117,116] : List UInt8)) ++ r43) ++ ([10] : List UInt8)) ++ ([99,97,99,104,101] : List UInt8)
 Option.bind (g21 [x31.2.1.cache]) fun r45 =>
 cond (decide (v44.length + r45.length ≤ 4294967296))
 (cond (decide ((v44 ++ r45).length + ([10] : List UInt8).length ≤ 4294967296))
 (some ((v44 ++ r45) ++ ([10] : List UInt8)))
 (none))
 (none))
 (none))
 (none))
 (none))
 (none))
 (none))
 (none))
 (none))
 (none))
 (none))
 (none))
 (none))
 (none))
 (none))
 (none))
 (none))
 (none))
 (none))
 (none))
 (none))
 (none))
 (none))
 (none))
 (none))
 (none))
 (none))
 (none))
 (none))
 (none))
def l9_1 (L : Lp) (g21 : (List Int) → Option (List UInt8)) (nx9 : ((Unit × ((List UInt8) × (Int × Unit))) × (Spec × Unit)) → Option (List UInt8)) (zt10 : (List UInt8)) (i11 : Int) (z12 : Spec) : Option (List UInt8) :=
 cond (decide (i11 < (List.length z12.parts : Int)))
 (cond (decide (zt10.length + ([112,97,114,116] : List UInt8).length ≤ 4294967296))
 (cond (decide (0 ≤ i11))
 (Option.bind (z12.parts[Int.toNat i11]?) fun y13 =>
 Option.bind (g21 y13) fun r14 =>
 cond (decide ((zt10 ++ ([112,97,114,116] : List UInt8)).length + r14.length ≤ 4294967296))
 (cond (decide (((zt10 ++ ([112,97,114,116] : List UInt8)) ++ r14).length + ([10] : List UInt8).length ≤ 4294967296))
 (nx9 (((),((zt10 ++ ([112,97,114,116] : List UInt8)) ++ r14) ++ ([10] : List UInt8),IntKind.wrap .i64 (i11 + 1),()),(z12,())))
 (none))
 (none))
 (none))
 (none))
 (cond (decide (zt10.length + ([117,115,101,114,115] : List UInt8).length ≤ 4294967296))
 (Option.bind (g21 [z12.users]) fun r15 =>
 cond (decide ((zt10 ++ ([117,115,101,114,115] : List UInt8)).length + r15.length ≤ 4294967296))
 (cond (decide (((zt10 ++ ([117,115,101,114,115] : List UInt8)) ++ r15).length + ([10] : List UInt8).length ≤ 4294967296))
 (let v16 := ((zt10 ++ ([117,115,101,114,115] : List UInt8)) ++ r15) ++ ([10] : List UInt8)
 L (fun (s17 : ((Unit × ((List UInt8) × (Int × Unit))) × (Spec × Unit))) nx18 => l9_0 g21 nx18 s17.1.2.1 s17.1.2.2.1 s17.2.1) (((),v16,0,()),(z12,())))
 (none))
 (none))
 (none))
def l9_2 (L : Lp) (g20 : Res → Option (List UInt8)) (g21 : (List Int) → Option (List UInt8)) (nx2 : ((Unit × ((List UInt8) × (Int × Unit))) × (Spec × Unit)) → Option (List UInt8)) (zt3 : (List UInt8)) (i4 : Int) (z5 : Spec) : Option (List UInt8) :=
 cond (decide (i4 < (List.length z5.nodes : Int)))
 (cond (decide (zt3.length + ([110,111,100,101,32] : List UInt8).length ≤ 4294967296))
 (cond (decide (0 ≤ i4))
 (Option.bind (z5.nodes[Int.toNat i4]?) fun y6 =>
 Option.bind (g20 y6) fun r7 =>
 cond (decide ((zt3 ++ ([110,111,100,101,32] : List UInt8)).length + r7.length ≤ 4294967296))
 (cond (decide (((zt3 ++ ([110,111,100,101,32] : List UInt8)) ++ r7).length + ([10] : List UInt8).length ≤ 4294967296))
 (nx2 (((),((zt3 ++ ([110,111,100,101,32] : List UInt8)) ++ r7) ++ ([10] : List UInt8),IntKind.wrap .i64 (i4 + 1),()),(z5,())))
 (none))
 (none))
 (none))
 (none))
 (L (fun (s8 : ((Unit × ((List UInt8) × (Int × Unit))) × (Spec × Unit))) nx9 => l9_1 L g21 nx9 s8.1.2.1 s8.1.2.2.1 s8.2.1) (((),zt3,0,()),(z5,())))
def F9 (L : Lp) (g20 : Res → Option (List UInt8)) (g21 : (List Int) → Option (List UInt8)) (as0 : Spec) : Option (List UInt8) :=
 L (fun (s1 : ((Unit × ((List UInt8) × (Int × Unit))) × (Spec × Unit))) nx2 => l9_2 L g20 g21 nx2 s1.1.2.1 s1.1.2.2.1 s1.2.1) (((),([] : List UInt8),0,()),(as0,()))
theorem e9 (L : Lp) (g20 : Res → Option (List UInt8)) (g21 : (List Int) → Option (List UInt8)) (x : s9.args.den) (h : denH s9.heap) : nrun [⟨20,s20,fun x h => g20 x.1⟩,⟨21,s21,fun x h => g21 x.1⟩] L n9 s9 x h = F9 L g20 g21 x.1 := by kernel_rfl
def f9 : Spec → Option (List UInt8) := F9 (@LN LOOPS) f20 f21
@[reducible] def t9 : Ent := ⟨9,s9,fun x h => f9 x.1⟩
theorem k9 : chkNF Tryz.prog Tryz.f9 n9 = true := by kernel_rfl
theorem ok9 : NOk Tryz.prog t9 := NOk.body (T := [t20,t21]) mixed (nall_cons ok20 (nall_cons ok21 nall_nil)) (oneEach_of (by kernel_rfl)) Tryz.func9 k9 (by kernel_rfl) (fun x h => e9 _ _ _ x h)
def n22 : NFunc := ⟨26,.seq (.region 0 [
 o1 4 (.move kf) 0] []) (.seq (.seq (.region 0 [
 oM 6 0 0,
 o1 7 (.len (tm 6)) 0,
 oM 8 1 0,
 o1 9 (.len (tm 8)) 0,
 oB 10 .neq 7 9 0] []) (.cond (tm 10) (.seq (.region 0 [
 o1 4 (.move kf) 0] []) (.ret)) (.skip))) (.seq (.seq (.region 0 [
 o1 5 (.move (ki 0)) 0] []) (.block 0 (.loop [0,1,5] ⟨[(5,vI)],[0,1],[]⟩ (.seq (.seq (.region 0 [
 oM 11 5 0,
 oM 12 0 0,
 o1 13 (.len (tm 12)) 0,
 oB 14 .lss 11 13 0] []) (.cond (tm 14) (.skip) (.exit 0))) (.seq (.block 1 (.seq (.region 0 [
 o4 17 (.move (tm 0)) 0 [],
 o4 18 (.move (tm 5)) 0 [],
 o4 19 (.indexSl 1 (tm 17) (tm 18)) 0 [],
 o4 20 (.load false 1 (tm 19)) 0 [],
 o4 21 (.move (tm 1)) 0 [],
 o4 22 (.move (tm 5)) 0 [],
 o4 23 (.indexSl 1 (tm 21) (tm 22)) 0 [],
 o4 24 (.load false 1 (tm 23)) 0 [],
 o4 25 (.bin .neq (tm 20) (tm 24)) 0 []] []) (.cond (tm 25) (.seq (.region 0 [
 o1 4 (.move kf) 0] []) (.ret)) (.skip)))) (.region 0 [
 oM 15 5 0,
 oC 16 .add 15 1 0,
 oM 5 16 0] [])))))) (.seq (.region 0 [
 o1 4 (.move kt) 0] []) (.ret)))),[.tmp 4],true⟩
def s22 : Sig := ⟨(.cons (.v (.list (.int .i64))) (.cons (.v (.list (.int .i64))) .nil)),[],((.v .bool),[]),[]⟩
def l22_0 (a0 : (List Int)) (b1 : (List Int)) (nx3 : ((Int × Unit) × Unit) → Option Bool) (i4 : Int) : Option Bool :=
 cond (decide (i4 < (List.length a0 : Int)))
 (cond (decide (0 ≤ i4))
 (Option.bind (a0[Int.toNat i4]?) fun y5 =>
 cond (decide (0 ≤ i4))
 (Option.bind (b1[Int.toNat i4]?) fun y6 =>
 cond (!decide (y5 = y6))
 (some false)
 (nx3 ((IntKind.wrap .i64 (i4 + 1),()),())))
 (none))
 (none))
 (some true)
def F22 (L : Lp)  (a0 : (List Int)) (b1 : (List Int)) : Option Bool :=
 cond (!decide ((List.length a0 : Int) = (List.length b1 : Int)))
 (some false)
 (L (fun (s2 : ((Int × Unit) × Unit)) nx3 => l22_0 a0 b1 nx3 s2.1.1) ((0,()),()))
theorem e22 (L : Lp)  (x : s22.args.den) (h : denH s22.heap) : nrun [] L n22 s22 x h = F22 L  x.1 x.2.1 := by kernel_rfl
def f22 : (List Int) → (List Int) → Option Bool := F22 (@LN LOOPS) 
@[reducible] def t22 : Ent := ⟨22,s22,fun x h => f22 x.1 x.2.1⟩
theorem k22 : chkNF Tryz.prog Tryz.f22 n22 = true := by kernel_rfl
theorem ok22 : NOk Tryz.prog t22 := NOk.body (T := []) mixed nall_nil (oneEach_of (by kernel_rfl)) Tryz.func22 k22 (by kernel_rfl) (fun x h => e22 _  x h)
def n10 : NFunc := ⟨212,.seq (.region 2 [
 o1 2 (.box 18 (tm 0)) 0,
 o1 3 (.box 18 (tm 1)) 1,
 o1 4 (.move kf) 2] []) (.seq (.seq (.region 0 [
 oF 10 0 2 0,
 oL 11 10 0,
 o1 12 (.len (tm 11)) 0,
 oF 13 0 3 0,
 oL 14 13 0,
 o1 15 (.len (tm 14)) 0,
 oB 16 .neq 12 15 0,
 oM 17 16 0,
 o2 18 (.fieldAddr 1 (tm 2)) 17 0,
 o2 19 (.load false 1 (tm 18)) 17 0,
 o2 20 (.len (tm 19)) 17 0,
 o2 21 (.fieldAddr 1 (tm 3)) 17 0,
 o2 22 (.load false 1 (tm 21)) 17 0,
 o2 23 (.len (tm 22)) 17 0,
 o2 24 (.bin .neq (tm 20) (tm 23)) 17 0,
 o1 25 (.pick (tm 17) kt (tm 24)) 0,
 oM 26 25 0,
 o2 27 (.fieldAddr 2 (tm 2)) 26 0,
 o2 28 (.load false 1 (tm 27)) 26 0,
 o2 29 (.len (tm 28)) 26 0,
 o2 30 (.fieldAddr 2 (tm 3)) 26 0,
 o2 31 (.load false 1 (tm 30)) 26 0,
 o2 32 (.len (tm 31)) 26 0,
 o2 33 (.bin .neq (tm 29) (tm 32)) 26 0,
 o1 34 (.pick (tm 26) kt (tm 33)) 0] []) (.cond (tm 34) (.seq (.region 0 [
 o1 4 (.move kf) 0] []) (.ret)) (.skip))) (.seq (.seq (.region 0 [
 o1 5 (.move (ki 0)) 0] []) (.block 0 (.loop [2,3,5] ⟨[(2,(.ptr 0 0 0)),(3,(.ptr 1 0 0)),(5,vI)],[],[.one false .spec,.one false .spec]⟩ (.seq (.seq (.region 0 [
 oM 35 5 0,
 oF 36 0 2 0,
 oL 37 36 0,
 o1 38 (.len (tm 37)) 0,
 oB 39 .lss 35 38 0] []) (.cond (tm 39) (.skip) (.exit 0))) (.seq (.block 1 (.seq (.region 0 [
 o4 42 (.fieldAddr 0 (tm 2)) 0 [],
 o4 43 (.load false 1 (tm 42)) 0 [],
 o4 44 (.move (tm 5)) 0 [],
 o4 45 (.indexSl 4 (tm 43) (tm 44)) 0 [],
 o4 46 (.load true 4 (tm 45)) 0 [],
 o4 47 (.fieldAddr 0 (tm 3)) 0 [],
 o4 48 (.load false 1 (tm 47)) 0 [],
 o4 49 (.move (tm 5)) 0 [],
 o4 50 (.indexSl 4 (tm 48) (tm 49)) 0 [],
 o4 51 (.load true 4 (tm 50)) 0 [],
 o4 52 (.eqAgg (true,[.int .i64,.int .i64,.int .i64,.int .i64]) (tm 46) (tm 51)) 0 []] []) (.cond (tm 52) (.seq (.region 0 [
 o1 4 (.move kf) 0] []) (.ret)) (.skip)))) (.region 0 [
 oM 40 5 0,
 oC 41 .add 40 1 0,
 oM 5 41 0] [])))))) (.seq (.seq (.region 0 [
 o1 6 (.move (ki 0)) 0] []) (.block 2 (.loop [2,3,6] ⟨[(2,(.ptr 0 0 0)),(3,(.ptr 1 0 0)),(6,vI)],[],[.one false .spec,.one false .spec]⟩ (.seq (.seq (.region 0 [
 oM 53 6 0,
 oF 54 1 2 0,
 oL 55 54 0,
 o1 56 (.len (tm 55)) 0,
 oB 57 .lss 53 56 0] []) (.cond (tm 57) (.skip) (.exit 2))) (.seq (.block 3 (.seq (.region 4 [
 o4 60 (.fieldAddr 1 (tm 2)) 0 [],
 o4 61 (.load false 1 (tm 60)) 0 [],
 o4 62 (.move (tm 6)) 0 [],
 o4 63 (.indexSl 1 (tm 61) (tm 62)) 0 [],
 o4 64 (.load false 1 (tm 63)) 0 [],
 o4 65 (.fieldAddr 1 (tm 3)) 0 [],
 o4 66 (.load false 1 (tm 65)) 0 [],
 o4 67 (.move (tm 6)) 0 [],
 o4 68 (.indexSl 1 (tm 66) (tm 67)) 0 [],
 o4 69 (.load false 1 (tm 68)) 0 [],
 o4 70 (.call (fc 22) [(vv 64),(vv 69)] false 4) 0 [],
 o4 71 (.un .not (tm 70)) 4 [0,1,2,3]] []) (.cond (tm 71) (.seq (.region 0 [
 o1 4 (.move kf) 0] []) (.ret)) (.skip)))) (.region 0 [
 oM 58 6 0,
 oC 59 .add 58 1 0,
 oM 6 59 0] [])))))) (.seq (.seq (.region 0 [
 o1 7 (.move (ki 0)) 0] []) (.block 4 (.loop [2,3,7] ⟨[(2,(.ptr 0 0 0)),(3,(.ptr 1 0 0)),(7,vI)],[],[.one false .spec,.one false .spec]⟩ (.seq (.seq (.region 0 [
 oM 72 7 0,
 oF 73 2 2 0,
 oL 74 73 0,
 o1 75 (.len (tm 74)) 0,
 oB 76 .lss 72 75 0] []) (.cond (tm 76) (.skip) (.exit 4))) (.seq (.block 5 (.seq (.region 1 [
 oF 79 2 2 0,
 oL 80 79 0,
 oM 81 7 0,
 o1 82 (.indexSl 6 (tm 80) (tm 81)) 0,
 oT 83 6 82 0,
 o1 8 (.alloc [iz,.zsl,iz,iz,iz,iz]) 0,
 oS 6 8 83 1] []) (.seq (.region 1 [
 oF 84 2 3 0,
 oL 85 84 0,
 oM 86 7 0,
 o1 87 (.indexSl 6 (tm 85) (tm 86)) 0,
 oT 88 6 87 0,
 o1 9 (.alloc [iz,.zsl,iz,iz,iz,iz]) 0,
 oS 6 9 88 1] []) (.seq (.region 4 [
 oF 89 0 8 0,
 oL 90 89 0,
 oF 91 0 9 0,
 oL 92 91 0,
 oB 93 .neq 90 92 0,
 oM 94 93 0,
 o2 95 (.fieldAddr 1 (tm 8)) 94 0,
 o2 96 (.load false 1 (tm 95)) 94 0,
 o2 97 (.fieldAddr 1 (tm 9)) 94 0,
 o2 98 (.load false 1 (tm 97)) 94 0,
 o2 99 (.call (fc 22) [(vv 96),(vv 98)] false 4) 94 0,
 o2 100 (.un .not (tm 99)) 94 4,
 o1 101 (.pick (tm 94) kt (tm 100)) 4,
 oM 102 101 4,
 o2 103 (.fieldAddr 2 (tm 8)) 102 4,
 o2 104 (.load false 1 (tm 103)) 102 4,
 o2 105 (.fieldAddr 2 (tm 9)) 102 4,
 o2 106 (.load false 1 (tm 105)) 102 4,
 o2 107 (.bin .neq (tm 104) (tm 106)) 102 4,
 o1 108 (.pick (tm 102) kt (tm 107)) 4,
 oM 109 108 4,
 o2 110 (.fieldAddr 3 (tm 8)) 109 4,
 o2 111 (.load false 1 (tm 110)) 109 4,
 o2 112 (.fieldAddr 3 (tm 9)) 109 4,
 o2 113 (.load false 1 (tm 112)) 109 4,
 o2 114 (.bin .neq (tm 111) (tm 113)) 109 4,
 o1 115 (.pick (tm 109) kt (tm 114)) 4,
 oM 116 115 4,
 o2 117 (.fieldAddr 4 (tm 8)) 116 4,
 o2 118 (.load false 1 (tm 117)) 116 4,
 o2 119 (.fieldAddr 4 (tm 9)) 116 4,
 o2 120 (.load false 1 (tm 119)) 116 4,
 o2 121 (.bin .neq (tm 118) (tm 120)) 116 4,
 o1 122 (.pick (tm 116) kt (tm 121)) 4,
 oM 123 122 4,
 o2 124 (.fieldAddr 5 (tm 8)) 123 4,
 o2 125 (.load false 1 (tm 124)) 123 4,
 o2 126 (.fieldAddr 5 (tm 9)) 123 4,
 o2 127 (.load false 1 (tm 126)) 123 4,
 o2 128 (.bin .neq (tm 125) (tm 127)) 123 4,
 o1 129 (.pick (tm 123) kt (tm 128)) 4] []) (.cond (tm 129) (.seq (.region 0 [
 o1 4 (.move kf) 0] []) (.ret)) (.skip)))))) (.region 0 [
 oM 77 7 0,
 oC 78 .add 77 1 0,
 oM 7 78 0] [])))))) (.seq (.region 0 [
 oF 130 3 2 0,
 oL 131 130 0,
 oF 132 3 3 0,
 oL 133 132 0,
 oB 134 .eql 131 133 0,
 oM 135 134 0,
 o3 136 (.fieldAddr 4 (tm 2)) 135 0,
 o3 137 (.load true 4 (tm 136)) 135 0,
 o3 138 (.fieldAddr 4 (tm 3)) 135 0,
 o3 139 (.load true 4 (tm 138)) 135 0,
 o3 140 (.eqAgg (false,[.int .i64,.int .i64,.int .i64,.int .i64]) (tm 137) (tm 139)) 135 0,
 o1 141 (.pick (tm 135) (tm 140) kf) 0,
 oM 142 141 0,
 o3 143 (.fieldAddr 8 (tm 2)) 142 0,
 o3 144 (.load false 1 (tm 143)) 142 0,
 o3 145 (.fieldAddr 8 (tm 3)) 142 0,
 o3 146 (.load false 1 (tm 145)) 142 0,
 o3 147 (.bin .eql (tm 144) (tm 146)) 142 0,
 o1 148 (.pick (tm 142) (tm 147) kf) 0,
 oM 149 148 0,
 o3 150 (.fieldAddr 9 (tm 2)) 149 0,
 o3 151 (.load false 1 (tm 150)) 149 0,
 o3 152 (.fieldAddr 9 (tm 3)) 149 0,
 o3 153 (.load false 1 (tm 152)) 149 0,
 o3 154 (.bin .eql (tm 151) (tm 153)) 149 0,
 o1 155 (.pick (tm 149) (tm 154) kf) 0,
 oM 156 155 0,
 o3 157 (.fieldAddr 10 (tm 2)) 156 0,
 o3 158 (.load false 1 (tm 157)) 156 0,
 o3 159 (.fieldAddr 10 (tm 3)) 156 0,
 o3 160 (.load false 1 (tm 159)) 156 0,
 o3 161 (.bin .eql (tm 158) (tm 160)) 156 0,
 o1 162 (.pick (tm 156) (tm 161) kf) 0,
 oM 163 162 0,
 o3 164 (.fieldAddr 11 (tm 2)) 163 0,
 o3 165 (.load false 1 (tm 164)) 163 0,
 o3 166 (.fieldAddr 11 (tm 3)) 163 0,
 o3 167 (.load false 1 (tm 166)) 163 0,
 o3 168 (.bin .eql (tm 165) (tm 167)) 163 0,
 o1 169 (.pick (tm 163) (tm 168) kf) 0,
 oM 170 169 0,
 o3 171 (.fieldAddr 12 (tm 2)) 170 0,
 o3 172 (.load false 1 (tm 171)) 170 0,
 o3 173 (.fieldAddr 12 (tm 3)) 170 0,
 o3 174 (.load false 1 (tm 173)) 170 0,
 o3 175 (.bin .eql (tm 172) (tm 174)) 170 0,
 o1 176 (.pick (tm 170) (tm 175) kf) 0,
 oM 177 176 0,
 o3 178 (.fieldAddr 13 (tm 2)) 177 0,
 o3 179 (.load false 1 (tm 178)) 177 0,
 o3 180 (.fieldAddr 13 (tm 3)) 177 0,
 o3 181 (.load false 1 (tm 180)) 177 0,
 o3 182 (.bin .eql (tm 179) (tm 181)) 177 0,
 o1 183 (.pick (tm 177) (tm 182) kf) 0,
 oM 184 183 0,
 o3 185 (.fieldAddr 14 (tm 2)) 184 0,
 o3 186 (.load false 1 (tm 185)) 184 0,
 o3 187 (.fieldAddr 14 (tm 3)) 184 0,
 o3 188 (.load false 1 (tm 187)) 184 0,
 o3 189 (.bin .eql (tm 186) (tm 188)) 184 0,
 o1 190 (.pick (tm 184) (tm 189) kf) 0,
 oM 191 190 0,
 o3 192 (.fieldAddr 15 (tm 2)) 191 0,
 o3 193 (.load false 1 (tm 192)) 191 0,
 o3 194 (.fieldAddr 15 (tm 3)) 191 0,
 o3 195 (.load false 1 (tm 194)) 191 0,
 o3 196 (.bin .eql (tm 193) (tm 195)) 191 0,
 o1 197 (.pick (tm 191) (tm 196) kf) 0,
 oM 198 197 0,
 o3 199 (.fieldAddr 16 (tm 2)) 198 0,
 o3 200 (.load false 1 (tm 199)) 198 0,
 o3 201 (.fieldAddr 16 (tm 3)) 198 0,
 o3 202 (.load false 1 (tm 201)) 198 0,
 o3 203 (.bin .eql (tm 200) (tm 202)) 198 0,
 o1 204 (.pick (tm 198) (tm 203) kf) 0,
 oM 205 204 0,
 o3 206 (.fieldAddr 17 (tm 2)) 205 0,
 o3 207 (.load false 1 (tm 206)) 205 0,
 o3 208 (.fieldAddr 17 (tm 3)) 205 0,
 o3 209 (.load false 1 (tm 208)) 205 0,
 o3 210 (.bin .eql (tm 207) (tm 209)) 205 0,
 o1 211 (.pick (tm 205) (tm 210) kf) 0,
 oM 4 211 0] []) (.ret)))))),[.tmp 4],true⟩
def s10 : Sig := ⟨(.cons (.v .spec) (.cons (.v .spec) .nil)),[],((.v .bool),[]),[]⟩
def l10_0 (g22 : (List Int) → (List Int) → Option Bool) (nx18 : ((Unit × (Unit × (Int × Unit))) × (Spec × (Spec × Unit))) → Option Bool) (i19 : Int) (z20 : Spec) (z21 : Spec) : Option Bool :=
 cond (decide (i19 < (List.length z20.queues : Int)))
 (cond (decide (0 ≤ i19))
 (Option.bind (z20.queues[Int.toNat i19]?) fun y22 =>
 cond (decide (0 ≤ i19))
 (Option.bind (z21.queues[Int.toNat i19]?) fun y23 =>
 cond (!decide (y22.part = y23.part))
 (some false)
 (Option.bind (g22 y22.users y23.users) fun r24 =>
 cond (!r24)
 (some false)
 (cond (!decide (y22.maxJobs = y23.maxJobs))
 (some false)
 (cond (!decide (y22.maxRun = y23.maxRun))
 (some false)
 (cond (!decide (y22.maxUser = y23.maxUser))
 (some false)
 (cond (!decide (y22.qos = y23.qos))
 (some false)
 (nx18 (((),(),IntKind.wrap .i64 (i19 + 1),()),(z20,z21,())))))))))
 (none))
 (none))
 (cond (decide (z20.users = z21.users))
 (cond ((decide (z20.weights.age = z21.weights.age)) && ((decide (z20.weights.size = z21.weights.size)) && ((decide (z20.weights.qos = z21.weights.qos)) && ((decide (z20.weights.share = z21.weights.share)) && true))))
 (cond (decide (z20.decay = z21.decay))
 (cond (decide (z20.mode = z21.mode))
 (cond (decide (z20.jobs = z21.jobs))
 (cond (decide (z20.ids = z21.ids))
 (cond (decide (z20.versions = z21.versions))
 (cond (decide (z20.linger = z21.linger))
 (cond (decide (z20.keep = z21.keep))
 (cond (decide (z20.inn = z21.inn))
 (cond (decide (z20.out = z21.out))
 (some (decide (z20.cache = z21.cache)))
 (some false))
 (some false))
 (some false))
 (some false))
 (some false))
 (some false))
 (some false))
 (some false))
 (some false))
 (some false))
 (some false))
def l10_1 (L : Lp) (g22 : (List Int) → (List Int) → Option Bool) (nx10 : ((Unit × (Unit × (Int × Unit))) × (Spec × (Spec × Unit))) → Option Bool) (i11 : Int) (z12 : Spec) (z13 : Spec) : Option Bool :=
 cond (decide (i11 < (List.length z12.parts : Int)))
 (cond (decide (0 ≤ i11))
 (Option.bind (z12.parts[Int.toNat i11]?) fun y14 =>
 cond (decide (0 ≤ i11))
 (Option.bind (z13.parts[Int.toNat i11]?) fun y15 =>
 Option.bind (g22 y14 y15) fun r16 =>
 cond (!r16)
 (some false)
 (nx10 (((),(),IntKind.wrap .i64 (i11 + 1),()),(z12,z13,()))))
 (none))
 (none))
 (L (fun (s17 : ((Unit × (Unit × (Int × Unit))) × (Spec × (Spec × Unit)))) nx18 => l10_0 g22 nx18 s17.1.2.2.1 s17.2.1 s17.2.2.1) (((),(),0,()),(z12,z13,())))
def l10_2 (L : Lp) (g22 : (List Int) → (List Int) → Option Bool) (nx3 : ((Unit × (Unit × (Int × Unit))) × (Spec × (Spec × Unit))) → Option Bool) (i4 : Int) (z5 : Spec) (z6 : Spec) : Option Bool :=
 cond (decide (i4 < (List.length z5.nodes : Int)))
 (cond (decide (0 ≤ i4))
 (Option.bind (z5.nodes[Int.toNat i4]?) fun y7 =>
 cond (decide (0 ≤ i4))
 (Option.bind (z6.nodes[Int.toNat i4]?) fun y8 =>
 cond (!((decide (y7.cpu = y8.cpu)) && ((decide (y7.mem = y8.mem)) && ((decide (y7.gpu = y8.gpu)) && ((decide (y7.lic = y8.lic)) && true)))))
 (some false)
 (nx3 (((),(),IntKind.wrap .i64 (i4 + 1),()),(z5,z6,()))))
 (none))
 (none))
 (L (fun (s9 : ((Unit × (Unit × (Int × Unit))) × (Spec × (Spec × Unit)))) nx10 => l10_1 L g22 nx10 s9.1.2.2.1 s9.2.1 s9.2.2.1) (((),(),0,()),(z5,z6,())))
def F10 (L : Lp) (g22 : (List Int) → (List Int) → Option Bool) (a0 : Spec) (b1 : Spec) : Option Bool :=
 cond (!decide ((List.length a0.nodes : Int) = (List.length b1.nodes : Int)))
 (some false)
 (cond (!decide ((List.length a0.parts : Int) = (List.length b1.parts : Int)))
 (some false)
 (cond (!decide ((List.length a0.queues : Int) = (List.length b1.queues : Int)))
 (some false)
 (L (fun (s2 : ((Unit × (Unit × (Int × Unit))) × (Spec × (Spec × Unit)))) nx3 => l10_2 L g22 nx3 s2.1.2.2.1 s2.2.1 s2.2.2.1) (((),(),0,()),(a0,b1,())))))
theorem e10 (L : Lp) (g22 : (List Int) → (List Int) → Option Bool) (x : s10.args.den) (h : denH s10.heap) : nrun [⟨22,s22,fun x h => g22 x.1 x.2.1⟩] L n10 s10 x h = F10 L g22 x.1 x.2.1 := by kernel_rfl
def f10 : Spec → Spec → Option Bool := F10 (@LN LOOPS) f22
@[reducible] def t10 : Ent := ⟨10,s10,fun x h => f10 x.1 x.2.1⟩
theorem k10 : chkNF Tryz.prog Tryz.f10 n10 = true := by kernel_rfl
theorem ok10 : NOk Tryz.prog t10 := NOk.body (T := [t22]) mixed (nall_cons ok22 nall_nil) (oneEach_of (by kernel_rfl)) Tryz.func10 k10 (by kernel_rfl) (fun x h => e10 _ _ x h)
def n3 : NFunc := ⟨80,.seq (.region 1 [
 o1 2 (.box 18 (tm 0)) 0,
 o1 4 (.move kf) 1] []) (.seq (.seq (.region 4 [
 o1 11 (.call (fc 4) [] false 4) 0,
 o1 12 (.un .not (tm 11)) 4] []) (.cond (tm 12) (.seq (.region 0 [
 o1 4 (.move kf) 0] []) (.ret)) (.skip))) (.seq (.seq (.region 4 [
 oT 13 18 2 0,
 o1 14 (.call (fc 5) [(vv 13)] false 4) 0,
 o1 15 (.un .not (tm 14)) 4,
 oM 16 15 4,
 oN 17 1 16 4,
 o2 18 (.lenStr (tm 17)) 16 4,
 o2 19 (.bin .gtr (tm 18) (ki 4000)) 16 4,
 o1 20 (.pick (tm 16) kt (tm 19)) 4] []) (.cond (tm 20) (.seq (.region 0 [
 o1 4 (.move kt) 0] []) (.ret)) (.skip))) (.seq (.region 4 [
 oT 22 18 2 0,
 o1 23 (.call (fc 6) [(vv 22)] false 4) 0,
 oM 21 23 4,
 oX 24 21 0 4,
 oX 25 21 1 4,
 oM 5 24 4,
 oM 6 25 4] []) (.seq (.join [1] [] ⟨[],[1],[]⟩ (.seq (.region 4 [
 oT 26 18 2 0,
 o1 27 (.call (fc 7) [(vv 26)] false 4) 0,
 o1 28 (.un .not (tm 27)) 4] []) (.cond (tm 28) (.seq (.region 0 [
 oM 29 5 0,
 o1 30 (.bin .neq (tm 29) (.const (.str []))) 0,
 oM 31 30 0,
 oN 32 6 31 0,
 o2 33 (.bin .neq (tm 32) (ki 2)) 31 0,
 o1 34 (.pick (tm 31) kt (tm 33)) 0] []) (.cond (tm 34) (.seq (.region 0 [
 o1 4 (.move kf) 0] []) (.ret)) (.skip))) (.seq (.region 5 [
 oM 36 5 0,
 o1 37 (.call (fc 8) [(vv 36)] false 4) 0,
 oM 35 37 4,
 oX 38 35 0 4,
 oX 39 35 1 4,
 o1 7 (.alloc [.zsl,.zsl,.zsl,iz,iz,iz,iz,iz,iz,iz,iz,iz,iz,iz,iz,iz,iz,iz]) 4,
 oS 18 7 38 5,
 oM 8 39 5] []) (.seq (.region 8 [
 oM 40 6 0,
 oC 41 .neq 40 0 0,
 oM 42 41 0,
 oN 43 5 42 0,
 o2 44 (.load true 18 (tm 2)) 42 0,
 o2 45 (.call (fc 9) [(vv 44)] false 4) 42 0,
 o2 46 (.bin .neq (tm 43) (tm 45)) 42 4,
 o1 47 (.pick (tm 42) kt (tm 46)) 4,
 oM 48 47 4,
 oN 49 8 48 4,
 o2 50 (.bin .neq (tm 49) (ki 0)) 48 4,
 o1 51 (.pick (tm 48) kt (tm 50)) 4,
 oM 52 51 4,
 o2 53 (.load true 18 (tm 7)) 52 4,
 o2 54 (.load true 18 (tm 2)) 52 4,
 o2 55 (.call (fc 10) [(vv 53),(vv 54)] false 4) 52 4,
 o2 56 (.un .not (tm 55)) 52 8,
 o1 57 (.pick (tm 52) kt (tm 56)) 8] []) (.cond (tm 57) (.seq (.region 0 [
 o1 4 (.move kf) 0] []) (.ret)) (.skip))))))) (.seq (.region 5 [
 oM 59 1 0,
 o1 60 (.call (fc 8) [(vv 59)] false 4) 0,
 oM 58 60 4,
 oX 61 58 0 4,
 oX 62 58 1 4,
 o1 9 (.alloc [.zsl,.zsl,.zsl,iz,iz,iz,iz,iz,iz,iz,iz,iz,iz,iz,iz,iz,iz,iz]) 4,
 oS 18 9 61 5,
 oM 10 62 5] []) (.seq (.seq (.region 0 [
 oM 63 10 0,
 oC 64 .neq 63 0 0] []) (.cond (tm 64) (.seq (.region 4 [
 oM 65 10 0,
 oC 66 .eql 65 11 0,
 oM 67 66 0,
 o3 68 (.load true 18 (tm 9)) 67 0,
 o3 69 (.build [.zsl,.zsl,.zsl,iz,iz,iz,iz,iz,iz,iz,iz,iz,iz,iz,iz,iz,iz,iz] []) 67 0,
 o3 70 (.call (fc 10) [(vv 68),(vv 69)] false 4) 67 0,
 o1 71 (.pick (tm 67) (tm 70) kf) 4,
 oM 4 71 4] []) (.ret)) (.skip))) (.seq (.region 8 [
 oT 72 18 9 0,
 o1 73 (.call (fc 7) [(vv 72)] false 4) 0,
 oM 74 73 4,
 o3 75 (.load true 18 (tm 9)) 74 4,
 o3 76 (.call (fc 9) [(vv 75)] false 4) 74 4,
 o3 77 (.move (tm 1)) 74 8,
 o3 78 (.bin .eql (tm 76) (tm 77)) 74 8,
 o1 79 (.pick (tm 74) (tm 78) kf) 8,
 oM 4 79 8] []) (.ret)))))))),[.tmp 4],true⟩
def s3 : Sig := ⟨(.cons (.v .spec) (.cons (.v .str) .nil)),[],((.v .bool),[]),[]⟩
def F3 (L : Lp) (g4 : Option Bool) (g5 : Spec → Option Bool) (g6 : Spec → Option ((List UInt8) × (Int × Unit))) (g7 : Spec → Option Bool) (g8 : (List UInt8) → Option (Spec × (Int × Unit))) (g9 : Spec → Option (List UInt8)) (g10 : Spec → Spec → Option Bool) (as0 : Spec) (text1 : (List UInt8)) : Option Bool :=
 Option.bind (g4) fun r2 =>
 cond (!r2)
 (some false)
 (Option.bind (g5 as0) fun r3 =>
 cond (!r3)
 (some true)
 (cond (decide (4000 < (List.length text1 : Int)))
 (some true)
 (Option.bind (g6 as0) fun r4 =>
 Option.bind (α := ((Unit × Unit) ⊕ Bool))
 (Option.bind (g7 as0) fun r5 =>
 cond (!r5)
 (cond (!decide (r4.1 = ([] : List UInt8)))
 (some (.inr false))
 (cond (!decide (r4.2.1 = 2))
 (some (.inr false))
 (some (.inl ((),())))))
 (Option.bind (g8 r4.1) fun r6 =>
 cond (!decide (r4.2.1 = 0))
 (some (.inr false))
 (Option.bind (g9 as0) fun r7 =>
 cond (!decide (r4.1 = r7))
 (some (.inr false))
 (cond (!decide (r6.2.1 = 0))
 (some (.inr false))
 (Option.bind (g10 r6.1 as0) fun r8 =>
 cond (!r8)
 (some (.inr false))
 (some (.inl ((),())))))))) (Sum.elim (fun x9 =>
 Option.bind (g8 text1) fun r10 =>
 cond (!decide (r10.2.1 = 0))
 (cond (decide (r10.2.1 = 11))
 (Option.bind (g10 r10.1 (Spec.mk [] [] [] 0 (Weights.mk 0 0 0 0) 0 0 0 0 0 0 0 0 0 0)) fun r11 =>
 some r11)
 (some false))
 (Option.bind (g7 r10.1) fun r12 =>
 cond r12
 (Option.bind (g9 r10.1) fun r13 =>
 some (decide (r13 = text1)))
 (some false))) some))))
theorem e3 (L : Lp) (g4 : Option Bool) (g5 : Spec → Option Bool) (g6 : Spec → Option ((List UInt8) × (Int × Unit))) (g7 : Spec → Option Bool) (g8 : (List UInt8) → Option (Spec × (Int × Unit))) (g9 : Spec → Option (List UInt8)) (g10 : Spec → Spec → Option Bool) (x : s3.args.den) (h : denH s3.heap) : nrun [⟨4,s4,fun x h => g4 ⟩,⟨5,s5,fun x h => g5 x.1⟩,⟨6,s6,fun x h => g6 x.1⟩,⟨7,s7,fun x h => g7 x.1⟩,⟨8,s8,fun x h => g8 x.1⟩,⟨9,s9,fun x h => g9 x.1⟩,⟨10,s10,fun x h => g10 x.1 x.2.1⟩] L n3 s3 x h = F3 L g4 g5 g6 g7 g8 g9 g10 x.1 x.2.1 := by kernel_rfl
def f3 : Spec → (List UInt8) → Option Bool := F3 (@LN LOOPS) f4 f5 f6 f7 f8 f9 f10
@[reducible] def t3 : Ent := ⟨3,s3,fun x h => f3 x.1 x.2.1⟩
theorem k3 : chkNF Tryz.prog Tryz.f3 n3 = true := by kernel_rfl
theorem ok3 : NOk Tryz.prog t3 := NOk.body (T := [t4,t5,t6,t7,t8,t9,t10]) mixed (nall_cons ok4 (nall_cons ok5 (nall_cons ok6 (nall_cons ok7 (nall_cons ok8 (nall_cons ok9 (nall_cons ok10 nall_nil))))))) (oneEach_of (by kernel_rfl)) Tryz.func3 k3 (by kernel_rfl) (fun x h => e3 _ _ _ _ _ _ _ _ x h)
end NM
end Go.Proofs.YtjngkfdclcgfhaaGreatDoor
end
