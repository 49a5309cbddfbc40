/-
  The plain forms of the functions that the statement reaches, and that each is its function's body. (Written by program.)
-/
import Derived.Test.YtbhnojlcbgkcbaaDoorNmX
import Derived.Test.YtbhnojlcbgkcbaaDoorProg
import Derived.ProofKit
import Derived.Test.YtbhnojlcbgkcbaaDoorNIndex
set_option linter.unusedVariables false
set_option maxRecDepth 100000
set_option maxHeartbeats 4000000
namespace Go.Proofs.YtbhnojlcbgkcbaaDoor
namespace NM
open AM Go.RowKit
theorem mixed : Tryd.prog.follows .mixedOrders = true := by kernel_rfl
/- drayage/span.Parts -/
def n8 : NFunc := ⟨14, .seq (.region 0 [
    ⟨(some 2), .move (.const (.int .i64 (0))), none, 0, none⟩,
    ⟨(some 3), .move (.const (.int .i64 (0))), none, 0, none⟩,
    ⟨(some 4), .move (.const (.int .i64 (0))), none, 0, none⟩] []) (.seq (.seq (.region 0 [
    ⟨(some 5), .move (.tmp 0), none, 0, none⟩,
    ⟨(some 6), .bin .lss (.tmp 5) (.const (.int .i64 (0))), none, 0, none⟩] []) (.cond (.tmp 6) (.seq (.region 0 [
    ⟨(some 2), .move (.const (.int .i64 (0))), none, 0, none⟩,
    ⟨(some 3), .move (.const (.int .i64 (0))), none, 0, none⟩,
    ⟨(some 4), .move (.const (.int .i64 (0))), none, 0, none⟩] []) (.ret)) (.skip))) (.seq (.region 0 [
    ⟨(some 7), .move (.tmp 0), none, 0, none⟩,
    ⟨(some 8), .bin .quo (.tmp 7) (.const (.int .i64 (3600))), none, 0, none⟩,
    ⟨(some 9), .move (.tmp 0), none, 0, none⟩,
    ⟨(some 10), .bin .rem (.tmp 9) (.const (.int .i64 (3600))), none, 0, none⟩,
    ⟨(some 11), .bin .quo (.tmp 10) (.const (.int .i64 (60))), none, 0, none⟩,
    ⟨(some 12), .move (.tmp 0), none, 0, none⟩,
    ⟨(some 13), .bin .rem (.tmp 12) (.const (.int .i64 (60))), none, 0, none⟩,
    ⟨(some 2), .move (.tmp 8), none, 0, none⟩,
    ⟨(some 3), .move (.tmp 11), none, 0, none⟩,
    ⟨(some 4), .move (.tmp 13), none, 0, none⟩] []) (.ret))), [.tmp 2, .tmp 3, .tmp 4], true⟩
def s8 : Sig := ⟨(.cons (.v (.int .i64)) .nil), [], ((.tup (.cons (.v (.int .i64)) (.cons (.v (.int .i64)) (.cons (.v (.int .i64)) .nil)))), []), []⟩
def F8 (L : Lp)  (an0 : Int) : Option (Int × (Int × (Int × Unit))) :=
  cond (decide (an0 < 0))
  (some (0, 0, 0, ()))
  (some (IntKind.wrap .i64 (Int.tdiv an0 3600), IntKind.wrap .i64 (Int.tdiv (Int.tmod an0 3600) 60), Int.tmod an0 60, ()))
theorem e8 (L : Lp)  (x : s8.args.den) (h : denH s8.heap) : nrun [] L n8 s8 x h = F8 L  x.1 := by kernel_rfl
def f8 : Int → Option (Int × (Int × (Int × Unit))) := F8 (@LN LOOPS) 
@[reducible] def t8 : Ent := ⟨8, s8, fun x h => f8 x.1⟩
theorem k8 : chkNF Tryd.prog Tryd.f8 n8 = true := by kernel_rfl
theorem ok8 : NOk Tryd.prog t8 := NOk.body (T := []) mixed nall_nil (oneEach_of (by kernel_rfl)) Tryd.func8 k8 (by kernel_rfl) (fun x h => e8 _  x h)
/- internal/strconv.small -/
def n47 : NFunc := ⟨15, .seq (.region 0 [
    ⟨(some 2), .move (.const (.str [])), none, 0, none⟩] []) (.seq (.seq (.region 0 [
    ⟨(some 3), .move (.tmp 0), none, 0, none⟩,
    ⟨(some 4), .bin .lss (.tmp 3) (.const (.int .i64 (10))), none, 0, none⟩] []) (.cond (.tmp 4) (.seq (.region 0 [
    ⟨(some 5), .move (.tmp 0), none, 0, none⟩,
    ⟨(some 6), .move (.tmp 0), none, 0, none⟩,
    ⟨(some 7), .bin .add (.tmp 6) (.const (.int .i64 (1))), none, 0, none⟩,
    ⟨(some 8), .sliceStr (.const (.str [48, 49, 50, 51, 52, 53, 54, 55, 56, 57, 97, 98, 99, 100, 101, 102, 103, 104, 105, 106, 107, 108, 109, 110, 111, 112, 113, 114, 115, 116, 117, 118, 119, 120, 121, 122])) (some (.tmp 5)) (some (.tmp 7)), none, 0, none⟩,
    ⟨(some 2), .move (.tmp 8), none, 0, none⟩] []) (.ret)) (.skip))) (.seq (.region 0 [
    ⟨(some 9), .move (.tmp 0), none, 0, none⟩,
    ⟨(some 10), .bin .mul (.tmp 9) (.const (.int .i64 (2))), none, 0, none⟩,
    ⟨(some 11), .move (.tmp 0), none, 0, none⟩,
    ⟨(some 12), .bin .mul (.tmp 11) (.const (.int .i64 (2))), none, 0, none⟩,
    ⟨(some 13), .bin .add (.tmp 12) (.const (.int .i64 (2))), none, 0, none⟩,
    ⟨(some 14), .sliceStr (.const (.str [48, 48, 48, 49, 48, 50, 48, 51, 48, 52, 48, 53, 48, 54, 48, 55, 48, 56, 48, 57, 49, 48, 49, 49, 49, 50, 49, 51, 49, 52, 49, 53, 49, 54, 49, 55, 49, 56, 49, 57, 50, 48, 50, 49, 50, 50, 50, 51, 50, 52, 50, 53, 50, 54, 50, 55, 50, 56, 50, 57, 51, 48, 51, 49, 51, 50, 51, 51, 51, 52, 51, 53, 51, 54, 51, 55, 51, 56, 51, 57, 52, 48, 52, 49, 52, 50, 52, 51, 52, 52, 52, 53, 52, 54, 52, 55, 52, 56, 52, 57, 53, 48, 53, 49, 53, 50, 53, 51, 53, 52, 53, 53, 53, 54, 53, 55, 53, 56, 53, 57, 54, 48, 54, 49, 54, 50, 54, 51, 54, 52, 54, 53, 54, 54, 54, 55, 54, 56, 54, 57, 55, 48, 55, 49, 55, 50, 55, 51, 55, 52, 55, 53, 55, 54, 55, 55, 55, 56, 55, 57, 56, 48, 56, 49, 56, 50, 56, 51, 56, 52, 56, 53, 56, 54, 56, 55, 56, 56, 56, 57, 57, 48, 57, 49, 57, 50, 57, 51, 57, 52, 57, 53, 57, 54, 57, 55, 57, 56, 57, 57])) (some (.tmp 10)) (some (.tmp 13)), none, 0, none⟩,
    ⟨(some 2), .move (.tmp 14), none, 0, none⟩] []) (.ret))), [.tmp 2], true⟩
def s47 : Sig := ⟨(.cons (.v (.int .i64)) .nil), [], ((.v .str), []), []⟩
def F47 (L : Lp)  (i0 : Int) : Option (List UInt8) :=
  cond (decide (i0 < 10))
  (cond (decide (0 ≤ i0))
  (cond (decide (0 ≤ (IntKind.wrap .i64 (i0 + 1))))
  (cond ((decide ((Int.toNat i0) ≤ (Int.toNat (IntKind.wrap .i64 (i0 + 1))))) && (decide ((Int.toNat (IntKind.wrap .i64 (i0 + 1))) ≤ (List.length ([48, 49, 50, 51, 52, 53, 54, 55, 56, 57, 97, 98, 99, 100, 101, 102, 103, 104, 105, 106, 107, 108, 109, 110, 111, 112, 113, 114, 115, 116, 117, 118, 119, 120, 121, 122] : List UInt8)))))
  (let v1 := List.drop (Int.toNat i0) (List.take (Int.toNat (IntKind.wrap .i64 (i0 + 1))) ([48, 49, 50, 51, 52, 53, 54, 55, 56, 57, 97, 98, 99, 100, 101, 102, 103, 104, 105, 106, 107, 108, 109, 110, 111, 112, 113, 114, 115, 116, 117, 118, 119, 120, 121, 122] : List UInt8))
  some v1)
  (none))
  (none))
  (none))
  (cond (decide (0 ≤ (IntKind.wrap .i64 (i0 * 2))))
  (cond (decide (0 ≤ (IntKind.wrap .i64 ((IntKind.wrap .i64 (i0 * 2)) + 2))))
  (cond ((decide ((Int.toNat (IntKind.wrap .i64 (i0 * 2))) ≤ (Int.toNat (IntKind.wrap .i64 ((IntKind.wrap .i64 (i0 * 2)) + 2))))) && (decide ((Int.toNat (IntKind.wrap .i64 ((IntKind.wrap .i64 (i0 * 2)) + 2))) ≤ (List.length ([48, 48, 48, 49, 48, 50, 48, 51, 48, 52, 48, 53, 48, 54, 48, 55, 48, 56, 48, 57, 49, 48, 49, 49, 49, 50, 49, 51, 49, 52, 49, 53, 49, 54, 49, 55, 49, 56, 49, 57, 50, 48, 50, 49, 50, 50, 50, 51, 50, 52, 50, 53, 50, 54, 50, 55, 50, 56, 50, 57, 51, 48, 51, 49, 51, 50, 51, 51, 51, 52, 51, 53, 51, 54, 51, 55, 51, 56, 51, 57, 52, 48, 52, 49, 52, 50, 52, 51, 52, 52, 52, 53, 52, 54, 52, 55, 52, 56, 52, 57, 53, 48, 53, 49, 53, 50, 53, 51, 53, 52, 53, 53, 53, 54, 53, 55, 53, 56, 53, 57, 54, 48, 54, 49, 54, 50, 54, 51, 54, 52, 54, 53, 54, 54, 54, 55, 54, 56, 54, 57, 55, 48, 55, 49, 55, 50, 55, 51, 55, 52, 55, 53, 55, 54, 55, 55, 55, 56, 55, 57, 56, 48, 56, 49, 56, 50, 56, 51, 56, 52, 56, 53, 56, 54, 56, 55, 56, 56, 56, 57, 57, 48, 57, 49, 57, 50, 57, 51, 57, 52, 57, 53, 57, 54, 57, 55, 57, 56, 57, 57] : List UInt8)))))
  (let v2 := List.drop (Int.toNat (IntKind.wrap .i64 (i0 * 2))) (List.take (Int.toNat (IntKind.wrap .i64 ((IntKind.wrap .i64 (i0 * 2)) + 2))) ([48, 48, 48, 49, 48, 50, 48, 51, 48, 52, 48, 53, 48, 54, 48, 55, 48, 56, 48, 57, 49, 48, 49, 49, 49, 50, 49, 51, 49, 52, 49, 53, 49, 54, 49, 55, 49, 56, 49, 57, 50, 48, 50, 49, 50, 50, 50, 51, 50, 52, 50, 53, 50, 54, 50, 55, 50, 56, 50, 57, 51, 48, 51, 49, 51, 50, 51, 51, 51, 52, 51, 53, 51, 54, 51, 55, 51, 56, 51, 57, 52, 48, 52, 49, 52, 50, 52, 51, 52, 52, 52, 53, 52, 54, 52, 55, 52, 56, 52, 57, 53, 48, 53, 49, 53, 50, 53, 51, 53, 52, 53, 53, 53, 54, 53, 55, 53, 56, 53, 57, 54, 48, 54, 49, 54, 50, 54, 51, 54, 52, 54, 53, 54, 54, 54, 55, 54, 56, 54, 57, 55, 48, 55, 49, 55, 50, 55, 51, 55, 52, 55, 53, 55, 54, 55, 55, 55, 56, 55, 57, 56, 48, 56, 49, 56, 50, 56, 51, 56, 52, 56, 53, 56, 54, 56, 55, 56, 56, 56, 57, 57, 48, 57, 49, 57, 50, 57, 51, 57, 52, 57, 53, 57, 54, 57, 55, 57, 56, 57, 57] : List UInt8))
  some v2)
  (none))
  (none))
  (none))
theorem e47 (L : Lp)  (x : s47.args.den) (h : denH s47.heap) : nrun [] L n47 s47 x h = F47 L  x.1 := by kernel_rfl
def f47 : Int → Option (List UInt8) := F47 (@LN LOOPS) 
@[reducible] def t47 : Ent := ⟨47, s47, fun x h => f47 x.1⟩
theorem k47 : chkNF Tryd.prog Tryd.f47 n47 = true := by kernel_rfl
theorem ok47 : NOk Tryd.prog t47 := NOk.body (T := []) mixed nall_nil (oneEach_of (by kernel_rfl)) Tryd.func47 k47 (by kernel_rfl) (fun x h => e47 _  x h)
/- internal/strconv.AppendUint -/
def n42 : NFunc := ⟨36, .seq (.region 0 [
    ⟨(some 6), .move (.const (.zsl)), none, 0, none⟩] []) (.seq (.seq (.region 0 [
    ⟨(some 9), .move (.tmp 2), none, 0, none⟩,
    ⟨(some 10), .bin .eql (.tmp 9) (.const (.int .i64 (10))), none, 0, none⟩] []) (.cond (.tmp 10) (.seq (.seq (.region 0 [
    ⟨(some 11), .move (.tmp 1), none, 0, none⟩,
    ⟨(some 12), .bin .lss (.tmp 11) (.const (.int .u64 (100))), none, 0, none⟩] []) (.cond (.tmp 12) (.seq (.region 5 [
    ⟨(some 13), .move (.tmp 0), none, 0, none⟩,
    ⟨(some 14), .move (.tmp 1), none, 0, none⟩,
    ⟨(some 15), .conv .i64 (.tmp 14), none, 0, none⟩,
    ⟨(some 16), .call (.func 47) [(false, (.tmp 15))] false 4, none, 0, none⟩,
    ⟨(some 17), .append 1 1 true (.tmp 13) (.tmp 16), none, 4, none⟩,
    ⟨(some 6), .move (.tmp 17), none, 5, none⟩] []) (.ret)) (.skip))) (.seq (.region 1 [
    ⟨(some 7), .alloc [.int .u8 (0), .int .u8 (0), .int .u8 (0), .int .u8 (0), .int .u8 (0), .int .u8 (0), .int .u8 (0), .int .u8 (0), .int .u8 (0), .int .u8 (0), .int .u8 (0), .int .u8 (0), .int .u8 (0), .int .u8 (0), .int .u8 (0), .int .u8 (0), .int .u8 (0), .int .u8 (0), .int .u8 (0), .int .u8 (0), .int .u8 (0), .int .u8 (0), .int .u8 (0), .int .u8 (0)], none, 0, none⟩] []) (.seq (.region 4 [
    ⟨(some 18), .move (.tmp 1), none, 0, none⟩,
    ⟨(some 19), .call (.func 48) [(false, (.tmp 18))] false 4, none, 0, none⟩,
    ⟨(some 8), .move (.tmp 19), none, 4, none⟩] []) (.seq (.region 4 [
    ⟨(some 20), .move (.tmp 8), none, 0, none⟩,
    ⟨(some 21), .un .not (.const (.undef)), none, 0, none⟩,
    ⟨(some 22), .move (.tmp 1), none, 0, none⟩,
    ⟨(some 23), .call (.func 49) [(false, (.tmp 21)), (false, (.tmp 22))] false 4, none, 0, none⟩] []) (.seq (.region 1 [
    ⟨(some 24), .move (.tmp 0), none, 0, none⟩,
    ⟨(some 25), .move (.tmp 8), none, 0, none⟩,
    ⟨(some 26), .un .not (.const (.undef)), none, 0, none⟩,
    ⟨(some 27), .append 1 1 true (.tmp 24) (.tmp 26), none, 0, none⟩,
    ⟨(some 6), .move (.tmp 27), none, 1, none⟩] []) (.ret)))))) (.skip))) (.seq (.region 4 [
    ⟨(some 29), .move (.tmp 0), none, 0, none⟩,
    ⟨(some 30), .move (.tmp 1), none, 0, none⟩,
    ⟨(some 31), .move (.tmp 2), none, 0, none⟩,
    ⟨(some 32), .call (.func 50) [(false, (.tmp 29)), (false, (.tmp 30)), (false, (.tmp 31)), (false, (.const (.bool false))), (false, (.const (.bool true)))] false 4, none, 0, none⟩,
    ⟨(some 28), .move (.tmp 32), none, 4, none⟩,
    ⟨(some 33), .extract (.tmp 28) 0, none, 4, none⟩,
    ⟨(some 34), .extract (.tmp 28) 1, none, 4, none⟩,
    ⟨(some 0), .move (.tmp 33), none, 4, none⟩] []) (.seq (.region 0 [
    ⟨(some 35), .move (.tmp 0), none, 0, none⟩,
    ⟨(some 6), .move (.tmp 35), none, 0, none⟩] []) (.ret)))), [.tmp 6], false⟩
def s42 : Sig := ⟨(.cons (.slw 0 1) (.cons (.v (.int .u64)) (.cons (.v (.int .i64)) .nil))), [.typed (.int .u8)], ((.slw 1 1), [.dead, .typed (.int .u8)]), []⟩
def F42 (L : Lp) (g47 : Int → Option (List UInt8)) (i0 : Int) (base1 : Int) (a2 : (List Int)) : Option (Unit × (Unit × ((List Int) × Unit))) :=
  cond (decide (base1 = 10))
  (cond (decide (i0 < 100))
  (Option.bind (g47 (IntKind.wrap .i64 (i0))) fun r3 =>
  cond (smallB ((List.length a2) + (List.length (List.map (fun c => (UInt8.toNat c : Int)) r3))) 1)
  (some ((), ((), a2 ++ (List.map (fun c => (UInt8.toNat c : Int)) r3), ())))
  (none))
  (none))
  (none)
theorem e42 (L : Lp) (g47 : Int → Option (List UInt8)) (x : s42.args.den) (h : denH s42.heap) : nrun [⟨47, s47, fun x h => g47 x.1⟩] L n42 s42 x h = F42 L g47 x.2.1 x.2.2.1 h.1 := by kernel_rfl
def f42 : Int → Int → (List Int) → Option (Unit × (Unit × ((List Int) × Unit))) := F42 (@LN LOOPS) f47
@[reducible] def t42 : Ent := ⟨42, s42, fun x h => f42 x.2.1 x.2.2.1 h.1⟩
theorem k42 : chkNF Tryd.prog Tryd.f42 n42 = true := by kernel_rfl
theorem ok42 : NOk Tryd.prog t42 := NOk.body (T := [t47]) mixed (nall_cons ok47 nall_nil) (oneEach_of (by kernel_rfl)) Tryd.func42 k42 (by kernel_rfl) (fun x h => e42 _ _ x h)
/- internal/strconv.AppendUint -/
def n42_1 : NFunc := ⟨36, .seq (.region 0 [
    ⟨(some 6), .move (.const (.zsl)), none, 0, none⟩] []) (.seq (.seq (.region 0 [
    ⟨(some 9), .move (.tmp 2), none, 0, none⟩,
    ⟨(some 10), .bin .eql (.tmp 9) (.const (.int .i64 (10))), none, 0, none⟩] []) (.cond (.tmp 10) (.seq (.seq (.region 0 [
    ⟨(some 11), .move (.tmp 1), none, 0, none⟩,
    ⟨(some 12), .bin .lss (.tmp 11) (.const (.int .u64 (100))), none, 0, none⟩] []) (.cond (.tmp 12) (.seq (.region 5 [
    ⟨(some 13), .move (.tmp 0), none, 0, none⟩,
    ⟨(some 14), .move (.tmp 1), none, 0, none⟩,
    ⟨(some 15), .conv .i64 (.tmp 14), none, 0, none⟩,
    ⟨(some 16), .call (.func 47) [(false, (.tmp 15))] false 4, none, 0, none⟩,
    ⟨(some 17), .append 1 1 true (.tmp 13) (.tmp 16), none, 4, none⟩,
    ⟨(some 6), .move (.tmp 17), none, 5, none⟩] []) (.ret)) (.skip))) (.seq (.region 1 [
    ⟨(some 7), .alloc [.int .u8 (0), .int .u8 (0), .int .u8 (0), .int .u8 (0), .int .u8 (0), .int .u8 (0), .int .u8 (0), .int .u8 (0), .int .u8 (0), .int .u8 (0), .int .u8 (0), .int .u8 (0), .int .u8 (0), .int .u8 (0), .int .u8 (0), .int .u8 (0), .int .u8 (0), .int .u8 (0), .int .u8 (0), .int .u8 (0), .int .u8 (0), .int .u8 (0), .int .u8 (0), .int .u8 (0)], none, 0, none⟩] []) (.seq (.region 4 [
    ⟨(some 18), .move (.tmp 1), none, 0, none⟩,
    ⟨(some 19), .call (.func 48) [(false, (.tmp 18))] false 4, none, 0, none⟩,
    ⟨(some 8), .move (.tmp 19), none, 4, none⟩] []) (.seq (.region 4 [
    ⟨(some 20), .move (.tmp 8), none, 0, none⟩,
    ⟨(some 21), .un .not (.const (.undef)), none, 0, none⟩,
    ⟨(some 22), .move (.tmp 1), none, 0, none⟩,
    ⟨(some 23), .call (.func 49) [(false, (.tmp 21)), (false, (.tmp 22))] false 4, none, 0, none⟩] []) (.seq (.region 1 [
    ⟨(some 24), .move (.tmp 0), none, 0, none⟩,
    ⟨(some 25), .move (.tmp 8), none, 0, none⟩,
    ⟨(some 26), .un .not (.const (.undef)), none, 0, none⟩,
    ⟨(some 27), .append 1 1 true (.tmp 24) (.tmp 26), none, 0, none⟩,
    ⟨(some 6), .move (.tmp 27), none, 1, none⟩] []) (.ret)))))) (.skip))) (.seq (.region 4 [
    ⟨(some 29), .move (.tmp 0), none, 0, none⟩,
    ⟨(some 30), .move (.tmp 1), none, 0, none⟩,
    ⟨(some 31), .move (.tmp 2), none, 0, none⟩,
    ⟨(some 32), .call (.func 50) [(false, (.tmp 29)), (false, (.tmp 30)), (false, (.tmp 31)), (false, (.const (.bool false))), (false, (.const (.bool true)))] false 4, none, 0, none⟩,
    ⟨(some 28), .move (.tmp 32), none, 4, none⟩,
    ⟨(some 33), .extract (.tmp 28) 0, none, 4, none⟩,
    ⟨(some 34), .extract (.tmp 28) 1, none, 4, none⟩,
    ⟨(some 0), .move (.tmp 33), none, 4, none⟩] []) (.seq (.region 0 [
    ⟨(some 35), .move (.tmp 0), none, 0, none⟩,
    ⟨(some 6), .move (.tmp 35), none, 0, none⟩] []) (.ret)))), [.tmp 6], false⟩
def s42_1 : Sig := ⟨(.cons .zsl (.cons (.v (.int .u64)) (.cons (.v (.int .i64)) .nil))), [], ((.slw 0 1), [.typed (.int .u8)]), []⟩
def F42_1 (L : Lp) (g47 : Int → Option (List UInt8)) (i0 : Int) (base1 : Int) : Option (Unit × ((List Int) × Unit)) :=
  cond (decide (base1 = 10))
  (cond (decide (i0 < 100))
  (Option.bind (g47 (IntKind.wrap .i64 (i0))) fun r2 =>
  cond (smallB (List.length (List.map (fun c => (UInt8.toNat c : Int)) r2)) 1)
  (some ((), ([] ++ (List.map (fun c => (UInt8.toNat c : Int)) r2), ())))
  (none))
  (none))
  (none)
theorem e42_1 (L : Lp) (g47 : Int → Option (List UInt8)) (x : s42_1.args.den) (h : denH s42_1.heap) : nrun [⟨47, s47, fun x h => g47 x.1⟩] L n42_1 s42_1 x h = F42_1 L g47 x.2.1 x.2.2.1 := by kernel_rfl
def f42_1 : Int → Int → Option (Unit × ((List Int) × Unit)) := F42_1 (@LN LOOPS) f47
@[reducible] def t42_1 : Ent := ⟨42, s42_1, fun x h => f42_1 x.2.1 x.2.2.1⟩
theorem k42_1 : chkNF Tryd.prog Tryd.f42 n42_1 = true := by kernel_rfl
theorem ok42_1 : NOk Tryd.prog t42_1 := NOk.body (T := [t47]) mixed (nall_cons ok47 nall_nil) (oneEach_of (by kernel_rfl)) Tryd.func42 k42_1 (by kernel_rfl) (fun x h => e42_1 _ _ x h)
/- internal/strconv.AppendInt -/
def n34 : NFunc := ⟨21, .seq (.region 0 [
    ⟨(some 6), .move (.const (.zsl)), none, 0, none⟩] []) (.seq (.region 0 [
    ⟨(some 8), .move (.tmp 1), none, 0, none⟩,
    ⟨(some 9), .conv .u64 (.tmp 8), none, 0, none⟩,
    ⟨(some 7), .move (.tmp 9), none, 0, none⟩] []) (.seq (.seq (.region 0 [
    ⟨(some 10), .move (.tmp 1), none, 0, none⟩,
    ⟨(some 11), .bin .lss (.tmp 10) (.const (.int .i64 (0))), none, 0, none⟩] []) (.cond (.tmp 11) (.seq (.region 2 [
    ⟨(some 12), .move (.tmp 0), none, 0, none⟩,
    ⟨(some 13), .buildSlice 1 1 true [.int .u8 (0)] [(0, (.const (.int .u8 (45))))], none, 0, none⟩,
    ⟨(some 14), .append 1 1 true (.tmp 12) (.tmp 13), none, 1, none⟩,
    ⟨(some 0), .move (.tmp 14), none, 2, none⟩] []) (.region 0 [
    ⟨(some 15), .move (.tmp 7), none, 0, none⟩,
    ⟨(some 16), .un .neg (.tmp 15), none, 0, none⟩,
    ⟨(some 7), .move (.tmp 16), none, 0, none⟩] [])) (.skip))) (.seq (.region 4 [
    ⟨(some 17), .move (.tmp 0), none, 0, none⟩,
    ⟨(some 18), .move (.tmp 7), none, 0, none⟩,
    ⟨(some 19), .move (.tmp 2), none, 0, none⟩,
    ⟨(some 20), .call (.func 42) [(true, (.tmp 17)), (false, (.tmp 18)), (false, (.tmp 19))] false 4, none, 0, none⟩,
    ⟨(some 6), .move (.tmp 20), none, 4, none⟩] []) (.ret)))), [.tmp 6], false⟩
def s34 : Sig := ⟨(.cons .zsl (.cons (.v (.int .i64)) (.cons (.v (.int .i64)) .nil))), [], ((.slw 0 1), [.typed (.int .u8)]), []⟩
def F34 (L : Lp) (g42 : Int → Int → (List Int) → Option (Unit × (Unit × ((List Int) × Unit)))) (g42_1 : Int → Int → Option (Unit × ((List Int) × Unit))) (i0 : Int) (base1 : Int) : Option (Unit × ((List Int) × Unit)) :=
  cond (decide (i0 < 0))
  (Option.bind (g42 (IntKind.wrap .u64 (0 - (IntKind.wrap .u64 (i0)))) base1 [45]) fun r2 =>
  some ((), (r2.2.2.1, ())))
  (Option.bind (g42_1 (IntKind.wrap .u64 (i0)) base1) fun r3 =>
  some ((), (r3.2.1, ())))
theorem e34 (L : Lp) (g42 : Int → Int → (List Int) → Option (Unit × (Unit × ((List Int) × Unit)))) (g42_1 : Int → Int → Option (Unit × ((List Int) × Unit))) (x : s34.args.den) (h : denH s34.heap) : nrun [⟨42, s42, fun x h => g42 x.2.1 x.2.2.1 h.1⟩, ⟨42, s42_1, fun x h => g42_1 x.2.1 x.2.2.1⟩] L n34 s34 x h = F34 L g42 g42_1 x.2.1 x.2.2.1 := by kernel_rfl
def f34 : Int → Int → Option (Unit × ((List Int) × Unit)) := F34 (@LN LOOPS) f42 f42_1
@[reducible] def t34 : Ent := ⟨34, s34, fun x h => f34 x.2.1 x.2.2.1⟩
theorem k34 : chkNF Tryd.prog Tryd.f34 n34 = true := by kernel_rfl
theorem ok34 : NOk Tryd.prog t34 := NOk.body (T := [t42, t42_1]) mixed (nall_cons ok42 (nall_cons ok42_1 nall_nil)) (oneEach_of (by kernel_rfl)) Tryd.func34 k34 (by kernel_rfl) (fun x h => e34 _ _ _ x h)
/- strconv.AppendInt -/
def n21 : NFunc := ⟨11, .seq (.region 0 [
    ⟨(some 6), .move (.const (.zsl)), none, 0, none⟩] []) (.seq (.region 4 [
    ⟨(some 7), .move (.tmp 0), none, 0, none⟩,
    ⟨(some 8), .move (.tmp 1), none, 0, none⟩,
    ⟨(some 9), .move (.tmp 2), none, 0, none⟩,
    ⟨(some 10), .call (.func 34) [(true, (.tmp 7)), (false, (.tmp 8)), (false, (.tmp 9))] false 4, none, 0, none⟩,
    ⟨(some 6), .move (.tmp 10), none, 4, none⟩] []) (.ret)), [.tmp 6], false⟩
def s21 : Sig := ⟨(.cons .zsl (.cons (.v (.int .i64)) (.cons (.v (.int .i64)) .nil))), [], ((.slw 0 1), [.typed (.int .u8)]), []⟩
def F21 (L : Lp) (g34 : Int → Int → Option (Unit × ((List Int) × Unit))) (i0 : Int) (base1 : Int) : Option (Unit × ((List Int) × Unit)) :=
  Option.bind (g34 i0 base1) fun r2 =>
  some ((), (r2.2.1, ()))
theorem e21 (L : Lp) (g34 : Int → Int → Option (Unit × ((List Int) × Unit))) (x : s21.args.den) (h : denH s21.heap) : nrun [⟨34, s34, fun x h => g34 x.2.1 x.2.2.1⟩] L n21 s21 x h = F21 L g34 x.2.1 x.2.2.1 := by kernel_rfl
def f21 : Int → Int → Option (Unit × ((List Int) × Unit)) := F21 (@LN LOOPS) f34
@[reducible] def t21 : Ent := ⟨21, s21, fun x h => f21 x.2.1 x.2.2.1⟩
theorem k21 : chkNF Tryd.prog Tryd.f21 n21 = true := by kernel_rfl
theorem ok21 : NOk Tryd.prog t21 := NOk.body (T := [t34]) mixed (nall_cons ok34 nall_nil) (oneEach_of (by kernel_rfl)) Tryd.func21 k21 (by kernel_rfl) (fun x h => e21 _ _ x h)
/- drayage/span.pairs -/
def n20 : NFunc := ⟨26, .seq (.region 0 [
    ⟨(some 4), .move (.const (.zsl)), none, 0, none⟩] []) (.seq (.seq (.region 0 [
    ⟨(some 7), .move (.tmp 1), none, 0, none⟩,
    ⟨(some 8), .len (.tmp 7), none, 0, none⟩,
    ⟨(some 9), .move (.const (.int .i64 (0))), none, 0, none⟩] []) (.block 0 (.loopU [0, 7, 8, 9] 3 (.seq (.region 0 [
    ⟨(some 10), .bin .lss (.tmp 9) (.tmp 8), none, 0, none⟩] []) (.seq (.cond (.tmp 10) (.skip) (.exit 0)) (.seq (.block 1 (.seq (.region 0 [
    ⟨(some 11), .indexSl 1 (.tmp 7) (.tmp 9), none, 0, none⟩,
    ⟨(some 12), .load false 1 (.tmp 11), none, 0, none⟩,
    ⟨(some 6), .move (.tmp 12), none, 0, none⟩] []) (.region 2 [
    ⟨(some 13), .move (.tmp 0), none, 0, none⟩,
    ⟨(some 14), .move (.tmp 6), none, 0, none⟩,
    ⟨(some 15), .bin .quo (.tmp 14) (.const (.int .i64 (10))), none, 0, none⟩,
    ⟨(some 16), .conv .u8 (.tmp 15), none, 0, none⟩,
    ⟨(some 17), .bin .add (.const (.int .u8 (48))) (.tmp 16), none, 0, none⟩,
    ⟨(some 18), .move (.tmp 6), none, 0, none⟩,
    ⟨(some 19), .bin .rem (.tmp 18) (.const (.int .i64 (10))), none, 0, none⟩,
    ⟨(some 20), .conv .u8 (.tmp 19), none, 0, none⟩,
    ⟨(some 21), .bin .add (.const (.int .u8 (48))) (.tmp 20), none, 0, none⟩,
    ⟨(some 22), .buildSlice 1 3 true [.int .u8 (0)] [(0, (.const (.int .u8 (58)))), (1, (.tmp 17)), (2, (.tmp 21))], none, 0, none⟩,
    ⟨(some 23), .append 1 1 true (.tmp 13) (.tmp 22), none, 1, none⟩,
    ⟨(some 0), .move (.tmp 23), none, 2, none⟩] []))) (.region 0 [
    ⟨(some 24), .bin .add (.tmp 9) (.const (.int .i64 (1))), none, 0, none⟩,
    ⟨(some 9), .move (.tmp 24), none, 0, none⟩] []))))))) (.seq (.region 0 [
    ⟨(some 25), .move (.tmp 0), none, 0, none⟩,
    ⟨(some 4), .move (.tmp 25), none, 0, none⟩] []) (.ret))), [.tmp 4], false⟩
def s20 : Sig := ⟨(.cons (.slw 0 1) (.cons (.rows 1 (.cons (.cons (.v (.int .i64)) .nil) (.cons (.cons (.v (.int .i64)) .nil) .nil))) .nil)), [.typed (.int .u8)], ((.slw 1 1), [.dead, .typed (.int .u8)]), []⟩
def F20 (L : Lp)  (al0 : Int) (al1 : Int) (a2 : (List Int)) : Option (Unit × (Unit × ((List Int) × Unit))) :=
  let v3 := IntKind.wrap .u8 (48 + (IntKind.wrap .u8 (IntKind.wrap .i64 (Int.tdiv al0 10))))
  cond (smallB ((List.length a2) + 3) 1)
  (let v4 := IntKind.wrap .u8 (48 + (IntKind.wrap .u8 (IntKind.wrap .i64 (Int.tdiv al1 10))))
  cond (smallB ((List.length (a2 ++ [58, v3, IntKind.wrap .u8 (48 + (IntKind.wrap .u8 (Int.tmod al0 10)))])) + 3) 1)
  (some ((), ((), (a2 ++ [58, v3, IntKind.wrap .u8 (48 + (IntKind.wrap .u8 (Int.tmod al0 10)))]) ++ [58, v4, IntKind.wrap .u8 (48 + (IntKind.wrap .u8 (Int.tmod al1 10)))], ())))
  (none))
  (none)
theorem e20 (L : Lp)  (x : s20.args.den) (h : denH s20.heap) : nrun [] L n20 s20 x h = F20 L  x.2.1.1.1 x.2.1.2.1.1 h.1 := by kernel_rfl
def f20 : Int → Int → (List Int) → Option (Unit × (Unit × ((List Int) × Unit))) := F20 (@LN LOOPS) 
@[reducible] def t20 : Ent := ⟨20, s20, fun x h => f20 x.2.1.1.1 x.2.1.2.1.1 h.1⟩
theorem k20 : chkNF Tryd.prog Tryd.f20 n20 = true := by kernel_rfl
theorem ok20 : NOk Tryd.prog t20 := NOk.body (T := []) mixed nall_nil (oneEach_of (by kernel_rfl)) Tryd.func20 k20 (by kernel_rfl) (fun x h => e20 _  x h)
/- drayage/span.Text -/
def n10 : NFunc := ⟨26, .seq (.region 0 [
    ⟨(some 2), .move (.const (.str [])), none, 0, none⟩,
    ⟨(some 3), .move (.const (.int .i64 (0))), none, 0, none⟩] []) (.seq (.seq (.region 0 [
    ⟨(some 7), .move (.tmp 0), none, 0, none⟩,
    ⟨(some 8), .bin .lss (.tmp 7) (.const (.int .i64 (0))), none, 0, none⟩,
    ⟨(some 9), .move (.tmp 8), none, 0, none⟩,
    ⟨(some 10), .move (.tmp 0), (some (9, false)), 0, none⟩,
    ⟨(some 11), .bin .gtr (.tmp 10) (.const (.int .i64 (65536))), (some (9, false)), 0, none⟩,
    ⟨(some 12), .pick (.tmp 9) (.const (.bool true)) (.tmp 11), none, 0, none⟩] []) (.cond (.tmp 12) (.seq (.region 0 [
    ⟨(some 2), .move (.const (.str [])), none, 0, none⟩,
    ⟨(some 3), .move (.const (.int .i64 (2))), none, 0, none⟩] []) (.ret)) (.skip))) (.seq (.region 4 [
    ⟨(some 14), .move (.tmp 0), none, 0, none⟩,
    ⟨(some 15), .call (.func 8) [(false, (.tmp 14))] false 4, none, 0, none⟩,
    ⟨(some 13), .move (.tmp 15), none, 4, none⟩,
    ⟨(some 16), .extract (.tmp 13) 0, none, 4, none⟩,
    ⟨(some 17), .extract (.tmp 13) 1, none, 4, none⟩,
    ⟨(some 18), .extract (.tmp 13) 2, none, 4, none⟩,
    ⟨(some 4), .move (.tmp 16), none, 4, none⟩,
    ⟨(some 5), .move (.tmp 17), none, 4, none⟩,
    ⟨(some 6), .move (.tmp 18), none, 4, none⟩] []) (.seq (.region 9 [
    ⟨(some 19), .move (.tmp 4), none, 0, none⟩,
    ⟨(some 20), .call (.func 21) [(true, (.const (.zsl))), (false, (.tmp 19)), (false, (.const (.int .i64 (10))))] false 4, none, 0, none⟩,
    ⟨(some 21), .move (.tmp 5), none, 4, none⟩,
    ⟨(some 22), .move (.tmp 6), none, 4, none⟩,
    ⟨(some 23), .buildSlice 1 2 true [.int .i64 (0)] [(0, (.tmp 21)), (1, (.tmp 22))], none, 4, none⟩,
    ⟨(some 24), .call (.func 20) [(true, (.tmp 20)), (false, (.tmp 23))] false 4, none, 5, none⟩,
    ⟨(some 25), .load false 0 (.tmp 24), none, 9, none⟩,
    ⟨(some 2), .move (.tmp 25), none, 9, none⟩,
    ⟨(some 3), .move (.const (.int .i64 (0))), none, 9, none⟩] []) (.ret)))), [.tmp 2, .tmp 3], true⟩
def s10 : Sig := ⟨(.cons (.v (.int .i64)) .nil), [], ((.tup (.cons (.v .str) (.cons (.v (.int .i64)) .nil))), []), []⟩
def F10 (L : Lp) (g8 : Int → Option (Int × (Int × (Int × Unit)))) (g21 : Int → Int → Option (Unit × ((List Int) × Unit))) (g20 : Int → Int → (List Int) → Option (Unit × (Unit × ((List Int) × Unit)))) (an0 : Int) : Option ((List UInt8) × (Int × Unit)) :=
  cond (decide (an0 < 0))
  (some (([] : List UInt8), 2, ()))
  (cond (decide (65536 < an0))
  (some (([] : List UInt8), 2, ()))
  (Option.bind (g8 an0) fun r1 =>
  Option.bind (g21 r1.1 10) fun r2 =>
  Option.bind (g20 r1.2.1 r1.2.2.1 r2.2.1) fun r3 =>
  Option.bind (nbytes r3.2.2.1) fun s4 =>
  some (s4, 0, ())))
theorem e10 (L : Lp) (g8 : Int → Option (Int × (Int × (Int × Unit)))) (g21 : Int → Int → Option (Unit × ((List Int) × Unit))) (g20 : Int → Int → (List Int) → Option (Unit × (Unit × ((List Int) × Unit)))) (x : s10.args.den) (h : denH s10.heap) : nrun [⟨8, s8, fun x h => g8 x.1⟩, ⟨21, s21, fun x h => g21 x.2.1 x.2.2.1⟩, ⟨20, s20, fun x h => g20 x.2.1.1.1 x.2.1.2.1.1 h.1⟩] L n10 s10 x h = F10 L g8 g21 g20 x.1 := by kernel_rfl
def f10 : Int → Option ((List UInt8) × (Int × Unit)) := F10 (@LN LOOPS) f8 f21 f20
@[reducible] def t10 : Ent := ⟨10, s10, fun x h => f10 x.1⟩
theorem k10 : chkNF Tryd.prog Tryd.f10 n10 = true := by kernel_rfl
theorem ok10 : NOk Tryd.prog t10 := NOk.body (T := [t8, t21, t20]) mixed (nall_cons ok8 (nall_cons ok21 (nall_cons ok20 nall_nil))) (oneEach_of (by kernel_rfl)) Tryd.func10 k10 (by kernel_rfl) (fun x h => e10 _ _ _ _ x h)
/- internal/stringslite.Index -/
def s43 : Sig := ⟨(.cons (.v .str) (.cons (.v .str) .nil)), [], ((.v (.int .i64)), []), []⟩
def f43 : (List UInt8) → (List UInt8) → Option Int := strIdx
@[reducible] def t43 : Ent := ⟨43, s43, fun x h => f43 x.1 x.2.1⟩
theorem ok43 : NOk Tryd.prog t43 := ext43
/- internal/stringslite.Cut -/
def n35 : NFunc := ⟨23, .seq (.region 0 [
    ⟨(some 4), .move (.const (.str [])), none, 0, none⟩,
    ⟨(some 5), .move (.const (.str [])), none, 0, none⟩,
    ⟨(some 6), .move (.const (.bool false)), none, 0, none⟩] []) (.seq (.seq (.region 4 [
    ⟨(some 8), .move (.tmp 0), none, 0, none⟩,
    ⟨(some 9), .move (.tmp 1), none, 0, none⟩,
    ⟨(some 10), .call (.func 43) [(false, (.tmp 8)), (false, (.tmp 9))] false 4, none, 0, none⟩,
    ⟨(some 7), .move (.tmp 10), none, 4, none⟩] []) (.seq (.region 0 [
    ⟨(some 11), .move (.tmp 7), none, 0, none⟩,
    ⟨(some 12), .bin .geq (.tmp 11) (.const (.int .i64 (0))), none, 0, none⟩] []) (.cond (.tmp 12) (.seq (.region 0 [
    ⟨(some 13), .move (.tmp 0), none, 0, (some ([], none))⟩,
    ⟨(some 14), .move (.tmp 7), none, 0, (some ([], none))⟩,
    ⟨(some 15), .sliceStr (.tmp 13) none (some (.tmp 14)), none, 0, (some ([], none))⟩,
    ⟨(some 16), .move (.tmp 0), none, 0, (some ([], none))⟩,
    ⟨(some 17), .move (.tmp 7), none, 0, (some ([], none))⟩,
    ⟨(some 18), .move (.tmp 1), none, 0, (some ([], none))⟩,
    ⟨(some 19), .lenStr (.tmp 18), none, 0, (some ([], none))⟩,
    ⟨(some 20), .bin .add (.tmp 17) (.tmp 19), none, 0, (some ([], none))⟩,
    ⟨(some 21), .sliceStr (.tmp 16) (some (.tmp 20)) none, none, 0, (some ([], none))⟩,
    ⟨(some 4), .move (.tmp 15), none, 0, (some ([], none))⟩,
    ⟨(some 5), .move (.tmp 21), none, 0, (some ([], none))⟩,
    ⟨(some 6), .move (.const (.bool true)), none, 0, (some ([], none))⟩] []) (.ret)) (.skip)))) (.seq (.region 0 [
    ⟨(some 22), .move (.tmp 0), none, 0, none⟩,
    ⟨(some 4), .move (.tmp 22), none, 0, none⟩,
    ⟨(some 5), .move (.const (.str [])), none, 0, none⟩,
    ⟨(some 6), .move (.const (.bool false)), none, 0, none⟩] []) (.ret))), [.tmp 4, .tmp 5, .tmp 6], true⟩
def s35 : Sig := ⟨(.cons (.v .str) (.cons (.v .str) .nil)), [], ((.tup (.cons (.v .str) (.cons (.v .str) (.cons (.v .bool) .nil)))), []), []⟩
def F35 (L : Lp) (g43 : (List UInt8) → (List UInt8) → Option Int) (as0 : (List UInt8)) (sep1 : (List UInt8)) : Option ((List UInt8) × ((List UInt8) × (Bool × Unit))) :=
  Option.bind (g43 as0 sep1) fun r2 =>
  cond (decide (0 ≤ r2))
  (cond (decide (0 ≤ r2))
  (cond (decide ((Int.toNat r2) ≤ (List.length as0)))
  (cond (decide (0 ≤ (IntKind.wrap .i64 (r2 + (List.length sep1 : Int)))))
  (cond (decide ((Int.toNat (IntKind.wrap .i64 (r2 + (List.length sep1 : Int)))) ≤ (List.length as0)))
  (some (List.take (Int.toNat r2) as0, List.drop (Int.toNat (IntKind.wrap .i64 (r2 + (List.length sep1 : Int)))) as0, true, ()))
  (none))
  (none))
  (none))
  (none))
  (some (as0, ([] : List UInt8), false, ()))
theorem e35 (L : Lp) (g43 : (List UInt8) → (List UInt8) → Option Int) (x : s35.args.den) (h : denH s35.heap) : nrun [⟨43, s43, fun x h => g43 x.1 x.2.1⟩] L n35 s35 x h = F35 L g43 x.1 x.2.1 := by kernel_rfl
def f35 : (List UInt8) → (List UInt8) → Option ((List UInt8) × ((List UInt8) × (Bool × Unit))) := F35 (@LN LOOPS) f43
@[reducible] def t35 : Ent := ⟨35, s35, fun x h => f35 x.1 x.2.1⟩
theorem k35 : chkNF Tryd.prog Tryd.f35 n35 = true := by kernel_rfl
theorem ok35 : NOk Tryd.prog t35 := NOk.body (T := [t43]) mixed (nall_cons ok43 nall_nil) (oneEach_of (by kernel_rfl)) Tryd.func35 k35 (by kernel_rfl) (fun x h => e35 _ _ x h)
/- strings.Cut -/
def n22 : NFunc := ⟨13, .seq (.region 0 [
    ⟨(some 4), .move (.const (.str [])), none, 0, none⟩,
    ⟨(some 5), .move (.const (.str [])), none, 0, none⟩,
    ⟨(some 6), .move (.const (.bool false)), none, 0, none⟩] []) (.seq (.region 4 [
    ⟨(some 7), .move (.tmp 0), none, 0, none⟩,
    ⟨(some 8), .move (.tmp 1), none, 0, none⟩,
    ⟨(some 9), .call (.func 35) [(false, (.tmp 7)), (false, (.tmp 8))] false 4, none, 0, none⟩,
    ⟨(some 10), .extract (.tmp 9) 0, none, 4, none⟩,
    ⟨(some 11), .extract (.tmp 9) 1, none, 4, none⟩,
    ⟨(some 12), .extract (.tmp 9) 2, none, 4, none⟩,
    ⟨(some 4), .move (.tmp 10), none, 4, none⟩,
    ⟨(some 5), .move (.tmp 11), none, 4, none⟩,
    ⟨(some 6), .move (.tmp 12), none, 4, none⟩] []) (.ret)), [.tmp 4, .tmp 5, .tmp 6], true⟩
def s22 : Sig := ⟨(.cons (.v .str) (.cons (.v .str) .nil)), [], ((.tup (.cons (.v .str) (.cons (.v .str) (.cons (.v .bool) .nil)))), []), []⟩
def F22 (L : Lp) (g35 : (List UInt8) → (List UInt8) → Option ((List UInt8) × ((List UInt8) × (Bool × Unit)))) (as0 : (List UInt8)) (sep1 : (List UInt8)) : Option ((List UInt8) × ((List UInt8) × (Bool × Unit))) :=
  Option.bind (g35 as0 sep1) fun r2 =>
  some (r2.1, r2.2.1, r2.2.2.1, ())
theorem e22 (L : Lp) (g35 : (List UInt8) → (List UInt8) → Option ((List UInt8) × ((List UInt8) × (Bool × Unit)))) (x : s22.args.den) (h : denH s22.heap) : nrun [⟨35, s35, fun x h => g35 x.1 x.2.1⟩] L n22 s22 x h = F22 L g35 x.1 x.2.1 := by kernel_rfl
def f22 : (List UInt8) → (List UInt8) → Option ((List UInt8) × ((List UInt8) × (Bool × Unit))) := F22 (@LN LOOPS) f35
@[reducible] def t22 : Ent := ⟨22, s22, fun x h => f22 x.1 x.2.1⟩
theorem k22 : chkNF Tryd.prog Tryd.f22 n22 = true := by kernel_rfl
theorem ok22 : NOk Tryd.prog t22 := NOk.body (T := [t35]) mixed (nall_cons ok35 nall_nil) (oneEach_of (by kernel_rfl)) Tryd.func22 k22 (by kernel_rfl) (fun x h => e22 _ _ x h)
/- drayage/span.number -/
def n23 : NFunc := ⟨20, .seq (.region 0 [
    ⟨(some 2), .move (.const (.int .i64 (0))), none, 0, none⟩] []) (.seq (.region 0 [
    ⟨(some 3), .move (.const (.int .i64 (0))), none, 0, none⟩] []) (.seq (.seq (.region 0 [
    ⟨(some 4), .move (.const (.int .i64 (0))), none, 0, none⟩] []) (.block 0 (.loop [0, 3, 4] ⟨[(3, (.v (.int .i64))), (4, (.v (.int .i64)))], [0], []⟩ (.seq (.seq (.region 0 [
    ⟨(some 5), .move (.tmp 4), none, 0, none⟩,
    ⟨(some 6), .move (.tmp 0), none, 0, none⟩,
    ⟨(some 7), .lenStr (.tmp 6), none, 0, none⟩,
    ⟨(some 8), .bin .lss (.tmp 5) (.tmp 7), none, 0, none⟩] []) (.cond (.tmp 8) (.skip) (.exit 0))) (.seq (.block 1 (.region 0 [
    ⟨(some 11), .move (.tmp 3), none, 0, none⟩,
    ⟨(some 12), .bin .mul (.const (.int .i64 (10))) (.tmp 11), none, 0, none⟩,
    ⟨(some 13), .move (.tmp 0), none, 0, none⟩,
    ⟨(some 14), .move (.tmp 4), none, 0, none⟩,
    ⟨(some 15), .indexStr (.tmp 13) (.tmp 14), none, 0, none⟩,
    ⟨(some 16), .conv .i64 (.tmp 15), none, 0, none⟩,
    ⟨(some 17), .bin .add (.tmp 12) (.tmp 16), none, 0, none⟩,
    ⟨(some 18), .bin .sub (.tmp 17) (.const (.int .i64 (48))), none, 0, none⟩,
    ⟨(some 3), .move (.tmp 18), none, 0, none⟩] [])) (.region 0 [
    ⟨(some 9), .move (.tmp 4), none, 0, none⟩,
    ⟨(some 10), .bin .add (.tmp 9) (.const (.int .i64 (1))), none, 0, none⟩,
    ⟨(some 4), .move (.tmp 10), none, 0, none⟩] [])))))) (.seq (.region 0 [
    ⟨(some 19), .move (.tmp 3), none, 0, none⟩,
    ⟨(some 2), .move (.tmp 19), none, 0, none⟩] []) (.ret)))), [.tmp 2], true⟩
def s23 : Sig := ⟨(.cons (.v .str) .nil), [], ((.v (.int .i64)), []), []⟩
def l23_0 (digits0 : (List UInt8)) (nx2 : ((Int × (Int × Unit)) × Unit) → Option Int) (zn3 : Int) (i4 : Int) : Option Int :=
  cond (decide (i4 < (List.length digits0 : Int)))
  (cond (decide (0 ≤ i4))
  (Option.bind (digits0[Int.toNat i4]?) fun c5 =>
  let v6 := IntKind.wrap .i64 ((IntKind.wrap .i64 (10 * zn3)) + (IntKind.wrap .i64 ((c5.toNat : Int))))
  nx2 ((IntKind.wrap .i64 (v6 - 48), IntKind.wrap .i64 (i4 + 1), ()), ()))
  (none))
  (some zn3)
def F23 (L : Lp)  (digits0 : (List UInt8)) : Option Int :=
  L (fun (s1 : ((Int × (Int × Unit)) × Unit)) nx2 => l23_0 digits0 nx2 s1.1.1 s1.1.2.1) ((0, 0, ()), ())
theorem e23 (L : Lp)  (x : s23.args.den) (h : denH s23.heap) : nrun [] L n23 s23 x h = F23 L  x.1 := by kernel_rfl
def f23 : (List UInt8) → Option Int := F23 (@LN LOOPS) 
@[reducible] def t23 : Ent := ⟨23, s23, fun x h => f23 x.1⟩
theorem k23 : chkNF Tryd.prog Tryd.f23 n23 = true := by kernel_rfl
theorem ok23 : NOk Tryd.prog t23 := NOk.body (T := []) mixed nall_nil (oneEach_of (by kernel_rfl)) Tryd.func23 k23 (by kernel_rfl) (fun x h => e23 _  x h)
/- drayage/span.Read -/
def n11 : NFunc := ⟨61, .seq (.region 0 [
    ⟨(some 2), .move (.const (.int .i64 (0))), none, 0, none⟩,
    ⟨(some 3), .move (.const (.int .i64 (0))), none, 0, none⟩] []) (.seq (.region 4 [
    ⟨(some 14), .move (.tmp 0), none, 0, none⟩,
    ⟨(some 15), .call (.func 22) [(false, (.tmp 14)), (false, (.const (.str [58])))] false 4, none, 0, none⟩,
    ⟨(some 13), .move (.tmp 15), none, 4, none⟩,
    ⟨(some 16), .extract (.tmp 13) 0, none, 4, none⟩,
    ⟨(some 17), .extract (.tmp 13) 1, none, 4, none⟩,
    ⟨(some 18), .extract (.tmp 13) 2, none, 4, none⟩,
    ⟨(some 4), .move (.tmp 16), none, 4, none⟩,
    ⟨(some 5), .move (.tmp 17), none, 4, none⟩,
    ⟨(some 6), .move (.tmp 18), none, 4, none⟩] []) (.seq (.region 4 [
    ⟨(some 20), .move (.tmp 5), none, 0, none⟩,
    ⟨(some 21), .call (.func 22) [(false, (.tmp 20)), (false, (.const (.str [58])))] false 4, none, 0, none⟩,
    ⟨(some 19), .move (.tmp 21), none, 4, none⟩,
    ⟨(some 22), .extract (.tmp 19) 0, none, 4, none⟩,
    ⟨(some 23), .extract (.tmp 19) 1, none, 4, none⟩,
    ⟨(some 24), .extract (.tmp 19) 2, none, 4, none⟩,
    ⟨(some 7), .move (.tmp 22), none, 4, none⟩,
    ⟨(some 8), .move (.tmp 23), none, 4, none⟩,
    ⟨(some 9), .move (.tmp 24), none, 4, none⟩] []) (.seq (.seq (.region 0 [
    ⟨(some 25), .move (.tmp 4), none, 0, none⟩,
    ⟨(some 26), .lenStr (.tmp 25), none, 0, none⟩,
    ⟨(some 27), .bin .gtr (.tmp 26) (.const (.int .i64 (2))), none, 0, none⟩,
    ⟨(some 28), .move (.tmp 27), none, 0, none⟩,
    ⟨(some 29), .move (.tmp 7), (some (28, false)), 0, none⟩,
    ⟨(some 30), .lenStr (.tmp 29), (some (28, false)), 0, none⟩,
    ⟨(some 31), .bin .neq (.tmp 30) (.const (.int .i64 (2))), (some (28, false)), 0, none⟩,
    ⟨(some 32), .pick (.tmp 28) (.const (.bool true)) (.tmp 31), none, 0, none⟩,
    ⟨(some 33), .move (.tmp 32), none, 0, none⟩,
    ⟨(some 34), .move (.tmp 8), (some (33, false)), 0, none⟩,
    ⟨(some 35), .lenStr (.tmp 34), (some (33, false)), 0, none⟩,
    ⟨(some 36), .bin .neq (.tmp 35) (.const (.int .i64 (2))), (some (33, false)), 0, none⟩,
    ⟨(some 37), .pick (.tmp 33) (.const (.bool true)) (.tmp 36), none, 0, none⟩] []) (.cond (.tmp 37) (.seq (.region 0 [
    ⟨(some 2), .move (.const (.int .i64 (0))), none, 0, none⟩,
    ⟨(some 3), .move (.const (.int .i64 (11))), none, 0, none⟩] []) (.ret)) (.skip))) (.seq (.region 12 [
    ⟨(some 38), .move (.tmp 4), none, 0, none⟩,
    ⟨(some 39), .call (.func 23) [(false, (.tmp 38))] false 4, none, 0, none⟩,
    ⟨(some 40), .bin .mul (.tmp 39) (.const (.int .i64 (3600))), none, 4, none⟩,
    ⟨(some 41), .move (.tmp 7), none, 4, none⟩,
    ⟨(some 42), .call (.func 23) [(false, (.tmp 41))] false 4, none, 4, none⟩,
    ⟨(some 43), .bin .mul (.tmp 42) (.const (.int .i64 (60))), none, 8, none⟩,
    ⟨(some 44), .bin .add (.tmp 40) (.tmp 43), none, 8, none⟩,
    ⟨(some 45), .move (.tmp 8), none, 8, none⟩,
    ⟨(some 46), .call (.func 23) [(false, (.tmp 45))] false 4, none, 8, none⟩,
    ⟨(some 47), .bin .add (.tmp 44) (.tmp 46), none, 12, none⟩,
    ⟨(some 10), .move (.tmp 47), none, 12, none⟩] []) (.seq (.region 4 [
    ⟨(some 49), .move (.tmp 10), none, 0, none⟩,
    ⟨(some 50), .call (.func 10) [(false, (.tmp 49))] false 4, none, 0, none⟩,
    ⟨(some 48), .move (.tmp 50), none, 4, none⟩,
    ⟨(some 51), .extract (.tmp 48) 0, none, 4, none⟩,
    ⟨(some 52), .extract (.tmp 48) 1, none, 4, none⟩,
    ⟨(some 11), .move (.tmp 51), none, 4, none⟩,
    ⟨(some 12), .move (.tmp 52), none, 4, none⟩] []) (.seq (.seq (.region 0 [
    ⟨(some 53), .move (.tmp 12), none, 0, none⟩,
    ⟨(some 54), .bin .neq (.tmp 53) (.const (.int .i64 (0))), none, 0, none⟩,
    ⟨(some 55), .move (.tmp 54), none, 0, none⟩,
    ⟨(some 56), .move (.tmp 11), (some (55, false)), 0, none⟩,
    ⟨(some 57), .move (.tmp 0), (some (55, false)), 0, none⟩,
    ⟨(some 58), .bin .neq (.tmp 56) (.tmp 57), (some (55, false)), 0, none⟩,
    ⟨(some 59), .pick (.tmp 55) (.const (.bool true)) (.tmp 58), none, 0, none⟩] []) (.cond (.tmp 59) (.seq (.region 0 [
    ⟨(some 2), .move (.const (.int .i64 (0))), none, 0, none⟩,
    ⟨(some 3), .move (.const (.int .i64 (11))), none, 0, none⟩] []) (.ret)) (.skip))) (.seq (.region 0 [
    ⟨(some 60), .move (.tmp 10), none, 0, none⟩,
    ⟨(some 2), .move (.tmp 60), none, 0, none⟩,
    ⟨(some 3), .move (.const (.int .i64 (0))), none, 0, none⟩] []) (.ret)))))))), [.tmp 2, .tmp 3], true⟩
def s11 : Sig := ⟨(.cons (.v .str) .nil), [], ((.tup (.cons (.v (.int .i64)) (.cons (.v (.int .i64)) .nil))), []), []⟩
def F11 (L : Lp) (g22 : (List UInt8) → (List UInt8) → Option ((List UInt8) × ((List UInt8) × (Bool × Unit)))) (g23 : (List UInt8) → Option Int) (g10 : Int → Option ((List UInt8) × (Int × Unit))) (as0 : (List UInt8)) : Option (Int × (Int × Unit)) :=
  Option.bind (g22 as0 ([58] : List UInt8)) fun r1 =>
  Option.bind (g22 r1.2.1 ([58] : List UInt8)) fun r2 =>
  cond (decide (2 < (List.length r1.1 : Int)))
  (some (0, 11, ()))
  (cond (!decide ((List.length r2.1 : Int) = 2))
  (some (0, 11, ()))
  (cond (!decide ((List.length r2.2.1 : Int) = 2))
  (some (0, 11, ()))
  (Option.bind (g23 r1.1) fun r3 =>
  Option.bind (g23 r2.1) fun r4 =>
  let v5 := IntKind.wrap .i64 ((IntKind.wrap .i64 (r3 * 3600)) + (IntKind.wrap .i64 (r4 * 60)))
  Option.bind (g23 r2.2.1) fun r6 =>
  Option.bind (g10 (IntKind.wrap .i64 (v5 + r6))) fun r7 =>
  cond (!decide (r7.2.1 = 0))
  (some (0, 11, ()))
  (cond (!decide (r7.1 = as0))
  (some (0, 11, ()))
  (some (IntKind.wrap .i64 (v5 + r6), 0, ()))))))
theorem e11 (L : Lp) (g22 : (List UInt8) → (List UInt8) → Option ((List UInt8) × ((List UInt8) × (Bool × Unit)))) (g23 : (List UInt8) → Option Int) (g10 : Int → Option ((List UInt8) × (Int × Unit))) (x : s11.args.den) (h : denH s11.heap) : nrun [⟨22, s22, fun x h => g22 x.1 x.2.1⟩, ⟨23, s23, fun x h => g23 x.1⟩, ⟨10, s10, fun x h => g10 x.1⟩] L n11 s11 x h = F11 L g22 g23 g10 x.1 := by kernel_rfl
def f11 : (List UInt8) → Option (Int × (Int × Unit)) := F11 (@LN LOOPS) f22 f23 f10
@[reducible] def t11 : Ent := ⟨11, s11, fun x h => f11 x.1⟩
theorem k11 : chkNF Tryd.prog Tryd.f11 n11 = true := by kernel_rfl
theorem ok11 : NOk Tryd.prog t11 := NOk.body (T := [t22, t23, t10]) mixed (nall_cons ok22 (nall_cons ok23 (nall_cons ok10 nall_nil))) (oneEach_of (by kernel_rfl)) Tryd.func11 k11 (by kernel_rfl) (fun x h => e11 _ _ _ _ x h)
/- drayage/drayagelaw04.awake -/
def n7 : NFunc := ⟨27, .seq (.region 0 [
    ⟨(some 0), .move (.const (.bool false)), none, 0, none⟩] []) (.seq (.region 4 [
    ⟨(some 6), .call (.func 10) [(false, (.const (.int .i64 (3723))))] false 4, none, 0, none⟩,
    ⟨(some 5), .move (.tmp 6), none, 4, none⟩,
    ⟨(some 7), .extract (.tmp 5) 0, none, 4, none⟩,
    ⟨(some 8), .extract (.tmp 5) 1, none, 4, none⟩,
    ⟨(some 1), .move (.tmp 7), none, 4, none⟩,
    ⟨(some 2), .move (.tmp 8), none, 4, none⟩] []) (.seq (.region 4 [
    ⟨(some 10), .call (.func 11) [(false, (.const (.str [48, 58, 48, 48, 58, 48, 55])))] false 4, none, 0, none⟩,
    ⟨(some 9), .move (.tmp 10), none, 4, none⟩,
    ⟨(some 11), .extract (.tmp 9) 0, none, 4, none⟩,
    ⟨(some 12), .extract (.tmp 9) 1, none, 4, none⟩,
    ⟨(some 3), .move (.tmp 11), none, 4, none⟩,
    ⟨(some 4), .move (.tmp 12), none, 4, none⟩] []) (.seq (.region 0 [
    ⟨(some 13), .move (.tmp 1), none, 0, none⟩,
    ⟨(some 14), .bin .eql (.tmp 13) (.const (.str [49, 58, 48, 50, 58, 48, 51])), none, 0, none⟩,
    ⟨(some 15), .move (.tmp 14), none, 0, none⟩,
    ⟨(some 16), .move (.tmp 2), (some (15, true)), 0, none⟩,
    ⟨(some 17), .bin .eql (.tmp 16) (.const (.int .i64 (0))), (some (15, true)), 0, none⟩,
    ⟨(some 18), .pick (.tmp 15) (.tmp 17) (.const (.bool false)), none, 0, none⟩,
    ⟨(some 19), .move (.tmp 18), none, 0, none⟩,
    ⟨(some 20), .move (.tmp 3), (some (19, true)), 0, none⟩,
    ⟨(some 21), .bin .eql (.tmp 20) (.const (.int .i64 (7))), (some (19, true)), 0, none⟩,
    ⟨(some 22), .pick (.tmp 19) (.tmp 21) (.const (.bool false)), none, 0, none⟩,
    ⟨(some 23), .move (.tmp 22), none, 0, none⟩,
    ⟨(some 24), .move (.tmp 4), (some (23, true)), 0, none⟩,
    ⟨(some 25), .bin .eql (.tmp 24) (.const (.int .i64 (0))), (some (23, true)), 0, none⟩,
    ⟨(some 26), .pick (.tmp 23) (.tmp 25) (.const (.bool false)), none, 0, none⟩,
    ⟨(some 0), .move (.tmp 26), none, 0, none⟩] []) (.ret)))), [.tmp 0], true⟩
def s7 : Sig := ⟨.nil, [], ((.v .bool), []), []⟩
def F7 (L : Lp) (g10 : Int → Option ((List UInt8) × (Int × Unit))) (g11 : (List UInt8) → Option (Int × (Int × Unit)))  : Option Bool :=
  Option.bind (g10 3723) fun r0 =>
  Option.bind (g11 ([48, 58, 48, 48, 58, 48, 55] : List UInt8)) fun r1 =>
  cond (decide (r0.1 = ([49, 58, 48, 50, 58, 48, 51] : List UInt8)))
  (cond (decide (r0.2.1 = 0))
  (cond (decide (r1.1 = 7))
  (some (decide (r1.2.1 = 0)))
  (some false))
  (some false))
  (some false)
theorem e7 (L : Lp) (g10 : Int → Option ((List UInt8) × (Int × Unit))) (g11 : (List UInt8) → Option (Int × (Int × Unit))) (x : s7.args.den) (h : denH s7.heap) : nrun [⟨10, s10, fun x h => g10 x.1⟩, ⟨11, s11, fun x h => g11 x.1⟩] L n7 s7 x h = F7 L g10 g11  := by kernel_rfl
def f7 : Option Bool := F7 (@LN LOOPS) f10 f11
@[reducible] def t7 : Ent := ⟨7, s7, fun x h => f7 ⟩
theorem k7 : chkNF Tryd.prog Tryd.f7 n7 = true := by kernel_rfl
theorem ok7 : NOk Tryd.prog t7 := NOk.body (T := [t10, t11]) mixed (nall_cons ok10 (nall_cons ok11 nall_nil)) (oneEach_of (by kernel_rfl)) Tryd.func7 k7 (by kernel_rfl) (fun x h => e7 _ _ _ x h)
/- drayage/drayageref04.Parts -/
def n9 : NFunc := ⟨19, .seq (.region 0 [
    ⟨(some 2), .move (.const (.int .i64 (0))), none, 0, none⟩,
    ⟨(some 3), .move (.const (.int .i64 (0))), none, 0, none⟩,
    ⟨(some 4), .move (.const (.int .i64 (0))), none, 0, none⟩] []) (.seq (.seq (.region 0 [
    ⟨(some 6), .move (.tmp 0), none, 0, none⟩,
    ⟨(some 7), .bin .lss (.tmp 6) (.const (.int .i64 (0))), none, 0, none⟩] []) (.cond (.tmp 7) (.seq (.region 0 [
    ⟨(some 2), .move (.const (.int .i64 (0))), none, 0, none⟩,
    ⟨(some 3), .move (.const (.int .i64 (0))), none, 0, none⟩,
    ⟨(some 4), .move (.const (.int .i64 (0))), none, 0, none⟩] []) (.ret)) (.skip))) (.seq (.region 0 [
    ⟨(some 8), .move (.tmp 0), none, 0, none⟩,
    ⟨(some 9), .bin .rem (.tmp 8) (.const (.int .i64 (3600))), none, 0, none⟩,
    ⟨(some 5), .move (.tmp 9), none, 0, none⟩] []) (.seq (.region 0 [
    ⟨(some 10), .move (.tmp 0), none, 0, none⟩,
    ⟨(some 11), .bin .quo (.tmp 10) (.const (.int .i64 (3600))), none, 0, none⟩,
    ⟨(some 12), .move (.tmp 5), none, 0, none⟩,
    ⟨(some 13), .bin .quo (.tmp 12) (.const (.int .i64 (60))), none, 0, none⟩,
    ⟨(some 14), .move (.tmp 5), none, 0, none⟩,
    ⟨(some 15), .move (.tmp 5), none, 0, none⟩,
    ⟨(some 16), .bin .quo (.tmp 15) (.const (.int .i64 (60))), none, 0, none⟩,
    ⟨(some 17), .bin .mul (.const (.int .i64 (60))) (.tmp 16), none, 0, none⟩,
    ⟨(some 18), .bin .sub (.tmp 14) (.tmp 17), none, 0, none⟩,
    ⟨(some 2), .move (.tmp 11), none, 0, none⟩,
    ⟨(some 3), .move (.tmp 13), none, 0, none⟩,
    ⟨(some 4), .move (.tmp 18), none, 0, none⟩] []) (.ret)))), [.tmp 2, .tmp 3, .tmp 4], true⟩
def s9 : Sig := ⟨(.cons (.v (.int .i64)) .nil), [], ((.tup (.cons (.v (.int .i64)) (.cons (.v (.int .i64)) (.cons (.v (.int .i64)) .nil)))), []), []⟩
def F9 (L : Lp)  (an0 : Int) : Option (Int × (Int × (Int × Unit))) :=
  cond (decide (an0 < 0))
  (some (0, 0, 0, ()))
  (let v1 := IntKind.wrap .i64 ((Int.tmod an0 3600) - (IntKind.wrap .i64 (60 * (IntKind.wrap .i64 (Int.tdiv (Int.tmod an0 3600) 60)))))
  some (IntKind.wrap .i64 (Int.tdiv an0 3600), IntKind.wrap .i64 (Int.tdiv (Int.tmod an0 3600) 60), v1, ()))
theorem e9 (L : Lp)  (x : s9.args.den) (h : denH s9.heap) : nrun [] L n9 s9 x h = F9 L  x.1 := by kernel_rfl
def f9 : Int → Option (Int × (Int × (Int × Unit))) := F9 (@LN LOOPS) 
@[reducible] def t9 : Ent := ⟨9, s9, fun x h => f9 x.1⟩
theorem k9 : chkNF Tryd.prog Tryd.f9 n9 = true := by kernel_rfl
theorem ok9 : NOk Tryd.prog t9 := NOk.body (T := []) mixed nall_nil (oneEach_of (by kernel_rfl)) Tryd.func9 k9 (by kernel_rfl) (fun x h => e9 _  x h)
/- drayage/drayageref01.Digits -/
def n24 : NFunc := ⟨21, .seq (.region 0 [
    ⟨(some 2), .move (.const (.str [])), none, 0, none⟩] []) (.seq (.region 0 [
    ⟨(some 3), .move (.const (.str [])), none, 0, none⟩] []) (.seq (.block 0 (.loop [0, 3] ⟨[(0, (.v (.int .i64))), (3, (.v .str))], [], []⟩ (.seq (.seq (.region 0 [
    ⟨(some 4), .move (.tmp 3), none, 0, none⟩,
    ⟨(some 5), .bin .eql (.tmp 4) (.const (.str [])), none, 0, none⟩,
    ⟨(some 6), .move (.tmp 5), none, 0, none⟩,
    ⟨(some 7), .move (.tmp 0), (some (6, false)), 0, none⟩,
    ⟨(some 8), .bin .gtr (.tmp 7) (.const (.int .i64 (0))), (some (6, false)), 0, none⟩,
    ⟨(some 9), .pick (.tmp 6) (.const (.bool true)) (.tmp 8), none, 0, none⟩] []) (.cond (.tmp 9) (.skip) (.exit 0))) (.block 1 (.seq (.region 1 [
    ⟨(some 10), .move (.tmp 0), none, 0, none⟩,
    ⟨(some 11), .bin .rem (.tmp 10) (.const (.int .i64 (10))), none, 0, none⟩,
    ⟨(some 12), .bin .add (.const (.int .i64 (48))) (.tmp 11), none, 0, none⟩,
    ⟨(some 13), .conv .u8 (.tmp 12), none, 0, none⟩,
    ⟨(some 14), .buildSlice 1 1 true [.int .u8 (0)] [(0, (.tmp 13))], none, 0, none⟩,
    ⟨(some 15), .load false 0 (.tmp 14), none, 1, none⟩,
    ⟨(some 16), .move (.tmp 3), none, 1, none⟩,
    ⟨(some 17), .bin .add (.tmp 15) (.tmp 16), none, 1, none⟩,
    ⟨(some 3), .move (.tmp 17), none, 1, none⟩] []) (.region 0 [
    ⟨(some 18), .move (.tmp 0), none, 0, none⟩,
    ⟨(some 19), .bin .quo (.tmp 18) (.const (.int .i64 (10))), none, 0, none⟩,
    ⟨(some 0), .move (.tmp 19), none, 0, none⟩] [])))))) (.seq (.region 0 [
    ⟨(some 20), .move (.tmp 3), none, 0, none⟩,
    ⟨(some 2), .move (.tmp 20), none, 0, none⟩] []) (.ret)))), [.tmp 2], true⟩
def s24 : Sig := ⟨(.cons (.v (.int .i64)) .nil), [], ((.v .str), []), []⟩
def l24_0  (nx2 : ((Int × ((List UInt8) × Unit)) × Unit) → Option (List UInt8)) (zn3 : Int) (zs4 : (List UInt8)) : Option (List UInt8) :=
  cond (decide (zs4 = ([] : List UInt8)))
  (Option.bind (nbytes (([IntKind.wrap .u8 (IntKind.wrap .i64 (48 + (Int.tmod zn3 10)))] : List Int))) fun s5 =>
  cond (decide (s5.length + zs4.length ≤ 4294967296))
  (nx2 ((IntKind.wrap .i64 (Int.tdiv zn3 10), s5 ++ zs4, ()), ()))
  (none))
  (cond (decide (0 < zn3))
  (Option.bind (nbytes (([IntKind.wrap .u8 (IntKind.wrap .i64 (48 + (Int.tmod zn3 10)))] : List Int))) fun s6 =>
  cond (decide (s6.length + zs4.length ≤ 4294967296))
  (nx2 ((IntKind.wrap .i64 (Int.tdiv zn3 10), s6 ++ zs4, ()), ()))
  (none))
  (some zs4))
def F24 (L : Lp)  (an0 : Int) : Option (List UInt8) :=
  L (fun (s1 : ((Int × ((List UInt8) × Unit)) × Unit)) nx2 => l24_0 nx2 s1.1.1 s1.1.2.1) ((an0, ([] : List UInt8), ()), ())
theorem e24 (L : Lp)  (x : s24.args.den) (h : denH s24.heap) : nrun [] L n24 s24 x h = F24 L  x.1 := by kernel_rfl
def f24 : Int → Option (List UInt8) := F24 (@LN LOOPS) 
@[reducible] def t24 : Ent := ⟨24, s24, fun x h => f24 x.1⟩
theorem k24 : chkNF Tryd.prog Tryd.f24 n24 = true := by kernel_rfl
theorem ok24 : NOk Tryd.prog t24 := NOk.body (T := []) mixed nall_nil (oneEach_of (by kernel_rfl)) Tryd.func24 k24 (by kernel_rfl) (fun x h => e24 _  x h)
/- drayage/drayageref04.two -/
def n25 : NFunc := ⟨10, .seq (.region 0 [
    ⟨(some 2), .move (.const (.str [])), none, 0, none⟩] []) (.seq (.seq (.region 0 [
    ⟨(some 3), .move (.tmp 0), none, 0, none⟩,
    ⟨(some 4), .bin .lss (.tmp 3) (.const (.int .i64 (10))), none, 0, none⟩] []) (.cond (.tmp 4) (.seq (.region 4 [
    ⟨(some 5), .move (.tmp 0), none, 0, none⟩,
    ⟨(some 6), .call (.func 24) [(false, (.tmp 5))] false 4, none, 0, none⟩,
    ⟨(some 7), .bin .add (.const (.str [48])) (.tmp 6), none, 4, none⟩,
    ⟨(some 2), .move (.tmp 7), none, 4, none⟩] []) (.ret)) (.skip))) (.seq (.region 4 [
    ⟨(some 8), .move (.tmp 0), none, 0, none⟩,
    ⟨(some 9), .call (.func 24) [(false, (.tmp 8))] false 4, none, 0, none⟩,
    ⟨(some 2), .move (.tmp 9), none, 4, none⟩] []) (.ret))), [.tmp 2], true⟩
def s25 : Sig := ⟨(.cons (.v (.int .i64)) .nil), [], ((.v .str), []), []⟩
def F25 (L : Lp) (g24 : Int → Option (List UInt8)) (an0 : Int) : Option (List UInt8) :=
  cond (decide (an0 < 10))
  (Option.bind (g24 an0) fun r1 =>
  cond (decide (([48] : List UInt8).length + r1.length ≤ 4294967296))
  (some (([48] : List UInt8) ++ r1))
  (none))
  (Option.bind (g24 an0) fun r2 =>
  some r2)
theorem e25 (L : Lp) (g24 : Int → Option (List UInt8)) (x : s25.args.den) (h : denH s25.heap) : nrun [⟨24, s24, fun x h => g24 x.1⟩] L n25 s25 x h = F25 L g24 x.1 := by kernel_rfl
def f25 : Int → Option (List UInt8) := F25 (@LN LOOPS) f24
@[reducible] def t25 : Ent := ⟨25, s25, fun x h => f25 x.1⟩
theorem k25 : chkNF Tryd.prog Tryd.f25 n25 = true := by kernel_rfl
theorem ok25 : NOk Tryd.prog t25 := NOk.body (T := [t24]) mixed (nall_cons ok24 nall_nil) (oneEach_of (by kernel_rfl)) Tryd.func25 k25 (by kernel_rfl) (fun x h => e25 _ _ x h)
/- drayage/drayageref04.Text -/
def n12 : NFunc := ⟨22, .seq (.region 0 [
    ⟨(some 2), .move (.const (.str [])), none, 0, none⟩] []) (.seq (.region 4 [
    ⟨(some 7), .move (.tmp 0), none, 0, none⟩,
    ⟨(some 8), .call (.func 9) [(false, (.tmp 7))] false 4, none, 0, none⟩,
    ⟨(some 6), .move (.tmp 8), none, 4, none⟩,
    ⟨(some 9), .extract (.tmp 6) 0, none, 4, none⟩,
    ⟨(some 10), .extract (.tmp 6) 1, none, 4, none⟩,
    ⟨(some 11), .extract (.tmp 6) 2, none, 4, none⟩,
    ⟨(some 3), .move (.tmp 9), none, 4, none⟩,
    ⟨(some 4), .move (.tmp 10), none, 4, none⟩,
    ⟨(some 5), .move (.tmp 11), none, 4, none⟩] []) (.seq (.region 12 [
    ⟨(some 12), .move (.tmp 3), none, 0, none⟩,
    ⟨(some 13), .call (.func 24) [(false, (.tmp 12))] false 4, none, 0, none⟩,
    ⟨(some 14), .bin .add (.tmp 13) (.const (.str [58])), none, 4, none⟩,
    ⟨(some 15), .move (.tmp 4), none, 4, none⟩,
    ⟨(some 16), .call (.func 25) [(false, (.tmp 15))] false 4, none, 4, none⟩,
    ⟨(some 17), .bin .add (.tmp 14) (.tmp 16), none, 8, none⟩,
    ⟨(some 18), .bin .add (.tmp 17) (.const (.str [58])), none, 8, none⟩,
    ⟨(some 19), .move (.tmp 5), none, 8, none⟩,
    ⟨(some 20), .call (.func 25) [(false, (.tmp 19))] false 4, none, 8, none⟩,
    ⟨(some 21), .bin .add (.tmp 18) (.tmp 20), none, 12, none⟩,
    ⟨(some 2), .move (.tmp 21), none, 12, none⟩] []) (.ret))), [.tmp 2], true⟩
def s12 : Sig := ⟨(.cons (.v (.int .i64)) .nil), [], ((.v .str), []), []⟩
def F12 (L : Lp) (g9 : Int → Option (Int × (Int × (Int × Unit)))) (g24 : Int → Option (List UInt8)) (g25 : Int → Option (List UInt8)) (an0 : Int) : Option (List UInt8) :=
  Option.bind (g9 an0) fun r1 =>
  Option.bind (g24 r1.1) fun r2 =>
  cond (decide (r2.length + ([58] : List UInt8).length ≤ 4294967296))
  (Option.bind (g25 r1.2.1) fun r3 =>
  cond (decide ((r2 ++ ([58] : List UInt8)).length + r3.length ≤ 4294967296))
  (cond (decide (((r2 ++ ([58] : List UInt8)) ++ r3).length + ([58] : List UInt8).length ≤ 4294967296))
  (Option.bind (g25 r1.2.2.1) fun r4 =>
  cond (decide ((((r2 ++ ([58] : List UInt8)) ++ r3) ++ ([58] : List UInt8)).length + r4.length ≤ 4294967296))
  (some ((((r2 ++ ([58] : List UInt8)) ++ r3) ++ ([58] : List UInt8)) ++ r4))
  (none))
  (none))
  (none))
  (none)
theorem e12 (L : Lp) (g9 : Int → Option (Int × (Int × (Int × Unit)))) (g24 : Int → Option (List UInt8)) (g25 : Int → Option (List UInt8)) (x : s12.args.den) (h : denH s12.heap) : nrun [⟨9, s9, fun x h => g9 x.1⟩, ⟨24, s24, fun x h => g24 x.1⟩, ⟨25, s25, fun x h => g25 x.1⟩] L n12 s12 x h = F12 L g9 g24 g25 x.1 := by kernel_rfl
def f12 : Int → Option (List UInt8) := F12 (@LN LOOPS) f9 f24 f25
@[reducible] def t12 : Ent := ⟨12, s12, fun x h => f12 x.1⟩
theorem k12 : chkNF Tryd.prog Tryd.f12 n12 = true := by kernel_rfl
theorem ok12 : NOk Tryd.prog t12 := NOk.body (T := [t9, t24, t25]) mixed (nall_cons ok9 (nall_cons ok24 (nall_cons ok25 nall_nil))) (oneEach_of (by kernel_rfl)) Tryd.func12 k12 (by kernel_rfl) (fun x h => e12 _ _ _ _ x h)
/- drayage/drayagelaw04.SpanText -/
def n3 : NFunc := ⟨79, .seq (.region 0 [
    ⟨(some 2), .move (.const (.bool false)), none, 0, none⟩] []) (.seq (.seq (.region 4 [
    ⟨(some 13), .call (.func 7) [] false 4, none, 0, none⟩,
    ⟨(some 14), .un .not (.tmp 13), none, 4, none⟩] []) (.cond (.tmp 14) (.seq (.region 0 [
    ⟨(some 2), .move (.const (.bool false)), none, 0, none⟩] []) (.ret)) (.skip))) (.seq (.region 4 [
    ⟨(some 16), .move (.tmp 0), none, 0, none⟩,
    ⟨(some 17), .call (.func 8) [(false, (.tmp 16))] false 4, none, 0, none⟩,
    ⟨(some 15), .move (.tmp 17), none, 4, none⟩,
    ⟨(some 18), .extract (.tmp 15) 0, none, 4, none⟩,
    ⟨(some 19), .extract (.tmp 15) 1, none, 4, none⟩,
    ⟨(some 20), .extract (.tmp 15) 2, none, 4, none⟩,
    ⟨(some 3), .move (.tmp 18), none, 4, none⟩,
    ⟨(some 4), .move (.tmp 19), none, 4, none⟩,
    ⟨(some 5), .move (.tmp 20), none, 4, none⟩] []) (.seq (.region 4 [
    ⟨(some 22), .move (.tmp 0), none, 0, none⟩,
    ⟨(some 23), .call (.func 9) [(false, (.tmp 22))] false 4, none, 0, none⟩,
    ⟨(some 21), .move (.tmp 23), none, 4, none⟩,
    ⟨(some 24), .extract (.tmp 21) 0, none, 4, none⟩,
    ⟨(some 25), .extract (.tmp 21) 1, none, 4, none⟩,
    ⟨(some 26), .extract (.tmp 21) 2, none, 4, none⟩,
    ⟨(some 6), .move (.tmp 24), none, 4, none⟩,
    ⟨(some 7), .move (.tmp 25), none, 4, none⟩,
    ⟨(some 8), .move (.tmp 26), none, 4, none⟩] []) (.seq (.seq (.region 0 [
    ⟨(some 27), .move (.tmp 3), none, 0, none⟩,
    ⟨(some 28), .move (.tmp 6), none, 0, none⟩,
    ⟨(some 29), .bin .neq (.tmp 27) (.tmp 28), none, 0, none⟩,
    ⟨(some 30), .move (.tmp 29), none, 0, none⟩,
    ⟨(some 31), .move (.tmp 4), (some (30, false)), 0, none⟩,
    ⟨(some 32), .move (.tmp 7), (some (30, false)), 0, none⟩,
    ⟨(some 33), .bin .neq (.tmp 31) (.tmp 32), (some (30, false)), 0, none⟩,
    ⟨(some 34), .pick (.tmp 30) (.const (.bool true)) (.tmp 33), none, 0, none⟩,
    ⟨(some 35), .move (.tmp 34), none, 0, none⟩,
    ⟨(some 36), .move (.tmp 5), (some (35, false)), 0, none⟩,
    ⟨(some 37), .move (.tmp 8), (some (35, false)), 0, none⟩,
    ⟨(some 38), .bin .neq (.tmp 36) (.tmp 37), (some (35, false)), 0, none⟩,
    ⟨(some 39), .pick (.tmp 35) (.const (.bool true)) (.tmp 38), none, 0, none⟩] []) (.cond (.tmp 39) (.seq (.region 0 [
    ⟨(some 2), .move (.const (.bool false)), none, 0, none⟩] []) (.ret)) (.skip))) (.seq (.region 4 [
    ⟨(some 41), .move (.tmp 0), none, 0, none⟩,
    ⟨(some 42), .call (.func 10) [(false, (.tmp 41))] false 4, none, 0, none⟩,
    ⟨(some 40), .move (.tmp 42), none, 4, none⟩,
    ⟨(some 43), .extract (.tmp 40) 0, none, 4, none⟩,
    ⟨(some 44), .extract (.tmp 40) 1, none, 4, none⟩,
    ⟨(some 9), .move (.tmp 43), none, 4, none⟩,
    ⟨(some 10), .move (.tmp 44), none, 4, none⟩] []) (.seq (.seq (.region 0 [
    ⟨(some 45), .move (.tmp 0), none, 0, none⟩,
    ⟨(some 46), .bin .lss (.tmp 45) (.const (.int .i64 (0))), none, 0, none⟩,
    ⟨(some 47), .move (.tmp 46), none, 0, none⟩,
    ⟨(some 48), .move (.tmp 0), (some (47, false)), 0, none⟩,
    ⟨(some 49), .bin .gtr (.tmp 48) (.const (.int .i64 (65536))), (some (47, false)), 0, none⟩,
    ⟨(some 50), .pick (.tmp 47) (.const (.bool true)) (.tmp 49), none, 0, none⟩] []) (.cond (.tmp 50) (.seq (.region 0 [
    ⟨(some 51), .move (.tmp 9), none, 0, none⟩,
    ⟨(some 52), .bin .eql (.tmp 51) (.const (.str [])), none, 0, none⟩,
    ⟨(some 53), .move (.tmp 52), none, 0, none⟩,
    ⟨(some 54), .move (.tmp 10), (some (53, true)), 0, none⟩,
    ⟨(some 55), .bin .eql (.tmp 54) (.const (.int .i64 (2))), (some (53, true)), 0, none⟩,
    ⟨(some 56), .pick (.tmp 53) (.tmp 55) (.const (.bool false)), none, 0, none⟩,
    ⟨(some 2), .move (.tmp 56), none, 0, none⟩] []) (.ret)) (.skip))) (.seq (.region 4 [
    ⟨(some 58), .move (.tmp 9), none, 0, none⟩,
    ⟨(some 59), .call (.func 11) [(false, (.tmp 58))] false 4, none, 0, none⟩,
    ⟨(some 57), .move (.tmp 59), none, 4, none⟩,
    ⟨(some 60), .extract (.tmp 57) 0, none, 4, none⟩,
    ⟨(some 61), .extract (.tmp 57) 1, none, 4, none⟩,
    ⟨(some 11), .move (.tmp 60), none, 4, none⟩,
    ⟨(some 12), .move (.tmp 61), none, 4, none⟩] []) (.seq (.region 4 [
    ⟨(some 62), .move (.tmp 10), none, 0, none⟩,
    ⟨(some 63), .bin .eql (.tmp 62) (.const (.int .i64 (0))), none, 0, none⟩,
    ⟨(some 64), .move (.tmp 63), none, 0, none⟩,
    ⟨(some 65), .move (.tmp 9), (some (64, true)), 0, none⟩,
    ⟨(some 66), .move (.tmp 0), (some (64, true)), 0, none⟩,
    ⟨(some 67), .call (.func 12) [(false, (.tmp 66))] false 4, (some (64, true)), 0, none⟩,
    ⟨(some 68), .bin .eql (.tmp 65) (.tmp 67), (some (64, true)), 4, none⟩,
    ⟨(some 69), .pick (.tmp 64) (.tmp 68) (.const (.bool false)), none, 4, none⟩,
    ⟨(some 70), .move (.tmp 69), none, 4, none⟩,
    ⟨(some 71), .move (.tmp 12), (some (70, true)), 4, none⟩,
    ⟨(some 72), .bin .eql (.tmp 71) (.const (.int .i64 (0))), (some (70, true)), 4, none⟩,
    ⟨(some 73), .pick (.tmp 70) (.tmp 72) (.const (.bool false)), none, 4, none⟩,
    ⟨(some 74), .move (.tmp 73), none, 4, none⟩,
    ⟨(some 75), .move (.tmp 11), (some (74, true)), 4, none⟩,
    ⟨(some 76), .move (.tmp 0), (some (74, true)), 4, none⟩,
    ⟨(some 77), .bin .eql (.tmp 75) (.tmp 76), (some (74, true)), 4, none⟩,
    ⟨(some 78), .pick (.tmp 74) (.tmp 77) (.const (.bool false)), none, 4, none⟩,
    ⟨(some 2), .move (.tmp 78), none, 4, none⟩] []) (.ret))))))))), [.tmp 2], true⟩
def s3 : Sig := ⟨(.cons (.v (.int .i64)) .nil), [], ((.v .bool), []), []⟩
def F3 (L : Lp) (g7 : Option Bool) (g8 : Int → Option (Int × (Int × (Int × Unit)))) (g9 : Int → Option (Int × (Int × (Int × Unit)))) (g10 : Int → Option ((List UInt8) × (Int × Unit))) (g11 : (List UInt8) → Option (Int × (Int × Unit))) (g12 : Int → Option (List UInt8)) (an0 : Int) : Option Bool :=
  Option.bind (g7) fun r1 =>
  cond (!r1)
  (some false)
  (Option.bind (g8 an0) fun r2 =>
  Option.bind (g9 an0) fun r3 =>
  cond (!decide (r2.1 = r3.1))
  (some false)
  (cond (!decide (r2.2.1 = r3.2.1))
  (some false)
  (cond (!decide (r2.2.2.1 = r3.2.2.1))
  (some false)
  (Option.bind (g10 an0) fun r4 =>
  cond (decide (an0 < 0))
  (cond (decide (r4.1 = ([] : List UInt8)))
  (some (decide (r4.2.1 = 2)))
  (some false))
  (cond (decide (65536 < an0))
  (cond (decide (r4.1 = ([] : List UInt8)))
  (some (decide (r4.2.1 = 2)))
  (some false))
  (Option.bind (g11 r4.1) fun r5 =>
  cond (decide (r4.2.1 = 0))
  (Option.bind (g12 an0) fun r6 =>
  cond (decide (r4.1 = r6))
  (cond (decide (r5.2.1 = 0))
  (some (decide (r5.1 = an0)))
  (some false))
  (some false))
  (some false)))))))
theorem e3 (L : Lp) (g7 : Option Bool) (g8 : Int → Option (Int × (Int × (Int × Unit)))) (g9 : Int → Option (Int × (Int × (Int × Unit)))) (g10 : Int → Option ((List UInt8) × (Int × Unit))) (g11 : (List UInt8) → Option (Int × (Int × Unit))) (g12 : Int → Option (List UInt8)) (x : s3.args.den) (h : denH s3.heap) : nrun [⟨7, s7, fun x h => g7 ⟩, ⟨8, s8, fun x h => g8 x.1⟩, ⟨9, s9, fun x h => g9 x.1⟩, ⟨10, s10, fun x h => g10 x.1⟩, ⟨11, s11, fun x h => g11 x.1⟩, ⟨12, s12, fun x h => g12 x.1⟩] L n3 s3 x h = F3 L g7 g8 g9 g10 g11 g12 x.1 := by kernel_rfl
def f3 : Int → Option Bool := F3 (@LN LOOPS) f7 f8 f9 f10 f11 f12
@[reducible] def t3 : Ent := ⟨3, s3, fun x h => f3 x.1⟩
theorem k3 : chkNF Tryd.prog Tryd.f3 n3 = true := by kernel_rfl
theorem ok3 : NOk Tryd.prog t3 := NOk.body (T := [t7, t8, t9, t10, t11, t12]) mixed (nall_cons ok7 (nall_cons ok8 (nall_cons ok9 (nall_cons ok10 (nall_cons ok11 (nall_cons ok12 nall_nil)))))) (oneEach_of (by kernel_rfl)) Tryd.func3 k3 (by kernel_rfl) (fun x h => e3 _ _ _ _ _ _ _ x h)
/- drayage/drayageref04.Read -/
def n13 : NFunc := ⟨47, .seq (.region 0 [
    ⟨(some 2), .move (.const (.int .i64 (0))), none, 0, none⟩,
    ⟨(some 3), .move (.const (.int .i64 (0))), none, 0, none⟩] []) (.seq (.region 0 [
    ⟨(some 4), .move (.const (.int .i64 (0))), none, 0, none⟩] []) (.seq (.region 0 [
    ⟨(some 5), .move (.const (.int .i64 (0))), none, 0, none⟩] []) (.seq (.seq (.region 0 [
    ⟨(some 6), .move (.const (.int .i64 (0))), none, 0, none⟩] []) (.block 0 (.loop [0, 4, 5, 6] ⟨[(4, (.v (.int .i64))), (5, (.v (.int .i64))), (6, (.v (.int .i64)))], [0], []⟩ (.seq (.seq (.region 0 [
    ⟨(some 7), .move (.tmp 6), none, 0, none⟩,
    ⟨(some 8), .move (.tmp 0), none, 0, none⟩,
    ⟨(some 9), .lenStr (.tmp 8), none, 0, none⟩,
    ⟨(some 10), .bin .lss (.tmp 7) (.tmp 9), none, 0, none⟩,
    ⟨(some 11), .move (.tmp 10), none, 0, none⟩,
    ⟨(some 12), .move (.tmp 6), (some (11, true)), 0, none⟩,
    ⟨(some 13), .bin .lss (.tmp 12) (.const (.int .i64 (9))), (some (11, true)), 0, none⟩,
    ⟨(some 14), .pick (.tmp 11) (.tmp 13) (.const (.bool false)), none, 0, none⟩] []) (.cond (.tmp 14) (.skip) (.exit 0))) (.seq (.block 1 (.seq (.region 0 [
    ⟨(some 17), .move (.tmp 0), none, 0, none⟩,
    ⟨(some 18), .move (.tmp 6), none, 0, none⟩,
    ⟨(some 19), .indexStr (.tmp 17) (.tmp 18), none, 0, none⟩,
    ⟨(some 20), .bin .eql (.tmp 19) (.const (.int .u8 (58))), none, 0, none⟩] []) (.cond (.tmp 20) (.seq (.region 0 [
    ⟨(some 21), .move (.tmp 4), none, 0, none⟩,
    ⟨(some 22), .move (.tmp 5), none, 0, none⟩,
    ⟨(some 23), .bin .add (.tmp 21) (.tmp 22), none, 0, none⟩,
    ⟨(some 4), .move (.tmp 23), none, 0, none⟩] []) (.seq (.region 0 [
    ⟨(some 5), .move (.const (.int .i64 (0))), none, 0, none⟩] []) (.region 0 [
    ⟨(some 24), .move (.tmp 4), none, 0, none⟩,
    ⟨(some 25), .bin .mul (.tmp 24) (.const (.int .i64 (60))), none, 0, none⟩,
    ⟨(some 4), .move (.tmp 25), none, 0, none⟩] []))) (.region 0 [
    ⟨(some 26), .move (.tmp 5), none, 0, none⟩,
    ⟨(some 27), .bin .mul (.const (.int .i64 (10))) (.tmp 26), none, 0, none⟩,
    ⟨(some 28), .move (.tmp 0), none, 0, none⟩,
    ⟨(some 29), .move (.tmp 6), none, 0, none⟩,
    ⟨(some 30), .indexStr (.tmp 28) (.tmp 29), none, 0, none⟩,
    ⟨(some 31), .conv .i64 (.tmp 30), none, 0, none⟩,
    ⟨(some 32), .bin .rem (.tmp 31) (.const (.int .i64 (48))), none, 0, none⟩,
    ⟨(some 33), .bin .rem (.tmp 32) (.const (.int .i64 (10))), none, 0, none⟩,
    ⟨(some 34), .bin .add (.tmp 27) (.tmp 33), none, 0, none⟩,
    ⟨(some 5), .move (.tmp 34), none, 0, none⟩] [])))) (.region 0 [
    ⟨(some 15), .move (.tmp 6), none, 0, none⟩,
    ⟨(some 16), .bin .add (.tmp 15) (.const (.int .i64 (1))), none, 0, none⟩,
    ⟨(some 6), .move (.tmp 16), none, 0, none⟩] [])))))) (.seq (.region 0 [
    ⟨(some 35), .move (.tmp 4), none, 0, none⟩,
    ⟨(some 36), .move (.tmp 5), none, 0, none⟩,
    ⟨(some 37), .bin .add (.tmp 35) (.tmp 36), none, 0, none⟩,
    ⟨(some 4), .move (.tmp 37), none, 0, none⟩] []) (.seq (.seq (.region 4 [
    ⟨(some 38), .move (.tmp 4), none, 0, none⟩,
    ⟨(some 39), .bin .gtr (.tmp 38) (.const (.int .i64 (65536))), none, 0, none⟩,
    ⟨(some 40), .move (.tmp 39), none, 0, none⟩,
    ⟨(some 41), .move (.tmp 4), (some (40, false)), 0, none⟩,
    ⟨(some 42), .call (.func 12) [(false, (.tmp 41))] false 4, (some (40, false)), 0, none⟩,
    ⟨(some 43), .move (.tmp 0), (some (40, false)), 4, none⟩,
    ⟨(some 44), .bin .neq (.tmp 42) (.tmp 43), (some (40, false)), 4, none⟩,
    ⟨(some 45), .pick (.tmp 40) (.const (.bool true)) (.tmp 44), none, 4, none⟩] []) (.cond (.tmp 45) (.seq (.region 0 [
    ⟨(some 2), .move (.const (.int .i64 (0))), none, 0, none⟩,
    ⟨(some 3), .move (.const (.int .i64 (11))), none, 0, none⟩] []) (.ret)) (.skip))) (.seq (.region 0 [
    ⟨(some 46), .move (.tmp 4), none, 0, none⟩,
    ⟨(some 2), .move (.tmp 46), none, 0, none⟩,
    ⟨(some 3), .move (.const (.int .i64 (0))), none, 0, none⟩] []) (.ret))))))), [.tmp 2, .tmp 3], true⟩
def s13 : Sig := ⟨(.cons (.v .str) .nil), [], ((.tup (.cons (.v (.int .i64)) (.cons (.v (.int .i64)) .nil))), []), []⟩
def l13_0 (g12 : Int → Option (List UInt8)) (as0 : (List UInt8)) (nx2 : ((Int × (Int × (Int × Unit))) × Unit) → Option (Int × (Int × Unit))) (zn3 : Int) (part4 : Int) (i5 : Int) : Option (Int × (Int × Unit)) :=
  cond (decide (i5 < (List.length as0 : Int)))
  (cond (decide (i5 < 9))
  (cond (decide (0 ≤ i5))
  (Option.bind (as0[Int.toNat i5]?) fun c6 =>
  cond (decide ((c6.toNat : Int) = 58))
  (nx2 ((IntKind.wrap .i64 ((IntKind.wrap .i64 (zn3 + part4)) * 60), 0, IntKind.wrap .i64 (i5 + 1), ()), ()))
  (cond (decide (0 ≤ i5))
  (Option.bind (as0[Int.toNat i5]?) fun c7 =>
  let v8 := IntKind.wrap .i64 ((IntKind.wrap .i64 (10 * part4)) + (Int.tmod (Int.tmod (IntKind.wrap .i64 ((c7.toNat : Int))) 48) 10))
  nx2 ((zn3, v8, IntKind.wrap .i64 (i5 + 1), ()), ()))
  (none)))
  (none))
  (cond (decide (65536 < (IntKind.wrap .i64 (zn3 + part4))))
  (some (0, 11, ()))
  (Option.bind (g12 (IntKind.wrap .i64 (zn3 + part4))) fun r9 =>
  cond (!decide (r9 = as0))
  (some (0, 11, ()))
  (some (IntKind.wrap .i64 (zn3 + part4), 0, ())))))
  (cond (decide (65536 < (IntKind.wrap .i64 (zn3 + part4))))
  (some (0, 11, ()))
  (Option.bind (g12 (IntKind.wrap .i64 (zn3 + part4))) fun r10 =>
  cond (!decide (r10 = as0))
  (some (0, 11, ()))
  (some (IntKind.wrap .i64 (zn3 + part4), 0, ()))))
def F13 (L : Lp) (g12 : Int → Option (List UInt8)) (as0 : (List UInt8)) : Option (Int × (Int × Unit)) :=
  L (fun (s1 : ((Int × (Int × (Int × Unit))) × Unit)) nx2 => l13_0 g12 as0 nx2 s1.1.1 s1.1.2.1 s1.1.2.2.1) ((0, 0, 0, ()), ())
theorem e13 (L : Lp) (g12 : Int → Option (List UInt8)) (x : s13.args.den) (h : denH s13.heap) : nrun [⟨12, s12, fun x h => g12 x.1⟩] L n13 s13 x h = F13 L g12 x.1 := by kernel_rfl
def f13 : (List UInt8) → Option (Int × (Int × Unit)) := F13 (@LN LOOPS) f12
@[reducible] def t13 : Ent := ⟨13, s13, fun x h => f13 x.1⟩
theorem k13 : chkNF Tryd.prog Tryd.f13 n13 = true := by kernel_rfl
theorem ok13 : NOk Tryd.prog t13 := NOk.body (T := [t12]) mixed (nall_cons ok12 nall_nil) (oneEach_of (by kernel_rfl)) Tryd.func13 k13 (by kernel_rfl) (fun x h => e13 _ _ x h)
/- drayage/drayagelaw04.SpanRead -/
def n4 : NFunc := ⟨43, .seq (.region 0 [
    ⟨(some 2), .move (.const (.bool false)), none, 0, none⟩] []) (.seq (.seq (.region 4 [
    ⟨(some 9), .call (.func 7) [] false 4, none, 0, none⟩,
    ⟨(some 10), .un .not (.tmp 9), none, 4, none⟩] []) (.cond (.tmp 10) (.seq (.region 0 [
    ⟨(some 2), .move (.const (.bool false)), none, 0, none⟩] []) (.ret)) (.skip))) (.seq (.region 4 [
    ⟨(some 12), .move (.tmp 0), none, 0, none⟩,
    ⟨(some 13), .call (.func 11) [(false, (.tmp 12))] false 4, none, 0, none⟩,
    ⟨(some 11), .move (.tmp 13), none, 4, none⟩,
    ⟨(some 14), .extract (.tmp 11) 0, none, 4, none⟩,
    ⟨(some 15), .extract (.tmp 11) 1, none, 4, none⟩,
    ⟨(some 3), .move (.tmp 14), none, 4, none⟩,
    ⟨(some 4), .move (.tmp 15), none, 4, none⟩] []) (.seq (.region 4 [
    ⟨(some 17), .move (.tmp 0), none, 0, none⟩,
    ⟨(some 18), .call (.func 13) [(false, (.tmp 17))] false 4, none, 0, none⟩,
    ⟨(some 16), .move (.tmp 18), none, 4, none⟩,
    ⟨(some 19), .extract (.tmp 16) 0, none, 4, none⟩,
    ⟨(some 20), .extract (.tmp 16) 1, none, 4, none⟩,
    ⟨(some 5), .move (.tmp 19), none, 4, none⟩,
    ⟨(some 6), .move (.tmp 20), none, 4, none⟩] []) (.seq (.seq (.region 0 [
    ⟨(some 21), .move (.tmp 3), none, 0, none⟩,
    ⟨(some 22), .move (.tmp 5), none, 0, none⟩,
    ⟨(some 23), .bin .neq (.tmp 21) (.tmp 22), none, 0, none⟩,
    ⟨(some 24), .move (.tmp 23), none, 0, none⟩,
    ⟨(some 25), .move (.tmp 4), (some (24, false)), 0, none⟩,
    ⟨(some 26), .move (.tmp 6), (some (24, false)), 0, none⟩,
    ⟨(some 27), .bin .neq (.tmp 25) (.tmp 26), (some (24, false)), 0, none⟩,
    ⟨(some 28), .pick (.tmp 24) (.const (.bool true)) (.tmp 27), none, 0, none⟩] []) (.cond (.tmp 28) (.seq (.region 0 [
    ⟨(some 2), .move (.const (.bool false)), none, 0, none⟩] []) (.ret)) (.skip))) (.seq (.seq (.region 0 [
    ⟨(some 29), .move (.tmp 6), none, 0, none⟩,
    ⟨(some 30), .bin .neq (.tmp 29) (.const (.int .i64 (0))), none, 0, none⟩] []) (.cond (.tmp 30) (.seq (.region 0 [
    ⟨(some 2), .move (.const (.bool true)), none, 0, none⟩] []) (.ret)) (.skip))) (.seq (.region 4 [
    ⟨(some 32), .move (.tmp 3), none, 0, none⟩,
    ⟨(some 33), .call (.func 10) [(false, (.tmp 32))] false 4, none, 0, none⟩,
    ⟨(some 31), .move (.tmp 33), none, 4, none⟩,
    ⟨(some 34), .extract (.tmp 31) 0, none, 4, none⟩,
    ⟨(some 35), .extract (.tmp 31) 1, none, 4, none⟩,
    ⟨(some 7), .move (.tmp 34), none, 4, none⟩,
    ⟨(some 8), .move (.tmp 35), none, 4, none⟩] []) (.seq (.region 0 [
    ⟨(some 36), .move (.tmp 8), none, 0, none⟩,
    ⟨(some 37), .bin .eql (.tmp 36) (.const (.int .i64 (0))), none, 0, none⟩,
    ⟨(some 38), .move (.tmp 37), none, 0, none⟩,
    ⟨(some 39), .move (.tmp 7), (some (38, true)), 0, none⟩,
    ⟨(some 40), .move (.tmp 0), (some (38, true)), 0, none⟩,
    ⟨(some 41), .bin .eql (.tmp 39) (.tmp 40), (some (38, true)), 0, none⟩,
    ⟨(some 42), .pick (.tmp 38) (.tmp 41) (.const (.bool false)), none, 0, none⟩,
    ⟨(some 2), .move (.tmp 42), none, 0, none⟩] []) (.ret)))))))), [.tmp 2], true⟩
def s4 : Sig := ⟨(.cons (.v .str) .nil), [], ((.v .bool), []), []⟩
def F4 (L : Lp) (g7 : Option Bool) (g11 : (List UInt8) → Option (Int × (Int × Unit))) (g13 : (List UInt8) → Option (Int × (Int × Unit))) (g10 : Int → Option ((List UInt8) × (Int × Unit))) (as0 : (List UInt8)) : Option Bool :=
  Option.bind (g7) fun r1 =>
  cond (!r1)
  (some false)
  (Option.bind (g11 as0) fun r2 =>
  Option.bind (g13 as0) fun r3 =>
  cond (!decide (r2.1 = r3.1))
  (some false)
  (cond (!decide (r2.2.1 = r3.2.1))
  (some false)
  (cond (!decide (r3.2.1 = 0))
  (some true)
  (Option.bind (g10 r2.1) fun r4 =>
  cond (decide (r4.2.1 = 0))
  (some (decide (r4.1 = as0)))
  (some false)))))
theorem e4 (L : Lp) (g7 : Option Bool) (g11 : (List UInt8) → Option (Int × (Int × Unit))) (g13 : (List UInt8) → Option (Int × (Int × Unit))) (g10 : Int → Option ((List UInt8) × (Int × Unit))) (x : s4.args.den) (h : denH s4.heap) : nrun [⟨7, s7, fun x h => g7 ⟩, ⟨11, s11, fun x h => g11 x.1⟩, ⟨13, s13, fun x h => g13 x.1⟩, ⟨10, s10, fun x h => g10 x.1⟩] L n4 s4 x h = F4 L g7 g11 g13 g10 x.1 := by kernel_rfl
def f4 : (List UInt8) → Option Bool := F4 (@LN LOOPS) f7 f11 f13 f10
@[reducible] def t4 : Ent := ⟨4, s4, fun x h => f4 x.1⟩
theorem k4 : chkNF Tryd.prog Tryd.f4 n4 = true := by kernel_rfl
theorem ok4 : NOk Tryd.prog t4 := NOk.body (T := [t7, t11, t13, t10]) mixed (nall_cons ok7 (nall_cons ok11 (nall_cons ok13 (nall_cons ok10 nall_nil)))) (oneEach_of (by kernel_rfl)) Tryd.func4 k4 (by kernel_rfl) (fun x h => e4 _ _ _ _ _ x h)
end NM
end Go.Proofs.YtbhnojlcbgkcbaaDoor
