/-
  The plain forms of the functions that the statement reaches, and that each is its function's body. (Written by program.)
-/
import Derived.Test.YtofboijlcjgnnaaNmX
import Derived.Test.YtofboijlcjgnnaaProg
import Derived.ProofKit
set_option linter.unusedVariables false
set_option maxRecDepth 100000
set_option maxHeartbeats 4000000
namespace Go.Proofs.Ytofboijlcjgnnaa
namespace NM
open AM Go.RowKit
theorem mixed : Try.prog.follows .mixedOrders = true := by kernel_rfl
/- drayage/lot.New -/
def n50 : NFunc := ⟨17, .seq (.region 0 [
    ⟨(some 2), .move (.const (.nilp)), none, 0, none⟩] []) (.seq (.region 1 [
    ⟨(some 4), .move (.tmp 0), none, 0, none⟩,
    ⟨(some 5), .bin .add (.tmp 4) (.const (.int .u64 (88172645463325252))), none, 0, none⟩,
    ⟨(some 6), .build [.int .u64 (0)] [(0, 1, (.tmp 5))], none, 0, none⟩,
    ⟨(some 7), .box 1 (.tmp 6), none, 0, none⟩,
    ⟨(some 3), .move (.tmp 7), none, 1, none⟩] []) (.seq (.seq (.region 0 [
    ⟨(some 8), .move (.tmp 3), none, 0, none⟩,
    ⟨(some 9), .nilCheck (.tmp 8), none, 0, none⟩,
    ⟨(some 10), .fieldAddr 0 (.tmp 9), none, 0, none⟩,
    ⟨(some 11), .load false 1 (.tmp 10), none, 0, none⟩,
    ⟨(some 12), .bin .eql (.tmp 11) (.const (.int .u64 (0))), none, 0, none⟩] []) (.cond (.tmp 12) (.region 0 [
    ⟨(some 13), .move (.tmp 3), none, 0, none⟩,
    ⟨(some 14), .nilCheck (.tmp 13), none, 0, none⟩,
    ⟨(some 15), .fieldAddr 0 (.tmp 14), none, 0, none⟩,
    ⟨none, .store 1 (.tmp 15) (.const (.int .u64 (1))), none, 0, none⟩] []) (.skip))) (.seq (.region 0 [
    ⟨(some 16), .move (.tmp 3), none, 0, none⟩,
    ⟨(some 2), .move (.tmp 16), none, 0, none⟩] []) (.ret)))), [.tmp 2], false⟩
def s50 : Sig := ⟨(.cons (.v (.int .u64)) .nil), [], ((.ptr 0 0 0), [.one false (.pair (.int .u64) .unit)]), []⟩
def F50 (L : Lp)  (seed0 : Int) : Option (Unit × ((Int × Unit) × Unit)) :=
  cond (decide ((IntKind.wrap .u64 (seed0 + 88172645463325252)) = 0))
    (some ((), ((1, ()), ())))
    (some ((), ((IntKind.wrap .u64 (seed0 + 88172645463325252), ()), ())))
theorem e50 (L : Lp)  (x : s50.args.den) (h : denH s50.heap) : nrun [] L n50 s50 x h = F50 L  x.1 := by kernel_rfl
def f50 : Int → Option (Unit × ((Int × Unit) × Unit)) := F50 (@LN LOOPS) 
@[reducible] def t50 : Ent := ⟨50, s50, fun x h => f50 x.1⟩
theorem k50 : chkNF Try.prog Try.f50 n50 = true := by kernel_rfl
theorem ok50 : NOk Try.prog t50 := NOk.body (T := []) mixed nall_nil (oneEach_of (by kernel_rfl)) Try.func50 k50 (by kernel_rfl) (fun x h => e50 _  x h)
/- drayage/lot.turn[uint64] -/
def n93 : NFunc := ⟨16, .seq (.region 0 [
    ⟨(some 2), .move (.const (.int .u64 (0))), none, 0, none⟩] []) (.seq (.region 0 [
    ⟨(some 3), .move (.tmp 0), none, 0, none⟩,
    ⟨(some 4), .move (.tmp 0), none, 0, none⟩,
    ⟨(some 5), .bin .shl (.tmp 4) (.const (.int .u64 (13))), none, 0, none⟩,
    ⟨(some 6), .bin .xor (.tmp 3) (.tmp 5), none, 0, none⟩,
    ⟨(some 0), .move (.tmp 6), none, 0, none⟩] []) (.seq (.region 0 [
    ⟨(some 7), .move (.tmp 0), none, 0, none⟩,
    ⟨(some 8), .move (.tmp 0), none, 0, none⟩,
    ⟨(some 9), .bin .shr (.tmp 8) (.const (.int .u64 (7))), none, 0, none⟩,
    ⟨(some 10), .bin .xor (.tmp 7) (.tmp 9), none, 0, none⟩,
    ⟨(some 0), .move (.tmp 10), none, 0, none⟩] []) (.seq (.region 0 [
    ⟨(some 11), .move (.tmp 0), none, 0, none⟩,
    ⟨(some 12), .move (.tmp 0), none, 0, none⟩,
    ⟨(some 13), .bin .shl (.tmp 12) (.const (.int .u64 (17))), none, 0, none⟩,
    ⟨(some 14), .bin .xor (.tmp 11) (.tmp 13), none, 0, none⟩,
    ⟨(some 0), .move (.tmp 14), none, 0, none⟩] []) (.seq (.region 0 [
    ⟨(some 15), .move (.tmp 0), none, 0, none⟩,
    ⟨(some 2), .move (.tmp 15), none, 0, none⟩] []) (.ret))))), [.tmp 2], true⟩
def s93 : Sig := ⟨(.cons (.v (.int .u64)) .nil), [], ((.v (.int .u64)), []), []⟩
def F93 (L : Lp)  (ax0 : Int) : Option Int :=
  let v1 := IntKind.wrap .u64 (((BitVec.ofInt 64 ax0 ^^^ BitVec.ofInt 64 (IntKind.wrap .u64 (ax0 * 2 ^ (min (Int.toNat 13) 64)))).toNat : Int))
  let v2 := IntKind.wrap .u64 (((BitVec.ofInt 64 v1 ^^^ BitVec.ofInt 64 (Int.fdiv v1 (2 ^ (min (Int.toNat 7) 64)))).toNat : Int))
  let v3 := IntKind.wrap .u64 (((BitVec.ofInt 64 v2 ^^^ BitVec.ofInt 64 (IntKind.wrap .u64 (v2 * 2 ^ (min (Int.toNat 17) 64)))).toNat : Int))
  some v3
theorem e93 (L : Lp)  (x : s93.args.den) (h : denH s93.heap) : nrun [] L n93 s93 x h = F93 L  x.1 := by kernel_rfl
def f93 : Int → Option Int := F93 (@LN LOOPS) 
@[reducible] def t93 : Ent := ⟨93, s93, fun x h => f93 x.1⟩
theorem k93 : chkNF Try.prog Try.f93 n93 = true := by kernel_rfl
theorem ok93 : NOk Try.prog t93 := NOk.body (T := []) mixed nall_nil (oneEach_of (by kernel_rfl)) Try.func93 k93 (by kernel_rfl) (fun x h => e93 _  x h)
/- (*drayage/lot.Lot).Below -/
def n52 : NFunc := ⟨28, .seq (.region 0 [
    ⟨(some 4), .move (.const (.int .i64 (0))), none, 0, none⟩] []) (.seq (.seq (.region 0 [
    ⟨(some 5), .move (.tmp 0), none, 0, none⟩,
    ⟨(some 6), .eqP false (.tmp 5) (.const (.nilp)), none, 0, none⟩,
    ⟨(some 7), .move (.tmp 6), none, 0, none⟩,
    ⟨(some 8), .move (.tmp 1), (some (7, false)), 0, none⟩,
    ⟨(some 9), .bin .lss (.tmp 8) (.const (.int .i64 (1))), (some (7, false)), 0, none⟩,
    ⟨(some 10), .pick (.tmp 7) (.const (.bool true)) (.tmp 9), none, 0, none⟩] []) (.cond (.tmp 10) (.seq (.region 0 [
    ⟨(some 4), .move (.const (.int .i64 (0))), none, 0, none⟩] []) (.ret)) (.skip))) (.seq (.region 4 [
    ⟨(some 11), .move (.tmp 0), none, 0, none⟩,
    ⟨(some 12), .move (.tmp 0), none, 0, none⟩,
    ⟨(some 13), .nilCheck (.tmp 12), none, 0, none⟩,
    ⟨(some 14), .fieldAddr 0 (.tmp 13), none, 0, none⟩,
    ⟨(some 15), .load false 1 (.tmp 14), none, 0, none⟩,
    ⟨(some 16), .call (.func 93) [(false, (.tmp 15))] false 4, none, 0, none⟩,
    ⟨(some 17), .nilCheck (.tmp 11), none, 4, none⟩,
    ⟨(some 18), .fieldAddr 0 (.tmp 17), none, 4, none⟩,
    ⟨none, .store 1 (.tmp 18) (.tmp 16), none, 4, none⟩] []) (.seq (.region 0 [
    ⟨(some 19), .move (.tmp 0), none, 0, none⟩,
    ⟨(some 20), .nilCheck (.tmp 19), none, 0, none⟩,
    ⟨(some 21), .fieldAddr 0 (.tmp 20), none, 0, none⟩,
    ⟨(some 22), .load false 1 (.tmp 21), none, 0, none⟩,
    ⟨(some 23), .bin .shr (.tmp 22) (.const (.int .u64 (33))), none, 0, none⟩,
    ⟨(some 24), .move (.tmp 1), none, 0, none⟩,
    ⟨(some 25), .conv .u64 (.tmp 24), none, 0, none⟩,
    ⟨(some 26), .bin .rem (.tmp 23) (.tmp 25), none, 0, none⟩,
    ⟨(some 27), .conv .i64 (.tmp 26), none, 0, none⟩,
    ⟨(some 4), .move (.tmp 27), none, 0, none⟩] []) (.ret)))), [.tmp 4], true⟩
def s52 : Sig := ⟨(.cons (.ptr 0 0 0) (.cons (.v (.int .i64)) .nil)), [.one false (.pair (.int .u64) .unit)], ((.v (.int .i64)), [.one false (.pair (.int .u64) .unit)]), []⟩
def F52 (L : Lp) (g93 : Int → Option Int) (an0 : Int) (a1 : (Int × Unit)) : Option (Int × ((Int × Unit) × Unit)) :=
  cond (decide (an0 < 1))
    (some (0, (a1, ())))
    (Option.bind (g93 a1.1) fun r2 =>
    cond (decide ((IntKind.wrap .u64 (an0)) = 0))
      (none)
      (some (IntKind.wrap .i64 (Int.tmod (Int.fdiv r2 (2 ^ (min (Int.toNat 33) 64))) (IntKind.wrap .u64 (an0))), ((r2, ()), ()))))
theorem e52 (L : Lp) (g93 : Int → Option Int) (x : s52.args.den) (h : denH s52.heap) : nrun [⟨93, s93, fun x h => g93 x.1⟩] L n52 s52 x h = F52 L g93 x.2.1 h.1 := by kernel_rfl
def f52 : Int → (Int × Unit) → Option (Int × ((Int × Unit) × Unit)) := F52 (@LN LOOPS) f93
@[reducible] def t52 : Ent := ⟨52, s52, fun x h => f52 x.2.1 h.1⟩
theorem k52 : chkNF Try.prog Try.f52 n52 = true := by kernel_rfl
theorem ok52 : NOk Try.prog t52 := NOk.body (T := [t93]) mixed (nall_cons ok93 nall_nil) (oneEach_of (by kernel_rfl)) Try.func52 k52 (by kernel_rfl) (fun x h => e52 _ _ x h)
/- drayage/nat.Hold[int] -/
def n80 : NFunc := ⟨16, .seq (.region 0 [
    ⟨(some 6), .move (.const (.int .i64 (0))), none, 0, none⟩] []) (.seq (.seq (.region 0 [
    ⟨(some 7), .move (.tmp 0), none, 0, none⟩,
    ⟨(some 8), .move (.tmp 1), none, 0, none⟩,
    ⟨(some 9), .bin .lss (.tmp 7) (.tmp 8), none, 0, none⟩] []) (.cond (.tmp 9) (.seq (.region 0 [
    ⟨(some 10), .move (.tmp 1), none, 0, none⟩,
    ⟨(some 6), .move (.tmp 10), none, 0, none⟩] []) (.ret)) (.skip))) (.seq (.seq (.region 0 [
    ⟨(some 11), .move (.tmp 0), none, 0, none⟩,
    ⟨(some 12), .move (.tmp 2), none, 0, none⟩,
    ⟨(some 13), .bin .gtr (.tmp 11) (.tmp 12), none, 0, none⟩] []) (.cond (.tmp 13) (.seq (.region 0 [
    ⟨(some 14), .move (.tmp 2), none, 0, none⟩,
    ⟨(some 6), .move (.tmp 14), none, 0, none⟩] []) (.ret)) (.skip))) (.seq (.region 0 [
    ⟨(some 15), .move (.tmp 0), none, 0, none⟩,
    ⟨(some 6), .move (.tmp 15), none, 0, none⟩] []) (.ret)))), [.tmp 6], true⟩
def s80 : Sig := ⟨(.cons (.v (.int .i64)) (.cons (.v (.int .i64)) (.cons (.v (.int .i64)) .nil))), [], ((.v (.int .i64)), []), []⟩
def F80 (L : Lp)  (an0 : Int) (lo1 : Int) (hi2 : Int) : Option Int :=
  cond (decide (an0 < lo1))
    (some lo1)
    (cond (decide (hi2 < an0))
      (some hi2)
      (some an0))
theorem e80 (L : Lp)  (x : s80.args.den) (h : denH s80.heap) : nrun [] L n80 s80 x h = F80 L  x.1 x.2.1 x.2.2.1 := by kernel_rfl
def f80 : Int → Int → Int → Option Int := F80 (@LN LOOPS) 
@[reducible] def t80 : Ent := ⟨80, s80, fun x h => f80 x.1 x.2.1 x.2.2.1⟩
theorem k80 : chkNF Try.prog Try.f80 n80 = true := by kernel_rfl
theorem ok80 : NOk Try.prog t80 := NOk.body (T := []) mixed nall_nil (oneEach_of (by kernel_rfl)) Try.func80 k80 (by kernel_rfl) (fun x h => e80 _  x h)
/- (*drayage/lot.Lot).message -/
def n95 : NFunc := ⟨18, .seq (.region 1 [
    ⟨(some 6), .alloc [.int .i64 (0), .int .i64 (0), .int .i64 (0), .int .i64 (0), .int .i64 (0), .int .i64 (0), .int .i64 (0), .int .i64 (0), .int .i64 (0), .int .i64 (0), .int .i64 (0), .int .i64 (0), .int .i64 (0), .int .i64 (0), .zsl, .int .i64 (0), .int .i64 (0), .int .i64 (0), .int .i64 (0), .zsl, .int .i64 (0), .bool false, .int .i64 (0), .bool false], none, 0, none⟩] []) (.seq (.region 5 [
    ⟨(some 8), .move (.tmp 1), none, 0, none⟩,
    ⟨(some 9), .move (.tmp 2), none, 0, none⟩,
    ⟨(some 10), .move (.tmp 0), none, 0, none⟩,
    ⟨(some 11), .call (.func 52) [(true, (.tmp 10)), (false, (.const (.int .i64 (2))))] false 4, none, 0, none⟩,
    ⟨(some 12), .build [.int .i64 (0), .int .i64 (0), .int .i64 (0), .int .i64 (0), .int .i64 (0), .int .i64 (0), .int .i64 (0), .int .i64 (0), .int .i64 (0), .int .i64 (0), .int .i64 (0), .int .i64 (0), .int .i64 (0), .int .i64 (0), .zsl, .int .i64 (0), .int .i64 (0), .int .i64 (0), .int .i64 (0), .zsl, .int .i64 (0), .bool false, .int .i64 (0), .bool false] [(0, 1, (.tmp 8)), (1, 1, (.tmp 9)), (20, 1, (.tmp 11))], none, 4, none⟩,
    ⟨(some 7), .alloc [.int .i64 (0), .int .i64 (0), .int .i64 (0), .int .i64 (0), .int .i64 (0), .int .i64 (0), .int .i64 (0), .int .i64 (0), .int .i64 (0), .int .i64 (0), .int .i64 (0), .int .i64 (0), .int .i64 (0), .int .i64 (0), .zsl, .int .i64 (0), .int .i64 (0), .int .i64 (0), .int .i64 (0), .zsl, .int .i64 (0), .bool false, .int .i64 (0), .bool false], none, 4, none⟩,
    ⟨none, .store 24 (.tmp 7) (.tmp 12), none, 5, none⟩] []) (.seq (.region 4 [
    ⟨(some 13), .move (.tmp 0), none, 0, none⟩,
    ⟨(some 14), .call (.func 52) [(true, (.tmp 13)), (false, (.const (.int .i64 (4))))] false 4, none, 0, none⟩,
    ⟨(some 15), .bin .eql (.tmp 14) (.const (.int .i64 (0))), none, 4, none⟩,
    ⟨(some 16), .fieldAddr 21 (.tmp 7), none, 4, none⟩,
    ⟨none, .store 1 (.tmp 16) (.tmp 15), none, 4, none⟩] []) (.seq (.region 0 [
    ⟨(some 17), .load true 24 (.tmp 7), none, 0, none⟩,
    ⟨none, .store 24 (.tmp 6) (.tmp 17), none, 0, none⟩] []) (.ret)))), [.cell true 24 6], true⟩
def s95 : Sig := ⟨(.cons (.ptr 0 0 0) (.cons (.v (.int .i64)) (.cons (.v (.int .i64)) .nil))), [.one false (.pair (.int .u64) .unit)], ((.v (.pair (.int .i64) (.pair (.int .i64) (.pair .request (.pair (.list (.int .u8)) (.pair (.int .i64) (.pair .bool (.pair (.int .i64) .bool)))))))), [.one false (.pair (.int .u64) .unit)]), []⟩
def F95 (L : Lp) (g52 : Int → (Int × Unit) → Option (Int × ((Int × Unit) × Unit))) (kind0 : Int) (user1 : Int) (a2 : (Int × Unit)) : Option ((Int × (Int × (Request × ((List Int) × (Int × (Bool × (Int × Bool))))))) × ((Int × Unit) × Unit)) :=
  Option.bind (g52 2 a2) fun r3 =>
  Option.bind (g52 4 r3.2.1) fun r4 =>
  some ((kind0, (user1, (Request.mk 0 0 0 0 0 0 (Res.mk 0 0 0 0) 0 0 [] 0 0 0 0, ([], (r3.1, (decide (r4.1 = 0), (0, false))))))), (r4.2.1, ()))
theorem e95 (L : Lp) (g52 : Int → (Int × Unit) → Option (Int × ((Int × Unit) × Unit))) (x : s95.args.den) (h : denH s95.heap) : nrun [⟨52, s52, fun x h => g52 x.2.1 h.1⟩] L n95 s95 x h = F95 L g52 x.2.1 x.2.2.1 h.1 := by kernel_rfl
def f95 : Int → Int → (Int × Unit) → Option ((Int × (Int × (Request × ((List Int) × (Int × (Bool × (Int × Bool))))))) × ((Int × Unit) × Unit)) := F95 (@LN LOOPS) f52
@[reducible] def t95 : Ent := ⟨95, s95, fun x h => f95 x.2.1 x.2.2.1 h.1⟩
theorem k95 : chkNF Try.prog Try.f95 n95 = true := by kernel_rfl
theorem ok95 : NOk Try.prog t95 := NOk.body (T := [t52]) mixed (nall_cons ok52 nall_nil) (oneEach_of (by kernel_rfl)) Try.func95 k95 (by kernel_rfl) (fun x h => e95 _ _ x h)
/- (*drayage/lot.Lot).request -/
def n96 : NFunc := ⟨58, .seq (.region 1 [
    ⟨(some 4), .alloc [.int .i64 (0), .int .i64 (0), .int .i64 (0), .int .i64 (0), .int .i64 (0), .int .i64 (0), .int .i64 (0), .int .i64 (0), .int .i64 (0), .int .i64 (0), .int .i64 (0), .int .i64 (0), .zsl, .int .i64 (0), .int .i64 (0), .int .i64 (0), .int .i64 (0)], none, 0, none⟩] []) (.seq (.region 4 [
    ⟨(some 7), .move (.tmp 0), none, 0, none⟩,
    ⟨(some 8), .call (.func 52) [(true, (.tmp 7)), (false, (.const (.int .i64 (8))))] false 4, none, 0, none⟩,
    ⟨(some 5), .move (.tmp 8), none, 4, none⟩] []) (.seq (.region 5 [
    ⟨(some 9), .move (.tmp 0), none, 0, none⟩,
    ⟨(some 10), .move (.tmp 1), none, 0, none⟩,
    ⟨(some 11), .call (.func 52) [(true, (.tmp 9)), (false, (.tmp 10))] false 4, none, 0, none⟩,
    ⟨(some 12), .bin .add (.const (.int .i64 (1))) (.tmp 11), none, 4, none⟩,
    ⟨(some 13), .build [.int .i64 (0), .int .i64 (0), .int .i64 (0), .int .i64 (0), .int .i64 (0), .int .i64 (0), .int .i64 (0), .int .i64 (0), .int .i64 (0), .int .i64 (0), .int .i64 (0), .int .i64 (0), .zsl, .int .i64 (0), .int .i64 (0), .int .i64 (0), .int .i64 (0)] [(1, 1, (.tmp 12))], none, 4, none⟩,
    ⟨(some 6), .alloc [.int .i64 (0), .int .i64 (0), .int .i64 (0), .int .i64 (0), .int .i64 (0), .int .i64 (0), .int .i64 (0), .int .i64 (0), .int .i64 (0), .int .i64 (0), .int .i64 (0), .int .i64 (0), .zsl, .int .i64 (0), .int .i64 (0), .int .i64 (0), .int .i64 (0)], none, 4, none⟩,
    ⟨none, .store 17 (.tmp 6) (.tmp 13), none, 5, none⟩] []) (.seq (.join [4, 6, 0] [] ⟨[(0, (.ptr 0 0 0)), (4, (.ptr 1 0 0)), (6, (.ptr 2 0 0))], [], [.one false (.pair (.int .u64) .unit), .cell false (.cons (.v (.int .i64)) (.cons (.v (.int .i64)) (.cons (.v (.int .i64)) (.cons (.v (.int .i64)) (.cons (.v (.int .i64)) (.cons (.v (.int .i64)) (.cons (.v (.int .i64)) (.cons (.v (.int .i64)) (.cons (.v (.int .i64)) (.cons (.v (.int .i64)) (.cons (.v (.int .i64)) (.cons (.v (.int .i64)) (.cons .zsl (.cons (.v (.int .i64)) (.cons (.v (.int .i64)) (.cons (.v (.int .i64)) (.cons (.v (.int .i64)) .nil))))))))))))))))), .cell false (.cons (.v (.int .i64)) (.cons (.v (.int .i64)) (.cons (.v (.int .i64)) (.cons (.v (.int .i64)) (.cons (.v (.int .i64)) (.cons (.v (.int .i64)) (.cons (.v (.int .i64)) (.cons (.v (.int .i64)) (.cons (.v (.int .i64)) (.cons (.v (.int .i64)) (.cons (.v (.int .i64)) (.cons (.v (.int .i64)) (.cons .zsl (.cons (.v (.int .i64)) (.cons (.v (.int .i64)) (.cons (.v (.int .i64)) (.cons (.v (.int .i64)) .nil)))))))))))))))))]⟩ (.seq (.region 0 [
    ⟨(some 14), .move (.tmp 5), none, 0, none⟩] []) (.block 0 (.seq (.region 0 [
    ⟨(some 35), .bin .eql (.tmp 14) (.const (.int .i64 (3))), none, 0, none⟩,
    ⟨(some 34), .move (.tmp 35), none, 0, none⟩] []) (.cond (.tmp 34) (.region 0 [
    ⟨(some 36), .fieldAddr 0 (.tmp 6), none, 0, none⟩,
    ⟨none, .store 1 (.tmp 36) (.const (.int .i64 (3))), none, 0, none⟩] []) (.seq (.region 0 [
    ⟨(some 38), .bin .eql (.tmp 14) (.const (.int .i64 (4))), none, 0, none⟩,
    ⟨(some 37), .move (.tmp 38), none, 0, none⟩] []) (.cond (.tmp 37) (.region 0 [
    ⟨(some 39), .fieldAddr 0 (.tmp 6), none, 0, none⟩,
    ⟨none, .store 1 (.tmp 39) (.const (.int .i64 (4))), none, 0, none⟩] []) (.seq (.region 0 [
    ⟨(some 41), .bin .eql (.tmp 14) (.const (.int .i64 (5))), none, 0, none⟩,
    ⟨(some 40), .move (.tmp 41), none, 0, none⟩] []) (.cond (.tmp 40) (.region 0 [
    ⟨(some 42), .fieldAddr 0 (.tmp 6), none, 0, none⟩,
    ⟨none, .store 1 (.tmp 42) (.const (.int .i64 (5))), none, 0, none⟩] []) (.seq (.region 0 [
    ⟨(some 44), .bin .eql (.tmp 14) (.const (.int .i64 (6))), none, 0, none⟩,
    ⟨(some 43), .move (.tmp 44), none, 0, none⟩] []) (.cond (.tmp 43) (.region 0 [
    ⟨(some 45), .fieldAddr 0 (.tmp 6), none, 0, none⟩,
    ⟨none, .store 1 (.tmp 45) (.const (.int .i64 (8))), none, 0, none⟩] []) (.seq (.region 0 [
    ⟨(some 47), .bin .eql (.tmp 14) (.const (.int .i64 (7))), none, 0, none⟩,
    ⟨(some 46), .move (.tmp 47), none, 0, none⟩] []) (.cond (.tmp 46) (.seq (.region 0 [
    ⟨(some 48), .fieldAddr 0 (.tmp 6), none, 0, none⟩,
    ⟨none, .store 1 (.tmp 48) (.const (.int .i64 (9))), none, 0, none⟩] []) (.seq (.region 4 [
    ⟨(some 49), .move (.tmp 0), none, 0, none⟩,
    ⟨(some 50), .call (.func 52) [(true, (.tmp 49)), (false, (.const (.int .i64 (2))))] false 4, none, 0, none⟩,
    ⟨(some 51), .fieldAddr 4 (.tmp 6), none, 4, none⟩,
    ⟨none, .store 1 (.tmp 51) (.tmp 50), none, 4, none⟩] []) (.seq (.region 0 [
    ⟨(some 52), .load true 17 (.tmp 6), none, 0, none⟩,
    ⟨none, .store 17 (.tmp 4) (.tmp 52), none, 0, none⟩] []) (.ret)))) (.seq (.region 0 [
    ⟨(some 15), .fieldAddr 0 (.tmp 6), none, 0, none⟩,
    ⟨none, .store 1 (.tmp 15) (.const (.int .i64 (1))), none, 0, none⟩] []) (.seq (.region 4 [
    ⟨(some 16), .move (.tmp 0), none, 0, none⟩,
    ⟨(some 17), .call (.func 52) [(true, (.tmp 16)), (false, (.const (.int .i64 (2))))] false 4, none, 0, none⟩,
    ⟨(some 18), .fieldAddr 4 (.tmp 6), none, 4, none⟩,
    ⟨none, .store 1 (.tmp 18) (.tmp 17), none, 4, none⟩] []) (.seq (.region 4 [
    ⟨(some 19), .move (.tmp 0), none, 0, none⟩,
    ⟨(some 20), .call (.func 52) [(true, (.tmp 19)), (false, (.const (.int .i64 (3))))] false 4, none, 0, none⟩,
    ⟨(some 21), .bin .add (.const (.int .i64 (1))) (.tmp 20), none, 4, none⟩,
    ⟨(some 22), .fieldAddr 5 (.tmp 6), none, 4, none⟩,
    ⟨none, .store 1 (.tmp 22) (.tmp 21), none, 4, none⟩] []) (.seq (.region 4 [
    ⟨(some 23), .move (.tmp 0), none, 0, none⟩,
    ⟨(some 24), .call (.func 52) [(true, (.tmp 23)), (false, (.const (.int .i64 (4))))] false 4, none, 0, none⟩,
    ⟨(some 25), .bin .add (.const (.int .i64 (1))) (.tmp 24), none, 4, none⟩,
    ⟨(some 26), .fieldAddr 6 (.tmp 6), none, 4, none⟩,
    ⟨(some 27), .fieldAddr 0 (.tmp 26), none, 4, none⟩,
    ⟨none, .store 1 (.tmp 27) (.tmp 25), none, 4, none⟩] []) (.seq (.region 4 [
    ⟨(some 28), .move (.tmp 0), none, 0, none⟩,
    ⟨(some 29), .call (.func 52) [(true, (.tmp 28)), (false, (.const (.int .i64 (8))))] false 4, none, 0, none⟩,
    ⟨(some 30), .bin .add (.const (.int .i64 (1))) (.tmp 29), none, 4, none⟩,
    ⟨(some 31), .fieldAddr 10 (.tmp 6), none, 4, none⟩,
    ⟨none, .store 1 (.tmp 31) (.tmp 30), none, 4, none⟩] []) (.seq (.region 0 [
    ⟨(some 32), .fieldAddr 11 (.tmp 6), none, 0, none⟩,
    ⟨none, .store 1 (.tmp 32) (.const (.int .i64 (1))), none, 0, none⟩] []) (.seq (.region 0 [
    ⟨(some 33), .load true 17 (.tmp 6), none, 0, none⟩,
    ⟨none, .store 17 (.tmp 4) (.tmp 33), none, 0, none⟩] []) (.ret))))))))))))))))))))) (.seq (.region 4 [
    ⟨(some 53), .move (.tmp 0), none, 0, none⟩,
    ⟨(some 54), .call (.func 52) [(true, (.tmp 53)), (false, (.const (.int .i64 (6))))] false 4, none, 0, none⟩,
    ⟨(some 55), .bin .add (.const (.int .i64 (1))) (.tmp 54), none, 4, none⟩,
    ⟨(some 56), .fieldAddr 2 (.tmp 6), none, 4, none⟩,
    ⟨none, .store 1 (.tmp 56) (.tmp 55), none, 4, none⟩] []) (.seq (.region 0 [
    ⟨(some 57), .load true 17 (.tmp 6), none, 0, none⟩,
    ⟨none, .store 17 (.tmp 4) (.tmp 57), none, 0, none⟩] []) (.ret)))))), [.cell true 17 4], true⟩
def s96 : Sig := ⟨(.cons (.ptr 0 0 0) (.cons (.v (.int .i64)) .nil)), [.one false (.pair (.int .u64) .unit)], ((.v .request), [.one false (.pair (.int .u64) .unit)]), []⟩
def F96 (L : Lp) (g52 : Int → (Int × Unit) → Option (Int × ((Int × Unit) × Unit))) (keys0 : Int) (a1 : (Int × Unit)) : Option (Request × ((Int × Unit) × Unit)) :=
  Option.bind (g52 8 a1) fun r2 =>
  Option.bind (g52 keys0 r2.2.1) fun r3 =>
  Option.bind (α := (((Unit × (Unit × (Unit × Unit))) × ((Int × Unit) × ((Int × (Int × (Int × (Int × (Int × (Int × (Int × (Int × (Int × (Int × (Int × (Int × (Unit × (Int × (Int × (Int × (Int × Unit))))))))))))))))) × ((Int × (Int × (Int × (Int × (Int × (Int × (Int × (Int × (Int × (Int × (Int × (Int × (Unit × (Int × (Int × (Int × (Int × Unit))))))))))))))))) × Unit)))) ⊕ (Request × ((Int × Unit) × Unit))))
    (cond (decide (r2.1 = 3))
      (some (.inl (((), (), (), ()), (r3.2.1, (0, 0, 0, 0, 0, 0, 0, 0, 0, 0, 0, 0, (), 0, 0, 0, 0, ()), (3, IntKind.wrap .i64 (1 + r3.1), 0, 0, 0, 0, 0, 0, 0, 0, 0, 0, (), 0, 0, 0, 0, ()), ()))))
      (cond (decide (r2.1 = 4))
        (some (.inl (((), (), (), ()), (r3.2.1, (0, 0, 0, 0, 0, 0, 0, 0, 0, 0, 0, 0, (), 0, 0, 0, 0, ()), (4, IntKind.wrap .i64 (1 + r3.1), 0, 0, 0, 0, 0, 0, 0, 0, 0, 0, (), 0, 0, 0, 0, ()), ()))))
        (cond (decide (r2.1 = 5))
          (some (.inl (((), (), (), ()), (r3.2.1, (0, 0, 0, 0, 0, 0, 0, 0, 0, 0, 0, 0, (), 0, 0, 0, 0, ()), (5, IntKind.wrap .i64 (1 + r3.1), 0, 0, 0, 0, 0, 0, 0, 0, 0, 0, (), 0, 0, 0, 0, ()), ()))))
          (cond (decide (r2.1 = 6))
            (some (.inl (((), (), (), ()), (r3.2.1, (0, 0, 0, 0, 0, 0, 0, 0, 0, 0, 0, 0, (), 0, 0, 0, 0, ()), (8, IntKind.wrap .i64 (1 + r3.1), 0, 0, 0, 0, 0, 0, 0, 0, 0, 0, (), 0, 0, 0, 0, ()), ()))))
            (cond (decide (r2.1 = 7))
              (Option.bind (g52 2 r3.2.1) fun r4 =>
              some (.inr (Request.mk 9 (IntKind.wrap .i64 (1 + r3.1)) 0 0 r4.1 0 (Res.mk 0 0 0 0) 0 0 [] 0 0 0 0, (r4.2.1, ()))))
              (Option.bind (g52 2 r3.2.1) fun r5 =>
              Option.bind (g52 3 r5.2.1) fun r6 =>
              Option.bind (g52 4 r6.2.1) fun r7 =>
              Option.bind (g52 8 r7.2.1) fun r8 =>
              some (.inr (Request.mk 1 (IntKind.wrap .i64 (1 + r3.1)) 0 0 r5.1 (IntKind.wrap .i64 (1 + r6.1)) (Res.mk (IntKind.wrap .i64 (1 + r7.1)) 0 0 0) (IntKind.wrap .i64 (1 + r8.1)) 1 [] 0 0 0 0, (r8.2.1, ()))))))))) (Sum.elim (fun x9 =>
    Option.bind (g52 6 x9.2.1) fun r10 =>
    some (Request.mk x9.2.2.2.1.1 x9.2.2.2.1.2.1 (IntKind.wrap .i64 (1 + r10.1)) x9.2.2.2.1.2.2.2.1 x9.2.2.2.1.2.2.2.2.1 x9.2.2.2.1.2.2.2.2.2.1 (Res.mk x9.2.2.2.1.2.2.2.2.2.2.1 x9.2.2.2.1.2.2.2.2.2.2.2.1 x9.2.2.2.1.2.2.2.2.2.2.2.2.1 x9.2.2.2.1.2.2.2.2.2.2.2.2.2.1) x9.2.2.2.1.2.2.2.2.2.2.2.2.2.2.1 x9.2.2.2.1.2.2.2.2.2.2.2.2.2.2.2.1 [] x9.2.2.2.1.2.2.2.2.2.2.2.2.2.2.2.2.2.1 x9.2.2.2.1.2.2.2.2.2.2.2.2.2.2.2.2.2.2.1 x9.2.2.2.1.2.2.2.2.2.2.2.2.2.2.2.2.2.2.2.1 x9.2.2.2.1.2.2.2.2.2.2.2.2.2.2.2.2.2.2.2.2.1, (r10.2.1, ()))) some)
theorem e96 (L : Lp) (g52 : Int → (Int × Unit) → Option (Int × ((Int × Unit) × Unit))) (x : s96.args.den) (h : denH s96.heap) : nrun [⟨52, s52, fun x h => g52 x.2.1 h.1⟩] L n96 s96 x h = F96 L g52 x.2.1 h.1 := by kernel_rfl
def f96 : Int → (Int × Unit) → Option (Request × ((Int × Unit) × Unit)) := F96 (@LN LOOPS) f52
@[reducible] def t96 : Ent := ⟨96, s96, fun x h => f96 x.2.1 h.1⟩
theorem k96 : chkNF Try.prog Try.f96 n96 = true := by kernel_rfl
theorem ok96 : NOk Try.prog t96 := NOk.body (T := [t52]) mixed (nall_cons ok52 nall_nil) (oneEach_of (by kernel_rfl)) Try.func96 k96 (by kernel_rfl) (fun x h => e96 _ _ x h)
/- (*drayage/lot.Lot).Event -/
def n57 : NFunc := ⟨63, .seq (.region 1 [
    ⟨(some 6), .alloc [.int .i64 (0), .int .i64 (0), .int .i64 (0), .int .i64 (0), .int .i64 (0), .int .i64 (0), .int .i64 (0), .int .i64 (0), .int .i64 (0), .int .i64 (0), .int .i64 (0), .int .i64 (0), .int .i64 (0), .int .i64 (0), .zsl, .int .i64 (0), .int .i64 (0), .int .i64 (0), .int .i64 (0), .zsl, .int .i64 (0), .bool false, .int .i64 (0), .bool false], none, 0, none⟩] []) (.seq (.seq (.region 0 [
    ⟨(some 10), .move (.tmp 0), none, 0, none⟩,
    ⟨(some 11), .eqP false (.tmp 10) (.const (.nilp)), none, 0, none⟩] []) (.cond (.tmp 11) (.seq (.region 0 [
    ⟨(some 12), .build [.int .i64 (0), .int .i64 (0), .int .i64 (0), .int .i64 (0), .int .i64 (0), .int .i64 (0), .int .i64 (0), .int .i64 (0), .int .i64 (0), .int .i64 (0), .int .i64 (0), .int .i64 (0), .int .i64 (0), .int .i64 (0), .zsl, .int .i64 (0), .int .i64 (0), .int .i64 (0), .int .i64 (0), .zsl, .int .i64 (0), .bool false, .int .i64 (0), .bool false] [], none, 0, none⟩,
    ⟨none, .store 24 (.tmp 6) (.tmp 12), none, 0, none⟩] []) (.ret)) (.skip))) (.seq (.region 4 [
    ⟨(some 13), .move (.tmp 0), none, 0, none⟩,
    ⟨(some 14), .call (.func 52) [(true, (.tmp 13)), (false, (.const (.int .i64 (12))))] false 4, none, 0, none⟩,
    ⟨(some 7), .move (.tmp 14), none, 4, none⟩] []) (.seq (.region 8 [
    ⟨(some 15), .move (.tmp 0), none, 0, none⟩,
    ⟨(some 16), .move (.tmp 1), none, 0, none⟩,
    ⟨(some 17), .call (.func 80) [(false, (.tmp 16)), (false, (.const (.int .i64 (1)))), (false, (.const (.int .i64 (8))))] false 4, none, 0, none⟩,
    ⟨(some 18), .call (.func 52) [(true, (.tmp 15)), (false, (.tmp 17))] false 4, none, 4, none⟩,
    ⟨(some 8), .move (.tmp 18), none, 8, none⟩] []) (.seq (.seq (.region 0 [
    ⟨(some 19), .move (.tmp 7), none, 0, none⟩] []) (.block 0 (.seq (.meet [6, 8, 0, 2, 19, 20] [] ⟨[(0, (.ptr 0 0 0)), (6, (.ptr 1 0 0)), (20, (.v .bool))], [2, 8, 19], [.one false (.pair (.int .u64) .unit), .cell false (.cons (.v (.int .i64)) (.cons (.v (.int .i64)) (.cons (.v (.int .i64)) (.cons (.v (.int .i64)) (.cons (.v (.int .i64)) (.cons (.v (.int .i64)) (.cons (.v (.int .i64)) (.cons (.v (.int .i64)) (.cons (.v (.int .i64)) (.cons (.v (.int .i64)) (.cons (.v (.int .i64)) (.cons (.v (.int .i64)) (.cons (.v (.int .i64)) (.cons (.v (.int .i64)) (.cons .zsl (.cons (.v (.int .i64)) (.cons (.v (.int .i64)) (.cons (.v (.int .i64)) (.cons (.v (.int .i64)) (.cons .zsl (.cons (.v (.int .i64)) (.cons (.v .bool) (.cons (.v (.int .i64)) (.cons (.v .bool) .nil))))))))))))))))))))))))]⟩ (.seq (.region 0 [
    ⟨(some 21), .bin .eql (.tmp 19) (.const (.int .i64 (4))), none, 0, none⟩,
    ⟨(some 20), .move (.tmp 21), none, 0, none⟩] []) (.cond (.tmp 20) (.skip) (.region 0 [
    ⟨(some 22), .bin .eql (.tmp 19) (.const (.int .i64 (5))), none, 0, none⟩,
    ⟨(some 20), .move (.tmp 22), none, 0, none⟩] [])))) (.cond (.tmp 20) (.seq (.region 4 [
    ⟨(some 23), .move (.tmp 0), none, 0, none⟩,
    ⟨(some 24), .move (.tmp 8), none, 0, none⟩,
    ⟨(some 25), .call (.func 95) [(true, (.tmp 23)), (false, (.const (.int .i64 (3)))), (false, (.tmp 24))] false 4, none, 0, none⟩,
    ⟨none, .store 24 (.tmp 6) (.tmp 25), none, 4, none⟩] []) (.ret)) (.seq (.region 0 [
    ⟨(some 27), .bin .eql (.tmp 19) (.const (.int .i64 (6))), none, 0, none⟩,
    ⟨(some 26), .move (.tmp 27), none, 0, none⟩] []) (.cond (.tmp 26) (.seq (.region 0 [
    ⟨(some 28), .build [.int .i64 (0), .int .i64 (0), .int .i64 (0), .int .i64 (0), .int .i64 (0), .int .i64 (0), .int .i64 (0), .int .i64 (0), .int .i64 (0), .int .i64 (0), .int .i64 (0), .int .i64 (0), .int .i64 (0), .int .i64 (0), .zsl, .int .i64 (0), .int .i64 (0), .int .i64 (0), .int .i64 (0), .zsl, .int .i64 (0), .bool false, .int .i64 (0), .bool false] [(0, 1, (.const (.int .i64 (5))))], none, 0, none⟩,
    ⟨none, .store 24 (.tmp 6) (.tmp 28), none, 0, none⟩] []) (.ret)) (.seq (.region 0 [
    ⟨(some 30), .bin .eql (.tmp 19) (.const (.int .i64 (7))), none, 0, none⟩,
    ⟨(some 29), .move (.tmp 30), none, 0, none⟩] []) (.cond (.tmp 29) (.seq (.region 0 [
    ⟨(some 31), .build [.int .i64 (0), .int .i64 (0), .int .i64 (0), .int .i64 (0), .int .i64 (0), .int .i64 (0), .int .i64 (0), .int .i64 (0), .int .i64 (0), .int .i64 (0), .int .i64 (0), .int .i64 (0), .int .i64 (0), .int .i64 (0), .zsl, .int .i64 (0), .int .i64 (0), .int .i64 (0), .int .i64 (0), .zsl, .int .i64 (0), .bool false, .int .i64 (0), .bool false] [(0, 1, (.const (.int .i64 (6))))], none, 0, none⟩,
    ⟨none, .store 24 (.tmp 6) (.tmp 31), none, 0, none⟩] []) (.ret)) (.seq (.region 0 [
    ⟨(some 33), .bin .eql (.tmp 19) (.const (.int .i64 (8))), none, 0, none⟩,
    ⟨(some 32), .move (.tmp 33), none, 0, none⟩] []) (.cond (.tmp 32) (.seq (.region 0 [
    ⟨(some 34), .build [.int .i64 (0), .int .i64 (0), .int .i64 (0), .int .i64 (0), .int .i64 (0), .int .i64 (0), .int .i64 (0), .int .i64 (0), .int .i64 (0), .int .i64 (0), .int .i64 (0), .int .i64 (0), .int .i64 (0), .int .i64 (0), .zsl, .int .i64 (0), .int .i64 (0), .int .i64 (0), .int .i64 (0), .zsl, .int .i64 (0), .bool false, .int .i64 (0), .bool false] [(0, 1, (.const (.int .i64 (7))))], none, 0, none⟩,
    ⟨none, .store 24 (.tmp 6) (.tmp 34), none, 0, none⟩] []) (.ret)) (.seq (.region 0 [
    ⟨(some 36), .bin .eql (.tmp 19) (.const (.int .i64 (9))), none, 0, none⟩,
    ⟨(some 35), .move (.tmp 36), none, 0, none⟩] []) (.cond (.tmp 35) (.seq (.region 5 [
    ⟨(some 37), .move (.tmp 0), none, 0, none⟩,
    ⟨(some 38), .call (.func 52) [(true, (.tmp 37)), (false, (.const (.int .i64 (6))))] false 4, none, 0, none⟩,
    ⟨(some 39), .bin .add (.const (.int .i64 (1))) (.tmp 38), none, 4, none⟩,
    ⟨(some 40), .build [.int .i64 (0), .int .i64 (0), .int .i64 (0), .int .i64 (0), .int .i64 (0), .int .i64 (0), .int .i64 (0), .int .i64 (0), .int .i64 (0), .int .i64 (0), .int .i64 (0), .int .i64 (0), .int .i64 (0), .int .i64 (0), .zsl, .int .i64 (0), .int .i64 (0), .int .i64 (0), .int .i64 (0), .zsl, .int .i64 (0), .bool false, .int .i64 (0), .bool false] [(0, 1, (.const (.int .i64 (8)))), (22, 1, (.tmp 39))], none, 4, none⟩,
    ⟨(some 9), .alloc [.int .i64 (0), .int .i64 (0), .int .i64 (0), .int .i64 (0), .int .i64 (0), .int .i64 (0), .int .i64 (0), .int .i64 (0), .int .i64 (0), .int .i64 (0), .int .i64 (0), .int .i64 (0), .int .i64 (0), .int .i64 (0), .zsl, .int .i64 (0), .int .i64 (0), .int .i64 (0), .int .i64 (0), .zsl, .int .i64 (0), .bool false, .int .i64 (0), .bool false], none, 4, none⟩,
    ⟨none, .store 24 (.tmp 9) (.tmp 40), none, 5, none⟩] []) (.seq (.region 4 [
    ⟨(some 41), .move (.tmp 0), none, 0, none⟩,
    ⟨(some 42), .call (.func 52) [(true, (.tmp 41)), (false, (.const (.int .i64 (2))))] false 4, none, 0, none⟩,
    ⟨(some 43), .bin .eql (.tmp 42) (.const (.int .i64 (0))), none, 4, none⟩,
    ⟨(some 44), .fieldAddr 23 (.tmp 9), none, 4, none⟩,
    ⟨none, .store 1 (.tmp 44) (.tmp 43), none, 4, none⟩] []) (.seq (.region 0 [
    ⟨(some 45), .load true 24 (.tmp 9), none, 0, none⟩,
    ⟨none, .store 24 (.tmp 6) (.tmp 45), none, 0, none⟩] []) (.ret)))) (.seq (.region 0 [
    ⟨(some 47), .bin .eql (.tmp 19) (.const (.int .i64 (10))), none, 0, none⟩,
    ⟨(some 46), .move (.tmp 47), none, 0, none⟩] []) (.cond (.tmp 46) (.seq (.region 4 [
    ⟨(some 48), .move (.tmp 0), none, 0, none⟩,
    ⟨(some 49), .move (.tmp 8), none, 0, none⟩,
    ⟨(some 50), .call (.func 95) [(true, (.tmp 48)), (false, (.const (.int .i64 (9)))), (false, (.tmp 49))] false 4, none, 0, none⟩,
    ⟨none, .store 24 (.tmp 6) (.tmp 50), none, 4, none⟩] []) (.ret)) (.seq (.region 0 [
    ⟨(some 52), .bin .eql (.tmp 19) (.const (.int .i64 (11))), none, 0, none⟩,
    ⟨(some 51), .move (.tmp 52), none, 0, none⟩] []) (.cond (.tmp 51) (.seq (.region 4 [
    ⟨(some 53), .move (.tmp 8), none, 0, none⟩,
    ⟨(some 54), .move (.tmp 0), none, 0, none⟩,
    ⟨(some 55), .call (.func 52) [(true, (.tmp 54)), (false, (.const (.int .i64 (2))))] false 4, none, 0, none⟩,
    ⟨(some 56), .build [.int .i64 (0), .int .i64 (0), .int .i64 (0), .int .i64 (0), .int .i64 (0), .int .i64 (0), .int .i64 (0), .int .i64 (0), .int .i64 (0), .int .i64 (0), .int .i64 (0), .int .i64 (0), .int .i64 (0), .int .i64 (0), .zsl, .int .i64 (0), .int .i64 (0), .int .i64 (0), .int .i64 (0), .zsl, .int .i64 (0), .bool false, .int .i64 (0), .bool false] [(0, 1, (.const (.int .i64 (10)))), (1, 1, (.tmp 53)), (20, 1, (.tmp 55))], none, 4, none⟩,
    ⟨none, .store 24 (.tmp 6) (.tmp 56), none, 4, none⟩] []) (.ret)) (.skip))))))))))))))))) (.seq (.region 8 [
    ⟨(some 57), .move (.tmp 8), none, 0, none⟩,
    ⟨(some 58), .move (.tmp 0), none, 0, none⟩,
    ⟨(some 59), .move (.tmp 2), none, 0, none⟩,
    ⟨(some 60), .call (.func 80) [(false, (.tmp 59)), (false, (.const (.int .i64 (1)))), (false, (.const (.int .i64 (1073741824))))] false 4, none, 0, none⟩,
    ⟨(some 61), .call (.func 96) [(true, (.tmp 58)), (false, (.tmp 60))] false 4, none, 4, none⟩,
    ⟨(some 62), .build [.int .i64 (0), .int .i64 (0), .int .i64 (0), .int .i64 (0), .int .i64 (0), .int .i64 (0), .int .i64 (0), .int .i64 (0), .int .i64 (0), .int .i64 (0), .int .i64 (0), .int .i64 (0), .int .i64 (0), .int .i64 (0), .zsl, .int .i64 (0), .int .i64 (0), .int .i64 (0), .int .i64 (0), .zsl, .int .i64 (0), .bool false, .int .i64 (0), .bool false] [(0, 1, (.const (.int .i64 (1)))), (1, 1, (.tmp 57)), (2, 17, (.tmp 61))], none, 8, none⟩,
    ⟨none, .store 24 (.tmp 6) (.tmp 62), none, 8, none⟩] []) (.ret)))))), [.cell true 24 6], true⟩
def s57 : Sig := ⟨(.cons (.ptr 0 0 0) (.cons (.v (.int .i64)) (.cons (.v (.int .i64)) .nil))), [.one false (.pair (.int .u64) .unit)], ((.v (.pair (.int .i64) (.pair (.int .i64) (.pair .request (.pair (.list (.int .u8)) (.pair (.int .i64) (.pair .bool (.pair (.int .i64) .bool)))))))), [.one false (.pair (.int .u64) .unit)]), []⟩
def F57 (L : Lp) (g52 : Int → (Int × Unit) → Option (Int × ((Int × Unit) × Unit))) (g80 : Int → Int → Int → Option Int) (g95 : Int → Int → (Int × Unit) → Option ((Int × (Int × (Request × ((List Int) × (Int × (Bool × (Int × Bool))))))) × ((Int × Unit) × Unit))) (g96 : Int → (Int × Unit) → Option (Request × ((Int × Unit) × Unit))) (users0 : Int) (keys1 : Int) (a2 : (Int × Unit)) : Option ((Int × (Int × (Request × ((List Int) × (Int × (Bool × (Int × Bool))))))) × ((Int × Unit) × Unit)) :=
  Option.bind (g52 12 a2) fun r3 =>
  Option.bind (g80 users0 1 8) fun r4 =>
  Option.bind (g52 r4 r3.2.1) fun r5 =>
  Option.bind (α := ((Unit × (Unit × (Bool × Unit))) × ((Int × Unit) × ((Int × (Int × (Int × (Int × (Int × (Int × (Int × (Int × (Int × (Int × (Int × (Int × (Int × (Int × (Unit × (Int × (Int × (Int × (Int × (Unit × (Int × (Bool × (Int × (Bool × Unit)))))))))))))))))))))))) × Unit))))
    (cond (decide (r3.1 = 4))
      (some (((), (), true, ()), (r5.2.1, (0, 0, 0, 0, 0, 0, 0, 0, 0, 0, 0, 0, 0, 0, (), 0, 0, 0, 0, (), 0, false, 0, false, ()), ())))
      (some (((), (), decide (r3.1 = 5), ()), (r5.2.1, (0, 0, 0, 0, 0, 0, 0, 0, 0, 0, 0, 0, 0, 0, (), 0, 0, 0, 0, (), 0, false, 0, false, ()), ())))) fun x6 =>
  cond x6.1.2.2.1
    (Option.bind (g95 3 r5.1 x6.2.1) fun r7 =>
    some (r7.1, (r7.2.1, ())))
    (cond (decide (r3.1 = 6))
      (some ((5, (0, (Request.mk 0 0 0 0 0 0 (Res.mk 0 0 0 0) 0 0 [] 0 0 0 0, ([], (0, (false, (0, false))))))), (x6.2.1, ())))
      (cond (decide (r3.1 = 7))
        (some ((6, (0, (Request.mk 0 0 0 0 0 0 (Res.mk 0 0 0 0) 0 0 [] 0 0 0 0, ([], (0, (false, (0, false))))))), (x6.2.1, ())))
        (cond (decide (r3.1 = 8))
          (some ((7, (0, (Request.mk 0 0 0 0 0 0 (Res.mk 0 0 0 0) 0 0 [] 0 0 0 0, ([], (0, (false, (0, false))))))), (x6.2.1, ())))
          (cond (decide (r3.1 = 9))
            (Option.bind (g52 6 x6.2.1) fun r8 =>
            Option.bind (g52 2 r8.2.1) fun r9 =>
            some ((8, (0, (Request.mk 0 0 0 0 0 0 (Res.mk 0 0 0 0) 0 0 [] 0 0 0 0, ([], (0, (false, (IntKind.wrap .i64 (1 + r8.1), decide (r9.1 = 0)))))))), (r9.2.1, ())))
            (cond (decide (r3.1 = 10))
              (Option.bind (g95 9 r5.1 x6.2.1) fun r10 =>
              some (r10.1, (r10.2.1, ())))
              (cond (decide (r3.1 = 11))
                (Option.bind (g52 2 x6.2.1) fun r11 =>
                some ((10, (r5.1, (Request.mk 0 0 0 0 0 0 (Res.mk 0 0 0 0) 0 0 [] 0 0 0 0, ([], (r11.1, (false, (0, false))))))), (r11.2.1, ())))
                (Option.bind (g80 keys1 1 1073741824) fun r12 =>
                Option.bind (g96 r12 x6.2.1) fun r13 =>
                some ((1, (r5.1, (r13.1, ([], (0, (false, (0, false))))))), (r13.2.1, ())))))))))
theorem e57 (L : Lp) (g52 : Int → (Int × Unit) → Option (Int × ((Int × Unit) × Unit))) (g80 : Int → Int → Int → Option Int) (g95 : Int → Int → (Int × Unit) → Option ((Int × (Int × (Request × ((List Int) × (Int × (Bool × (Int × Bool))))))) × ((Int × Unit) × Unit))) (g96 : Int → (Int × Unit) → Option (Request × ((Int × Unit) × Unit))) (x : s57.args.den) (h : denH s57.heap) : nrun [⟨52, s52, fun x h => g52 x.2.1 h.1⟩, ⟨80, s80, fun x h => g80 x.1 x.2.1 x.2.2.1⟩, ⟨95, s95, fun x h => g95 x.2.1 x.2.2.1 h.1⟩, ⟨96, s96, fun x h => g96 x.2.1 h.1⟩] L n57 s57 x h = F57 L g52 g80 g95 g96 x.2.1 x.2.2.1 h.1 := by kernel_rfl
def f57 : Int → Int → (Int × Unit) → Option ((Int × (Int × (Request × ((List Int) × (Int × (Bool × (Int × Bool))))))) × ((Int × Unit) × Unit)) := F57 (@LN LOOPS) f52 f80 f95 f96
@[reducible] def t57 : Ent := ⟨57, s57, fun x h => f57 x.2.1 x.2.2.1 h.1⟩
theorem k57 : chkNF Try.prog Try.f57 n57 = true := by kernel_rfl
theorem ok57 : NOk Try.prog t57 := NOk.body (T := [t52, t80, t95, t96]) mixed (nall_cons ok52 (nall_cons ok80 (nall_cons ok95 (nall_cons ok96 nall_nil)))) (oneEach_of (by kernel_rfl)) Try.func57 k57 (by kernel_rfl) (fun x h => e57 _ _ _ _ _ x h)
/- drayage/drayageref08.all -/
def n99 : NFunc := ⟨36, .seq (.region 1 [
    ⟨(some 1), .box 17 (.tmp 0), none, 0, none⟩,
    ⟨(some 2), .move (.const (.zsl)), none, 1, none⟩] []) (.seq (.region 1 [
    ⟨(some 3), .fieldAddr 2 (.tmp 1), none, 0, none⟩,
    ⟨(some 4), .load false 1 (.tmp 3), none, 0, none⟩,
    ⟨(some 5), .fieldAddr 3 (.tmp 1), none, 0, none⟩,
    ⟨(some 6), .load false 1 (.tmp 5), none, 0, none⟩,
    ⟨(some 7), .fieldAddr 4 (.tmp 1), none, 0, none⟩,
    ⟨(some 8), .load false 1 (.tmp 7), none, 0, none⟩,
    ⟨(some 9), .fieldAddr 5 (.tmp 1), none, 0, none⟩,
    ⟨(some 10), .load false 1 (.tmp 9), none, 0, none⟩,
    ⟨(some 11), .fieldAddr 6 (.tmp 1), none, 0, none⟩,
    ⟨(some 12), .fieldAddr 0 (.tmp 11), none, 0, none⟩,
    ⟨(some 13), .load false 1 (.tmp 12), none, 0, none⟩,
    ⟨(some 14), .fieldAddr 6 (.tmp 1), none, 0, none⟩,
    ⟨(some 15), .fieldAddr 1 (.tmp 14), none, 0, none⟩,
    ⟨(some 16), .load false 1 (.tmp 15), none, 0, none⟩,
    ⟨(some 17), .fieldAddr 6 (.tmp 1), none, 0, none⟩,
    ⟨(some 18), .fieldAddr 2 (.tmp 17), none, 0, none⟩,
    ⟨(some 19), .load false 1 (.tmp 18), none, 0, none⟩,
    ⟨(some 20), .fieldAddr 6 (.tmp 1), none, 0, none⟩,
    ⟨(some 21), .fieldAddr 3 (.tmp 20), none, 0, none⟩,
    ⟨(some 22), .load false 1 (.tmp 21), none, 0, none⟩,
    ⟨(some 23), .fieldAddr 10 (.tmp 1), none, 0, none⟩,
    ⟨(some 24), .load false 1 (.tmp 23), none, 0, none⟩,
    ⟨(some 25), .fieldAddr 11 (.tmp 1), none, 0, none⟩,
    ⟨(some 26), .load false 1 (.tmp 25), none, 0, none⟩,
    ⟨(some 27), .fieldAddr 13 (.tmp 1), none, 0, none⟩,
    ⟨(some 28), .load false 1 (.tmp 27), none, 0, none⟩,
    ⟨(some 29), .fieldAddr 14 (.tmp 1), none, 0, none⟩,
    ⟨(some 30), .load false 1 (.tmp 29), none, 0, none⟩,
    ⟨(some 31), .fieldAddr 15 (.tmp 1), none, 0, none⟩,
    ⟨(some 32), .load false 1 (.tmp 31), none, 0, none⟩,
    ⟨(some 33), .fieldAddr 16 (.tmp 1), none, 0, none⟩,
    ⟨(some 34), .load false 1 (.tmp 33), none, 0, none⟩,
    ⟨(some 35), .buildSlice 1 15 true [.int .i64 (0)] [(0, (.const (.int .i64 (0)))), (1, (.tmp 4)), (2, (.tmp 6)), (3, (.tmp 8)), (4, (.tmp 10)), (5, (.tmp 13)), (6, (.tmp 16)), (7, (.tmp 19)), (8, (.tmp 22)), (9, (.tmp 24)), (10, (.tmp 26)), (11, (.tmp 28)), (12, (.tmp 30)), (13, (.tmp 32)), (14, (.tmp 34))], none, 0, none⟩,
    ⟨(some 2), .move (.tmp 35), none, 1, none⟩] []) (.ret)), [.tmp 2], true⟩
def s99 : Sig := ⟨(.cons (.v .request) .nil), [], ((.v (.list (.int .i64))), []), []⟩
def F99 (L : Lp)  (ar0 : Request) : Option (List Int) :=
  some [0, ar0.job, ar0.version, ar0.queue, ar0.many, ar0.need.cpu, ar0.need.mem, ar0.need.gpu, ar0.need.lic, ar0.wall, ar0.tasks, ar0.node, ar0.fro, ar0.to, ar0.id]
theorem e99 (L : Lp)  (x : s99.args.den) (h : denH s99.heap) : nrun [] L n99 s99 x h = F99 L  x.1 := by kernel_rfl
def f99 : Request → Option (List Int) := F99 (@LN LOOPS) 
@[reducible] def t99 : Ent := ⟨99, s99, fun x h => f99 x.1⟩
theorem k99 : chkNF Try.prog Try.f99 n99 = true := by kernel_rfl
theorem ok99 : NOk Try.prog t99 := NOk.body (T := []) mixed nall_nil (oneEach_of (by kernel_rfl)) Try.func99 k99 (by kernel_rfl) (fun x h => e99 _  x h)
/- drayage/drayageref08.Same -/
def n60 : NFunc := ⟨65, .seq (.region 2 [
    ⟨(some 2), .box 17 (.tmp 0), none, 0, none⟩,
    ⟨(some 3), .box 17 (.tmp 1), none, 1, none⟩,
    ⟨(some 4), .move (.const (.bool false)), none, 2, none⟩] []) (.seq (.seq (.region 0 [
    ⟨(some 9), .fieldAddr 0 (.tmp 2), none, 0, none⟩,
    ⟨(some 10), .load false 1 (.tmp 9), none, 0, none⟩,
    ⟨(some 11), .fieldAddr 0 (.tmp 3), none, 0, none⟩,
    ⟨(some 12), .load false 1 (.tmp 11), none, 0, none⟩,
    ⟨(some 13), .bin .neq (.tmp 10) (.tmp 12), none, 0, none⟩,
    ⟨(some 14), .move (.tmp 13), none, 0, none⟩,
    ⟨(some 15), .fieldAddr 1 (.tmp 2), (some (14, false)), 0, none⟩,
    ⟨(some 16), .load false 1 (.tmp 15), (some (14, false)), 0, none⟩,
    ⟨(some 17), .fieldAddr 1 (.tmp 3), (some (14, false)), 0, none⟩,
    ⟨(some 18), .load false 1 (.tmp 17), (some (14, false)), 0, none⟩,
    ⟨(some 19), .bin .neq (.tmp 16) (.tmp 18), (some (14, false)), 0, none⟩,
    ⟨(some 20), .pick (.tmp 14) (.const (.bool true)) (.tmp 19), none, 0, none⟩,
    ⟨(some 21), .move (.tmp 20), none, 0, none⟩,
    ⟨(some 22), .fieldAddr 12 (.tmp 2), (some (21, false)), 0, none⟩,
    ⟨(some 23), .load false 1 (.tmp 22), (some (21, false)), 0, none⟩,
    ⟨(some 24), .len (.tmp 23), (some (21, false)), 0, none⟩,
    ⟨(some 25), .fieldAddr 12 (.tmp 3), (some (21, false)), 0, none⟩,
    ⟨(some 26), .load false 1 (.tmp 25), (some (21, false)), 0, none⟩,
    ⟨(some 27), .len (.tmp 26), (some (21, false)), 0, none⟩,
    ⟨(some 28), .bin .neq (.tmp 24) (.tmp 27), (some (21, false)), 0, none⟩,
    ⟨(some 29), .pick (.tmp 21) (.const (.bool true)) (.tmp 28), none, 0, none⟩] []) (.cond (.tmp 29) (.seq (.region 0 [
    ⟨(some 4), .move (.const (.bool false)), none, 0, none⟩] []) (.ret)) (.skip))) (.seq (.seq (.region 0 [
    ⟨(some 5), .move (.const (.int .i64 (0))), none, 0, none⟩] []) (.block 0 (.loop [2, 3, 5] ⟨[(2, (.ptr 0 0 0)), (3, (.ptr 1 0 0)), (5, (.v (.int .i64)))], [], [.one false .request, .one false .request]⟩ (.seq (.seq (.region 0 [
    ⟨(some 30), .move (.tmp 5), none, 0, none⟩,
    ⟨(some 31), .fieldAddr 12 (.tmp 2), none, 0, none⟩,
    ⟨(some 32), .load false 1 (.tmp 31), none, 0, none⟩,
    ⟨(some 33), .len (.tmp 32), none, 0, none⟩,
    ⟨(some 34), .bin .lss (.tmp 30) (.tmp 33), none, 0, none⟩] []) (.cond (.tmp 34) (.skip) (.exit 0))) (.seq (.block 1 (.seq (.region 0 [
    ⟨(some 37), .fieldAddr 12 (.tmp 2), none, 0, (some ([], none))⟩,
    ⟨(some 38), .load false 1 (.tmp 37), none, 0, (some ([], none))⟩,
    ⟨(some 39), .move (.tmp 5), none, 0, (some ([], none))⟩,
    ⟨(some 40), .indexSl 2 (.tmp 38) (.tmp 39), none, 0, (some ([], none))⟩,
    ⟨(some 41), .load true 2 (.tmp 40), none, 0, (some ([], none))⟩,
    ⟨(some 42), .fieldAddr 12 (.tmp 3), none, 0, (some ([], none))⟩,
    ⟨(some 43), .load false 1 (.tmp 42), none, 0, (some ([], none))⟩,
    ⟨(some 44), .move (.tmp 5), none, 0, (some ([], none))⟩,
    ⟨(some 45), .indexSl 2 (.tmp 43) (.tmp 44), none, 0, (some ([], none))⟩,
    ⟨(some 46), .load true 2 (.tmp 45), none, 0, (some ([], none))⟩,
    ⟨(some 47), .eqAgg (true, [.int .i64, .bool]) (.tmp 41) (.tmp 46), none, 0, (some ([], none))⟩] []) (.cond (.tmp 47) (.seq (.region 0 [
    ⟨(some 4), .move (.const (.bool false)), none, 0, none⟩] []) (.ret)) (.skip)))) (.region 0 [
    ⟨(some 35), .move (.tmp 5), none, 0, none⟩,
    ⟨(some 36), .bin .add (.tmp 35) (.const (.int .i64 (1))), none, 0, none⟩,
    ⟨(some 5), .move (.tmp 36), none, 0, none⟩] [])))))) (.seq (.region 4 [
    ⟨(some 48), .load true 17 (.tmp 2), none, 0, none⟩,
    ⟨(some 49), .call (.func 99) [(false, (.tmp 48))] false 4, none, 0, none⟩,
    ⟨(some 6), .move (.tmp 49), none, 4, none⟩] []) (.seq (.region 4 [
    ⟨(some 50), .load true 17 (.tmp 3), none, 0, none⟩,
    ⟨(some 51), .call (.func 99) [(false, (.tmp 50))] false 4, none, 0, none⟩,
    ⟨(some 7), .move (.tmp 51), none, 4, none⟩] []) (.seq (.seq (.region 0 [
    ⟨(some 8), .move (.const (.int .i64 (0))), none, 0, none⟩] []) (.block 2 (.loopU [6, 7, 8] 16 (.seq (.seq (.region 0 [
    ⟨(some 52), .move (.tmp 8), none, 0, none⟩,
    ⟨(some 53), .bin .lss (.tmp 52) (.const (.int .i64 (15))), none, 0, none⟩] []) (.cond (.tmp 53) (.skip) (.exit 2))) (.seq (.block 3 (.seq (.region 0 [
    ⟨(some 56), .move (.tmp 6), none, 0, (some ([], none))⟩,
    ⟨(some 57), .move (.tmp 8), none, 0, (some ([], none))⟩,
    ⟨(some 58), .indexSl 1 (.tmp 56) (.tmp 57), none, 0, (some ([], none))⟩,
    ⟨(some 59), .load false 1 (.tmp 58), none, 0, (some ([], none))⟩,
    ⟨(some 60), .move (.tmp 7), none, 0, (some ([], none))⟩,
    ⟨(some 61), .move (.tmp 8), none, 0, (some ([], none))⟩,
    ⟨(some 62), .indexSl 1 (.tmp 60) (.tmp 61), none, 0, (some ([], none))⟩,
    ⟨(some 63), .load false 1 (.tmp 62), none, 0, (some ([], none))⟩,
    ⟨(some 64), .bin .neq (.tmp 59) (.tmp 63), none, 0, (some ([], none))⟩] []) (.cond (.tmp 64) (.seq (.region 0 [
    ⟨(some 4), .move (.const (.bool false)), none, 0, none⟩] []) (.ret)) (.skip)))) (.region 0 [
    ⟨(some 54), .move (.tmp 8), none, 0, none⟩,
    ⟨(some 55), .bin .add (.tmp 54) (.const (.int .i64 (1))), none, 0, none⟩,
    ⟨(some 8), .move (.tmp 55), none, 0, none⟩] [])))))) (.seq (.region 0 [
    ⟨(some 4), .move (.const (.bool true)), none, 0, none⟩] []) (.ret))))))), [.tmp 4], true⟩
def s60 : Sig := ⟨(.cons (.v .request) (.cons (.v .request) .nil)), [], ((.v .bool), []), []⟩
def l60_0 (g99 : Request → Option (List Int)) (next : ((Unit × (Unit × (Int × Unit))) × (Request × (Request × Unit))) → Option Bool) (i3 : Int) (z4 : Request) (z5 : Request) : Option Bool :=
  cond (decide (i3 < (List.length z4.after : Int)))
    (cond (decide (0 ≤ i3))
      (Option.bind (z4.after[Int.toNat i3]?) fun y6 =>
      cond (decide (0 ≤ i3))
        (Option.bind (z5.after[Int.toNat i3]?) fun y7 =>
        cond (!((decide (y6.job = y7.job)) && ((y6.ok == y7.ok) && true)))
          (some false)
          (next (((), (), IntKind.wrap .i64 (i3 + 1), ()), (z4, z5, ()))))
        (none))
      (none))
    (Option.bind (g99 z4) fun r8 =>
    Option.bind (g99 z5) fun r9 =>
    Option.bind (r8[0]?) fun y10 =>
    Option.bind (r9[0]?) fun y11 =>
    cond (!decide (y10 = y11))
      (some false)
      (Option.bind (r8[1]?) fun y12 =>
      Option.bind (r9[1]?) fun y13 =>
      cond (!decide (y12 = y13))
        (some false)
        (Option.bind (r8[2]?) fun y14 =>
        Option.bind (r9[2]?) fun y15 =>
        cond (!decide (y14 = y15))
          (some false)
          (Option.bind (r8[3]?) fun y16 =>
          Option.bind (r9[3]?) fun y17 =>
          cond (!decide (y16 = y17))
            (some false)
            (Option.bind (r8[4]?) fun y18 =>
            Option.bind (r9[4]?) fun y19 =>
            cond (!decide (y18 = y19))
              (some false)
              (Option.bind (r8[5]?) fun y20 =>
              Option.bind (r9[5]?) fun y21 =>
              cond (!decide (y20 = y21))
                (some false)
                (Option.bind (r8[6]?) fun y22 =>
                Option.bind (r9[6]?) fun y23 =>
                cond (!decide (y22 = y23))
                  (some false)
                  (Option.bind (r8[7]?) fun y24 =>
                  Option.bind (r9[7]?) fun y25 =>
                  cond (!decide (y24 = y25))
                    (some false)
                    (Option.bind (r8[8]?) fun y26 =>
                    Option.bind (r9[8]?) fun y27 =>
                    cond (!decide (y26 = y27))
                      (some false)
                      (Option.bind (r8[9]?) fun y28 =>
                      Option.bind (r9[9]?) fun y29 =>
                      cond (!decide (y28 = y29))
                        (some false)
                        (Option.bind (r8[10]?) fun y30 =>
                        Option.bind (r9[10]?) fun y31 =>
                        cond (!decide (y30 = y31))
                          (some false)
                          (Option.bind (r8[11]?) fun y32 =>
                          Option.bind (r9[11]?) fun y33 =>
                          cond (!decide (y32 = y33))
                            (some false)
                            (Option.bind (r8[12]?) fun y34 =>
                            Option.bind (r9[12]?) fun y35 =>
                            cond (!decide (y34 = y35))
                              (some false)
                              (Option.bind (r8[13]?) fun y36 =>
                              Option.bind (r9[13]?) fun y37 =>
                              cond (!decide (y36 = y37))
                                (some false)
                                (Option.bind (r8[14]?) fun y38 =>
                                Option.bind (r9[14]?) fun y39 =>
                                cond (!decide (y38 = y39))
                                  (some false)
                                  (some true))))))))))))))))
def F60 (L : Lp) (g99 : Request → Option (List Int)) (a0 : Request) (b1 : Request) : Option Bool :=
  cond (!decide (a0.kind = b1.kind))
    (some false)
    (cond (!decide (a0.key = b1.key))
      (some false)
      (cond (!decide ((List.length a0.after : Int) = (List.length b1.after : Int)))
        (some false)
        (L (fun (s2 : ((Unit × (Unit × (Int × Unit))) × (Request × (Request × Unit)))) next => l60_0 g99 next s2.1.2.2.1 s2.2.1 s2.2.2.1) (((), (), 0, ()), (a0, b1, ())))))
theorem e60 (L : Lp) (g99 : Request → Option (List Int)) (x : s60.args.den) (h : denH s60.heap) : nrun [⟨99, s99, fun x h => g99 x.1⟩] L n60 s60 x h = F60 L g99 x.1 x.2.1 := by kernel_rfl
def f60 : Request → Request → Option Bool := F60 (@LN LOOPS) f99
@[reducible] def t60 : Ent := ⟨60, s60, fun x h => f60 x.1 x.2.1⟩
theorem k60 : chkNF Try.prog Try.f60 n60 = true := by kernel_rfl
theorem ok60 : NOk Try.prog t60 := NOk.body (T := [t99]) mixed (nall_cons ok99 nall_nil) (oneEach_of (by kernel_rfl)) Try.func60 k60 (by kernel_rfl) (fun x h => e60 _ _ x h)
/- drayage/drayageref01.Bytes -/
def n36 : NFunc := ⟨26, .seq (.region 0 [
    ⟨(some 4), .move (.const (.bool false)), none, 0, none⟩] []) (.seq (.seq (.region 0 [
    ⟨(some 6), .move (.tmp 0), none, 0, none⟩,
    ⟨(some 7), .len (.tmp 6), none, 0, none⟩,
    ⟨(some 8), .move (.tmp 1), none, 0, none⟩,
    ⟨(some 9), .len (.tmp 8), none, 0, none⟩,
    ⟨(some 10), .bin .neq (.tmp 7) (.tmp 9), none, 0, none⟩] []) (.cond (.tmp 10) (.seq (.region 0 [
    ⟨(some 4), .move (.const (.bool false)), none, 0, none⟩] []) (.ret)) (.skip))) (.seq (.seq (.region 0 [
    ⟨(some 5), .move (.const (.int .i64 (0))), none, 0, none⟩] []) (.block 0 (.loop [0, 1, 5] ⟨[(5, (.v (.int .i64)))], [0, 1], []⟩ (.seq (.seq (.region 0 [
    ⟨(some 11), .move (.tmp 5), none, 0, none⟩,
    ⟨(some 12), .move (.tmp 0), none, 0, none⟩,
    ⟨(some 13), .len (.tmp 12), none, 0, none⟩,
    ⟨(some 14), .bin .lss (.tmp 11) (.tmp 13), none, 0, none⟩] []) (.cond (.tmp 14) (.skip) (.exit 0))) (.seq (.block 1 (.seq (.region 0 [
    ⟨(some 17), .move (.tmp 0), none, 0, (some ([], none))⟩,
    ⟨(some 18), .move (.tmp 5), none, 0, (some ([], none))⟩,
    ⟨(some 19), .indexSl 1 (.tmp 17) (.tmp 18), none, 0, (some ([], none))⟩,
    ⟨(some 20), .load false 1 (.tmp 19), none, 0, (some ([], none))⟩,
    ⟨(some 21), .move (.tmp 1), none, 0, (some ([], none))⟩,
    ⟨(some 22), .move (.tmp 5), none, 0, (some ([], none))⟩,
    ⟨(some 23), .indexSl 1 (.tmp 21) (.tmp 22), none, 0, (some ([], none))⟩,
    ⟨(some 24), .load false 1 (.tmp 23), none, 0, (some ([], none))⟩,
    ⟨(some 25), .bin .neq (.tmp 20) (.tmp 24), none, 0, (some ([], none))⟩] []) (.cond (.tmp 25) (.seq (.region 0 [
    ⟨(some 4), .move (.const (.bool false)), none, 0, none⟩] []) (.ret)) (.skip)))) (.region 0 [
    ⟨(some 15), .move (.tmp 5), none, 0, none⟩,
    ⟨(some 16), .bin .add (.tmp 15) (.const (.int .i64 (1))), none, 0, none⟩,
    ⟨(some 5), .move (.tmp 16), none, 0, none⟩] [])))))) (.seq (.region 0 [
    ⟨(some 4), .move (.const (.bool true)), none, 0, none⟩] []) (.ret)))), [.tmp 4], true⟩
def s36 : Sig := ⟨(.cons (.v (.list (.int .u8))) (.cons (.v (.list (.int .u8))) .nil)), [], ((.v .bool), []), []⟩
def l36_0 (a0 : (List Int)) (b1 : (List Int)) (next : ((Int × Unit) × Unit) → Option Bool) (i3 : Int) : Option Bool :=
  cond (decide (i3 < (List.length a0 : Int)))
    (cond (decide (0 ≤ i3))
      (Option.bind (a0[Int.toNat i3]?) fun y4 =>
      cond (decide (0 ≤ i3))
        (Option.bind (b1[Int.toNat i3]?) fun y5 =>
        cond (!decide (y4 = y5))
          (some false)
          (next ((IntKind.wrap .i64 (i3 + 1), ()), ())))
        (none))
      (none))
    (some true)
def F36 (L : Lp)  (a0 : (List Int)) (b1 : (List Int)) : Option Bool :=
  cond (!decide ((List.length a0 : Int) = (List.length b1 : Int)))
    (some false)
    (L (fun (s2 : ((Int × Unit) × Unit)) next => l36_0 a0 b1 next s2.1.1) ((0, ()), ()))
theorem e36 (L : Lp)  (x : s36.args.den) (h : denH s36.heap) : nrun [] L n36 s36 x h = F36 L  x.1 x.2.1 := by kernel_rfl
def f36 : (List Int) → (List Int) → Option Bool := F36 (@LN LOOPS) 
@[reducible] def t36 : Ent := ⟨36, s36, fun x h => f36 x.1 x.2.1⟩
theorem k36 : chkNF Try.prog Try.f36 n36 = true := by kernel_rfl
theorem ok36 : NOk Try.prog t36 := NOk.body (T := []) mixed nall_nil (oneEach_of (by kernel_rfl)) Try.func36 k36 (by kernel_rfl) (fun x h => e36 _  x h)
/- drayage/drayageref44.Same -/
def n55 : NFunc := ⟨59, .seq (.region 2 [
    ⟨(some 2), .box 24 (.tmp 0), none, 0, none⟩,
    ⟨(some 3), .box 24 (.tmp 1), none, 1, none⟩,
    ⟨(some 4), .move (.const (.bool false)), none, 2, none⟩] []) (.seq (.region 8 [
    ⟨(some 5), .fieldAddr 0 (.tmp 2), none, 0, none⟩,
    ⟨(some 6), .load false 1 (.tmp 5), none, 0, none⟩,
    ⟨(some 7), .fieldAddr 0 (.tmp 3), none, 0, none⟩,
    ⟨(some 8), .load false 1 (.tmp 7), none, 0, none⟩,
    ⟨(some 9), .bin .eql (.tmp 6) (.tmp 8), none, 0, none⟩,
    ⟨(some 10), .move (.tmp 9), none, 0, none⟩,
    ⟨(some 11), .fieldAddr 1 (.tmp 2), (some (10, true)), 0, none⟩,
    ⟨(some 12), .load false 1 (.tmp 11), (some (10, true)), 0, none⟩,
    ⟨(some 13), .fieldAddr 1 (.tmp 3), (some (10, true)), 0, none⟩,
    ⟨(some 14), .load false 1 (.tmp 13), (some (10, true)), 0, none⟩,
    ⟨(some 15), .bin .eql (.tmp 12) (.tmp 14), (some (10, true)), 0, none⟩,
    ⟨(some 16), .pick (.tmp 10) (.tmp 15) (.const (.bool false)), none, 0, none⟩,
    ⟨(some 17), .move (.tmp 16), none, 0, none⟩,
    ⟨(some 18), .fieldAddr 2 (.tmp 2), (some (17, true)), 0, none⟩,
    ⟨(some 19), .load true 17 (.tmp 18), (some (17, true)), 0, none⟩,
    ⟨(some 20), .fieldAddr 2 (.tmp 3), (some (17, true)), 0, none⟩,
    ⟨(some 21), .load true 17 (.tmp 20), (some (17, true)), 0, none⟩,
    ⟨(some 22), .call (.func 60) [(false, (.tmp 19)), (false, (.tmp 21))] false 4, (some (17, true)), 0, none⟩,
    ⟨(some 23), .pick (.tmp 17) (.tmp 22) (.const (.bool false)), none, 4, none⟩,
    ⟨(some 24), .move (.tmp 23), none, 4, none⟩,
    ⟨(some 25), .fieldAddr 19 (.tmp 2), (some (24, true)), 4, none⟩,
    ⟨(some 26), .load false 1 (.tmp 25), (some (24, true)), 4, none⟩,
    ⟨(some 27), .fieldAddr 19 (.tmp 3), (some (24, true)), 4, none⟩,
    ⟨(some 28), .load false 1 (.tmp 27), (some (24, true)), 4, none⟩,
    ⟨(some 29), .call (.func 36) [(false, (.tmp 26)), (false, (.tmp 28))] false 4, (some (24, true)), 4, none⟩,
    ⟨(some 30), .pick (.tmp 24) (.tmp 29) (.const (.bool false)), none, 8, none⟩,
    ⟨(some 31), .move (.tmp 30), none, 8, none⟩,
    ⟨(some 32), .fieldAddr 20 (.tmp 2), (some (31, true)), 8, none⟩,
    ⟨(some 33), .load false 1 (.tmp 32), (some (31, true)), 8, none⟩,
    ⟨(some 34), .fieldAddr 20 (.tmp 3), (some (31, true)), 8, none⟩,
    ⟨(some 35), .load false 1 (.tmp 34), (some (31, true)), 8, none⟩,
    ⟨(some 36), .bin .eql (.tmp 33) (.tmp 35), (some (31, true)), 8, none⟩,
    ⟨(some 37), .pick (.tmp 31) (.tmp 36) (.const (.bool false)), none, 8, none⟩,
    ⟨(some 38), .move (.tmp 37), none, 8, none⟩,
    ⟨(some 39), .fieldAddr 21 (.tmp 2), (some (38, true)), 8, none⟩,
    ⟨(some 40), .load false 1 (.tmp 39), (some (38, true)), 8, none⟩,
    ⟨(some 41), .fieldAddr 21 (.tmp 3), (some (38, true)), 8, none⟩,
    ⟨(some 42), .load false 1 (.tmp 41), (some (38, true)), 8, none⟩,
    ⟨(some 43), .eqB false (.tmp 40) (.tmp 42), (some (38, true)), 8, none⟩,
    ⟨(some 44), .pick (.tmp 38) (.tmp 43) (.const (.bool false)), none, 8, none⟩,
    ⟨(some 45), .move (.tmp 44), none, 8, none⟩,
    ⟨(some 46), .fieldAddr 22 (.tmp 2), (some (45, true)), 8, none⟩,
    ⟨(some 47), .load false 1 (.tmp 46), (some (45, true)), 8, none⟩,
    ⟨(some 48), .fieldAddr 22 (.tmp 3), (some (45, true)), 8, none⟩,
    ⟨(some 49), .load false 1 (.tmp 48), (some (45, true)), 8, none⟩,
    ⟨(some 50), .bin .eql (.tmp 47) (.tmp 49), (some (45, true)), 8, none⟩,
    ⟨(some 51), .pick (.tmp 45) (.tmp 50) (.const (.bool false)), none, 8, none⟩,
    ⟨(some 52), .move (.tmp 51), none, 8, none⟩,
    ⟨(some 53), .fieldAddr 23 (.tmp 2), (some (52, true)), 8, none⟩,
    ⟨(some 54), .load false 1 (.tmp 53), (some (52, true)), 8, none⟩,
    ⟨(some 55), .fieldAddr 23 (.tmp 3), (some (52, true)), 8, none⟩,
    ⟨(some 56), .load false 1 (.tmp 55), (some (52, true)), 8, none⟩,
    ⟨(some 57), .eqB false (.tmp 54) (.tmp 56), (some (52, true)), 8, none⟩,
    ⟨(some 58), .pick (.tmp 52) (.tmp 57) (.const (.bool false)), none, 8, none⟩,
    ⟨(some 4), .move (.tmp 58), none, 8, none⟩] []) (.ret)), [.tmp 4], true⟩
def s55 : Sig := ⟨(.cons (.v (.pair (.int .i64) (.pair (.int .i64) (.pair .request (.pair (.list (.int .u8)) (.pair (.int .i64) (.pair .bool (.pair (.int .i64) .bool)))))))) (.cons (.v (.pair (.int .i64) (.pair (.int .i64) (.pair .request (.pair (.list (.int .u8)) (.pair (.int .i64) (.pair .bool (.pair (.int .i64) .bool)))))))) .nil)), [], ((.v .bool), []), []⟩
def F55 (L : Lp) (g60 : Request → Request → Option Bool) (g36 : (List Int) → (List Int) → Option Bool) (a0 : (Int × (Int × (Request × ((List Int) × (Int × (Bool × (Int × Bool)))))))) (b1 : (Int × (Int × (Request × ((List Int) × (Int × (Bool × (Int × Bool)))))))) : Option Bool :=
  cond (decide (a0.1 = b1.1))
    (cond (decide (a0.2.1 = b1.2.1))
      (Option.bind (g60 a0.2.2.1 b1.2.2.1) fun r2 =>
      cond r2
        (Option.bind (g36 a0.2.2.2.1 b1.2.2.2.1) fun r3 =>
        cond r3
          (cond (decide (a0.2.2.2.2.1 = b1.2.2.2.2.1))
            (cond (a0.2.2.2.2.2.1 == b1.2.2.2.2.2.1)
              (cond (decide (a0.2.2.2.2.2.2.1 = b1.2.2.2.2.2.2.1))
                (some (a0.2.2.2.2.2.2.2 == b1.2.2.2.2.2.2.2))
                (some false))
              (some false))
            (some false))
          (some false))
        (some false))
      (some false))
    (some false)
theorem e55 (L : Lp) (g60 : Request → Request → Option Bool) (g36 : (List Int) → (List Int) → Option Bool) (x : s55.args.den) (h : denH s55.heap) : nrun [⟨60, s60, fun x h => g60 x.1 x.2.1⟩, ⟨36, s36, fun x h => g36 x.1 x.2.1⟩] L n55 s55 x h = F55 L g60 g36 x.1 x.2.1 := by kernel_rfl
def f55 : (Int × (Int × (Request × ((List Int) × (Int × (Bool × (Int × Bool))))))) → (Int × (Int × (Request × ((List Int) × (Int × (Bool × (Int × Bool))))))) → Option Bool := F55 (@LN LOOPS) f60 f36
@[reducible] def t55 : Ent := ⟨55, s55, fun x h => f55 x.1 x.2.1⟩
theorem k55 : chkNF Try.prog Try.f55 n55 = true := by kernel_rfl
theorem ok55 : NOk Try.prog t55 := NOk.body (T := [t60, t36]) mixed (nall_cons ok60 (nall_cons ok36 nall_nil)) (oneEach_of (by kernel_rfl)) Try.func55 k55 (by kernel_rfl) (fun x h => e55 _ _ _ x h)
/- (*drayage/lot.Lot).Below -/
def n52_1 : NFunc := ⟨28, .seq (.region 0 [
    ⟨(some 4), .move (.const (.int .i64 (0))), none, 0, none⟩] []) (.seq (.seq (.region 0 [
    ⟨(some 5), .move (.tmp 0), none, 0, none⟩,
    ⟨(some 6), .eqP false (.tmp 5) (.const (.nilp)), none, 0, none⟩,
    ⟨(some 7), .move (.tmp 6), none, 0, none⟩,
    ⟨(some 8), .move (.tmp 1), (some (7, false)), 0, none⟩,
    ⟨(some 9), .bin .lss (.tmp 8) (.const (.int .i64 (1))), (some (7, false)), 0, none⟩,
    ⟨(some 10), .pick (.tmp 7) (.const (.bool true)) (.tmp 9), none, 0, none⟩] []) (.cond (.tmp 10) (.seq (.region 0 [
    ⟨(some 4), .move (.const (.int .i64 (0))), none, 0, none⟩] []) (.ret)) (.skip))) (.seq (.region 4 [
    ⟨(some 11), .move (.tmp 0), none, 0, none⟩,
    ⟨(some 12), .move (.tmp 0), none, 0, none⟩,
    ⟨(some 13), .nilCheck (.tmp 12), none, 0, none⟩,
    ⟨(some 14), .fieldAddr 0 (.tmp 13), none, 0, none⟩,
    ⟨(some 15), .load false 1 (.tmp 14), none, 0, none⟩,
    ⟨(some 16), .call (.func 93) [(false, (.tmp 15))] false 4, none, 0, none⟩,
    ⟨(some 17), .nilCheck (.tmp 11), none, 4, none⟩,
    ⟨(some 18), .fieldAddr 0 (.tmp 17), none, 4, none⟩,
    ⟨none, .store 1 (.tmp 18) (.tmp 16), none, 4, none⟩] []) (.seq (.region 0 [
    ⟨(some 19), .move (.tmp 0), none, 0, none⟩,
    ⟨(some 20), .nilCheck (.tmp 19), none, 0, none⟩,
    ⟨(some 21), .fieldAddr 0 (.tmp 20), none, 0, none⟩,
    ⟨(some 22), .load false 1 (.tmp 21), none, 0, none⟩,
    ⟨(some 23), .bin .shr (.tmp 22) (.const (.int .u64 (33))), none, 0, none⟩,
    ⟨(some 24), .move (.tmp 1), none, 0, none⟩,
    ⟨(some 25), .conv .u64 (.tmp 24), none, 0, none⟩,
    ⟨(some 26), .bin .rem (.tmp 23) (.tmp 25), none, 0, none⟩,
    ⟨(some 27), .conv .i64 (.tmp 26), none, 0, none⟩,
    ⟨(some 4), .move (.tmp 27), none, 0, none⟩] []) (.ret)))), [.tmp 4], true⟩
def s52_1 : Sig := ⟨(.cons .nilp (.cons (.v (.int .i64)) .nil)), [], ((.v (.int .i64)), []), []⟩
def F52_1 (L : Lp)  (an0 : Int) : Option Int :=
  some 0
theorem e52_1 (L : Lp)  (x : s52_1.args.den) (h : denH s52_1.heap) : nrun [] L n52_1 s52_1 x h = F52_1 L  x.2.1 := by kernel_rfl
def f52_1 : Int → Option Int := F52_1 (@LN LOOPS) 
@[reducible] def t52_1 : Ent := ⟨52, s52_1, fun x h => f52_1 x.2.1⟩
theorem k52_1 : chkNF Try.prog Try.f52 n52_1 = true := by kernel_rfl
theorem ok52_1 : NOk Try.prog t52_1 := NOk.body (T := []) mixed nall_nil (oneEach_of (by kernel_rfl)) Try.func52 k52_1 (by kernel_rfl) (fun x h => e52_1 _  x h)
/- (*drayage/lot.Lot).Script -/
def n54 : NFunc := ⟨25, .seq (.region 0 [
    ⟨(some 8), .move (.const (.zsl)), none, 0, none⟩] []) (.seq (.seq (.region 0 [
    ⟨(some 10), .move (.tmp 0), none, 0, none⟩,
    ⟨(some 11), .eqP false (.tmp 10) (.const (.nilp)), none, 0, none⟩] []) (.cond (.tmp 11) (.seq (.region 0 [
    ⟨(some 8), .move (.const (.zsl)), none, 0, none⟩] []) (.ret)) (.skip))) (.seq (.region 0 [
    ⟨(some 9), .move (.const (.zsl)), none, 0, none⟩] []) (.seq (.seq (.region 4 [
    ⟨(some 12), .move (.tmp 1), none, 0, none⟩,
    ⟨(some 13), .call (.func 80) [(false, (.tmp 12)), (false, (.const (.int .i64 (0)))), (false, (.const (.int .i64 (4096))))] false 4, none, 0, none⟩,
    ⟨(some 14), .move (.const (.int .i64 (0))), none, 4, none⟩] []) (.block 0 (.loopU [0, 2, 3, 9, 13, 14] 0 (.seq (.region 0 [
    ⟨(some 15), .bin .lss (.tmp 14) (.tmp 13), none, 0, none⟩] []) (.seq (.cond (.tmp 15) (.skip) (.exit 0)) (.seq (.block 1 (.region 6 [
    ⟨(some 16), .move (.tmp 9), none, 0, none⟩,
    ⟨(some 17), .move (.tmp 0), none, 0, none⟩,
    ⟨(some 18), .move (.tmp 2), none, 0, none⟩,
    ⟨(some 19), .move (.tmp 3), none, 0, none⟩,
    ⟨(some 20), .call (.func 57) [(true, (.tmp 17)), (false, (.tmp 18)), (false, (.tmp 19))] false 4, none, 0, none⟩,
    ⟨(some 21), .buildSlice 24 1 true [.int .i64 (0), .int .i64 (0), .int .i64 (0), .int .i64 (0), .int .i64 (0), .int .i64 (0), .int .i64 (0), .int .i64 (0), .int .i64 (0), .int .i64 (0), .int .i64 (0), .int .i64 (0), .int .i64 (0), .int .i64 (0), .zsl, .int .i64 (0), .int .i64 (0), .int .i64 (0), .int .i64 (0), .zsl, .int .i64 (0), .bool false, .int .i64 (0), .bool false] [(0, (.tmp 20))], none, 4, none⟩,
    ⟨(some 22), .append 24 224 true (.tmp 16) (.tmp 21), none, 5, none⟩,
    ⟨(some 9), .move (.tmp 22), none, 6, none⟩] [])) (.region 0 [
    ⟨(some 23), .bin .add (.tmp 14) (.const (.int .i64 (1))), none, 0, none⟩,
    ⟨(some 14), .move (.tmp 23), none, 0, none⟩] []))))))) (.seq (.region 0 [
    ⟨(some 24), .move (.tmp 9), none, 0, none⟩,
    ⟨(some 8), .move (.tmp 24), none, 0, none⟩] []) (.ret))))), [.tmp 8], true⟩
def s54 : Sig := ⟨(.cons .nilp (.cons (.v (.int .i64)) (.cons (.v (.int .i64)) (.cons (.v (.int .i64)) .nil)))), [], ((.v (.list (.pair (.int .i64) (.pair (.int .i64) (.pair .request (.pair (.list (.int .u8)) (.pair (.int .i64) (.pair .bool (.pair (.int .i64) .bool))))))))), []), []⟩
def F54 (L : Lp)  (an0 : Int) (users1 : Int) (keys2 : Int) : Option (List (Int × (Int × (Request × ((List Int) × (Int × (Bool × (Int × Bool)))))))) :=
  some []
theorem e54 (L : Lp)  (x : s54.args.den) (h : denH s54.heap) : nrun [] L n54 s54 x h = F54 L  x.2.1 x.2.2.1 x.2.2.2.1 := by kernel_rfl
def f54 : Int → Int → Int → Option (List (Int × (Int × (Request × ((List Int) × (Int × (Bool × (Int × Bool)))))))) := F54 (@LN LOOPS) 
@[reducible] def t54 : Ent := ⟨54, s54, fun x h => f54 x.2.1 x.2.2.1 x.2.2.2.1⟩
theorem k54 : chkNF Try.prog Try.f54 n54 = true := by kernel_rfl
theorem ok54 : NOk Try.prog t54 := NOk.body (T := []) mixed nall_nil (oneEach_of (by kernel_rfl)) Try.func54 k54 (by kernel_rfl) (fun x h => e54 _  x h)
/- (*drayage/lot.Lot).Event -/
def n57_1 : NFunc := ⟨63, .seq (.region 1 [
    ⟨(some 6), .alloc [.int .i64 (0), .int .i64 (0), .int .i64 (0), .int .i64 (0), .int .i64 (0), .int .i64 (0), .int .i64 (0), .int .i64 (0), .int .i64 (0), .int .i64 (0), .int .i64 (0), .int .i64 (0), .int .i64 (0), .int .i64 (0), .zsl, .int .i64 (0), .int .i64 (0), .int .i64 (0), .int .i64 (0), .zsl, .int .i64 (0), .bool false, .int .i64 (0), .bool false], none, 0, none⟩] []) (.seq (.seq (.region 0 [
    ⟨(some 10), .move (.tmp 0), none, 0, none⟩,
    ⟨(some 11), .eqP false (.tmp 10) (.const (.nilp)), none, 0, none⟩] []) (.cond (.tmp 11) (.seq (.region 0 [
    ⟨(some 12), .build [.int .i64 (0), .int .i64 (0), .int .i64 (0), .int .i64 (0), .int .i64 (0), .int .i64 (0), .int .i64 (0), .int .i64 (0), .int .i64 (0), .int .i64 (0), .int .i64 (0), .int .i64 (0), .int .i64 (0), .int .i64 (0), .zsl, .int .i64 (0), .int .i64 (0), .int .i64 (0), .int .i64 (0), .zsl, .int .i64 (0), .bool false, .int .i64 (0), .bool false] [], none, 0, none⟩,
    ⟨none, .store 24 (.tmp 6) (.tmp 12), none, 0, none⟩] []) (.ret)) (.skip))) (.seq (.region 4 [
    ⟨(some 13), .move (.tmp 0), none, 0, none⟩,
    ⟨(some 14), .call (.func 52) [(true, (.tmp 13)), (false, (.const (.int .i64 (12))))] false 4, none, 0, none⟩,
    ⟨(some 7), .move (.tmp 14), none, 4, none⟩] []) (.seq (.region 8 [
    ⟨(some 15), .move (.tmp 0), none, 0, none⟩,
    ⟨(some 16), .move (.tmp 1), none, 0, none⟩,
    ⟨(some 17), .call (.func 80) [(false, (.tmp 16)), (false, (.const (.int .i64 (1)))), (false, (.const (.int .i64 (8))))] false 4, none, 0, none⟩,
    ⟨(some 18), .call (.func 52) [(true, (.tmp 15)), (false, (.tmp 17))] false 4, none, 4, none⟩,
    ⟨(some 8), .move (.tmp 18), none, 8, none⟩] []) (.seq (.seq (.region 0 [
    ⟨(some 19), .move (.tmp 7), none, 0, none⟩] []) (.block 0 (.seq (.seq (.region 0 [
    ⟨(some 21), .bin .eql (.tmp 19) (.const (.int .i64 (4))), none, 0, none⟩,
    ⟨(some 20), .move (.tmp 21), none, 0, none⟩] []) (.cond (.tmp 20) (.skip) (.region 0 [
    ⟨(some 22), .bin .eql (.tmp 19) (.const (.int .i64 (5))), none, 0, none⟩,
    ⟨(some 20), .move (.tmp 22), none, 0, none⟩] []))) (.cond (.tmp 20) (.seq (.region 4 [
    ⟨(some 23), .move (.tmp 0), none, 0, none⟩,
    ⟨(some 24), .move (.tmp 8), none, 0, none⟩,
    ⟨(some 25), .call (.func 95) [(true, (.tmp 23)), (false, (.const (.int .i64 (3)))), (false, (.tmp 24))] false 4, none, 0, none⟩,
    ⟨none, .store 24 (.tmp 6) (.tmp 25), none, 4, none⟩] []) (.ret)) (.seq (.region 0 [
    ⟨(some 27), .bin .eql (.tmp 19) (.const (.int .i64 (6))), none, 0, none⟩,
    ⟨(some 26), .move (.tmp 27), none, 0, none⟩] []) (.cond (.tmp 26) (.seq (.region 0 [
    ⟨(some 28), .build [.int .i64 (0), .int .i64 (0), .int .i64 (0), .int .i64 (0), .int .i64 (0), .int .i64 (0), .int .i64 (0), .int .i64 (0), .int .i64 (0), .int .i64 (0), .int .i64 (0), .int .i64 (0), .int .i64 (0), .int .i64 (0), .zsl, .int .i64 (0), .int .i64 (0), .int .i64 (0), .int .i64 (0), .zsl, .int .i64 (0), .bool false, .int .i64 (0), .bool false] [(0, 1, (.const (.int .i64 (5))))], none, 0, none⟩,
    ⟨none, .store 24 (.tmp 6) (.tmp 28), none, 0, none⟩] []) (.ret)) (.seq (.region 0 [
    ⟨(some 30), .bin .eql (.tmp 19) (.const (.int .i64 (7))), none, 0, none⟩,
    ⟨(some 29), .move (.tmp 30), none, 0, none⟩] []) (.cond (.tmp 29) (.seq (.region 0 [
    ⟨(some 31), .build [.int .i64 (0), .int .i64 (0), .int .i64 (0), .int .i64 (0), .int .i64 (0), .int .i64 (0), .int .i64 (0), .int .i64 (0), .int .i64 (0), .int .i64 (0), .int .i64 (0), .int .i64 (0), .int .i64 (0), .int .i64 (0), .zsl, .int .i64 (0), .int .i64 (0), .int .i64 (0), .int .i64 (0), .zsl, .int .i64 (0), .bool false, .int .i64 (0), .bool false] [(0, 1, (.const (.int .i64 (6))))], none, 0, none⟩,
    ⟨none, .store 24 (.tmp 6) (.tmp 31), none, 0, none⟩] []) (.ret)) (.seq (.region 0 [
    ⟨(some 33), .bin .eql (.tmp 19) (.const (.int .i64 (8))), none, 0, none⟩,
    ⟨(some 32), .move (.tmp 33), none, 0, none⟩] []) (.cond (.tmp 32) (.seq (.region 0 [
    ⟨(some 34), .build [.int .i64 (0), .int .i64 (0), .int .i64 (0), .int .i64 (0), .int .i64 (0), .int .i64 (0), .int .i64 (0), .int .i64 (0), .int .i64 (0), .int .i64 (0), .int .i64 (0), .int .i64 (0), .int .i64 (0), .int .i64 (0), .zsl, .int .i64 (0), .int .i64 (0), .int .i64 (0), .int .i64 (0), .zsl, .int .i64 (0), .bool false, .int .i64 (0), .bool false] [(0, 1, (.const (.int .i64 (7))))], none, 0, none⟩,
    ⟨none, .store 24 (.tmp 6) (.tmp 34), none, 0, none⟩] []) (.ret)) (.seq (.region 0 [
    ⟨(some 36), .bin .eql (.tmp 19) (.const (.int .i64 (9))), none, 0, none⟩,
    ⟨(some 35), .move (.tmp 36), none, 0, none⟩] []) (.cond (.tmp 35) (.seq (.region 5 [
    ⟨(some 37), .move (.tmp 0), none, 0, none⟩,
    ⟨(some 38), .call (.func 52) [(true, (.tmp 37)), (false, (.const (.int .i64 (6))))] false 4, none, 0, none⟩,
    ⟨(some 39), .bin .add (.const (.int .i64 (1))) (.tmp 38), none, 4, none⟩,
    ⟨(some 40), .build [.int .i64 (0), .int .i64 (0), .int .i64 (0), .int .i64 (0), .int .i64 (0), .int .i64 (0), .int .i64 (0), .int .i64 (0), .int .i64 (0), .int .i64 (0), .int .i64 (0), .int .i64 (0), .int .i64 (0), .int .i64 (0), .zsl, .int .i64 (0), .int .i64 (0), .int .i64 (0), .int .i64 (0), .zsl, .int .i64 (0), .bool false, .int .i64 (0), .bool false] [(0, 1, (.const (.int .i64 (8)))), (22, 1, (.tmp 39))], none, 4, none⟩,
    ⟨(some 9), .alloc [.int .i64 (0), .int .i64 (0), .int .i64 (0), .int .i64 (0), .int .i64 (0), .int .i64 (0), .int .i64 (0), .int .i64 (0), .int .i64 (0), .int .i64 (0), .int .i64 (0), .int .i64 (0), .int .i64 (0), .int .i64 (0), .zsl, .int .i64 (0), .int .i64 (0), .int .i64 (0), .int .i64 (0), .zsl, .int .i64 (0), .bool false, .int .i64 (0), .bool false], none, 4, none⟩,
    ⟨none, .store 24 (.tmp 9) (.tmp 40), none, 5, none⟩] []) (.seq (.region 4 [
    ⟨(some 41), .move (.tmp 0), none, 0, none⟩,
    ⟨(some 42), .call (.func 52) [(true, (.tmp 41)), (false, (.const (.int .i64 (2))))] false 4, none, 0, none⟩,
    ⟨(some 43), .bin .eql (.tmp 42) (.const (.int .i64 (0))), none, 4, none⟩,
    ⟨(some 44), .fieldAddr 23 (.tmp 9), none, 4, none⟩,
    ⟨none, .store 1 (.tmp 44) (.tmp 43), none, 4, none⟩] []) (.seq (.region 0 [
    ⟨(some 45), .load true 24 (.tmp 9), none, 0, none⟩,
    ⟨none, .store 24 (.tmp 6) (.tmp 45), none, 0, none⟩] []) (.ret)))) (.seq (.region 0 [
    ⟨(some 47), .bin .eql (.tmp 19) (.const (.int .i64 (10))), none, 0, none⟩,
    ⟨(some 46), .move (.tmp 47), none, 0, none⟩] []) (.cond (.tmp 46) (.seq (.region 4 [
    ⟨(some 48), .move (.tmp 0), none, 0, none⟩,
    ⟨(some 49), .move (.tmp 8), none, 0, none⟩,
    ⟨(some 50), .call (.func 95) [(true, (.tmp 48)), (false, (.const (.int .i64 (9)))), (false, (.tmp 49))] false 4, none, 0, none⟩,
    ⟨none, .store 24 (.tmp 6) (.tmp 50), none, 4, none⟩] []) (.ret)) (.seq (.region 0 [
    ⟨(some 52), .bin .eql (.tmp 19) (.const (.int .i64 (11))), none, 0, none⟩,
    ⟨(some 51), .move (.tmp 52), none, 0, none⟩] []) (.cond (.tmp 51) (.seq (.region 4 [
    ⟨(some 53), .move (.tmp 8), none, 0, none⟩,
    ⟨(some 54), .move (.tmp 0), none, 0, none⟩,
    ⟨(some 55), .call (.func 52) [(true, (.tmp 54)), (false, (.const (.int .i64 (2))))] false 4, none, 0, none⟩,
    ⟨(some 56), .build [.int .i64 (0), .int .i64 (0), .int .i64 (0), .int .i64 (0), .int .i64 (0), .int .i64 (0), .int .i64 (0), .int .i64 (0), .int .i64 (0), .int .i64 (0), .int .i64 (0), .int .i64 (0), .int .i64 (0), .int .i64 (0), .zsl, .int .i64 (0), .int .i64 (0), .int .i64 (0), .int .i64 (0), .zsl, .int .i64 (0), .bool false, .int .i64 (0), .bool false] [(0, 1, (.const (.int .i64 (10)))), (1, 1, (.tmp 53)), (20, 1, (.tmp 55))], none, 4, none⟩,
    ⟨none, .store 24 (.tmp 6) (.tmp 56), none, 4, none⟩] []) (.ret)) (.skip))))))))))))))))) (.seq (.region 8 [
    ⟨(some 57), .move (.tmp 8), none, 0, none⟩,
    ⟨(some 58), .move (.tmp 0), none, 0, none⟩,
    ⟨(some 59), .move (.tmp 2), none, 0, none⟩,
    ⟨(some 60), .call (.func 80) [(false, (.tmp 59)), (false, (.const (.int .i64 (1)))), (false, (.const (.int .i64 (1073741824))))] false 4, none, 0, none⟩,
    ⟨(some 61), .call (.func 96) [(true, (.tmp 58)), (false, (.tmp 60))] false 4, none, 4, none⟩,
    ⟨(some 62), .build [.int .i64 (0), .int .i64 (0), .int .i64 (0), .int .i64 (0), .int .i64 (0), .int .i64 (0), .int .i64 (0), .int .i64 (0), .int .i64 (0), .int .i64 (0), .int .i64 (0), .int .i64 (0), .int .i64 (0), .int .i64 (0), .zsl, .int .i64 (0), .int .i64 (0), .int .i64 (0), .int .i64 (0), .zsl, .int .i64 (0), .bool false, .int .i64 (0), .bool false] [(0, 1, (.const (.int .i64 (1)))), (1, 1, (.tmp 57)), (2, 17, (.tmp 61))], none, 8, none⟩,
    ⟨none, .store 24 (.tmp 6) (.tmp 62), none, 8, none⟩] []) (.ret)))))), [.cell true 24 6], true⟩
def s57_1 : Sig := ⟨(.cons .nilp (.cons (.v (.int .i64)) (.cons (.v (.int .i64)) .nil))), [], ((.v (.pair (.int .i64) (.pair (.int .i64) (.pair .request (.pair (.list (.int .u8)) (.pair (.int .i64) (.pair .bool (.pair (.int .i64) .bool)))))))), []), []⟩
def F57_1 (L : Lp)  (users0 : Int) (keys1 : Int) : Option (Int × (Int × (Request × ((List Int) × (Int × (Bool × (Int × Bool))))))) :=
  some (0, (0, (Request.mk 0 0 0 0 0 0 (Res.mk 0 0 0 0) 0 0 [] 0 0 0 0, ([], (0, (false, (0, false)))))))
theorem e57_1 (L : Lp)  (x : s57_1.args.den) (h : denH s57_1.heap) : nrun [] L n57_1 s57_1 x h = F57_1 L  x.2.1 x.2.2.1 := by kernel_rfl
def f57_1 : Int → Int → Option (Int × (Int × (Request × ((List Int) × (Int × (Bool × (Int × Bool))))))) := F57_1 (@LN LOOPS) 
@[reducible] def t57_1 : Ent := ⟨57, s57_1, fun x h => f57_1 x.2.1 x.2.2.1⟩
theorem k57_1 : chkNF Try.prog Try.f57 n57_1 = true := by kernel_rfl
theorem ok57_1 : NOk Try.prog t57_1 := NOk.body (T := []) mixed nall_nil (oneEach_of (by kernel_rfl)) Try.func57 k57_1 (by kernel_rfl) (fun x h => e57_1 _  x h)
/- (*drayage/lot.Lot).Script -/
def n54_1 : NFunc := ⟨25, .seq (.region 0 [
    ⟨(some 8), .move (.const (.zsl)), none, 0, none⟩] []) (.seq (.seq (.region 0 [
    ⟨(some 10), .move (.tmp 0), none, 0, none⟩,
    ⟨(some 11), .eqP false (.tmp 10) (.const (.nilp)), none, 0, none⟩] []) (.cond (.tmp 11) (.seq (.region 0 [
    ⟨(some 8), .move (.const (.zsl)), none, 0, none⟩] []) (.ret)) (.skip))) (.seq (.region 0 [
    ⟨(some 9), .move (.const (.zsl)), none, 0, none⟩] []) (.seq (.seq (.region 4 [
    ⟨(some 12), .move (.tmp 1), none, 0, none⟩,
    ⟨(some 13), .call (.func 80) [(false, (.tmp 12)), (false, (.const (.int .i64 (0)))), (false, (.const (.int .i64 (4096))))] false 4, none, 0, none⟩,
    ⟨(some 14), .move (.const (.int .i64 (0))), none, 4, none⟩] []) (.block 0 (.pre [0, 2, 3, 9, 13, 14] [.mat 9 24 true] (.loop [0, 2, 3, 9, 13, 14] ⟨[(0, (.ptr 0 0 0)), (9, (.slw 1 24)), (14, (.v (.int .i64)))], [2, 3, 13], [.one false (.pair (.int .u64) .unit), .typed (.pair (.int .i64) (.pair (.int .i64) (.pair .request (.pair (.list (.int .u8)) (.pair (.int .i64) (.pair .bool (.pair (.int .i64) .bool)))))))]⟩ (.seq (.region 0 [
    ⟨(some 15), .bin .lss (.tmp 14) (.tmp 13), none, 0, none⟩] []) (.seq (.cond (.tmp 15) (.skip) (.exit 0)) (.seq (.block 1 (.region 6 [
    ⟨(some 16), .move (.tmp 9), none, 0, none⟩,
    ⟨(some 17), .move (.tmp 0), none, 0, none⟩,
    ⟨(some 18), .move (.tmp 2), none, 0, none⟩,
    ⟨(some 19), .move (.tmp 3), none, 0, none⟩,
    ⟨(some 20), .call (.func 57) [(true, (.tmp 17)), (false, (.tmp 18)), (false, (.tmp 19))] false 4, none, 0, none⟩,
    ⟨(some 21), .buildSlice 24 1 true [.int .i64 (0), .int .i64 (0), .int .i64 (0), .int .i64 (0), .int .i64 (0), .int .i64 (0), .int .i64 (0), .int .i64 (0), .int .i64 (0), .int .i64 (0), .int .i64 (0), .int .i64 (0), .int .i64 (0), .int .i64 (0), .zsl, .int .i64 (0), .int .i64 (0), .int .i64 (0), .int .i64 (0), .zsl, .int .i64 (0), .bool false, .int .i64 (0), .bool false] [(0, (.tmp 20))], none, 4, none⟩,
    ⟨(some 22), .append 24 224 true (.tmp 16) (.tmp 21), none, 5, none⟩,
    ⟨(some 9), .move (.tmp 22), none, 6, none⟩] [])) (.region 0 [
    ⟨(some 23), .bin .add (.tmp 14) (.const (.int .i64 (1))), none, 0, none⟩,
    ⟨(some 14), .move (.tmp 23), none, 0, none⟩] [])))))))) (.seq (.region 0 [
    ⟨(some 24), .move (.tmp 9), none, 0, none⟩,
    ⟨(some 8), .move (.tmp 24), none, 0, none⟩] []) (.ret))))), [.tmp 8], true⟩
def s54_1 : Sig := ⟨(.cons (.ptr 0 0 0) (.cons (.v (.int .i64)) (.cons (.v (.int .i64)) (.cons (.v (.int .i64)) .nil)))), [.one false (.pair (.int .u64) .unit)], ((.v (.list (.pair (.int .i64) (.pair (.int .i64) (.pair .request (.pair (.list (.int .u8)) (.pair (.int .i64) (.pair .bool (.pair (.int .i64) .bool))))))))), [.one false (.pair (.int .u64) .unit)]), []⟩
def l54_1_0 (g57 : Int → Int → (Int × Unit) → Option ((Int × (Int × (Request × ((List Int) × (Int × (Bool × (Int × Bool))))))) × ((Int × Unit) × Unit))) (users1 : Int) (keys2 : Int) (r4 : Int) (next : ((Unit × (Unit × (Int × Unit))) × ((Int × Unit) × ((List (Int × (Int × (Request × ((List Int) × (Int × (Bool × (Int × Bool)))))))) × Unit))) → Option ((List (Int × (Int × (Request × ((List Int) × (Int × (Bool × (Int × Bool)))))))) × ((Int × Unit) × Unit))) (z6 : Int) (z7 : (Int × Unit)) (z8 : (List (Int × (Int × (Request × ((List Int) × (Int × (Bool × (Int × Bool))))))))) : Option ((List (Int × (Int × (Request × ((List Int) × (Int × (Bool × (Int × Bool)))))))) × ((Int × Unit) × Unit)) :=
  cond (decide (z6 < r4))
    (Option.bind (g57 users1 keys2 z7) fun r9 =>
    cond (smallB ((List.length z8) + 1) 224)
      (next (((), (), IntKind.wrap .i64 (z6 + 1), ()), (r9.2.1, z8 ++ [r9.1], ())))
      (none))
    (some (z8, (z7, ())))
def F54_1 (L : Lp) (g80 : Int → Int → Int → Option Int) (g57 : Int → Int → (Int × Unit) → Option ((Int × (Int × (Request × ((List Int) × (Int × (Bool × (Int × Bool))))))) × ((Int × Unit) × Unit))) (an0 : Int) (users1 : Int) (keys2 : Int) (a3 : (Int × Unit)) : Option ((List (Int × (Int × (Request × ((List Int) × (Int × (Bool × (Int × Bool)))))))) × ((Int × Unit) × Unit)) :=
  Option.bind (g80 an0 0 4096) fun r4 =>
  L (fun (s5 : ((Unit × (Unit × (Int × Unit))) × ((Int × Unit) × ((List (Int × (Int × (Request × ((List Int) × (Int × (Bool × (Int × Bool)))))))) × Unit)))) next => l54_1_0 g57 users1 keys2 r4 next s5.1.2.2.1 s5.2.1 s5.2.2.1) (((), (), 0, ()), (a3, [], ()))
theorem e54_1 (L : Lp) (g80 : Int → Int → Int → Option Int) (g57 : Int → Int → (Int × Unit) → Option ((Int × (Int × (Request × ((List Int) × (Int × (Bool × (Int × Bool))))))) × ((Int × Unit) × Unit))) (x : s54_1.args.den) (h : denH s54_1.heap) : nrun [⟨80, s80, fun x h => g80 x.1 x.2.1 x.2.2.1⟩, ⟨57, s57, fun x h => g57 x.2.1 x.2.2.1 h.1⟩] L n54_1 s54_1 x h = F54_1 L g80 g57 x.2.1 x.2.2.1 x.2.2.2.1 h.1 := by kernel_rfl
def f54_1 : Int → Int → Int → (Int × Unit) → Option ((List (Int × (Int × (Request × ((List Int) × (Int × (Bool × (Int × Bool)))))))) × ((Int × Unit) × Unit)) := F54_1 (@LN LOOPS) f80 f57
@[reducible] def t54_1 : Ent := ⟨54, s54_1, fun x h => f54_1 x.2.1 x.2.2.1 x.2.2.2.1 h.1⟩
theorem k54_1 : chkNF Try.prog Try.f54 n54_1 = true := by kernel_rfl
theorem ok54_1 : NOk Try.prog t54_1 := NOk.body (T := [t80, t57]) mixed (nall_cons ok80 (nall_cons ok57 nall_nil)) (oneEach_of (by kernel_rfl)) Try.func54 k54_1 (by kernel_rfl) (fun x h => e54_1 _ _ _ x h)
/- drayage/drayagelaw48.awake -/
def n49 : NFunc := ⟨38, .seq (.region 0 [
    ⟨(some 0), .move (.const (.bool false)), none, 0, none⟩] []) (.seq (.region 8 [
    ⟨(some 5), .call (.func 50) [(false, (.const (.int .u64 (7))))] false 4, none, 0, none⟩,
    ⟨(some 6), .call (.func 50) [(false, (.const (.int .u64 (7))))] false 4, none, 4, none⟩,
    ⟨(some 1), .move (.tmp 5), none, 8, none⟩,
    ⟨(some 2), .move (.tmp 6), none, 8, none⟩] []) (.seq (.seq (.region 0 [
    ⟨(some 3), .move (.const (.int .i64 (0))), none, 0, none⟩] []) (.block 0 (.loopU [1, 2, 3] 6 (.seq (.seq (.region 0 [
    ⟨(some 7), .move (.tmp 3), none, 0, none⟩,
    ⟨(some 8), .bin .lss (.tmp 7) (.const (.int .i64 (5))), none, 0, none⟩] []) (.cond (.tmp 8) (.skip) (.exit 0))) (.seq (.block 1 (.seq (.region 12 [
    ⟨(some 11), .move (.tmp 1), none, 0, none⟩,
    ⟨(some 12), .call (.func 57) [(true, (.tmp 11)), (false, (.const (.int .i64 (3)))), (false, (.const (.int .i64 (9))))] false 4, none, 0, none⟩,
    ⟨(some 13), .move (.tmp 2), none, 4, none⟩,
    ⟨(some 14), .call (.func 57) [(true, (.tmp 13)), (false, (.const (.int .i64 (3)))), (false, (.const (.int .i64 (9))))] false 4, none, 4, none⟩,
    ⟨(some 15), .call (.func 55) [(false, (.tmp 12)), (false, (.tmp 14))] false 4, none, 8, none⟩,
    ⟨(some 16), .un .not (.tmp 15), none, 12, none⟩] []) (.cond (.tmp 16) (.seq (.region 0 [
    ⟨(some 0), .move (.const (.bool false)), none, 0, none⟩] []) (.ret)) (.skip)))) (.region 0 [
    ⟨(some 9), .move (.tmp 3), none, 0, none⟩,
    ⟨(some 10), .bin .add (.tmp 9) (.const (.int .i64 (1))), none, 0, none⟩,
    ⟨(some 3), .move (.tmp 10), none, 0, none⟩] [])))))) (.seq (.region 0 [
    ⟨(some 4), .move (.const (.nilp)), none, 0, none⟩] []) (.seq (.region 16 [
    ⟨(some 17), .move (.tmp 4), none, 0, none⟩,
    ⟨(some 18), .call (.func 52) [(true, (.tmp 17)), (false, (.const (.int .i64 (3))))] false 4, none, 0, none⟩,
    ⟨(some 19), .bin .eql (.tmp 18) (.const (.int .i64 (0))), none, 4, none⟩,
    ⟨(some 20), .move (.tmp 19), none, 4, none⟩,
    ⟨(some 21), .move (.tmp 4), (some (20, true)), 4, none⟩,
    ⟨(some 22), .call (.func 54) [(true, (.tmp 21)), (false, (.const (.int .i64 (3)))), (false, (.const (.int .i64 (1)))), (false, (.const (.int .i64 (1))))] false 4, (some (20, true)), 4, none⟩,
    ⟨(some 23), .len (.tmp 22), (some (20, true)), 8, none⟩,
    ⟨(some 24), .bin .eql (.tmp 23) (.const (.int .i64 (0))), (some (20, true)), 8, none⟩,
    ⟨(some 25), .pick (.tmp 20) (.tmp 24) (.const (.bool false)), none, 8, none⟩,
    ⟨(some 26), .move (.tmp 25), none, 8, none⟩,
    ⟨(some 27), .move (.tmp 4), (some (26, true)), 8, none⟩,
    ⟨(some 28), .call (.func 57) [(true, (.tmp 27)), (false, (.const (.int .i64 (1)))), (false, (.const (.int .i64 (1))))] false 4, (some (26, true)), 8, none⟩,
    ⟨(some 29), .field false 0 1 (.tmp 28), (some (26, true)), 12, none⟩,
    ⟨(some 30), .bin .eql (.tmp 29) (.const (.int .i64 (0))), (some (26, true)), 12, none⟩,
    ⟨(some 31), .pick (.tmp 26) (.tmp 30) (.const (.bool false)), none, 12, none⟩,
    ⟨(some 32), .move (.tmp 31), none, 12, none⟩,
    ⟨(some 33), .move (.tmp 1), (some (32, true)), 12, none⟩,
    ⟨(some 34), .call (.func 54) [(true, (.tmp 33)), (false, (.const (.int .i64 (4)))), (false, (.const (.int .i64 (2)))), (false, (.const (.int .i64 (2))))] false 4, (some (32, true)), 12, none⟩,
    ⟨(some 35), .len (.tmp 34), (some (32, true)), 16, none⟩,
    ⟨(some 36), .bin .eql (.tmp 35) (.const (.int .i64 (4))), (some (32, true)), 16, none⟩,
    ⟨(some 37), .pick (.tmp 32) (.tmp 36) (.const (.bool false)), none, 16, none⟩,
    ⟨(some 0), .move (.tmp 37), none, 16, none⟩] []) (.ret))))), [.tmp 0], true⟩
def s49 : Sig := ⟨.nil, [], ((.v .bool), []), []⟩
def F49 (L : Lp) (g50 : Int → Option (Unit × ((Int × Unit) × Unit))) (g57 : Int → Int → (Int × Unit) → Option ((Int × (Int × (Request × ((List Int) × (Int × (Bool × (Int × Bool))))))) × ((Int × Unit) × Unit))) (g55 : (Int × (Int × (Request × ((List Int) × (Int × (Bool × (Int × Bool))))))) → (Int × (Int × (Request × ((List Int) × (Int × (Bool × (Int × Bool))))))) → Option Bool) (g52_1 : Int → Option Int) (g54 : Int → Int → Int → Option (List (Int × (Int × (Request × ((List Int) × (Int × (Bool × (Int × Bool))))))))) (g57_1 : Int → Int → Option (Int × (Int × (Request × ((List Int) × (Int × (Bool × (Int × Bool)))))))) (g54_1 : Int → Int → Int → (Int × Unit) → Option ((List (Int × (Int × (Request × ((List Int) × (Int × (Bool × (Int × Bool)))))))) × ((Int × Unit) × Unit)))  : Option Bool :=
  Option.bind (g50 7) fun r0 =>
  Option.bind (g50 7) fun r1 =>
  Option.bind (g57 3 9 r0.2.1) fun r2 =>
  Option.bind (g57 3 9 r1.2.1) fun r3 =>
  Option.bind (g55 r2.1 r3.1) fun r4 =>
  cond (!r4)
    (some false)
    (Option.bind (g57 3 9 r2.2.1) fun r5 =>
    Option.bind (g57 3 9 r3.2.1) fun r6 =>
    Option.bind (g55 r5.1 r6.1) fun r7 =>
    cond (!r7)
      (some false)
      (Option.bind (g57 3 9 r5.2.1) fun r8 =>
      Option.bind (g57 3 9 r6.2.1) fun r9 =>
      Option.bind (g55 r8.1 r9.1) fun r10 =>
      cond (!r10)
        (some false)
        (Option.bind (g57 3 9 r8.2.1) fun r11 =>
        Option.bind (g57 3 9 r9.2.1) fun r12 =>
        Option.bind (g55 r11.1 r12.1) fun r13 =>
        cond (!r13)
          (some false)
          (Option.bind (g57 3 9 r11.2.1) fun r14 =>
          Option.bind (g57 3 9 r12.2.1) fun r15 =>
          Option.bind (g55 r14.1 r15.1) fun r16 =>
          cond (!r16)
            (some false)
            (Option.bind (g52_1 3) fun r17 =>
            cond (decide (r17 = 0))
              (Option.bind (g54 3 1 1) fun r18 =>
              cond (decide ((List.length r18 : Int) = 0))
                (Option.bind (g57_1 1 1) fun r19 =>
                cond (decide (r19.1 = 0))
                  (Option.bind (g54_1 4 2 2 r14.2.1) fun r20 =>
                  some (decide ((List.length r20.1 : Int) = 4)))
                  (some false))
                (some false))
              (some false))))))
theorem e49 (L : Lp) (g50 : Int → Option (Unit × ((Int × Unit) × Unit))) (g57 : Int → Int → (Int × Unit) → Option ((Int × (Int × (Request × ((List Int) × (Int × (Bool × (Int × Bool))))))) × ((Int × Unit) × Unit))) (g55 : (Int × (Int × (Request × ((List Int) × (Int × (Bool × (Int × Bool))))))) → (Int × (Int × (Request × ((List Int) × (Int × (Bool × (Int × Bool))))))) → Option Bool) (g52_1 : Int → Option Int) (g54 : Int → Int → Int → Option (List (Int × (Int × (Request × ((List Int) × (Int × (Bool × (Int × Bool))))))))) (g57_1 : Int → Int → Option (Int × (Int × (Request × ((List Int) × (Int × (Bool × (Int × Bool)))))))) (g54_1 : Int → Int → Int → (Int × Unit) → Option ((List (Int × (Int × (Request × ((List Int) × (Int × (Bool × (Int × Bool)))))))) × ((Int × Unit) × Unit))) (x : s49.args.den) (h : denH s49.heap) : nrun [⟨50, s50, fun x h => g50 x.1⟩, ⟨57, s57, fun x h => g57 x.2.1 x.2.2.1 h.1⟩, ⟨55, s55, fun x h => g55 x.1 x.2.1⟩, ⟨52, s52_1, fun x h => g52_1 x.2.1⟩, ⟨54, s54, fun x h => g54 x.2.1 x.2.2.1 x.2.2.2.1⟩, ⟨57, s57_1, fun x h => g57_1 x.2.1 x.2.2.1⟩, ⟨54, s54_1, fun x h => g54_1 x.2.1 x.2.2.1 x.2.2.2.1 h.1⟩] L n49 s49 x h = F49 L g50 g57 g55 g52_1 g54 g57_1 g54_1  := by kernel_rfl
def f49 : Option Bool := F49 (@LN LOOPS) f50 f57 f55 f52_1 f54 f57_1 f54_1
@[reducible] def t49 : Ent := ⟨49, s49, fun x h => f49 ⟩
theorem k49 : chkNF Try.prog Try.f49 n49 = true := by kernel_rfl
theorem ok49 : NOk Try.prog t49 := NOk.body (T := [t50, t57, t55, t52_1, t54, t57_1, t54_1]) mixed (nall_cons ok50 (nall_cons ok57 (nall_cons ok55 (nall_cons ok52_1 (nall_cons ok54 (nall_cons ok57_1 (nall_cons ok54_1 nall_nil))))))) (oneEach_of (by kernel_rfl)) Try.func49 k49 (by kernel_rfl) (fun x h => e49 _ _ _ _ _ _ _ _ x h)
/- drayage/drayageref48.New -/
def n51 : NFunc := ⟨17, .seq (.region 0 [
    ⟨(some 2), .move (.const (.nilp)), none, 0, none⟩] []) (.seq (.region 1 [
    ⟨(some 4), .move (.tmp 0), none, 0, none⟩,
    ⟨(some 5), .bin .add (.tmp 4) (.const (.int .u64 (88172645463325252))), none, 0, none⟩,
    ⟨(some 6), .build [.int .u64 (0)] [(0, 1, (.tmp 5))], none, 0, none⟩,
    ⟨(some 7), .box 1 (.tmp 6), none, 0, none⟩,
    ⟨(some 3), .move (.tmp 7), none, 1, none⟩] []) (.seq (.seq (.region 0 [
    ⟨(some 8), .move (.tmp 3), none, 0, none⟩,
    ⟨(some 9), .nilCheck (.tmp 8), none, 0, none⟩,
    ⟨(some 10), .fieldAddr 0 (.tmp 9), none, 0, none⟩,
    ⟨(some 11), .load false 1 (.tmp 10), none, 0, none⟩,
    ⟨(some 12), .bin .eql (.tmp 11) (.const (.int .u64 (0))), none, 0, none⟩] []) (.cond (.tmp 12) (.region 0 [
    ⟨(some 13), .move (.tmp 3), none, 0, none⟩,
    ⟨(some 14), .nilCheck (.tmp 13), none, 0, none⟩,
    ⟨(some 15), .fieldAddr 0 (.tmp 14), none, 0, none⟩,
    ⟨none, .store 1 (.tmp 15) (.const (.int .u64 (1))), none, 0, none⟩] []) (.skip))) (.seq (.region 0 [
    ⟨(some 16), .move (.tmp 3), none, 0, none⟩,
    ⟨(some 2), .move (.tmp 16), none, 0, none⟩] []) (.ret)))), [.tmp 2], false⟩
def s51 : Sig := ⟨(.cons (.v (.int .u64)) .nil), [], ((.ptr 0 0 0), [.one false (.pair (.int .u64) .unit)]), []⟩
def F51 (L : Lp)  (seed0 : Int) : Option (Unit × ((Int × Unit) × Unit)) :=
  cond (decide ((IntKind.wrap .u64 (seed0 + 88172645463325252)) = 0))
    (some ((), ((1, ()), ())))
    (some ((), ((IntKind.wrap .u64 (seed0 + 88172645463325252), ()), ())))
theorem e51 (L : Lp)  (x : s51.args.den) (h : denH s51.heap) : nrun [] L n51 s51 x h = F51 L  x.1 := by kernel_rfl
def f51 : Int → Option (Unit × ((Int × Unit) × Unit)) := F51 (@LN LOOPS) 
@[reducible] def t51 : Ent := ⟨51, s51, fun x h => f51 x.1⟩
theorem k51 : chkNF Try.prog Try.f51 n51 = true := by kernel_rfl
theorem ok51 : NOk Try.prog t51 := NOk.body (T := []) mixed nall_nil (oneEach_of (by kernel_rfl)) Try.func51 k51 (by kernel_rfl) (fun x h => e51 _  x h)
/- (*drayage/drayageref48.Lot).Below -/
def n53 : NFunc := ⟨39, .seq (.region 0 [
    ⟨(some 4), .move (.const (.int .i64 (0))), none, 0, none⟩] []) (.seq (.seq (.region 0 [
    ⟨(some 7), .move (.tmp 1), none, 0, none⟩,
    ⟨(some 8), .bin .lss (.tmp 7) (.const (.int .i64 (1))), none, 0, none⟩] []) (.cond (.tmp 8) (.seq (.region 0 [
    ⟨(some 4), .move (.const (.int .i64 (0))), none, 0, none⟩] []) (.ret)) (.skip))) (.seq (.region 0 [
    ⟨(some 9), .move (.tmp 0), none, 0, (some ([], none))⟩,
    ⟨(some 10), .nilCheck (.tmp 9), none, 0, (some ([], none))⟩,
    ⟨(some 11), .fieldAddr 0 (.tmp 10), none, 0, (some ([], none))⟩,
    ⟨(some 12), .load false 1 (.tmp 11), none, 0, (some ([], none))⟩,
    ⟨(some 13), .move (.tmp 0), none, 0, (some ([], none))⟩,
    ⟨(some 14), .nilCheck (.tmp 13), none, 0, (some ([], none))⟩,
    ⟨(some 15), .fieldAddr 0 (.tmp 14), none, 0, (some ([], none))⟩,
    ⟨(some 16), .load false 1 (.tmp 15), none, 0, (some ([], none))⟩,
    ⟨(some 17), .bin .shl (.tmp 16) (.const (.int .u64 (13))), none, 0, (some ([], none))⟩,
    ⟨(some 18), .bin .xor (.tmp 12) (.tmp 17), none, 0, (some ([], none))⟩,
    ⟨(some 5), .move (.tmp 18), none, 0, (some ([], none))⟩] []) (.seq (.region 0 [
    ⟨(some 19), .move (.tmp 5), none, 0, none⟩,
    ⟨(some 20), .move (.tmp 5), none, 0, none⟩,
    ⟨(some 21), .bin .shr (.tmp 20) (.const (.int .u64 (7))), none, 0, none⟩,
    ⟨(some 22), .bin .xor (.tmp 19) (.tmp 21), none, 0, none⟩,
    ⟨(some 6), .move (.tmp 22), none, 0, none⟩] []) (.seq (.region 0 [
    ⟨(some 23), .move (.tmp 0), none, 0, none⟩,
    ⟨(some 24), .move (.tmp 6), none, 0, none⟩,
    ⟨(some 25), .move (.tmp 6), none, 0, none⟩,
    ⟨(some 26), .bin .shl (.tmp 25) (.const (.int .u64 (17))), none, 0, none⟩,
    ⟨(some 27), .bin .xor (.tmp 24) (.tmp 26), none, 0, none⟩,
    ⟨(some 28), .nilCheck (.tmp 23), none, 0, none⟩,
    ⟨(some 29), .fieldAddr 0 (.tmp 28), none, 0, none⟩,
    ⟨none, .store 1 (.tmp 29) (.tmp 27), none, 0, none⟩] []) (.seq (.region 0 [
    ⟨(some 30), .move (.tmp 0), none, 0, none⟩,
    ⟨(some 31), .nilCheck (.tmp 30), none, 0, none⟩,
    ⟨(some 32), .fieldAddr 0 (.tmp 31), none, 0, none⟩,
    ⟨(some 33), .load false 1 (.tmp 32), none, 0, none⟩,
    ⟨(some 34), .bin .shr (.tmp 33) (.const (.int .u64 (33))), none, 0, none⟩,
    ⟨(some 35), .move (.tmp 1), none, 0, none⟩,
    ⟨(some 36), .conv .u64 (.tmp 35), none, 0, none⟩,
    ⟨(some 37), .bin .rem (.tmp 34) (.tmp 36), none, 0, none⟩,
    ⟨(some 38), .conv .i64 (.tmp 37), none, 0, none⟩,
    ⟨(some 4), .move (.tmp 38), none, 0, none⟩] []) (.ret)))))), [.tmp 4], true⟩
def s53 : Sig := ⟨(.cons (.ptr 0 0 0) (.cons (.v (.int .i64)) .nil)), [.one false (.pair (.int .u64) .unit)], ((.v (.int .i64)), [.one false (.pair (.int .u64) .unit)]), []⟩
def F53 (L : Lp)  (an0 : Int) (a1 : (Int × Unit)) : Option (Int × ((Int × Unit) × Unit)) :=
  cond (decide (an0 < 1))
    (some (0, (a1, ())))
    (let v2 := IntKind.wrap .u64 (((BitVec.ofInt 64 a1.1 ^^^ BitVec.ofInt 64 (IntKind.wrap .u64 (a1.1 * 2 ^ (min (Int.toNat 13) 64)))).toNat : Int))
    let v3 := IntKind.wrap .u64 (((BitVec.ofInt 64 v2 ^^^ BitVec.ofInt 64 (Int.fdiv v2 (2 ^ (min (Int.toNat 7) 64)))).toNat : Int))
    let v4 := IntKind.wrap .u64 (((BitVec.ofInt 64 v3 ^^^ BitVec.ofInt 64 (IntKind.wrap .u64 (v3 * 2 ^ (min (Int.toNat 17) 64)))).toNat : Int))
    cond (decide ((IntKind.wrap .u64 (an0)) = 0))
      (none)
      (some (IntKind.wrap .i64 (Int.tmod (Int.fdiv v4 (2 ^ (min (Int.toNat 33) 64))) (IntKind.wrap .u64 (an0))), ((v4, ()), ()))))
theorem e53 (L : Lp)  (x : s53.args.den) (h : denH s53.heap) : nrun [] L n53 s53 x h = F53 L  x.2.1 h.1 := by kernel_rfl
def f53 : Int → (Int × Unit) → Option (Int × ((Int × Unit) × Unit)) := F53 (@LN LOOPS) 
@[reducible] def t53 : Ent := ⟨53, s53, fun x h => f53 x.2.1 h.1⟩
theorem k53 : chkNF Try.prog Try.f53 n53 = true := by kernel_rfl
theorem ok53 : NOk Try.prog t53 := NOk.body (T := []) mixed nall_nil (oneEach_of (by kernel_rfl)) Try.func53 k53 (by kernel_rfl) (fun x h => e53 _  x h)
/- drayage/drayageref20.Hold -/
def n16 : NFunc := ⟨16, .seq (.region 0 [
    ⟨(some 6), .move (.const (.int .i64 (0))), none, 0, none⟩] []) (.seq (.seq (.region 0 [
    ⟨(some 7), .move (.tmp 0), none, 0, none⟩,
    ⟨(some 8), .move (.tmp 1), none, 0, none⟩,
    ⟨(some 9), .bin .lss (.tmp 7) (.tmp 8), none, 0, none⟩] []) (.cond (.tmp 9) (.seq (.region 0 [
    ⟨(some 10), .move (.tmp 1), none, 0, none⟩,
    ⟨(some 6), .move (.tmp 10), none, 0, none⟩] []) (.ret)) (.skip))) (.seq (.seq (.region 0 [
    ⟨(some 11), .move (.tmp 0), none, 0, none⟩,
    ⟨(some 12), .move (.tmp 2), none, 0, none⟩,
    ⟨(some 13), .bin .gtr (.tmp 11) (.tmp 12), none, 0, none⟩] []) (.cond (.tmp 13) (.seq (.region 0 [
    ⟨(some 14), .move (.tmp 2), none, 0, none⟩,
    ⟨(some 6), .move (.tmp 14), none, 0, none⟩] []) (.ret)) (.skip))) (.seq (.region 0 [
    ⟨(some 15), .move (.tmp 0), none, 0, none⟩,
    ⟨(some 6), .move (.tmp 15), none, 0, none⟩] []) (.ret)))), [.tmp 6], true⟩
def s16 : Sig := ⟨(.cons (.v (.int .i64)) (.cons (.v (.int .i64)) (.cons (.v (.int .i64)) .nil))), [], ((.v (.int .i64)), []), []⟩
def F16 (L : Lp)  (an0 : Int) (lo1 : Int) (hi2 : Int) : Option Int :=
  cond (decide (an0 < lo1))
    (some lo1)
    (cond (decide (hi2 < an0))
      (some hi2)
      (some an0))
theorem e16 (L : Lp)  (x : s16.args.den) (h : denH s16.heap) : nrun [] L n16 s16 x h = F16 L  x.1 x.2.1 x.2.2.1 := by kernel_rfl
def f16 : Int → Int → Int → Option Int := F16 (@LN LOOPS) 
@[reducible] def t16 : Ent := ⟨16, s16, fun x h => f16 x.1 x.2.1 x.2.2.1⟩
theorem k16 : chkNF Try.prog Try.f16 n16 = true := by kernel_rfl
theorem ok16 : NOk Try.prog t16 := NOk.body (T := []) mixed nall_nil (oneEach_of (by kernel_rfl)) Try.func16 k16 (by kernel_rfl) (fun x h => e16 _  x h)
/- (*drayage/drayageref48.Lot).request -/
def n94 : NFunc := ⟨54, .seq (.region 1 [
    ⟨(some 4), .alloc [.int .i64 (0), .int .i64 (0), .int .i64 (0), .int .i64 (0), .int .i64 (0), .int .i64 (0), .int .i64 (0), .int .i64 (0), .int .i64 (0), .int .i64 (0), .int .i64 (0), .int .i64 (0), .zsl, .int .i64 (0), .int .i64 (0), .int .i64 (0), .int .i64 (0)], none, 0, none⟩] []) (.seq (.region 4 [
    ⟨(some 8), .move (.tmp 0), none, 0, none⟩,
    ⟨(some 9), .call (.func 53) [(true, (.tmp 8)), (false, (.const (.int .i64 (8))))] false 4, none, 0, none⟩,
    ⟨(some 5), .move (.tmp 9), none, 4, none⟩] []) (.seq (.region 4 [
    ⟨(some 10), .move (.tmp 0), none, 0, none⟩,
    ⟨(some 11), .move (.tmp 1), none, 0, none⟩,
    ⟨(some 12), .call (.func 53) [(true, (.tmp 10)), (false, (.tmp 11))] false 4, none, 0, none⟩,
    ⟨(some 13), .bin .add (.tmp 12) (.const (.int .i64 (1))), none, 4, none⟩,
    ⟨(some 6), .move (.tmp 13), none, 4, none⟩] []) (.seq (.seq (.region 0 [
    ⟨(some 14), .move (.tmp 5), none, 0, none⟩,
    ⟨(some 15), .bin .leq (.tmp 14) (.const (.int .i64 (2))), none, 0, none⟩] []) (.cond (.tmp 15) (.seq (.region 1 [
    ⟨(some 16), .move (.tmp 6), none, 0, none⟩,
    ⟨(some 17), .build [.int .i64 (0), .int .i64 (0), .int .i64 (0), .int .i64 (0), .int .i64 (0), .int .i64 (0), .int .i64 (0), .int .i64 (0), .int .i64 (0), .int .i64 (0), .int .i64 (0), .int .i64 (0), .zsl, .int .i64 (0), .int .i64 (0), .int .i64 (0), .int .i64 (0)] [(0, 1, (.const (.int .i64 (1)))), (1, 1, (.tmp 16)), (11, 1, (.const (.int .i64 (1))))], none, 0, none⟩,
    ⟨(some 7), .alloc [.int .i64 (0), .int .i64 (0), .int .i64 (0), .int .i64 (0), .int .i64 (0), .int .i64 (0), .int .i64 (0), .int .i64 (0), .int .i64 (0), .int .i64 (0), .int .i64 (0), .int .i64 (0), .zsl, .int .i64 (0), .int .i64 (0), .int .i64 (0), .int .i64 (0)], none, 0, none⟩,
    ⟨none, .store 17 (.tmp 7) (.tmp 17), none, 1, none⟩] []) (.seq (.region 4 [
    ⟨(some 18), .move (.tmp 0), none, 0, none⟩,
    ⟨(some 19), .call (.func 53) [(true, (.tmp 18)), (false, (.const (.int .i64 (2))))] false 4, none, 0, none⟩,
    ⟨(some 20), .fieldAddr 4 (.tmp 7), none, 4, none⟩,
    ⟨none, .store 1 (.tmp 20) (.tmp 19), none, 4, none⟩] []) (.seq (.region 4 [
    ⟨(some 21), .move (.tmp 0), none, 0, none⟩,
    ⟨(some 22), .call (.func 53) [(true, (.tmp 21)), (false, (.const (.int .i64 (3))))] false 4, none, 0, none⟩,
    ⟨(some 23), .bin .add (.tmp 22) (.const (.int .i64 (1))), none, 4, none⟩,
    ⟨(some 24), .fieldAddr 5 (.tmp 7), none, 4, none⟩,
    ⟨none, .store 1 (.tmp 24) (.tmp 23), none, 4, none⟩] []) (.seq (.region 4 [
    ⟨(some 25), .move (.tmp 0), none, 0, none⟩,
    ⟨(some 26), .call (.func 53) [(true, (.tmp 25)), (false, (.const (.int .i64 (4))))] false 4, none, 0, none⟩,
    ⟨(some 27), .bin .add (.tmp 26) (.const (.int .i64 (1))), none, 4, none⟩,
    ⟨(some 28), .fieldAddr 6 (.tmp 7), none, 4, none⟩,
    ⟨(some 29), .fieldAddr 0 (.tmp 28), none, 4, none⟩,
    ⟨none, .store 1 (.tmp 29) (.tmp 27), none, 4, none⟩] []) (.seq (.region 4 [
    ⟨(some 30), .move (.tmp 0), none, 0, none⟩,
    ⟨(some 31), .call (.func 53) [(true, (.tmp 30)), (false, (.const (.int .i64 (8))))] false 4, none, 0, none⟩,
    ⟨(some 32), .bin .add (.tmp 31) (.const (.int .i64 (1))), none, 4, none⟩,
    ⟨(some 33), .fieldAddr 10 (.tmp 7), none, 4, none⟩,
    ⟨none, .store 1 (.tmp 33) (.tmp 32), none, 4, none⟩] []) (.seq (.region 0 [
    ⟨(some 34), .load true 17 (.tmp 7), none, 0, none⟩,
    ⟨none, .store 17 (.tmp 4) (.tmp 34), none, 0, none⟩] []) (.ret))))))) (.skip))) (.seq (.seq (.region 0 [
    ⟨(some 35), .move (.tmp 5), none, 0, none⟩,
    ⟨(some 36), .bin .leq (.tmp 35) (.const (.int .i64 (5))), none, 0, none⟩] []) (.cond (.tmp 36) (.seq (.region 4 [
    ⟨(some 37), .move (.tmp 5), none, 0, none⟩,
    ⟨(some 38), .move (.tmp 6), none, 0, none⟩,
    ⟨(some 39), .move (.tmp 0), none, 0, none⟩,
    ⟨(some 40), .call (.func 53) [(true, (.tmp 39)), (false, (.const (.int .i64 (6))))] false 4, none, 0, none⟩,
    ⟨(some 41), .bin .add (.tmp 40) (.const (.int .i64 (1))), none, 4, none⟩,
    ⟨(some 42), .build [.int .i64 (0), .int .i64 (0), .int .i64 (0), .int .i64 (0), .int .i64 (0), .int .i64 (0), .int .i64 (0), .int .i64 (0), .int .i64 (0), .int .i64 (0), .int .i64 (0), .int .i64 (0), .zsl, .int .i64 (0), .int .i64 (0), .int .i64 (0), .int .i64 (0)] [(0, 1, (.tmp 37)), (1, 1, (.tmp 38)), (2, 1, (.tmp 41))], none, 4, none⟩,
    ⟨none, .store 17 (.tmp 4) (.tmp 42), none, 4, none⟩] []) (.ret)) (.skip))) (.seq (.seq (.region 0 [
    ⟨(some 43), .move (.tmp 5), none, 0, none⟩,
    ⟨(some 44), .bin .eql (.tmp 43) (.const (.int .i64 (6))), none, 0, none⟩] []) (.cond (.tmp 44) (.seq (.region 4 [
    ⟨(some 45), .move (.tmp 6), none, 0, none⟩,
    ⟨(some 46), .move (.tmp 0), none, 0, none⟩,
    ⟨(some 47), .call (.func 53) [(true, (.tmp 46)), (false, (.const (.int .i64 (6))))] false 4, none, 0, none⟩,
    ⟨(some 48), .bin .add (.tmp 47) (.const (.int .i64 (1))), none, 4, none⟩,
    ⟨(some 49), .build [.int .i64 (0), .int .i64 (0), .int .i64 (0), .int .i64 (0), .int .i64 (0), .int .i64 (0), .int .i64 (0), .int .i64 (0), .int .i64 (0), .int .i64 (0), .int .i64 (0), .int .i64 (0), .zsl, .int .i64 (0), .int .i64 (0), .int .i64 (0), .int .i64 (0)] [(0, 1, (.const (.int .i64 (8)))), (1, 1, (.tmp 45)), (2, 1, (.tmp 48))], none, 4, none⟩,
    ⟨none, .store 17 (.tmp 4) (.tmp 49), none, 4, none⟩] []) (.ret)) (.skip))) (.seq (.region 4 [
    ⟨(some 50), .move (.tmp 6), none, 0, none⟩,
    ⟨(some 51), .move (.tmp 0), none, 0, none⟩,
    ⟨(some 52), .call (.func 53) [(true, (.tmp 51)), (false, (.const (.int .i64 (2))))] false 4, none, 0, none⟩,
    ⟨(some 53), .build [.int .i64 (0), .int .i64 (0), .int .i64 (0), .int .i64 (0), .int .i64 (0), .int .i64 (0), .int .i64 (0), .int .i64 (0), .int .i64 (0), .int .i64 (0), .int .i64 (0), .int .i64 (0), .zsl, .int .i64 (0), .int .i64 (0), .int .i64 (0), .int .i64 (0)] [(0, 1, (.const (.int .i64 (9)))), (1, 1, (.tmp 50)), (4, 1, (.tmp 52))], none, 4, none⟩,
    ⟨none, .store 17 (.tmp 4) (.tmp 53), none, 4, none⟩] []) (.ret))))))), [.cell true 17 4], true⟩
def s94 : Sig := ⟨(.cons (.ptr 0 0 0) (.cons (.v (.int .i64)) .nil)), [.one false (.pair (.int .u64) .unit)], ((.v .request), [.one false (.pair (.int .u64) .unit)]), []⟩
def F94 (L : Lp) (g53 : Int → (Int × Unit) → Option (Int × ((Int × Unit) × Unit))) (keys0 : Int) (a1 : (Int × Unit)) : Option (Request × ((Int × Unit) × Unit)) :=
  Option.bind (g53 8 a1) fun r2 =>
  Option.bind (g53 keys0 r2.2.1) fun r3 =>
  cond (decide (r2.1 ≤ 2))
    (Option.bind (g53 2 r3.2.1) fun r4 =>
    Option.bind (g53 3 r4.2.1) fun r5 =>
    Option.bind (g53 4 r5.2.1) fun r6 =>
    Option.bind (g53 8 r6.2.1) fun r7 =>
    some (Request.mk 1 (IntKind.wrap .i64 (r3.1 + 1)) 0 0 r4.1 (IntKind.wrap .i64 (r5.1 + 1)) (Res.mk (IntKind.wrap .i64 (r6.1 + 1)) 0 0 0) (IntKind.wrap .i64 (r7.1 + 1)) 1 [] 0 0 0 0, (r7.2.1, ())))
    (cond (decide (r2.1 ≤ 5))
      (Option.bind (g53 6 r3.2.1) fun r8 =>
      some (Request.mk r2.1 (IntKind.wrap .i64 (r3.1 + 1)) (IntKind.wrap .i64 (r8.1 + 1)) 0 0 0 (Res.mk 0 0 0 0) 0 0 [] 0 0 0 0, (r8.2.1, ())))
      (cond (decide (r2.1 = 6))
        (Option.bind (g53 6 r3.2.1) fun r9 =>
        some (Request.mk 8 (IntKind.wrap .i64 (r3.1 + 1)) (IntKind.wrap .i64 (r9.1 + 1)) 0 0 0 (Res.mk 0 0 0 0) 0 0 [] 0 0 0 0, (r9.2.1, ())))
        (Option.bind (g53 2 r3.2.1) fun r10 =>
        some (Request.mk 9 (IntKind.wrap .i64 (r3.1 + 1)) 0 0 r10.1 0 (Res.mk 0 0 0 0) 0 0 [] 0 0 0 0, (r10.2.1, ())))))
theorem e94 (L : Lp) (g53 : Int → (Int × Unit) → Option (Int × ((Int × Unit) × Unit))) (x : s94.args.den) (h : denH s94.heap) : nrun [⟨53, s53, fun x h => g53 x.2.1 h.1⟩] L n94 s94 x h = F94 L g53 x.2.1 h.1 := by kernel_rfl
def f94 : Int → (Int × Unit) → Option (Request × ((Int × Unit) × Unit)) := F94 (@LN LOOPS) f53
@[reducible] def t94 : Ent := ⟨94, s94, fun x h => f94 x.2.1 h.1⟩
theorem k94 : chkNF Try.prog Try.f94 n94 = true := by kernel_rfl
theorem ok94 : NOk Try.prog t94 := NOk.body (T := [t53]) mixed (nall_cons ok53 nall_nil) (oneEach_of (by kernel_rfl)) Try.func94 k94 (by kernel_rfl) (fun x h => e94 _ _ x h)
/- (*drayage/drayageref48.Lot).Event -/
def n56 : NFunc := ⟨64, .seq (.region 1 [
    ⟨(some 6), .alloc [.int .i64 (0), .int .i64 (0), .int .i64 (0), .int .i64 (0), .int .i64 (0), .int .i64 (0), .int .i64 (0), .int .i64 (0), .int .i64 (0), .int .i64 (0), .int .i64 (0), .int .i64 (0), .int .i64 (0), .int .i64 (0), .zsl, .int .i64 (0), .int .i64 (0), .int .i64 (0), .int .i64 (0), .zsl, .int .i64 (0), .bool false, .int .i64 (0), .bool false], none, 0, none⟩] []) (.seq (.region 4 [
    ⟨(some 11), .move (.tmp 0), none, 0, none⟩,
    ⟨(some 12), .call (.func 53) [(true, (.tmp 11)), (false, (.const (.int .i64 (12))))] false 4, none, 0, none⟩,
    ⟨(some 7), .move (.tmp 12), none, 4, none⟩] []) (.seq (.region 8 [
    ⟨(some 13), .move (.tmp 0), none, 0, none⟩,
    ⟨(some 14), .move (.tmp 1), none, 0, none⟩,
    ⟨(some 15), .call (.func 16) [(false, (.tmp 14)), (false, (.const (.int .i64 (1)))), (false, (.const (.int .i64 (8))))] false 4, none, 0, none⟩,
    ⟨(some 16), .call (.func 53) [(true, (.tmp 13)), (false, (.tmp 15))] false 4, none, 4, none⟩,
    ⟨(some 8), .move (.tmp 16), none, 8, none⟩] []) (.seq (.seq (.region 0 [
    ⟨(some 17), .move (.tmp 7), none, 0, none⟩,
    ⟨(some 18), .bin .leq (.tmp 17) (.const (.int .i64 (3))), none, 0, none⟩] []) (.cond (.tmp 18) (.seq (.region 8 [
    ⟨(some 19), .move (.tmp 8), none, 0, none⟩,
    ⟨(some 20), .move (.tmp 0), none, 0, none⟩,
    ⟨(some 21), .move (.tmp 2), none, 0, none⟩,
    ⟨(some 22), .call (.func 16) [(false, (.tmp 21)), (false, (.const (.int .i64 (1)))), (false, (.const (.int .i64 (1073741824))))] false 4, none, 0, none⟩,
    ⟨(some 23), .call (.func 94) [(true, (.tmp 20)), (false, (.tmp 22))] false 4, none, 4, none⟩,
    ⟨(some 24), .build [.int .i64 (0), .int .i64 (0), .int .i64 (0), .int .i64 (0), .int .i64 (0), .int .i64 (0), .int .i64 (0), .int .i64 (0), .int .i64 (0), .int .i64 (0), .int .i64 (0), .int .i64 (0), .int .i64 (0), .int .i64 (0), .zsl, .int .i64 (0), .int .i64 (0), .int .i64 (0), .int .i64 (0), .zsl, .int .i64 (0), .bool false, .int .i64 (0), .bool false] [(0, 1, (.const (.int .i64 (1)))), (1, 1, (.tmp 19)), (2, 17, (.tmp 23))], none, 8, none⟩,
    ⟨none, .store 24 (.tmp 6) (.tmp 24), none, 8, none⟩] []) (.ret)) (.skip))) (.seq (.seq (.meet [6, 0, 7, 8, 30] [] ⟨[(0, (.ptr 0 0 0)), (6, (.ptr 1 0 0)), (30, (.v .bool))], [7, 8], [.one false (.pair (.int .u64) .unit), .cell false (.cons (.v (.int .i64)) (.cons (.v (.int .i64)) (.cons (.v (.int .i64)) (.cons (.v (.int .i64)) (.cons (.v (.int .i64)) (.cons (.v (.int .i64)) (.cons (.v (.int .i64)) (.cons (.v (.int .i64)) (.cons (.v (.int .i64)) (.cons (.v (.int .i64)) (.cons (.v (.int .i64)) (.cons (.v (.int .i64)) (.cons (.v (.int .i64)) (.cons (.v (.int .i64)) (.cons .zsl (.cons (.v (.int .i64)) (.cons (.v (.int .i64)) (.cons (.v (.int .i64)) (.cons (.v (.int .i64)) (.cons .zsl (.cons (.v (.int .i64)) (.cons (.v .bool) (.cons (.v (.int .i64)) (.cons (.v .bool) .nil))))))))))))))))))))))))]⟩ (.region 0 [
    ⟨(some 25), .move (.tmp 7), none, 0, none⟩,
    ⟨(some 26), .bin .leq (.tmp 25) (.const (.int .i64 (5))), none, 0, none⟩,
    ⟨(some 27), .move (.tmp 26), none, 0, none⟩,
    ⟨(some 28), .move (.tmp 7), (some (27, false)), 0, none⟩,
    ⟨(some 29), .bin .eql (.tmp 28) (.const (.int .i64 (10))), (some (27, false)), 0, none⟩,
    ⟨(some 30), .pick (.tmp 27) (.const (.bool true)) (.tmp 29), none, 0, none⟩] [])) (.cond (.tmp 30) (.seq (.region 1 [
    ⟨(some 31), .move (.tmp 8), none, 0, none⟩,
    ⟨(some 32), .build [.int .i64 (0), .int .i64 (0), .int .i64 (0), .int .i64 (0), .int .i64 (0), .int .i64 (0), .int .i64 (0), .int .i64 (0), .int .i64 (0), .int .i64 (0), .int .i64 (0), .int .i64 (0), .int .i64 (0), .int .i64 (0), .zsl, .int .i64 (0), .int .i64 (0), .int .i64 (0), .int .i64 (0), .zsl, .int .i64 (0), .bool false, .int .i64 (0), .bool false] [(0, 1, (.const (.int .i64 (3)))), (1, 1, (.tmp 31))], none, 0, none⟩,
    ⟨(some 9), .alloc [.int .i64 (0), .int .i64 (0), .int .i64 (0), .int .i64 (0), .int .i64 (0), .int .i64 (0), .int .i64 (0), .int .i64 (0), .int .i64 (0), .int .i64 (0), .int .i64 (0), .int .i64 (0), .int .i64 (0), .int .i64 (0), .zsl, .int .i64 (0), .int .i64 (0), .int .i64 (0), .int .i64 (0), .zsl, .int .i64 (0), .bool false, .int .i64 (0), .bool false], none, 0, none⟩,
    ⟨none, .store 24 (.tmp 9) (.tmp 32), none, 1, none⟩] []) (.seq (.meet [6, 9, 0] [] ⟨[(0, (.ptr 0 0 0)), (6, (.ptr 1 0 0)), (9, (.ptr 2 0 0))], [], [.one false (.pair (.int .u64) .unit), .cell false (.cons (.v (.int .i64)) (.cons (.v (.int .i64)) (.cons (.v (.int .i64)) (.cons (.v (.int .i64)) (.cons (.v (.int .i64)) (.cons (.v (.int .i64)) (.cons (.v (.int .i64)) (.cons (.v (.int .i64)) (.cons (.v (.int .i64)) (.cons (.v (.int .i64)) (.cons (.v (.int .i64)) (.cons (.v (.int .i64)) (.cons (.v (.int .i64)) (.cons (.v (.int .i64)) (.cons .zsl (.cons (.v (.int .i64)) (.cons (.v (.int .i64)) (.cons (.v (.int .i64)) (.cons (.v (.int .i64)) (.cons .zsl (.cons (.v (.int .i64)) (.cons (.v .bool) (.cons (.v (.int .i64)) (.cons (.v .bool) .nil)))))))))))))))))))))))), .cell false (.cons (.v (.int .i64)) (.cons (.v (.int .i64)) (.cons (.v (.int .i64)) (.cons (.v (.int .i64)) (.cons (.v (.int .i64)) (.cons (.v (.int .i64)) (.cons (.v (.int .i64)) (.cons (.v (.int .i64)) (.cons (.v (.int .i64)) (.cons (.v (.int .i64)) (.cons (.v (.int .i64)) (.cons (.v (.int .i64)) (.cons (.v (.int .i64)) (.cons (.v (.int .i64)) (.cons .zsl (.cons (.v (.int .i64)) (.cons (.v (.int .i64)) (.cons (.v (.int .i64)) (.cons (.v (.int .i64)) (.cons .zsl (.cons (.v (.int .i64)) (.cons (.v .bool) (.cons (.v (.int .i64)) (.cons (.v .bool) .nil))))))))))))))))))))))))]⟩ (.seq (.region 0 [
    ⟨(some 33), .move (.tmp 7), none, 0, none⟩,
    ⟨(some 34), .bin .eql (.tmp 33) (.const (.int .i64 (10))), none, 0, none⟩] []) (.cond (.tmp 34) (.region 0 [
    ⟨(some 35), .fieldAddr 0 (.tmp 9), none, 0, none⟩,
    ⟨none, .store 1 (.tmp 35) (.const (.int .i64 (9))), none, 0, none⟩] []) (.skip)))) (.seq (.region 4 [
    ⟨(some 36), .move (.tmp 0), none, 0, none⟩,
    ⟨(some 37), .call (.func 53) [(true, (.tmp 36)), (false, (.const (.int .i64 (2))))] false 4, none, 0, none⟩,
    ⟨(some 38), .fieldAddr 20 (.tmp 9), none, 4, none⟩,
    ⟨none, .store 1 (.tmp 38) (.tmp 37), none, 4, none⟩] []) (.seq (.region 4 [
    ⟨(some 39), .move (.tmp 0), none, 0, none⟩,
    ⟨(some 40), .call (.func 53) [(true, (.tmp 39)), (false, (.const (.int .i64 (4))))] false 4, none, 0, none⟩,
    ⟨(some 41), .bin .eql (.tmp 40) (.const (.int .i64 (0))), none, 4, none⟩,
    ⟨(some 42), .fieldAddr 21 (.tmp 9), none, 4, none⟩,
    ⟨none, .store 1 (.tmp 42) (.tmp 41), none, 4, none⟩] []) (.seq (.region 0 [
    ⟨(some 43), .load true 24 (.tmp 9), none, 0, none⟩,
    ⟨none, .store 24 (.tmp 6) (.tmp 43), none, 0, none⟩] []) (.ret)))))) (.skip))) (.seq (.seq (.region 0 [
    ⟨(some 44), .move (.tmp 7), none, 0, none⟩,
    ⟨(some 45), .bin .leq (.tmp 44) (.const (.int .i64 (8))), none, 0, none⟩] []) (.cond (.tmp 45) (.seq (.region 0 [
    ⟨(some 46), .move (.tmp 7), none, 0, none⟩,
    ⟨(some 47), .bin .sub (.tmp 46) (.const (.int .i64 (1))), none, 0, none⟩,
    ⟨(some 48), .build [.int .i64 (0), .int .i64 (0), .int .i64 (0), .int .i64 (0), .int .i64 (0), .int .i64 (0), .int .i64 (0), .int .i64 (0), .int .i64 (0), .int .i64 (0), .int .i64 (0), .int .i64 (0), .int .i64 (0), .int .i64 (0), .zsl, .int .i64 (0), .int .i64 (0), .int .i64 (0), .int .i64 (0), .zsl, .int .i64 (0), .bool false, .int .i64 (0), .bool false] [(0, 1, (.tmp 47))], none, 0, none⟩,
    ⟨none, .store 24 (.tmp 6) (.tmp 48), none, 0, none⟩] []) (.ret)) (.skip))) (.seq (.seq (.region 0 [
    ⟨(some 49), .move (.tmp 7), none, 0, none⟩,
    ⟨(some 50), .bin .eql (.tmp 49) (.const (.int .i64 (9))), none, 0, none⟩] []) (.cond (.tmp 50) (.seq (.region 5 [
    ⟨(some 51), .move (.tmp 0), none, 0, none⟩,
    ⟨(some 52), .call (.func 53) [(true, (.tmp 51)), (false, (.const (.int .i64 (6))))] false 4, none, 0, none⟩,
    ⟨(some 53), .bin .add (.tmp 52) (.const (.int .i64 (1))), none, 4, none⟩,
    ⟨(some 54), .build [.int .i64 (0), .int .i64 (0), .int .i64 (0), .int .i64 (0), .int .i64 (0), .int .i64 (0), .int .i64 (0), .int .i64 (0), .int .i64 (0), .int .i64 (0), .int .i64 (0), .int .i64 (0), .int .i64 (0), .int .i64 (0), .zsl, .int .i64 (0), .int .i64 (0), .int .i64 (0), .int .i64 (0), .zsl, .int .i64 (0), .bool false, .int .i64 (0), .bool false] [(0, 1, (.const (.int .i64 (8)))), (22, 1, (.tmp 53))], none, 4, none⟩,
    ⟨(some 10), .alloc [.int .i64 (0), .int .i64 (0), .int .i64 (0), .int .i64 (0), .int .i64 (0), .int .i64 (0), .int .i64 (0), .int .i64 (0), .int .i64 (0), .int .i64 (0), .int .i64 (0), .int .i64 (0), .int .i64 (0), .int .i64 (0), .zsl, .int .i64 (0), .int .i64 (0), .int .i64 (0), .int .i64 (0), .zsl, .int .i64 (0), .bool false, .int .i64 (0), .bool false], none, 4, none⟩,
    ⟨none, .store 24 (.tmp 10) (.tmp 54), none, 5, none⟩] []) (.seq (.region 4 [
    ⟨(some 55), .move (.tmp 0), none, 0, none⟩,
    ⟨(some 56), .call (.func 53) [(true, (.tmp 55)), (false, (.const (.int .i64 (2))))] false 4, none, 0, none⟩,
    ⟨(some 57), .bin .eql (.tmp 56) (.const (.int .i64 (0))), none, 4, none⟩,
    ⟨(some 58), .fieldAddr 23 (.tmp 10), none, 4, none⟩,
    ⟨none, .store 1 (.tmp 58) (.tmp 57), none, 4, none⟩] []) (.seq (.region 0 [
    ⟨(some 59), .load true 24 (.tmp 10), none, 0, none⟩,
    ⟨none, .store 24 (.tmp 6) (.tmp 59), none, 0, none⟩] []) (.ret)))) (.skip))) (.seq (.region 4 [
    ⟨(some 60), .move (.tmp 8), none, 0, none⟩,
    ⟨(some 61), .move (.tmp 0), none, 0, none⟩,
    ⟨(some 62), .call (.func 53) [(true, (.tmp 61)), (false, (.const (.int .i64 (2))))] false 4, none, 0, none⟩,
    ⟨(some 63), .build [.int .i64 (0), .int .i64 (0), .int .i64 (0), .int .i64 (0), .int .i64 (0), .int .i64 (0), .int .i64 (0), .int .i64 (0), .int .i64 (0), .int .i64 (0), .int .i64 (0), .int .i64 (0), .int .i64 (0), .int .i64 (0), .zsl, .int .i64 (0), .int .i64 (0), .int .i64 (0), .int .i64 (0), .zsl, .int .i64 (0), .bool false, .int .i64 (0), .bool false] [(0, 1, (.const (.int .i64 (10)))), (1, 1, (.tmp 60)), (20, 1, (.tmp 62))], none, 4, none⟩,
    ⟨none, .store 24 (.tmp 6) (.tmp 63), none, 4, none⟩] []) (.ret)))))))), [.cell true 24 6], true⟩
def s56 : Sig := ⟨(.cons (.ptr 0 0 0) (.cons (.v (.int .i64)) (.cons (.v (.int .i64)) .nil))), [.one false (.pair (.int .u64) .unit)], ((.v (.pair (.int .i64) (.pair (.int .i64) (.pair .request (.pair (.list (.int .u8)) (.pair (.int .i64) (.pair .bool (.pair (.int .i64) .bool)))))))), [.one false (.pair (.int .u64) .unit)]), []⟩
def F56 (L : Lp) (g53 : Int → (Int × Unit) → Option (Int × ((Int × Unit) × Unit))) (g16 : Int → Int → Int → Option Int) (g94 : Int → (Int × Unit) → Option (Request × ((Int × Unit) × Unit))) (users0 : Int) (keys1 : Int) (a2 : (Int × Unit)) : Option ((Int × (Int × (Request × ((List Int) × (Int × (Bool × (Int × Bool))))))) × ((Int × Unit) × Unit)) :=
  Option.bind (g53 12 a2) fun r3 =>
  Option.bind (g16 users0 1 8) fun r4 =>
  Option.bind (g53 r4 r3.2.1) fun r5 =>
  cond (decide (r3.1 ≤ 3))
    (Option.bind (g16 keys1 1 1073741824) fun r6 =>
    Option.bind (g94 r6 r5.2.1) fun r7 =>
    some ((1, (r5.1, (r7.1, ([], (0, (false, (0, false))))))), (r7.2.1, ())))
    (Option.bind (α := ((Unit × (Unit × (Bool × Unit))) × ((Int × Unit) × ((Int × (Int × (Int × (Int × (Int × (Int × (Int × (Int × (Int × (Int × (Int × (Int × (Int × (Int × (Unit × (Int × (Int × (Int × (Int × (Unit × (Int × (Bool × (Int × (Bool × Unit)))))))))))))))))))))))) × Unit))))
      (cond (decide (r3.1 ≤ 5))
        (some (((), (), true, ()), (r5.2.1, (0, 0, 0, 0, 0, 0, 0, 0, 0, 0, 0, 0, 0, 0, (), 0, 0, 0, 0, (), 0, false, 0, false, ()), ())))
        (some (((), (), decide (r3.1 = 10), ()), (r5.2.1, (0, 0, 0, 0, 0, 0, 0, 0, 0, 0, 0, 0, 0, 0, (), 0, 0, 0, 0, (), 0, false, 0, false, ()), ())))) fun x8 =>
    cond x8.1.2.2.1
      (Option.bind (α := ((Unit × (Unit × (Unit × Unit))) × ((Int × Unit) × ((Int × (Int × (Int × (Int × (Int × (Int × (Int × (Int × (Int × (Int × (Int × (Int × (Int × (Int × (Unit × (Int × (Int × (Int × (Int × (Unit × (Int × (Bool × (Int × (Bool × Unit)))))))))))))))))))))))) × ((Int × (Int × (Int × (Int × (Int × (Int × (Int × (Int × (Int × (Int × (Int × (Int × (Int × (Int × (Unit × (Int × (Int × (Int × (Int × (Unit × (Int × (Bool × (Int × (Bool × Unit)))))))))))))))))))))))) × Unit)))))
        (cond (decide (r3.1 = 10))
          (some (((), (), (), ()), (x8.2.1, (x8.2.2.1.1, x8.2.2.1.2.1, x8.2.2.1.2.2.1, x8.2.2.1.2.2.2.1, x8.2.2.1.2.2.2.2.1, x8.2.2.1.2.2.2.2.2.1, x8.2.2.1.2.2.2.2.2.2.1, x8.2.2.1.2.2.2.2.2.2.2.1, x8.2.2.1.2.2.2.2.2.2.2.2.1, x8.2.2.1.2.2.2.2.2.2.2.2.2.1, x8.2.2.1.2.2.2.2.2.2.2.2.2.2.1, x8.2.2.1.2.2.2.2.2.2.2.2.2.2.2.1, x8.2.2.1.2.2.2.2.2.2.2.2.2.2.2.2.1, x8.2.2.1.2.2.2.2.2.2.2.2.2.2.2.2.2.1, (), x8.2.2.1.2.2.2.2.2.2.2.2.2.2.2.2.2.2.2.1, x8.2.2.1.2.2.2.2.2.2.2.2.2.2.2.2.2.2.2.2.1, x8.2.2.1.2.2.2.2.2.2.2.2.2.2.2.2.2.2.2.2.2.1, x8.2.2.1.2.2.2.2.2.2.2.2.2.2.2.2.2.2.2.2.2.2.1, (), x8.2.2.1.2.2.2.2.2.2.2.2.2.2.2.2.2.2.2.2.2.2.2.2.1, x8.2.2.1.2.2.2.2.2.2.2.2.2.2.2.2.2.2.2.2.2.2.2.2.2.1, x8.2.2.1.2.2.2.2.2.2.2.2.2.2.2.2.2.2.2.2.2.2.2.2.2.2.1, x8.2.2.1.2.2.2.2.2.2.2.2.2.2.2.2.2.2.2.2.2.2.2.2.2.2.2.1, ()), (9, r5.1, 0, 0, 0, 0, 0, 0, 0, 0, 0, 0, 0, 0, (), 0, 0, 0, 0, (), 0, false, 0, false, ()), ())))
          (some (((), (), (), ()), (x8.2.1, (x8.2.2.1.1, x8.2.2.1.2.1, x8.2.2.1.2.2.1, x8.2.2.1.2.2.2.1, x8.2.2.1.2.2.2.2.1, x8.2.2.1.2.2.2.2.2.1, x8.2.2.1.2.2.2.2.2.2.1, x8.2.2.1.2.2.2.2.2.2.2.1, x8.2.2.1.2.2.2.2.2.2.2.2.1, x8.2.2.1.2.2.2.2.2.2.2.2.2.1, x8.2.2.1.2.2.2.2.2.2.2.2.2.2.1, x8.2.2.1.2.2.2.2.2.2.2.2.2.2.2.1, x8.2.2.1.2.2.2.2.2.2.2.2.2.2.2.2.1, x8.2.2.1.2.2.2.2.2.2.2.2.2.2.2.2.2.1, (), x8.2.2.1.2.2.2.2.2.2.2.2.2.2.2.2.2.2.2.1, x8.2.2.1.2.2.2.2.2.2.2.2.2.2.2.2.2.2.2.2.1, x8.2.2.1.2.2.2.2.2.2.2.2.2.2.2.2.2.2.2.2.2.1, x8.2.2.1.2.2.2.2.2.2.2.2.2.2.2.2.2.2.2.2.2.2.1, (), x8.2.2.1.2.2.2.2.2.2.2.2.2.2.2.2.2.2.2.2.2.2.2.2.1, x8.2.2.1.2.2.2.2.2.2.2.2.2.2.2.2.2.2.2.2.2.2.2.2.2.1, x8.2.2.1.2.2.2.2.2.2.2.2.2.2.2.2.2.2.2.2.2.2.2.2.2.2.1, x8.2.2.1.2.2.2.2.2.2.2.2.2.2.2.2.2.2.2.2.2.2.2.2.2.2.2.1, ()), (3, r5.1, 0, 0, 0, 0, 0, 0, 0, 0, 0, 0, 0, 0, (), 0, 0, 0, 0, (), 0, false, 0, false, ()), ())))) fun x9 =>
      Option.bind (g53 2 x9.2.1) fun r10 =>
      Option.bind (g53 4 r10.2.1) fun r11 =>
      some ((x9.2.2.2.1.1, (x9.2.2.2.1.2.1, (Request.mk x9.2.2.2.1.2.2.1 x9.2.2.2.1.2.2.2.1 x9.2.2.2.1.2.2.2.2.1 x9.2.2.2.1.2.2.2.2.2.1 x9.2.2.2.1.2.2.2.2.2.2.1 x9.2.2.2.1.2.2.2.2.2.2.2.1 (Res.mk x9.2.2.2.1.2.2.2.2.2.2.2.2.1 x9.2.2.2.1.2.2.2.2.2.2.2.2.2.1 x9.2.2.2.1.2.2.2.2.2.2.2.2.2.2.1 x9.2.2.2.1.2.2.2.2.2.2.2.2.2.2.2.1) x9.2.2.2.1.2.2.2.2.2.2.2.2.2.2.2.2.1 x9.2.2.2.1.2.2.2.2.2.2.2.2.2.2.2.2.2.1 [] x9.2.2.2.1.2.2.2.2.2.2.2.2.2.2.2.2.2.2.2.1 x9.2.2.2.1.2.2.2.2.2.2.2.2.2.2.2.2.2.2.2.2.1 x9.2.2.2.1.2.2.2.2.2.2.2.2.2.2.2.2.2.2.2.2.2.1 x9.2.2.2.1.2.2.2.2.2.2.2.2.2.2.2.2.2.2.2.2.2.2.1, ([], (r10.1, (decide (r11.1 = 0), (x9.2.2.2.1.2.2.2.2.2.2.2.2.2.2.2.2.2.2.2.2.2.2.2.2.2.2.1, x9.2.2.2.1.2.2.2.2.2.2.2.2.2.2.2.2.2.2.2.2.2.2.2.2.2.2.2.1))))))), (r11.2.1, ())))
      (cond (decide (r3.1 ≤ 8))
        (some ((IntKind.wrap .i64 (r3.1 - 1), (0, (Request.mk 0 0 0 0 0 0 (Res.mk 0 0 0 0) 0 0 [] 0 0 0 0, ([], (0, (false, (0, false))))))), (x8.2.1, ())))
        (cond (decide (r3.1 = 9))
          (Option.bind (g53 6 x8.2.1) fun r12 =>
          Option.bind (g53 2 r12.2.1) fun r13 =>
          some ((8, (0, (Request.mk 0 0 0 0 0 0 (Res.mk 0 0 0 0) 0 0 [] 0 0 0 0, ([], (0, (false, (IntKind.wrap .i64 (r12.1 + 1), decide (r13.1 = 0)))))))), (r13.2.1, ())))
          (Option.bind (g53 2 x8.2.1) fun r14 =>
          some ((10, (r5.1, (Request.mk 0 0 0 0 0 0 (Res.mk 0 0 0 0) 0 0 [] 0 0 0 0, ([], (r14.1, (false, (0, false))))))), (r14.2.1, ()))))))
theorem e56 (L : Lp) (g53 : Int → (Int × Unit) → Option (Int × ((Int × Unit) × Unit))) (g16 : Int → Int → Int → Option Int) (g94 : Int → (Int × Unit) → Option (Request × ((Int × Unit) × Unit))) (x : s56.args.den) (h : denH s56.heap) : nrun [⟨53, s53, fun x h => g53 x.2.1 h.1⟩, ⟨16, s16, fun x h => g16 x.1 x.2.1 x.2.2.1⟩, ⟨94, s94, fun x h => g94 x.2.1 h.1⟩] L n56 s56 x h = F56 L g53 g16 g94 x.2.1 x.2.2.1 h.1 := by kernel_rfl
def f56 : Int → Int → (Int × Unit) → Option ((Int × (Int × (Request × ((List Int) × (Int × (Bool × (Int × Bool))))))) × ((Int × Unit) × Unit)) := F56 (@LN LOOPS) f53 f16 f94
@[reducible] def t56 : Ent := ⟨56, s56, fun x h => f56 x.2.1 x.2.2.1 h.1⟩
theorem k56 : chkNF Try.prog Try.f56 n56 = true := by kernel_rfl
theorem ok56 : NOk Try.prog t56 := NOk.body (T := [t53, t16, t94]) mixed (nall_cons ok53 (nall_cons ok16 (nall_cons ok94 nall_nil))) (oneEach_of (by kernel_rfl)) Try.func56 k56 (by kernel_rfl) (fun x h => e56 _ _ _ _ x h)
/- drayage/drayagelaw48.LotDraws -/
def n9 : NFunc := ⟨82, .seq (.region 1 [
    ⟨(some 5), .box 3 (.tmp 2), none, 0, none⟩,
    ⟨(some 6), .move (.const (.bool false)), none, 1, none⟩] []) (.seq (.seq (.region 4 [
    ⟨(some 16), .call (.func 49) [] false 4, none, 0, none⟩,
    ⟨(some 17), .un .not (.tmp 16), none, 4, none⟩] []) (.cond (.tmp 17) (.seq (.region 0 [
    ⟨(some 6), .move (.const (.bool false)), none, 0, none⟩] []) (.ret)) (.skip))) (.seq (.seq (.region 0 [
    ⟨(some 18), .move (.tmp 1), none, 0, none⟩,
    ⟨(some 19), .len (.tmp 18), none, 0, none⟩,
    ⟨(some 20), .bin .gtr (.tmp 19) (.const (.int .i64 (100))), none, 0, none⟩] []) (.cond (.tmp 20) (.seq (.region 0 [
    ⟨(some 6), .move (.const (.bool true)), none, 0, none⟩] []) (.ret)) (.skip))) (.seq (.region 8 [
    ⟨(some 21), .move (.tmp 0), none, 0, none⟩,
    ⟨(some 22), .call (.func 50) [(false, (.tmp 21))] false 4, none, 0, none⟩,
    ⟨(some 23), .move (.tmp 0), none, 4, none⟩,
    ⟨(some 24), .call (.func 51) [(false, (.tmp 23))] false 4, none, 4, none⟩,
    ⟨(some 7), .move (.tmp 22), none, 8, none⟩,
    ⟨(some 8), .move (.tmp 24), none, 8, none⟩] []) (.seq (.seq (.region 0 [
    ⟨(some 25), .move (.tmp 1), none, 0, none⟩,
    ⟨(some 26), .len (.tmp 25), none, 0, none⟩,
    ⟨(some 27), .move (.const (.int .i64 (0))), none, 0, none⟩] []) (.block 0 (.loop [5, 7, 8, 25, 26, 27] ⟨[(5, (.ptr 0 0 0)), (7, (.ptr 1 0 0)), (8, (.ptr 2 0 0)), (27, (.v (.int .i64)))], [25, 26], [.one false (.pair (.int .i64) (.pair (.int .i64) (.int .i64))), .one false (.pair (.int .u64) .unit), .one false (.pair (.int .u64) .unit)]⟩ (.seq (.region 0 [
    ⟨(some 28), .bin .lss (.tmp 27) (.tmp 26), none, 0, none⟩] []) (.seq (.cond (.tmp 28) (.skip) (.exit 0)) (.seq (.block 1 (.seq (.region 0 [
    ⟨(some 29), .indexSl 1 (.tmp 25) (.tmp 27), none, 0, none⟩,
    ⟨(some 30), .load false 1 (.tmp 29), none, 0, none⟩,
    ⟨(some 10), .move (.tmp 30), none, 0, none⟩] []) (.seq (.region 8 [
    ⟨(some 31), .move (.tmp 7), none, 0, none⟩,
    ⟨(some 32), .move (.tmp 10), none, 0, none⟩,
    ⟨(some 33), .call (.func 52) [(true, (.tmp 31)), (false, (.tmp 32))] false 4, none, 0, none⟩,
    ⟨(some 34), .move (.tmp 8), none, 4, none⟩,
    ⟨(some 35), .move (.tmp 10), none, 4, none⟩,
    ⟨(some 36), .call (.func 53) [(true, (.tmp 34)), (false, (.tmp 35))] false 4, none, 4, none⟩,
    ⟨(some 37), .bin .neq (.tmp 33) (.tmp 36), none, 8, none⟩] []) (.cond (.tmp 37) (.seq (.region 0 [
    ⟨(some 6), .move (.const (.bool false)), none, 0, none⟩] []) (.ret)) (.skip))))) (.region 0 [
    ⟨(some 38), .bin .add (.tmp 27) (.const (.int .i64 (1))), none, 0, none⟩,
    ⟨(some 27), .move (.tmp 38), none, 0, none⟩] []))))))) (.seq (.region 0 [
    ⟨(some 39), .indexArr 3 1 (.tmp 5) (.const (.int .i64 (0))), none, 0, (some ([], none))⟩,
    ⟨(some 40), .load false 1 (.tmp 39), none, 0, (some ([], none))⟩,
    ⟨(some 41), .indexArr 3 1 (.tmp 5) (.const (.int .i64 (1))), none, 0, (some ([], none))⟩,
    ⟨(some 42), .load false 1 (.tmp 41), none, 0, (some ([], none))⟩,
    ⟨(some 43), .indexArr 3 1 (.tmp 5) (.const (.int .i64 (2))), none, 0, (some ([], none))⟩,
    ⟨(some 44), .load false 1 (.tmp 43), none, 0, (some ([], none))⟩,
    ⟨(some 11), .move (.tmp 40), none, 0, (some ([], none))⟩,
    ⟨(some 12), .move (.tmp 42), none, 0, (some ([], none))⟩,
    ⟨(some 13), .move (.tmp 44), none, 0, (some ([], none))⟩] []) (.seq (.seq (.region 0 [
    ⟨(some 45), .move (.tmp 11), none, 0, none⟩,
    ⟨(some 46), .bin .gtr (.tmp 45) (.const (.int .i64 (100))), none, 0, none⟩] []) (.cond (.tmp 46) (.seq (.region 0 [
    ⟨(some 6), .move (.const (.bool true)), none, 0, none⟩] []) (.ret)) (.skip))) (.seq (.region 4 [
    ⟨(some 47), .move (.tmp 7), none, 0, none⟩,
    ⟨(some 48), .move (.tmp 11), none, 0, none⟩,
    ⟨(some 49), .move (.tmp 12), none, 0, none⟩,
    ⟨(some 50), .move (.tmp 13), none, 0, none⟩,
    ⟨(some 51), .call (.func 54) [(true, (.tmp 47)), (false, (.tmp 48)), (false, (.tmp 49)), (false, (.tmp 50))] false 4, none, 0, none⟩,
    ⟨(some 14), .move (.tmp 51), none, 4, none⟩] []) (.seq (.seq (.region 0 [
    ⟨(some 52), .move (.tmp 14), none, 0, none⟩,
    ⟨(some 53), .len (.tmp 52), none, 0, none⟩,
    ⟨(some 54), .move (.tmp 11), none, 0, none⟩,
    ⟨(some 55), .minmax true (.const (.int .i64 (0))) (.tmp 54), none, 0, none⟩,
    ⟨(some 56), .bin .neq (.tmp 53) (.tmp 55), none, 0, none⟩] []) (.cond (.tmp 56) (.seq (.region 0 [
    ⟨(some 6), .move (.const (.bool false)), none, 0, none⟩] []) (.ret)) (.skip))) (.seq (.seq (.region 0 [
    ⟨(some 57), .move (.tmp 14), none, 0, none⟩,
    ⟨(some 58), .len (.tmp 57), none, 0, none⟩,
    ⟨(some 59), .move (.const (.int .i64 (0))), none, 0, none⟩] []) (.block 2 (.loop [7, 8, 12, 13, 14, 58, 59] ⟨[(7, (.ptr 0 0 0)), (8, (.ptr 1 0 0)), (59, (.v (.int .i64)))], [12, 13, 14, 58], [.one false (.pair (.int .u64) .unit), .one false (.pair (.int .u64) .unit)]⟩ (.seq (.region 0 [
    ⟨(some 60), .bin .lss (.tmp 59) (.tmp 58), none, 0, none⟩] []) (.seq (.cond (.tmp 60) (.skip) (.exit 2)) (.seq (.block 3 (.seq (.region 0 [
    ⟨(some 61), .move (.tmp 59), none, 0, none⟩,
    ⟨(some 15), .move (.tmp 61), none, 0, none⟩] []) (.seq (.region 8 [
    ⟨(some 62), .move (.tmp 14), none, 0, (some ([], none))⟩,
    ⟨(some 63), .move (.tmp 15), none, 0, (some ([], none))⟩,
    ⟨(some 64), .indexSl 24 (.tmp 62) (.tmp 63), none, 0, (some ([], none))⟩,
    ⟨(some 65), .load true 24 (.tmp 64), none, 0, (some ([], some []))⟩,
    ⟨(some 66), .move (.tmp 8), none, 0, (some ([], none))⟩,
    ⟨(some 67), .move (.tmp 12), none, 0, (some ([], none))⟩,
    ⟨(some 68), .move (.tmp 13), none, 0, (some ([], none))⟩,
    ⟨(some 69), .call (.func 56) [(true, (.tmp 66)), (false, (.tmp 67)), (false, (.tmp 68))] false 4, none, 0, (some ([], some [1]))⟩,
    ⟨(some 70), .call (.func 55) [(false, (.tmp 65)), (false, (.tmp 69))] false 4, none, 4, (some ([], some []))⟩,
    ⟨(some 71), .un .not (.tmp 70), none, 8, (some ([0, 1, 2, 3, 4, 5, 6, 7], none))⟩] []) (.cond (.tmp 71) (.seq (.region 0 [
    ⟨(some 6), .move (.const (.bool false)), none, 0, none⟩] []) (.ret)) (.skip))))) (.region 0 [
    ⟨(some 72), .bin .add (.tmp 59) (.const (.int .i64 (1))), none, 0, none⟩,
    ⟨(some 59), .move (.tmp 72), none, 0, none⟩] []))))))) (.seq (.region 12 [
    ⟨(some 73), .move (.tmp 7), none, 0, none⟩,
    ⟨(some 74), .move (.tmp 12), none, 0, none⟩,
    ⟨(some 75), .move (.tmp 13), none, 0, none⟩,
    ⟨(some 76), .call (.func 57) [(true, (.tmp 73)), (false, (.tmp 74)), (false, (.tmp 75))] false 4, none, 0, none⟩,
    ⟨(some 77), .move (.tmp 8), none, 4, none⟩,
    ⟨(some 78), .move (.tmp 12), none, 4, none⟩,
    ⟨(some 79), .move (.tmp 13), none, 4, none⟩,
    ⟨(some 80), .call (.func 56) [(true, (.tmp 77)), (false, (.tmp 78)), (false, (.tmp 79))] false 4, none, 4, none⟩,
    ⟨(some 81), .call (.func 55) [(false, (.tmp 76)), (false, (.tmp 80))] false 4, none, 8, none⟩,
    ⟨(some 6), .move (.tmp 81), none, 12, none⟩] []) (.ret))))))))))), [.tmp 6], true⟩
def s9 : Sig := ⟨(.cons (.v (.int .u64)) (.cons (.v (.list (.int .i64))) (.cons (.v (.pair (.int .i64) (.pair (.int .i64) (.int .i64)))) .nil))), [], ((.v .bool), []), []⟩
def l9_0 (g56 : Int → Int → (Int × Unit) → Option ((Int × (Int × (Request × ((List Int) × (Int × (Bool × (Int × Bool))))))) × ((Int × Unit) × Unit))) (g55 : (Int × (Int × (Request × ((List Int) × (Int × (Bool × (Int × Bool))))))) → (Int × (Int × (Request × ((List Int) × (Int × (Bool × (Int × Bool))))))) → Option Bool) (g57 : Int → Int → (Int × Unit) → Option ((Int × (Int × (Request × ((List Int) × (Int × (Bool × (Int × Bool))))))) × ((Int × Unit) × Unit))) (z8 : (Int × (Int × Int))) (r14 : ((List (Int × (Int × (Request × ((List Int) × (Int × (Bool × (Int × Bool)))))))) × ((Int × Unit) × Unit))) (next : ((Unit × (Unit × (Int × Unit))) × ((Int × Unit) × ((Int × Unit) × Unit))) → Option Bool) (z16 : Int) (z17 : (Int × Unit)) (z18 : (Int × Unit)) : Option Bool :=
  cond (decide (z16 < (List.length r14.1 : Int)))
    (cond (decide (0 ≤ z16))
      (Option.bind (r14.1[Int.toNat z16]?) fun y19 =>
      Option.bind (g56 z8.2.1 z8.2.2 z18) fun r20 =>
      Option.bind (g55 y19 r20.1) fun r21 =>
      cond (!r21)
        (some false)
        (next (((), (), IntKind.wrap .i64 (z16 + 1), ()), (z17, r20.2.1, ()))))
      (none))
    (Option.bind (g57 z8.2.1 z8.2.2 z17) fun r22 =>
    Option.bind (g56 z8.2.1 z8.2.2 z18) fun r23 =>
    Option.bind (g55 r22.1 r23.1) fun r24 =>
    some r24)
def l9_1 (L : Lp) (g52 : Int → (Int × Unit) → Option (Int × ((Int × Unit) × Unit))) (g53 : Int → (Int × Unit) → Option (Int × ((Int × Unit) × Unit))) (g54_1 : Int → Int → Int → (Int × Unit) → Option ((List (Int × (Int × (Request × ((List Int) × (Int × (Bool × (Int × Bool)))))))) × ((Int × Unit) × Unit))) (g56 : Int → Int → (Int × Unit) → Option ((Int × (Int × (Request × ((List Int) × (Int × (Bool × (Int × Bool))))))) × ((Int × Unit) × Unit))) (g55 : (Int × (Int × (Request × ((List Int) × (Int × (Bool × (Int × Bool))))))) → (Int × (Int × (Request × ((List Int) × (Int × (Bool × (Int × Bool))))))) → Option Bool) (g57 : Int → Int → (Int × Unit) → Option ((Int × (Int × (Request × ((List Int) × (Int × (Bool × (Int × Bool))))))) × ((Int × Unit) × Unit))) (al1 : (List Int)) (next : ((Unit × (Unit × (Unit × (Int × Unit)))) × ((Int × (Int × Int)) × ((Int × Unit) × ((Int × Unit) × Unit)))) → Option Bool) (z7 : Int) (z8 : (Int × (Int × Int))) (z9 : (Int × Unit)) (z10 : (Int × Unit)) : Option Bool :=
  cond (decide (z7 < (List.length al1 : Int)))
    (cond (decide (0 ≤ z7))
      (Option.bind (al1[Int.toNat z7]?) fun y11 =>
      Option.bind (g52 y11 z9) fun r12 =>
      Option.bind (g53 y11 z10) fun r13 =>
      cond (!decide (r12.1 = r13.1))
        (some false)
        (next (((), (), (), IntKind.wrap .i64 (z7 + 1), ()), (z8, r12.2.1, r13.2.1, ()))))
      (none))
    (cond (decide (100 < z8.1))
      (some true)
      (Option.bind (g54_1 z8.1 z8.2.1 z8.2.2 z9) fun r14 =>
      cond (!decide ((List.length r14.1 : Int) = (if z8.1 > 0 then z8.1 else 0)))
        (some false)
        (L (fun (s15 : ((Unit × (Unit × (Int × Unit))) × ((Int × Unit) × ((Int × Unit) × Unit)))) next => l9_0 g56 g55 g57 z8 r14 next s15.1.2.2.1 s15.2.1 s15.2.2.1) (((), (), 0, ()), (r14.2.1, z10, ())))))
def F9 (L : Lp) (g49 : Option Bool) (g50 : Int → Option (Unit × ((Int × Unit) × Unit))) (g51 : Int → Option (Unit × ((Int × Unit) × Unit))) (g52 : Int → (Int × Unit) → Option (Int × ((Int × Unit) × Unit))) (g53 : Int → (Int × Unit) → Option (Int × ((Int × Unit) × Unit))) (g54_1 : Int → Int → Int → (Int × Unit) → Option ((List (Int × (Int × (Request × ((List Int) × (Int × (Bool × (Int × Bool)))))))) × ((Int × Unit) × Unit))) (g56 : Int → Int → (Int × Unit) → Option ((Int × (Int × (Request × ((List Int) × (Int × (Bool × (Int × Bool))))))) × ((Int × Unit) × Unit))) (g55 : (Int × (Int × (Request × ((List Int) × (Int × (Bool × (Int × Bool))))))) → (Int × (Int × (Request × ((List Int) × (Int × (Bool × (Int × Bool))))))) → Option Bool) (g57 : Int → Int → (Int × Unit) → Option ((Int × (Int × (Request × ((List Int) × (Int × (Bool × (Int × Bool))))))) × ((Int × Unit) × Unit))) (seed0 : Int) (al1 : (List Int)) (ax2 : (Int × (Int × Int))) : Option Bool :=
  Option.bind (g49) fun r3 =>
  cond (!r3)
    (some false)
    (cond (decide (100 < (List.length al1 : Int)))
      (some true)
      (Option.bind (g50 seed0) fun r4 =>
      Option.bind (g51 seed0) fun r5 =>
      L (fun (s6 : ((Unit × (Unit × (Unit × (Int × Unit)))) × ((Int × (Int × Int)) × ((Int × Unit) × ((Int × Unit) × Unit))))) next => l9_1 L g52 g53 g54_1 g56 g55 g57 al1 next s6.1.2.2.2.1 s6.2.1 s6.2.2.1 s6.2.2.2.1) (((), (), (), 0, ()), (ax2, r4.2.1, r5.2.1, ()))))
theorem e9 (L : Lp) (g49 : Option Bool) (g50 : Int → Option (Unit × ((Int × Unit) × Unit))) (g51 : Int → Option (Unit × ((Int × Unit) × Unit))) (g52 : Int → (Int × Unit) → Option (Int × ((Int × Unit) × Unit))) (g53 : Int → (Int × Unit) → Option (Int × ((Int × Unit) × Unit))) (g54_1 : Int → Int → Int → (Int × Unit) → Option ((List (Int × (Int × (Request × ((List Int) × (Int × (Bool × (Int × Bool)))))))) × ((Int × Unit) × Unit))) (g56 : Int → Int → (Int × Unit) → Option ((Int × (Int × (Request × ((List Int) × (Int × (Bool × (Int × Bool))))))) × ((Int × Unit) × Unit))) (g55 : (Int × (Int × (Request × ((List Int) × (Int × (Bool × (Int × Bool))))))) → (Int × (Int × (Request × ((List Int) × (Int × (Bool × (Int × Bool))))))) → Option Bool) (g57 : Int → Int → (Int × Unit) → Option ((Int × (Int × (Request × ((List Int) × (Int × (Bool × (Int × Bool))))))) × ((Int × Unit) × Unit))) (x : s9.args.den) (h : denH s9.heap) : nrun [⟨49, s49, fun x h => g49 ⟩, ⟨50, s50, fun x h => g50 x.1⟩, ⟨51, s51, fun x h => g51 x.1⟩, ⟨52, s52, fun x h => g52 x.2.1 h.1⟩, ⟨53, s53, fun x h => g53 x.2.1 h.1⟩, ⟨54, s54_1, fun x h => g54_1 x.2.1 x.2.2.1 x.2.2.2.1 h.1⟩, ⟨56, s56, fun x h => g56 x.2.1 x.2.2.1 h.1⟩, ⟨55, s55, fun x h => g55 x.1 x.2.1⟩, ⟨57, s57, fun x h => g57 x.2.1 x.2.2.1 h.1⟩] L n9 s9 x h = F9 L g49 g50 g51 g52 g53 g54_1 g56 g55 g57 x.1 x.2.1 x.2.2.1 := by kernel_rfl
def f9 : Int → (List Int) → (Int × (Int × Int)) → Option Bool := F9 (@LN LOOPS) f49 f50 f51 f52 f53 f54_1 f56 f55 f57
@[reducible] def t9 : Ent := ⟨9, s9, fun x h => f9 x.1 x.2.1 x.2.2.1⟩
theorem k9 : chkNF Try.prog Try.f9 n9 = true := by kernel_rfl
theorem ok9 : NOk Try.prog t9 := NOk.body (T := [t49, t50, t51, t52, t53, t54_1, t56, t55, t57]) mixed (nall_cons ok49 (nall_cons ok50 (nall_cons ok51 (nall_cons ok52 (nall_cons ok53 (nall_cons ok54_1 (nall_cons ok56 (nall_cons ok55 (nall_cons ok57 nall_nil))))))))) (oneEach_of (by kernel_rfl)) Try.func9 k9 (by kernel_rfl) (fun x h => e9 _ _ _ _ _ _ _ _ _ _ x h)
end NM
end Go.Proofs.Ytofboijlcjgnnaa
