/-
  The plain forms of the functions that the statement reaches, and that each is its function's body. (Written by program.)
-/
import Derived.Test.YtacaeonoogkkaaaRankSomeMa
set_option linter.unusedVariables false
set_option maxRecDepth 100000
set_option maxHeartbeats 4000000
namespace Go.Proofs.Ytacaeonoogkkaaa
namespace NM
open AM Go.RowKit
/- drayage/rank.Ahead -/
def n19 : NFunc := ⟨26, .seq (.region 4 [
    ⟨(some 4), .box 18 (.tmp 0), none, 0, none⟩,
    ⟨(some 5), .box 18 (.tmp 1), none, 1, none⟩,
    ⟨(some 6), .box 18 (.tmp 2), none, 2, none⟩,
    ⟨(some 7), .box 2 (.tmp 3), none, 3, none⟩,
    ⟨(some 8), .move (.const (.bool false)), none, 4, none⟩] []) (.seq (.seq (.region 4 [
    ⟨(some 11), .load true 18 (.tmp 4), none, 0, none⟩,
    ⟨(some 12), .call (.func 64) [(false, (.tmp 11))] false 4, none, 0, none⟩,
    ⟨(some 13), .un .not (.tmp 12), none, 4, none⟩] []) (.cond (.tmp 13) (.seq (.region 0 [
    ⟨(some 8), .move (.const (.bool false)), none, 0, none⟩] []) (.ret)) (.skip))) (.seq (.region 10 [
    ⟨(some 14), .load true 18 (.tmp 4), none, 0, (some ([], none))⟩,
    ⟨(some 15), .load true 18 (.tmp 5), none, 0, (some ([], none))⟩,
    ⟨(some 16), .load true 2 (.tmp 7), none, 0, (some ([], none))⟩,
    ⟨(some 17), .call (.func 65) [(false, (.tmp 14)), (false, (.tmp 15)), (false, (.tmp 16))] true 4, none, 0, (some ([], none))⟩,
    ⟨(some 18), .load true 18 (.tmp 4), none, 4, (some ([], none))⟩,
    ⟨(some 19), .load true 18 (.tmp 6), none, 4, (some ([], none))⟩,
    ⟨(some 20), .load true 2 (.tmp 7), none, 4, (some ([], none))⟩,
    ⟨(some 21), .call (.func 65) [(false, (.tmp 18)), (false, (.tmp 19)), (false, (.tmp 20))] true 4, none, 4, (some ([0, 1, 2, 3], none))⟩,
    ⟨(some 9), .alloc [.int .i64 (0), .int .i64 (0), .int .i64 (0)], none, 8, (some ([], none))⟩,
    ⟨(some 10), .alloc [.int .i64 (0), .int .i64 (0), .int .i64 (0)], none, 9, (some ([], none))⟩,
    ⟨none, .store 3 (.tmp 9) (.tmp 17), none, 10, (some ([0, 1, 2, 3, 4, 5, 6, 7, 8, 9], none))⟩,
    ⟨none, .store 3 (.tmp 10) (.tmp 21), none, 10, (some ([0, 1, 2, 3, 4, 5, 6, 7, 8, 9], none))⟩] []) (.seq (.region 4 [
    ⟨(some 22), .sliceArr 3 1 (.tmp 9), none, 0, (some ([], some [16]))⟩,
    ⟨(some 23), .sliceArr 3 1 (.tmp 10), none, 0, (some ([], some [17]))⟩,
    ⟨(some 24), .call (.func 69) [(false, (.tmp 22)), (false, (.tmp 23))] false 4, none, 0, (some ([], some []))⟩,
    ⟨(some 25), .bin .lss (.tmp 24) (.const (.int .i64 (0))), none, 4, (some ([0, 1, 2, 3], none))⟩,
    ⟨(some 8), .move (.tmp 25), none, 4, (some ([0, 1, 2, 3], none))⟩] []) (.ret)))), [.tmp 8], true⟩
def s19 : Sig := ⟨(.cons (.v .spec) (.cons (.v .job) (.cons (.v .job) (.cons (.v (.pair (.int .i64) (.list (.int .i64)))) .nil)))), [], ((.v .bool), []), []⟩
def F19 (L : Lp) (g64 : Spec → Option Bool) (g65 : Spec → Job → (Int × (List Int)) → Option (Int × (Int × Int))) (g69 : (List Int) → (List Int) → Option Int) (as0 : Spec) (a1 : Job) (b2 : Job) (ax3 : (Int × (List Int))) : Option Bool :=
  Option.bind (g64 as0) fun r4 =>
  cond (!r4)
  (some false)
  (Option.bind (g65 as0 a1 ax3) fun r5 =>
  Option.bind (g65 as0 b2 ax3) fun r6 =>
  Option.bind (g69 [r5.1, r5.2.1, r5.2.2] [r6.1, r6.2.1, r6.2.2]) fun r7 =>
  some (decide (r7 < 0)))
theorem e19 (L : Lp) (g64 : Spec → Option Bool) (g65 : Spec → Job → (Int × (List Int)) → Option (Int × (Int × Int))) (g69 : (List Int) → (List Int) → Option Int) (x : s19.args.den) (h : denH s19.heap) : nrun [⟨64, s64, fun x h => g64 x.1⟩, ⟨65, s65, fun x h => g65 x.1 x.2.1 x.2.2.1⟩, ⟨69, s69, fun x h => g69 x.1 x.2.1⟩] L n19 s19 x h = F19 L g64 g65 g69 x.1 x.2.1 x.2.2.1 x.2.2.2.1 := by kernel_rfl
def f19 : Spec → Job → Job → (Int × (List Int)) → Option Bool := F19 (@LN LOOPS) f64 f65 f69
@[reducible] def t19 : Ent := ⟨19, s19, fun x h => f19 x.1 x.2.1 x.2.2.1 x.2.2.2.1⟩
theorem k19 : chkNF Try.prog Try.f19 n19 = true := by kernel_rfl
theorem ok19 : NOk Try.prog t19 := NOk.body (T := [t64, t65, t69]) mixed (nall_cons ok64 (nall_cons ok65 (nall_cons ok69 nall_nil))) (oneEach_of (by kernel_rfl)) Try.func19 k19 (by kernel_rfl) (fun x h => e19 _ _ _ _ x h)
end NM
end Go.Proofs.Ytacaeonoogkkaaa
