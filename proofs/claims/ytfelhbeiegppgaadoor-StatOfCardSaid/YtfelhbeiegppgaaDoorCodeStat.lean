/-
  The abstract code of the functions that the statement reaches, and that each is its function's body. (Written by program.)
-/
import Derived.Test.YtfelhbeiegppgaaDoorAmQ
import Derived.Test.YtfelhbeiegppgaaDoorProg
import Derived.ProofKit
set_option linter.unusedVariables false
set_option maxRecDepth 100000
set_option maxHeartbeats 4000000
namespace Go.Proofs.YtfelhbeiegppgaaDoor
namespace AM
theorem mixed : Tryd.prog.follows .mixedOrders = true := by kernel_rfl
/- drayage/stat.numbers -/
def b_11_0 : ACode := .seq (.region 0 [
    ⟨(some 25), .bin .lss (.tmp 24) (.const (.int .i64 (13))), none, 0, none⟩]) (.seq (.cond (.tmp 25) (.skip) (.exit 0)) (.seq (.block 1 (.seq (.region 0 [
    ⟨(some 26), .move (.tmp 24), none, 0, none⟩,
    ⟨(some 4), .move (.tmp 26), none, 0, none⟩]) (.region 0 [
    ⟨(some 27), .move (.tmp 4), none, 0, none⟩,
    ⟨(some 28), .bin .add (.const (.int .i64 (6))) (.tmp 27), none, 0, none⟩,
    ⟨(some 29), .move (.tmp 0), none, 0, none⟩,
    ⟨(some 30), .move (.tmp 4), none, 0, none⟩,
    ⟨(some 31), .nilCheck (.tmp 29), none, 0, none⟩,
    ⟨(some 32), .fieldAddr 6 (.tmp 31), none, 0, none⟩,
    ⟨(some 33), .indexArr 13 1 (.tmp 32) (.tmp 30), none, 0, none⟩,
    ⟨(some 34), .indexArr 19 1 (.tmp 3) (.tmp 28), none, 0, none⟩,
    ⟨none, .store 1 (.tmp 34) (.tmp 33), none, 0, none⟩]))) (.region 0 [
    ⟨(some 35), .bin .add (.tmp 24) (.const (.int .i64 (1))), none, 0, none⟩,
    ⟨(some 24), .move (.tmp 35), none, 0, none⟩])))
def a_11 : AFunc := ⟨37, .seq (.region 1 [
    ⟨(some 2), .alloc [.nilp, .nilp, .nilp, .nilp, .nilp, .nilp, .nilp, .nilp, .nilp, .nilp, .nilp, .nilp, .nilp, .nilp, .nilp, .nilp, .nilp, .nilp, .nilp], none, 0, none⟩]) (.seq (.region 1 [
    ⟨(some 5), .move (.tmp 0), none, 0, (some ([], none))⟩,
    ⟨(some 6), .nilCheck (.tmp 5), none, 0, (some ([], none))⟩,
    ⟨(some 7), .fieldAddr 0 (.tmp 6), none, 0, (some ([], none))⟩,
    ⟨(some 8), .move (.tmp 0), none, 0, (some ([], none))⟩,
    ⟨(some 9), .nilCheck (.tmp 8), none, 0, (some ([], none))⟩,
    ⟨(some 10), .fieldAddr 1 (.tmp 9), none, 0, (some ([], none))⟩,
    ⟨(some 11), .move (.tmp 0), none, 0, (some ([], none))⟩,
    ⟨(some 12), .nilCheck (.tmp 11), none, 0, (some ([], none))⟩,
    ⟨(some 13), .fieldAddr 2 (.tmp 12), none, 0, (some ([], none))⟩,
    ⟨(some 14), .move (.tmp 0), none, 0, (some ([], none))⟩,
    ⟨(some 15), .nilCheck (.tmp 14), none, 0, (some ([], none))⟩,
    ⟨(some 16), .fieldAddr 3 (.tmp 15), none, 0, (some ([], none))⟩,
    ⟨(some 17), .move (.tmp 0), none, 0, (some ([], none))⟩,
    ⟨(some 18), .nilCheck (.tmp 17), none, 0, (some ([], none))⟩,
    ⟨(some 19), .fieldAddr 4 (.tmp 18), none, 0, (some ([], none))⟩,
    ⟨(some 20), .move (.tmp 0), none, 0, (some ([], none))⟩,
    ⟨(some 21), .nilCheck (.tmp 20), none, 0, (some ([], none))⟩,
    ⟨(some 22), .fieldAddr 5 (.tmp 21), none, 0, (some ([], none))⟩,
    ⟨(some 23), .build [.nilp, .nilp, .nilp, .nilp, .nilp, .nilp, .nilp, .nilp, .nilp, .nilp, .nilp, .nilp, .nilp, .nilp, .nilp, .nilp, .nilp, .nilp, .nilp] [(0, 1, (.tmp 7)), (1, 1, (.tmp 10)), (2, 1, (.tmp 13)), (3, 1, (.tmp 16)), (4, 1, (.tmp 19)), (5, 1, (.tmp 22))], none, 0, (some ([], none))⟩,
    ⟨(some 3), .alloc [.nilp, .nilp, .nilp, .nilp, .nilp, .nilp, .nilp, .nilp, .nilp, .nilp, .nilp, .nilp, .nilp, .nilp, .nilp, .nilp, .nilp, .nilp, .nilp], none, 0, (some ([], none))⟩,
    ⟨none, .store 19 (.tmp 3) (.tmp 23), none, 1, (some ([0], none))⟩]) (.seq (.seq (.region 0 [
    ⟨(some 24), .move (.const (.int .i64 (0))), none, 0, none⟩]) (.block 0 (.loop [0, 2, 3, 24] b_11_0))) (.seq (.region 0 [
    ⟨(some 36), .load true 19 (.tmp 3), none, 0, none⟩,
    ⟨none, .store 19 (.tmp 2) (.tmp 36), none, 0, none⟩]) (.ret)))), [.cell true 19 2], false⟩
def g_11 : List AVal → Heap → Option (AVal × Heap) := runBody (tab []) a_11
theorem v_11 : Valid Tryd.prog (tab []) := tab_nil
theorem k_11 : chkFunc Tryd.prog Tryd.f11 a_11 = true := by kernel_rfl
theorem ok_11 : Ok Tryd.prog 11 g_11 := Ok.body mixed v_11 Tryd.func11 k_11
attribute [irreducible] g_11
/- drayage/stat.right -/
def b_10_0 : ACode := .seq (.region 0 [
    ⟨(some 7), .bin .lss (.tmp 6) (.const (.int .i64 (19))), none, 0, none⟩]) (.seq (.cond (.tmp 7) (.skip) (.exit 0)) (.seq (.block 1 (.seq (.region 0 [
    ⟨(some 8), .indexVal false 19 1 (.tmp 5) (.tmp 6), none, 0, none⟩,
    ⟨(some 4), .move (.tmp 8), none, 0, none⟩]) (.seq (.region 0 [
    ⟨(some 9), .move (.tmp 4), none, 0, none⟩,
    ⟨(some 10), .nilCheck (.tmp 9), none, 0, none⟩,
    ⟨(some 11), .load false 1 (.tmp 10), none, 0, none⟩,
    ⟨(some 12), .bin .lss (.tmp 11) (.const (.int .i64 (0))), none, 0, none⟩,
    ⟨(some 13), .move (.tmp 12), none, 0, none⟩,
    ⟨(some 14), .move (.tmp 4), (some (13, false)), 0, none⟩,
    ⟨(some 15), .nilCheck (.tmp 14), (some (13, false)), 0, none⟩,
    ⟨(some 16), .load false 1 (.tmp 15), (some (13, false)), 0, none⟩,
    ⟨(some 17), .bin .gtr (.tmp 16) (.const (.int .i64 (281474976710656))), (some (13, false)), 0, none⟩,
    ⟨(some 18), .pick (.tmp 13) (.const (.bool true)) (.tmp 17), none, 0, none⟩]) (.cond (.tmp 18) (.seq (.region 0 [
    ⟨(some 2), .move (.const (.bool false)), none, 0, none⟩]) (.ret)) (.skip))))) (.region 0 [
    ⟨(some 19), .bin .add (.tmp 6) (.const (.int .i64 (1))), none, 0, none⟩,
    ⟨(some 6), .move (.tmp 19), none, 0, none⟩])))
def a_10 : AFunc := ⟨20, .seq (.region 1 [
    ⟨(some 1), .box 19 (.tmp 0), none, 0, none⟩,
    ⟨(some 2), .move (.const (.bool false)), none, 1, none⟩]) (.seq (.seq (.region 4 [
    ⟨(some 5), .call (.func 11) [(true, (.tmp 1))] false 4, none, 0, none⟩,
    ⟨(some 6), .move (.const (.int .i64 (0))), none, 4, none⟩]) (.block 0 (.loop [5, 6] b_10_0))) (.seq (.region 0 [
    ⟨(some 2), .move (.const (.bool true)), none, 0, none⟩]) (.ret))), [.tmp 2], true⟩
def g_10 : List AVal → Heap → Option (AVal × Heap) := runBody (tab [(11, g_11)]) a_10
theorem v_10 : Valid Tryd.prog (tab [(11, g_11)]) := (tab_cons ok_11 tab_nil)
theorem k_10 : chkFunc Tryd.prog Tryd.f10 a_10 = true := by kernel_rfl
theorem ok_10 : Ok Tryd.prog 10 g_10 := Ok.body mixed v_10 Tryd.func10 k_10
attribute [irreducible] g_10
end AM
end Go.Proofs.YtfelhbeiegppgaaDoor
