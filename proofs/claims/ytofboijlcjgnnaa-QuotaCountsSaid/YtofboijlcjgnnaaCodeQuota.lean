/-
  The abstract code of the functions that the statement reaches, and that each is its function's body. (Written by program.)
-/
import Derived.Test.YtofboijlcjgnnaaAmQ
import Derived.Test.YtofboijlcjgnnaaProg
import Derived.ProofKit
set_option linter.unusedVariables false
set_option maxRecDepth 100000
set_option maxHeartbeats 4000000
namespace Go.Proofs.Ytofboijlcjgnnaa
namespace AM
theorem mixed : Try.prog.follows .mixedOrders = true := by kernel_rfl
/- drayage/life.Waits -/
def a_22 : AFunc := ⟨9, .seq (.region 0 [
    ⟨(some 2), .move (.const (.bool false)), none, 0, none⟩]) (.seq (.region 0 [
    ⟨(some 3), .move (.tmp 0), none, 0, none⟩,
    ⟨(some 4), .bin .eql (.tmp 3) (.const (.int .i64 (1))), none, 0, none⟩,
    ⟨(some 5), .move (.tmp 4), none, 0, none⟩,
    ⟨(some 6), .move (.tmp 0), (some (5, false)), 0, none⟩,
    ⟨(some 7), .bin .eql (.tmp 6) (.const (.int .i64 (2))), (some (5, false)), 0, none⟩,
    ⟨(some 8), .pick (.tmp 5) (.const (.bool true)) (.tmp 7), none, 0, none⟩,
    ⟨(some 2), .move (.tmp 8), none, 0, none⟩]) (.ret)), [.tmp 2], true⟩
def g_22 : List AVal → Heap → Option (AVal × Heap) := runBody (tab []) a_22
theorem v_22 : Valid Try.prog (tab []) := tab_nil
theorem k_22 : chkFunc Try.prog Try.f22 a_22 = true := by kernel_rfl
theorem ok_22 : Ok Try.prog 22 g_22 := Ok.body mixed v_22 Try.func22 k_22
attribute [irreducible] g_22
/- drayage/quota.Waiting$1 -/
def a_105 : AFunc := ⟨13, .seq (.region 1 [
    ⟨(some 2), .box 18 (.tmp 0), none, 0, none⟩,
    ⟨(some 3), .move (.const (.bool false)), none, 1, none⟩]) (.seq (.region 4 [
    ⟨(some 4), .fieldAddr 2 (.tmp 2), none, 0, none⟩,
    ⟨(some 5), .load false 1 (.tmp 4), none, 0, none⟩,
    ⟨(some 6), .load false 1 (.tmp 1), none, 0, none⟩,
    ⟨(some 7), .bin .eql (.tmp 5) (.tmp 6), none, 0, none⟩,
    ⟨(some 8), .move (.tmp 7), none, 0, none⟩,
    ⟨(some 9), .fieldAddr 10 (.tmp 2), (some (8, true)), 0, none⟩,
    ⟨(some 10), .load false 1 (.tmp 9), (some (8, true)), 0, none⟩,
    ⟨(some 11), .call (.func 22) [(false, (.tmp 10))] false 4, (some (8, true)), 0, none⟩,
    ⟨(some 12), .pick (.tmp 8) (.tmp 11) (.const (.bool false)), none, 4, none⟩,
    ⟨(some 3), .move (.tmp 12), none, 4, none⟩]) (.ret)), [.tmp 3], true⟩
def g_105 : List AVal → Heap → Option (AVal × Heap) := runBody (tab [(22, g_22)]) a_105
theorem v_105 : Valid Try.prog (tab [(22, g_22)]) := (tab_cons ok_22 tab_nil)
theorem k_105 : chkFunc Try.prog Try.f105 a_105 = true := by kernel_rfl
theorem ok_105 : Ok Try.prog 105 g_105 := Ok.body mixed v_105 Try.func105 k_105
attribute [irreducible] g_105
/- drayage/life.Has -/
def a_23 : AFunc := ⟨9, .seq (.region 0 [
    ⟨(some 2), .move (.const (.bool false)), none, 0, none⟩]) (.seq (.region 0 [
    ⟨(some 3), .move (.tmp 0), none, 0, none⟩,
    ⟨(some 4), .bin .eql (.tmp 3) (.const (.int .i64 (3))), none, 0, none⟩,
    ⟨(some 5), .move (.tmp 4), none, 0, none⟩,
    ⟨(some 6), .move (.tmp 0), (some (5, false)), 0, none⟩,
    ⟨(some 7), .bin .eql (.tmp 6) (.const (.int .i64 (4))), (some (5, false)), 0, none⟩,
    ⟨(some 8), .pick (.tmp 5) (.const (.bool true)) (.tmp 7), none, 0, none⟩,
    ⟨(some 2), .move (.tmp 8), none, 0, none⟩]) (.ret)), [.tmp 2], true⟩
def g_23 : List AVal → Heap → Option (AVal × Heap) := runBody (tab []) a_23
theorem v_23 : Valid Try.prog (tab []) := tab_nil
theorem k_23 : chkFunc Try.prog Try.f23 a_23 = true := by kernel_rfl
theorem ok_23 : Ok Try.prog 23 g_23 := Ok.body mixed v_23 Try.func23 k_23
attribute [irreducible] g_23
/- drayage/quota.Having$1 -/
def a_106 : AFunc := ⟨13, .seq (.region 1 [
    ⟨(some 2), .box 18 (.tmp 0), none, 0, none⟩,
    ⟨(some 3), .move (.const (.bool false)), none, 1, none⟩]) (.seq (.region 4 [
    ⟨(some 4), .fieldAddr 2 (.tmp 2), none, 0, none⟩,
    ⟨(some 5), .load false 1 (.tmp 4), none, 0, none⟩,
    ⟨(some 6), .load false 1 (.tmp 1), none, 0, none⟩,
    ⟨(some 7), .bin .eql (.tmp 5) (.tmp 6), none, 0, none⟩,
    ⟨(some 8), .move (.tmp 7), none, 0, none⟩,
    ⟨(some 9), .fieldAddr 10 (.tmp 2), (some (8, true)), 0, none⟩,
    ⟨(some 10), .load false 1 (.tmp 9), (some (8, true)), 0, none⟩,
    ⟨(some 11), .call (.func 23) [(false, (.tmp 10))] false 4, (some (8, true)), 0, none⟩,
    ⟨(some 12), .pick (.tmp 8) (.tmp 11) (.const (.bool false)), none, 4, none⟩,
    ⟨(some 3), .move (.tmp 12), none, 4, none⟩]) (.ret)), [.tmp 3], true⟩
def g_106 : List AVal → Heap → Option (AVal × Heap) := runBody (tab [(23, g_23)]) a_106
theorem v_106 : Valid Try.prog (tab [(23, g_23)]) := (tab_cons ok_23 tab_nil)
theorem k_106 : chkFunc Try.prog Try.f106 a_106 = true := by kernel_rfl
theorem ok_106 : Ok Try.prog 106 g_106 := Ok.body mixed v_106 Try.func106 k_106
attribute [irreducible] g_106
/- drayage/vec.numbers -/
def a_143 : AFunc := ⟨12, .seq (.region 2 [
    ⟨(some 1), .box 4 (.tmp 0), none, 0, none⟩,
    ⟨(some 2), .alloc [.int .i64 (0), .int .i64 (0), .int .i64 (0), .int .i64 (0)], none, 1, none⟩]) (.seq (.region 0 [
    ⟨(some 3), .fieldAddr 0 (.tmp 1), none, 0, none⟩,
    ⟨(some 4), .load false 1 (.tmp 3), none, 0, none⟩,
    ⟨(some 5), .fieldAddr 1 (.tmp 1), none, 0, none⟩,
    ⟨(some 6), .load false 1 (.tmp 5), none, 0, none⟩,
    ⟨(some 7), .fieldAddr 2 (.tmp 1), none, 0, none⟩,
    ⟨(some 8), .load false 1 (.tmp 7), none, 0, none⟩,
    ⟨(some 9), .fieldAddr 3 (.tmp 1), none, 0, none⟩,
    ⟨(some 10), .load false 1 (.tmp 9), none, 0, none⟩,
    ⟨(some 11), .build [.int .i64 (0), .int .i64 (0), .int .i64 (0), .int .i64 (0)] [(0, 1, (.tmp 4)), (1, 1, (.tmp 6)), (2, 1, (.tmp 8)), (3, 1, (.tmp 10))], none, 0, none⟩,
    ⟨none, .store 4 (.tmp 2) (.tmp 11), none, 0, none⟩]) (.ret)), [.cell true 4 2], true⟩
def g_143 : List AVal → Heap → Option (AVal × Heap) := runBody (tab []) a_143
theorem v_143 : Valid Try.prog (tab []) := tab_nil
theorem k_143 : chkFunc Try.prog Try.f143 a_143 = true := by kernel_rfl
theorem ok_143 : Ok Try.prog 143 g_143 := Ok.body mixed v_143 Try.func143 k_143
attribute [irreducible] g_143
/- drayage/vec.Right -/
def b_140_0 : ACode := .seq (.region 0 [
    ⟨(some 8), .bin .lss (.tmp 7) (.const (.int .i64 (4))), none, 0, none⟩]) (.seq (.cond (.tmp 8) (.skip) (.exit 0)) (.seq (.block 1 (.seq (.region 0 [
    ⟨(some 9), .indexVal false 4 1 (.tmp 6) (.tmp 7), none, 0, none⟩,
    ⟨(some 4), .move (.tmp 9), none, 0, none⟩]) (.seq (.region 0 [
    ⟨(some 10), .move (.tmp 4), none, 0, none⟩,
    ⟨(some 11), .bin .lss (.tmp 10) (.const (.int .i64 (0))), none, 0, none⟩,
    ⟨(some 12), .move (.tmp 11), none, 0, none⟩,
    ⟨(some 13), .move (.tmp 4), (some (12, false)), 0, none⟩,
    ⟨(some 14), .bin .gtr (.tmp 13) (.const (.int .i64 (1048576))), (some (12, false)), 0, none⟩,
    ⟨(some 15), .pick (.tmp 12) (.const (.bool true)) (.tmp 14), none, 0, none⟩]) (.cond (.tmp 15) (.seq (.region 0 [
    ⟨(some 2), .move (.const (.bool false)), none, 0, none⟩]) (.ret)) (.skip))))) (.region 0 [
    ⟨(some 16), .bin .add (.tmp 7) (.const (.int .i64 (1))), none, 0, none⟩,
    ⟨(some 7), .move (.tmp 16), none, 0, none⟩])))
def a_140 : AFunc := ⟨17, .seq (.region 1 [
    ⟨(some 1), .box 4 (.tmp 0), none, 0, none⟩,
    ⟨(some 2), .move (.const (.bool false)), none, 1, none⟩]) (.seq (.seq (.region 4 [
    ⟨(some 5), .load true 4 (.tmp 1), none, 0, none⟩,
    ⟨(some 6), .call (.func 143) [(false, (.tmp 5))] false 4, none, 0, none⟩,
    ⟨(some 7), .move (.const (.int .i64 (0))), none, 4, none⟩]) (.block 0 (.loop [6, 7] b_140_0))) (.seq (.region 0 [
    ⟨(some 2), .move (.const (.bool true)), none, 0, none⟩]) (.ret))), [.tmp 2], true⟩
def g_140 : List AVal → Heap → Option (AVal × Heap) := runBody (tab [(143, g_143)]) a_140
theorem v_140 : Valid Try.prog (tab [(143, g_143)]) := (tab_cons ok_143 tab_nil)
theorem k_140 : chkFunc Try.prog Try.f140 a_140 = true := by kernel_rfl
theorem ok_140 : Ok Try.prog 140 g_140 := Ok.body mixed v_140 Try.func140 k_140
attribute [irreducible] g_140
/- drayage/spec.nodesRight -/
def b_131_0 : ACode := .seq (.region 0 [
    ⟨(some 19), .bin .lss (.tmp 18) (.tmp 17), none, 0, none⟩]) (.seq (.cond (.tmp 19) (.skip) (.exit 0)) (.seq (.block 1 (.seq (.region 1 [
    ⟨(some 20), .indexSl 4 (.tmp 16) (.tmp 18), none, 0, none⟩,
    ⟨(some 21), .load true 4 (.tmp 20), none, 0, none⟩,
    ⟨(some 4), .alloc [.int .i64 (0), .int .i64 (0), .int .i64 (0), .int .i64 (0)], none, 0, none⟩,
    ⟨none, .store 4 (.tmp 4) (.tmp 21), none, 1, none⟩]) (.seq (.region 4 [
    ⟨(some 22), .load true 4 (.tmp 4), none, 0, none⟩,
    ⟨(some 23), .call (.func 140) [(false, (.tmp 22))] false 4, none, 0, none⟩,
    ⟨(some 24), .un .not (.tmp 23), none, 4, none⟩]) (.cond (.tmp 24) (.seq (.region 0 [
    ⟨(some 2), .move (.const (.bool false)), none, 0, none⟩]) (.ret)) (.skip))))) (.region 0 [
    ⟨(some 25), .bin .add (.tmp 18) (.const (.int .i64 (1))), none, 0, none⟩,
    ⟨(some 18), .move (.tmp 25), none, 0, none⟩])))
def a_131 : AFunc := ⟨26, .seq (.region 1 [
    ⟨(some 1), .box 18 (.tmp 0), none, 0, none⟩,
    ⟨(some 2), .move (.const (.bool false)), none, 1, none⟩]) (.seq (.seq (.region 0 [
    ⟨(some 5), .fieldAddr 0 (.tmp 1), none, 0, none⟩,
    ⟨(some 6), .load false 1 (.tmp 5), none, 0, none⟩,
    ⟨(some 7), .len (.tmp 6), none, 0, none⟩,
    ⟨(some 8), .bin .lss (.tmp 7) (.const (.int .i64 (1))), none, 0, none⟩,
    ⟨(some 9), .move (.tmp 8), none, 0, none⟩,
    ⟨(some 10), .fieldAddr 0 (.tmp 1), (some (9, false)), 0, none⟩,
    ⟨(some 11), .load false 1 (.tmp 10), (some (9, false)), 0, none⟩,
    ⟨(some 12), .len (.tmp 11), (some (9, false)), 0, none⟩,
    ⟨(some 13), .bin .gtr (.tmp 12) (.const (.int .i64 (16))), (some (9, false)), 0, none⟩,
    ⟨(some 14), .pick (.tmp 9) (.const (.bool true)) (.tmp 13), none, 0, none⟩]) (.cond (.tmp 14) (.seq (.region 0 [
    ⟨(some 2), .move (.const (.bool false)), none, 0, none⟩]) (.ret)) (.skip))) (.seq (.seq (.region 0 [
    ⟨(some 15), .fieldAddr 0 (.tmp 1), none, 0, none⟩,
    ⟨(some 16), .load false 1 (.tmp 15), none, 0, none⟩,
    ⟨(some 17), .len (.tmp 16), none, 0, none⟩,
    ⟨(some 18), .move (.const (.int .i64 (0))), none, 0, none⟩]) (.block 0 (.loop [16, 17, 18] b_131_0))) (.seq (.region 0 [
    ⟨(some 2), .move (.const (.bool true)), none, 0, none⟩]) (.ret)))), [.tmp 2], true⟩
def g_131 : List AVal → Heap → Option (AVal × Heap) := runBody (tab [(140, g_140)]) a_131
theorem v_131 : Valid Try.prog (tab [(140, g_140)]) := (tab_cons ok_140 tab_nil)
theorem k_131 : chkFunc Try.prog Try.f131 a_131 = true := by kernel_rfl
theorem ok_131 : Ok Try.prog 131 g_131 := Ok.body mixed v_131 Try.func131 k_131
attribute [irreducible] g_131
/- drayage/spec.rules$1 -/
def a_130 : AFunc := ⟨4, .seq (.region 0 [
    ⟨(some 1), .move (.const (.bool false)), none, 0, none⟩]) (.seq (.region 4 [
    ⟨(some 2), .load true 18 (.tmp 0), none, 0, none⟩,
    ⟨(some 3), .call (.func 131) [(false, (.tmp 2))] false 4, none, 0, none⟩,
    ⟨(some 1), .move (.tmp 3), none, 4, none⟩]) (.ret)), [.tmp 1], true⟩
def g_130 : List AVal → Heap → Option (AVal × Heap) := runBody (tab [(131, g_131)]) a_130
theorem v_130 : Valid Try.prog (tab [(131, g_131)]) := (tab_cons ok_131 tab_nil)
theorem k_130 : chkFunc Try.prog Try.f130 a_130 = true := by kernel_rfl
theorem ok_130 : Ok Try.prog 130 g_130 := Ok.body mixed v_130 Try.func130 k_130
attribute [irreducible] g_130
/- drayage/spec.ascending -/
def b_141_0 : ACode := .seq (.region 0 [
    ⟨(some 11), .bin .lss (.tmp 10) (.tmp 9), none, 0, none⟩]) (.seq (.cond (.tmp 11) (.skip) (.exit 0)) (.seq (.block 1 (.seq (.region 0 [
    ⟨(some 12), .indexSl 1 (.tmp 8) (.tmp 10), none, 0, none⟩,
    ⟨(some 13), .load false 1 (.tmp 12), none, 0, none⟩,
    ⟨(some 7), .move (.tmp 13), none, 0, none⟩]) (.seq (.seq (.region 0 [
    ⟨(some 14), .move (.tmp 7), none, 0, none⟩,
    ⟨(some 15), .move (.tmp 5), none, 0, none⟩,
    ⟨(some 16), .bin .leq (.tmp 14) (.tmp 15), none, 0, none⟩,
    ⟨(some 17), .move (.tmp 16), none, 0, none⟩,
    ⟨(some 18), .move (.tmp 7), (some (17, false)), 0, none⟩,
    ⟨(some 19), .move (.tmp 1), (some (17, false)), 0, none⟩,
    ⟨(some 20), .bin .geq (.tmp 18) (.tmp 19), (some (17, false)), 0, none⟩,
    ⟨(some 21), .pick (.tmp 17) (.const (.bool true)) (.tmp 20), none, 0, none⟩]) (.cond (.tmp 21) (.seq (.region 0 [
    ⟨(some 4), .move (.const (.bool false)), none, 0, none⟩]) (.ret)) (.skip))) (.region 0 [
    ⟨(some 22), .move (.tmp 7), none, 0, none⟩,
    ⟨(some 5), .move (.tmp 22), none, 0, none⟩])))) (.region 0 [
    ⟨(some 23), .bin .add (.tmp 10) (.const (.int .i64 (1))), none, 0, none⟩,
    ⟨(some 10), .move (.tmp 23), none, 0, none⟩])))
def a_141 : AFunc := ⟨24, .seq (.region 0 [
    ⟨(some 4), .move (.const (.bool false)), none, 0, none⟩]) (.seq (.region 0 [
    ⟨(some 5), .move (.const (.int .i64 (-1))), none, 0, none⟩]) (.seq (.seq (.region 0 [
    ⟨(some 8), .move (.tmp 0), none, 0, none⟩,
    ⟨(some 9), .len (.tmp 8), none, 0, none⟩,
    ⟨(some 10), .move (.const (.int .i64 (0))), none, 0, none⟩]) (.block 0 (.loop [1, 5, 8, 9, 10] b_141_0))) (.seq (.region 0 [
    ⟨(some 4), .move (.const (.bool true)), none, 0, none⟩]) (.ret)))), [.tmp 4], true⟩
def g_141 : List AVal → Heap → Option (AVal × Heap) := runBody (tab []) a_141
theorem v_141 : Valid Try.prog (tab []) := tab_nil
theorem k_141 : chkFunc Try.prog Try.f141 a_141 = true := by kernel_rfl
theorem ok_141 : Ok Try.prog 141 g_141 := Ok.body mixed v_141 Try.func141 k_141
attribute [irreducible] g_141
/- drayage/spec.partsRight -/
def b_133_0 : ACode := .seq (.region 0 [
    ⟨(some 19), .bin .lss (.tmp 18) (.tmp 17), none, 0, none⟩]) (.seq (.cond (.tmp 19) (.skip) (.exit 0)) (.seq (.block 1 (.seq (.region 0 [
    ⟨(some 20), .indexSl 1 (.tmp 16) (.tmp 18), none, 0, none⟩,
    ⟨(some 21), .load false 1 (.tmp 20), none, 0, none⟩,
    ⟨(some 4), .move (.tmp 21), none, 0, none⟩]) (.seq (.region 4 [
    ⟨(some 22), .move (.tmp 4), none, 0, none⟩,
    ⟨(some 23), .len (.tmp 22), none, 0, none⟩,
    ⟨(some 24), .bin .lss (.tmp 23) (.const (.int .i64 (1))), none, 0, none⟩,
    ⟨(some 25), .move (.tmp 24), none, 0, none⟩,
    ⟨(some 26), .move (.tmp 4), (some (25, false)), 0, none⟩,
    ⟨(some 27), .fieldAddr 0 (.tmp 1), (some (25, false)), 0, none⟩,
    ⟨(some 28), .load false 1 (.tmp 27), (some (25, false)), 0, none⟩,
    ⟨(some 29), .len (.tmp 28), (some (25, false)), 0, none⟩,
    ⟨(some 30), .call (.func 141) [(false, (.tmp 26)), (false, (.tmp 29))] false 4, (some (25, false)), 0, none⟩,
    ⟨(some 31), .un .not (.tmp 30), (some (25, false)), 4, none⟩,
    ⟨(some 32), .pick (.tmp 25) (.const (.bool true)) (.tmp 31), none, 4, none⟩]) (.cond (.tmp 32) (.seq (.region 0 [
    ⟨(some 2), .move (.const (.bool false)), none, 0, none⟩]) (.ret)) (.skip))))) (.region 0 [
    ⟨(some 33), .bin .add (.tmp 18) (.const (.int .i64 (1))), none, 0, none⟩,
    ⟨(some 18), .move (.tmp 33), none, 0, none⟩])))
def a_133 : AFunc := ⟨34, .seq (.region 1 [
    ⟨(some 1), .box 18 (.tmp 0), none, 0, none⟩,
    ⟨(some 2), .move (.const (.bool false)), none, 1, none⟩]) (.seq (.seq (.region 0 [
    ⟨(some 5), .fieldAddr 1 (.tmp 1), none, 0, none⟩,
    ⟨(some 6), .load false 1 (.tmp 5), none, 0, none⟩,
    ⟨(some 7), .len (.tmp 6), none, 0, none⟩,
    ⟨(some 8), .bin .lss (.tmp 7) (.const (.int .i64 (1))), none, 0, none⟩,
    ⟨(some 9), .move (.tmp 8), none, 0, none⟩,
    ⟨(some 10), .fieldAddr 1 (.tmp 1), (some (9, false)), 0, none⟩,
    ⟨(some 11), .load false 1 (.tmp 10), (some (9, false)), 0, none⟩,
    ⟨(some 12), .len (.tmp 11), (some (9, false)), 0, none⟩,
    ⟨(some 13), .bin .gtr (.tmp 12) (.const (.int .i64 (8))), (some (9, false)), 0, none⟩,
    ⟨(some 14), .pick (.tmp 9) (.const (.bool true)) (.tmp 13), none, 0, none⟩]) (.cond (.tmp 14) (.seq (.region 0 [
    ⟨(some 2), .move (.const (.bool false)), none, 0, none⟩]) (.ret)) (.skip))) (.seq (.seq (.region 0 [
    ⟨(some 15), .fieldAddr 1 (.tmp 1), none, 0, none⟩,
    ⟨(some 16), .load false 1 (.tmp 15), none, 0, none⟩,
    ⟨(some 17), .len (.tmp 16), none, 0, none⟩,
    ⟨(some 18), .move (.const (.int .i64 (0))), none, 0, none⟩]) (.block 0 (.loop [1, 16, 17, 18] b_133_0))) (.seq (.region 0 [
    ⟨(some 2), .move (.const (.bool true)), none, 0, none⟩]) (.ret)))), [.tmp 2], true⟩
def g_133 : List AVal → Heap → Option (AVal × Heap) := runBody (tab [(141, g_141)]) a_133
theorem v_133 : Valid Try.prog (tab [(141, g_141)]) := (tab_cons ok_141 tab_nil)
theorem k_133 : chkFunc Try.prog Try.f133 a_133 = true := by kernel_rfl
theorem ok_133 : Ok Try.prog 133 g_133 := Ok.body mixed v_133 Try.func133 k_133
attribute [irreducible] g_133
/- drayage/spec.rules$2 -/
def a_132 : AFunc := ⟨4, .seq (.region 0 [
    ⟨(some 1), .move (.const (.bool false)), none, 0, none⟩]) (.seq (.region 4 [
    ⟨(some 2), .load true 18 (.tmp 0), none, 0, none⟩,
    ⟨(some 3), .call (.func 133) [(false, (.tmp 2))] false 4, none, 0, none⟩,
    ⟨(some 1), .move (.tmp 3), none, 4, none⟩]) (.ret)), [.tmp 1], true⟩
def g_132 : List AVal → Heap → Option (AVal × Heap) := runBody (tab [(133, g_133)]) a_132
theorem v_132 : Valid Try.prog (tab [(133, g_133)]) := (tab_cons ok_133 tab_nil)
theorem k_132 : chkFunc Try.prog Try.f132 a_132 = true := by kernel_rfl
theorem ok_132 : Ok Try.prog 132 g_132 := Ok.body mixed v_132 Try.func132 k_132
attribute [irreducible] g_132
/- drayage/spec.queuesRight -/
def b_136_0 : ACode := .seq (.region 0 [
    ⟨(some 51), .bin .lss (.tmp 50) (.const (.int .i64 (3))), none, 0, none⟩]) (.seq (.cond (.tmp 51) (.skip) (.exit 2)) (.seq (.block 3 (.seq (.region 0 [
    ⟨(some 52), .indexVal false 3 1 (.tmp 49) (.tmp 50), none, 0, none⟩,
    ⟨(some 6), .move (.tmp 52), none, 0, none⟩]) (.seq (.region 0 [
    ⟨(some 53), .move (.tmp 6), none, 0, none⟩,
    ⟨(some 54), .bin .lss (.tmp 53) (.const (.int .i64 (1))), none, 0, none⟩,
    ⟨(some 55), .move (.tmp 54), none, 0, none⟩,
    ⟨(some 56), .move (.tmp 6), (some (55, false)), 0, none⟩,
    ⟨(some 57), .bin .gtr (.tmp 56) (.const (.int .i64 (256))), (some (55, false)), 0, none⟩,
    ⟨(some 58), .pick (.tmp 55) (.const (.bool true)) (.tmp 57), none, 0, none⟩]) (.cond (.tmp 58) (.seq (.region 0 [
    ⟨(some 2), .move (.const (.bool false)), none, 0, none⟩]) (.ret)) (.skip))))) (.region 0 [
    ⟨(some 59), .bin .add (.tmp 50) (.const (.int .i64 (1))), none, 0, none⟩,
    ⟨(some 50), .move (.tmp 59), none, 0, none⟩])))
def b_136_1 : ACode := .seq (.region 0 [
    ⟨(some 21), .bin .lss (.tmp 20) (.tmp 19), none, 0, none⟩]) (.seq (.cond (.tmp 21) (.skip) (.exit 0)) (.seq (.block 1 (.seq (.region 1 [
    ⟨(some 22), .indexSl 6 (.tmp 18) (.tmp 20), none, 0, none⟩,
    ⟨(some 23), .load true 6 (.tmp 22), none, 0, none⟩,
    ⟨(some 4), .alloc [.int .i64 (0), .zsl, .int .i64 (0), .int .i64 (0), .int .i64 (0), .int .i64 (0)], none, 0, none⟩,
    ⟨none, .store 6 (.tmp 4) (.tmp 23), none, 1, none⟩]) (.seq (.seq (.region 4 [
    ⟨(some 24), .fieldAddr 0 (.tmp 4), none, 0, none⟩,
    ⟨(some 25), .load false 1 (.tmp 24), none, 0, none⟩,
    ⟨(some 26), .bin .lss (.tmp 25) (.const (.int .i64 (0))), none, 0, none⟩,
    ⟨(some 27), .move (.tmp 26), none, 0, none⟩,
    ⟨(some 28), .fieldAddr 0 (.tmp 4), (some (27, false)), 0, none⟩,
    ⟨(some 29), .load false 1 (.tmp 28), (some (27, false)), 0, none⟩,
    ⟨(some 30), .fieldAddr 1 (.tmp 1), (some (27, false)), 0, none⟩,
    ⟨(some 31), .load false 1 (.tmp 30), (some (27, false)), 0, none⟩,
    ⟨(some 32), .len (.tmp 31), (some (27, false)), 0, none⟩,
    ⟨(some 33), .bin .geq (.tmp 29) (.tmp 32), (some (27, false)), 0, none⟩,
    ⟨(some 34), .pick (.tmp 27) (.const (.bool true)) (.tmp 33), none, 0, none⟩,
    ⟨(some 35), .move (.tmp 34), none, 0, none⟩,
    ⟨(some 36), .fieldAddr 1 (.tmp 4), (some (35, false)), 0, none⟩,
    ⟨(some 37), .load false 1 (.tmp 36), (some (35, false)), 0, none⟩,
    ⟨(some 38), .fieldAddr 3 (.tmp 1), (some (35, false)), 0, none⟩,
    ⟨(some 39), .load false 1 (.tmp 38), (some (35, false)), 0, none⟩,
    ⟨(some 40), .call (.func 141) [(false, (.tmp 37)), (false, (.tmp 39))] false 4, (some (35, false)), 0, none⟩,
    ⟨(some 41), .un .not (.tmp 40), (some (35, false)), 4, none⟩,
    ⟨(some 42), .pick (.tmp 35) (.const (.bool true)) (.tmp 41), none, 4, none⟩]) (.cond (.tmp 42) (.seq (.region 0 [
    ⟨(some 2), .move (.const (.bool false)), none, 0, none⟩]) (.ret)) (.skip))) (.seq (.seq (.region 0 [
    ⟨(some 43), .fieldAddr 2 (.tmp 4), none, 0, none⟩,
    ⟨(some 44), .load false 1 (.tmp 43), none, 0, none⟩,
    ⟨(some 45), .fieldAddr 3 (.tmp 4), none, 0, none⟩,
    ⟨(some 46), .load false 1 (.tmp 45), none, 0, none⟩,
    ⟨(some 47), .fieldAddr 4 (.tmp 4), none, 0, none⟩,
    ⟨(some 48), .load false 1 (.tmp 47), none, 0, none⟩,
    ⟨(some 49), .build [.int .i64 (0), .int .i64 (0), .int .i64 (0)] [(0, 1, (.tmp 44)), (1, 1, (.tmp 46)), (2, 1, (.tmp 48))], none, 0, none⟩,
    ⟨(some 50), .move (.const (.int .i64 (0))), none, 0, none⟩]) (.block 2 (.loop [1, 4, 18, 19, 20, 49, 50] b_136_0))) (.seq (.region 0 [
    ⟨(some 60), .fieldAddr 5 (.tmp 4), none, 0, none⟩,
    ⟨(some 61), .load false 1 (.tmp 60), none, 0, none⟩,
    ⟨(some 62), .bin .lss (.tmp 61) (.const (.int .i64 (0))), none, 0, none⟩,
    ⟨(some 63), .move (.tmp 62), none, 0, none⟩,
    ⟨(some 64), .fieldAddr 5 (.tmp 4), (some (63, false)), 0, none⟩,
    ⟨(some 65), .load false 1 (.tmp 64), (some (63, false)), 0, none⟩,
    ⟨(some 66), .bin .gtr (.tmp 65) (.const (.int .i64 (100))), (some (63, false)), 0, none⟩,
    ⟨(some 67), .pick (.tmp 63) (.const (.bool true)) (.tmp 66), none, 0, none⟩]) (.cond (.tmp 67) (.seq (.region 0 [
    ⟨(some 2), .move (.const (.bool false)), none, 0, none⟩]) (.ret)) (.skip))))))) (.region 0 [
    ⟨(some 68), .bin .add (.tmp 20) (.const (.int .i64 (1))), none, 0, none⟩,
    ⟨(some 20), .move (.tmp 68), none, 0, none⟩])))
def a_136 : AFunc := ⟨69, .seq (.region 1 [
    ⟨(some 1), .box 18 (.tmp 0), none, 0, none⟩,
    ⟨(some 2), .move (.const (.bool false)), none, 1, none⟩]) (.seq (.seq (.region 0 [
    ⟨(some 7), .fieldAddr 2 (.tmp 1), none, 0, none⟩,
    ⟨(some 8), .load false 1 (.tmp 7), none, 0, none⟩,
    ⟨(some 9), .len (.tmp 8), none, 0, none⟩,
    ⟨(some 10), .bin .lss (.tmp 9) (.const (.int .i64 (1))), none, 0, none⟩,
    ⟨(some 11), .move (.tmp 10), none, 0, none⟩,
    ⟨(some 12), .fieldAddr 2 (.tmp 1), (some (11, false)), 0, none⟩,
    ⟨(some 13), .load false 1 (.tmp 12), (some (11, false)), 0, none⟩,
    ⟨(some 14), .len (.tmp 13), (some (11, false)), 0, none⟩,
    ⟨(some 15), .bin .gtr (.tmp 14) (.const (.int .i64 (8))), (some (11, false)), 0, none⟩,
    ⟨(some 16), .pick (.tmp 11) (.const (.bool true)) (.tmp 15), none, 0, none⟩]) (.cond (.tmp 16) (.seq (.region 0 [
    ⟨(some 2), .move (.const (.bool false)), none, 0, none⟩]) (.ret)) (.skip))) (.seq (.seq (.region 0 [
    ⟨(some 17), .fieldAddr 2 (.tmp 1), none, 0, none⟩,
    ⟨(some 18), .load false 1 (.tmp 17), none, 0, none⟩,
    ⟨(some 19), .len (.tmp 18), none, 0, none⟩,
    ⟨(some 20), .move (.const (.int .i64 (0))), none, 0, none⟩]) (.block 0 (.loop [1, 18, 19, 20] b_136_1))) (.seq (.region 0 [
    ⟨(some 2), .move (.const (.bool true)), none, 0, none⟩]) (.ret)))), [.tmp 2], true⟩
def g_136 : List AVal → Heap → Option (AVal × Heap) := runBody (tab [(141, g_141)]) a_136
theorem v_136 : Valid Try.prog (tab [(141, g_141)]) := (tab_cons ok_141 tab_nil)
theorem k_136 : chkFunc Try.prog Try.f136 a_136 = true := by kernel_rfl
theorem ok_136 : Ok Try.prog 136 g_136 := Ok.body mixed v_136 Try.func136 k_136
attribute [irreducible] g_136
/- drayage/spec.rules$3 -/
def a_135 : AFunc := ⟨4, .seq (.region 0 [
    ⟨(some 1), .move (.const (.bool false)), none, 0, none⟩]) (.seq (.region 4 [
    ⟨(some 2), .load true 18 (.tmp 0), none, 0, none⟩,
    ⟨(some 3), .call (.func 136) [(false, (.tmp 2))] false 4, none, 0, none⟩,
    ⟨(some 1), .move (.tmp 3), none, 4, none⟩]) (.ret)), [.tmp 1], true⟩
def g_135 : List AVal → Heap → Option (AVal × Heap) := runBody (tab [(136, g_136)]) a_135
theorem v_135 : Valid Try.prog (tab [(136, g_136)]) := (tab_cons ok_136 tab_nil)
theorem k_135 : chkFunc Try.prog Try.f135 a_135 = true := by kernel_rfl
theorem ok_135 : Ok Try.prog 135 g_135 := Ok.body mixed v_135 Try.func135 k_135
attribute [irreducible] g_135
/- drayage/spec.weightsRight -/
def b_138_0 : ACode := .seq (.region 0 [
    ⟨(some 15), .bin .lss (.tmp 14) (.const (.int .i64 (4))), none, 0, none⟩]) (.seq (.cond (.tmp 15) (.skip) (.exit 0)) (.seq (.block 1 (.seq (.region 0 [
    ⟨(some 16), .indexVal false 4 1 (.tmp 13) (.tmp 14), none, 0, none⟩,
    ⟨(some 4), .move (.tmp 16), none, 0, none⟩]) (.seq (.region 0 [
    ⟨(some 17), .move (.tmp 4), none, 0, none⟩,
    ⟨(some 18), .bin .lss (.tmp 17) (.const (.int .i64 (0))), none, 0, none⟩,
    ⟨(some 19), .move (.tmp 18), none, 0, none⟩,
    ⟨(some 20), .move (.tmp 4), (some (19, false)), 0, none⟩,
    ⟨(some 21), .bin .gtr (.tmp 20) (.const (.int .i64 (1000))), (some (19, false)), 0, none⟩,
    ⟨(some 22), .pick (.tmp 19) (.const (.bool true)) (.tmp 21), none, 0, none⟩]) (.cond (.tmp 22) (.seq (.region 0 [
    ⟨(some 2), .move (.const (.bool false)), none, 0, none⟩]) (.ret)) (.skip))))) (.region 0 [
    ⟨(some 23), .bin .add (.tmp 14) (.const (.int .i64 (1))), none, 0, none⟩,
    ⟨(some 14), .move (.tmp 23), none, 0, none⟩])))
def a_138 : AFunc := ⟨24, .seq (.region 1 [
    ⟨(some 1), .box 4 (.tmp 0), none, 0, none⟩,
    ⟨(some 2), .move (.const (.bool false)), none, 1, none⟩]) (.seq (.seq (.region 0 [
    ⟨(some 5), .fieldAddr 0 (.tmp 1), none, 0, none⟩,
    ⟨(some 6), .load false 1 (.tmp 5), none, 0, none⟩,
    ⟨(some 7), .fieldAddr 1 (.tmp 1), none, 0, none⟩,
    ⟨(some 8), .load false 1 (.tmp 7), none, 0, none⟩,
    ⟨(some 9), .fieldAddr 2 (.tmp 1), none, 0, none⟩,
    ⟨(some 10), .load false 1 (.tmp 9), none, 0, none⟩,
    ⟨(some 11), .fieldAddr 3 (.tmp 1), none, 0, none⟩,
    ⟨(some 12), .load false 1 (.tmp 11), none, 0, none⟩,
    ⟨(some 13), .build [.int .i64 (0), .int .i64 (0), .int .i64 (0), .int .i64 (0)] [(0, 1, (.tmp 6)), (1, 1, (.tmp 8)), (2, 1, (.tmp 10)), (3, 1, (.tmp 12))], none, 0, none⟩,
    ⟨(some 14), .move (.const (.int .i64 (0))), none, 0, none⟩]) (.block 0 (.loop [13, 14] b_138_0))) (.seq (.region 0 [
    ⟨(some 2), .move (.const (.bool true)), none, 0, none⟩]) (.ret))), [.tmp 2], true⟩
def g_138 : List AVal → Heap → Option (AVal × Heap) := runBody (tab []) a_138
theorem v_138 : Valid Try.prog (tab []) := tab_nil
theorem k_138 : chkFunc Try.prog Try.f138 a_138 = true := by kernel_rfl
theorem ok_138 : Ok Try.prog 138 g_138 := Ok.body mixed v_138 Try.func138 k_138
attribute [irreducible] g_138
/- drayage/spec.rules$4 -/
def a_137 : AFunc := ⟨5, .seq (.region 0 [
    ⟨(some 1), .move (.const (.bool false)), none, 0, none⟩]) (.seq (.region 4 [
    ⟨(some 2), .fieldAddr 4 (.tmp 0), none, 0, none⟩,
    ⟨(some 3), .load true 4 (.tmp 2), none, 0, none⟩,
    ⟨(some 4), .call (.func 138) [(false, (.tmp 3))] false 4, none, 0, none⟩,
    ⟨(some 1), .move (.tmp 4), none, 4, none⟩]) (.ret)), [.tmp 1], true⟩
def g_137 : List AVal → Heap → Option (AVal × Heap) := runBody (tab [(138, g_138)]) a_137
theorem v_137 : Valid Try.prog (tab [(138, g_138)]) := (tab_cons ok_138 tab_nil)
theorem k_137 : chkFunc Try.prog Try.f137 a_137 = true := by kernel_rfl
theorem ok_137 : Ok Try.prog 137 g_137 := Ok.body mixed v_137 Try.func137 k_137
attribute [irreducible] g_137
/- drayage/spec.rules$5 -/
def a_139 : AFunc := ⟨10, .seq (.region 0 [
    ⟨(some 1), .move (.const (.bool false)), none, 0, none⟩]) (.seq (.region 0 [
    ⟨(some 2), .fieldAddr 9 (.tmp 0), none, 0, none⟩,
    ⟨(some 3), .load false 1 (.tmp 2), none, 0, none⟩,
    ⟨(some 4), .bin .eql (.tmp 3) (.const (.int .i64 (1))), none, 0, none⟩,
    ⟨(some 5), .move (.tmp 4), none, 0, none⟩,
    ⟨(some 6), .fieldAddr 9 (.tmp 0), (some (5, false)), 0, none⟩,
    ⟨(some 7), .load false 1 (.tmp 6), (some (5, false)), 0, none⟩,
    ⟨(some 8), .bin .eql (.tmp 7) (.const (.int .i64 (2))), (some (5, false)), 0, none⟩,
    ⟨(some 9), .pick (.tmp 5) (.const (.bool true)) (.tmp 8), none, 0, none⟩,
    ⟨(some 1), .move (.tmp 9), none, 0, none⟩]) (.ret)), [.tmp 1], true⟩
def g_139 : List AVal → Heap → Option (AVal × Heap) := runBody (tab []) a_139
theorem v_139 : Valid Try.prog (tab []) := tab_nil
theorem k_139 : chkFunc Try.prog Try.f139 a_139 = true := by kernel_rfl
theorem ok_139 : Ok Try.prog 139 g_139 := Ok.body mixed v_139 Try.func139 k_139
attribute [irreducible] g_139
/- drayage/spec.within$1 -/
def a_142 : AFunc := ⟨12, .seq (.region 0 [
    ⟨(some 3), .move (.const (.bool false)), none, 0, none⟩]) (.seq (.region 0 [
    ⟨(some 4), .load false 1 (.tmp 0), none, 0, none⟩,
    ⟨(some 5), .load false 1 (.tmp 1), none, 0, none⟩,
    ⟨(some 6), .bin .leq (.tmp 4) (.tmp 5), none, 0, none⟩,
    ⟨(some 7), .move (.tmp 6), none, 0, none⟩,
    ⟨(some 8), .load false 1 (.tmp 1), (some (7, true)), 0, none⟩,
    ⟨(some 9), .load false 1 (.tmp 2), (some (7, true)), 0, none⟩,
    ⟨(some 10), .bin .leq (.tmp 8) (.tmp 9), (some (7, true)), 0, none⟩,
    ⟨(some 11), .pick (.tmp 7) (.tmp 10) (.const (.bool false)), none, 0, none⟩,
    ⟨(some 3), .move (.tmp 11), none, 0, none⟩]) (.ret)), [.tmp 3], true⟩
def g_142 : List AVal → Heap → Option (AVal × Heap) := runBody (tab []) a_142
theorem v_142 : Valid Try.prog (tab []) := tab_nil
theorem k_142 : chkFunc Try.prog Try.f142 a_142 = true := by kernel_rfl
theorem ok_142 : Ok Try.prog 142 g_142 := Ok.body mixed v_142 Try.func142 k_142
attribute [irreducible] g_142
/- drayage/quota.Of$1 -/
def a_107 : AFunc := ⟨20, .seq (.region 1 [
    ⟨(some 3), .box 18 (.tmp 0), none, 0, none⟩,
    ⟨(some 4), .move (.const (.bool false)), none, 1, none⟩]) (.seq (.region 4 [
    ⟨(some 5), .fieldAddr 2 (.tmp 3), none, 0, none⟩,
    ⟨(some 6), .load false 1 (.tmp 5), none, 0, none⟩,
    ⟨(some 7), .load false 1 (.tmp 1), none, 0, none⟩,
    ⟨(some 8), .bin .eql (.tmp 6) (.tmp 7), none, 0, none⟩,
    ⟨(some 9), .move (.tmp 8), none, 0, none⟩,
    ⟨(some 10), .fieldAddr 1 (.tmp 3), (some (9, true)), 0, none⟩,
    ⟨(some 11), .load false 1 (.tmp 10), (some (9, true)), 0, none⟩,
    ⟨(some 12), .load false 1 (.tmp 2), (some (9, true)), 0, none⟩,
    ⟨(some 13), .bin .eql (.tmp 11) (.tmp 12), (some (9, true)), 0, none⟩,
    ⟨(some 14), .pick (.tmp 9) (.tmp 13) (.const (.bool false)), none, 0, none⟩,
    ⟨(some 15), .move (.tmp 14), none, 0, none⟩,
    ⟨(some 16), .fieldAddr 10 (.tmp 3), (some (15, true)), 0, none⟩,
    ⟨(some 17), .load false 1 (.tmp 16), (some (15, true)), 0, none⟩,
    ⟨(some 18), .call (.func 23) [(false, (.tmp 17))] false 4, (some (15, true)), 0, none⟩,
    ⟨(some 19), .pick (.tmp 15) (.tmp 18) (.const (.bool false)), none, 4, none⟩,
    ⟨(some 4), .move (.tmp 19), none, 4, none⟩]) (.ret)), [.tmp 4], true⟩
def g_107 : List AVal → Heap → Option (AVal × Heap) := runBody (tab [(23, g_23)]) a_107
theorem v_107 : Valid Try.prog (tab [(23, g_23)]) := (tab_cons ok_23 tab_nil)
theorem k_107 : chkFunc Try.prog Try.f107 a_107 = true := by kernel_rfl
theorem ok_107 : Ok Try.prog 107 g_107 := Ok.body mixed v_107 Try.func107 k_107
attribute [irreducible] g_107
/- drayage/quota.count -/
def b_104_0 : ACode := .seq (.region 0 [
    ⟨(some 11), .bin .lss (.tmp 10) (.tmp 9), none, 0, none⟩]) (.seq (.cond (.tmp 11) (.skip) (.exit 0)) (.seq (.block 1 (.seq (.region 1 [
    ⟨(some 12), .indexSl 18 (.tmp 8) (.tmp 10), none, 0, none⟩,
    ⟨(some 13), .load true 18 (.tmp 12), none, 0, none⟩,
    ⟨(some 7), .alloc [.int .i64 (0), .int .i64 (0), .int .i64 (0), .int .i64 (0), .int .i64 (0), .int .i64 (0), .int .i64 (0), .int .i64 (0), .int .i64 (0), .zsl, .int .i64 (0), .bool false, .bool false, .int .i64 (0), .int .i64 (0), .int .i64 (0), .int .i64 (0), .int .i64 (0)], none, 0, none⟩,
    ⟨none, .store 18 (.tmp 7) (.tmp 13), none, 1, none⟩]) (.seq (.region 4 [
    ⟨(some 14), .move (.tmp 1), none, 0, none⟩,
    ⟨(some 15), .load true 18 (.tmp 7), none, 0, none⟩,
    ⟨(some 16), .call (.tmp 14) [(false, (.tmp 15))] false 4, none, 0, none⟩]) (.cond (.tmp 16) (.region 0 [
    ⟨(some 17), .move (.tmp 5), none, 0, none⟩,
    ⟨(some 18), .bin .add (.tmp 17) (.const (.int .i64 (1))), none, 0, none⟩,
    ⟨(some 5), .move (.tmp 18), none, 0, none⟩]) (.skip))))) (.region 0 [
    ⟨(some 19), .bin .add (.tmp 10) (.const (.int .i64 (1))), none, 0, none⟩,
    ⟨(some 10), .move (.tmp 19), none, 0, none⟩])))
def a_104 : AFunc := ⟨21, .seq (.region 0 [
    ⟨(some 4), .move (.const (.int .i64 (0))), none, 0, none⟩]) (.seq (.region 0 [
    ⟨(some 5), .move (.const (.int .i64 (0))), none, 0, none⟩]) (.seq (.seq (.region 0 [
    ⟨(some 8), .move (.tmp 0), none, 0, none⟩,
    ⟨(some 9), .len (.tmp 8), none, 0, none⟩,
    ⟨(some 10), .move (.const (.int .i64 (0))), none, 0, none⟩]) (.block 0 (.loop [1, 5, 8, 9, 10] b_104_0))) (.seq (.region 0 [
    ⟨(some 20), .move (.tmp 5), none, 0, none⟩,
    ⟨(some 4), .move (.tmp 20), none, 0, none⟩]) (.ret)))), [.tmp 4], true⟩
def g_104 : List AVal → Heap → Option (AVal × Heap) := runBody (tab [(105, g_105), (106, g_106), (130, g_130), (132, g_132), (135, g_135), (137, g_137), (139, g_139), (142, g_142), (107, g_107)]) a_104
theorem v_104 : Valid Try.prog (tab [(105, g_105), (106, g_106), (130, g_130), (132, g_132), (135, g_135), (137, g_137), (139, g_139), (142, g_142), (107, g_107)]) := (tab_cons ok_105 (tab_cons ok_106 (tab_cons ok_130 (tab_cons ok_132 (tab_cons ok_135 (tab_cons ok_137 (tab_cons ok_139 (tab_cons ok_142 (tab_cons ok_107 tab_nil)))))))))
theorem k_104 : chkFunc Try.prog Try.f104 a_104 = true := by kernel_rfl
theorem ok_104 : Ok Try.prog 104 g_104 := Ok.body mixed v_104 Try.func104 k_104
attribute [irreducible] g_104
/- drayage/quota.Waiting -/
def a_64 : AFunc := ⟨8, .seq (.region 1 [
    ⟨(some 3), .box 1 (.tmp 1), none, 0, none⟩,
    ⟨(some 4), .move (.const (.int .i64 (0))), none, 1, none⟩]) (.seq (.region 4 [
    ⟨(some 5), .move (.tmp 0), none, 0, none⟩,
    ⟨(some 6), .makeFunc 105 [(.tmp 3)], none, 0, none⟩,
    ⟨(some 7), .call (.func 104) [(false, (.tmp 5)), (false, (.tmp 6))] false 4, none, 0, none⟩,
    ⟨(some 4), .move (.tmp 7), none, 4, none⟩]) (.ret)), [.tmp 4], true⟩
def g_64 : List AVal → Heap → Option (AVal × Heap) := runBody (tab [(104, g_104)]) a_64
theorem v_64 : Valid Try.prog (tab [(104, g_104)]) := (tab_cons ok_104 tab_nil)
theorem k_64 : chkFunc Try.prog Try.f64 a_64 = true := by kernel_rfl
theorem ok_64 : Ok Try.prog 64 g_64 := Ok.body mixed v_64 Try.func64 k_64
attribute [irreducible] g_64
/- drayage/quota.Having -/
def a_66 : AFunc := ⟨8, .seq (.region 1 [
    ⟨(some 3), .box 1 (.tmp 1), none, 0, none⟩,
    ⟨(some 4), .move (.const (.int .i64 (0))), none, 1, none⟩]) (.seq (.region 4 [
    ⟨(some 5), .move (.tmp 0), none, 0, none⟩,
    ⟨(some 6), .makeFunc 106 [(.tmp 3)], none, 0, none⟩,
    ⟨(some 7), .call (.func 104) [(false, (.tmp 5)), (false, (.tmp 6))] false 4, none, 0, none⟩,
    ⟨(some 4), .move (.tmp 7), none, 4, none⟩]) (.ret)), [.tmp 4], true⟩
def g_66 : List AVal → Heap → Option (AVal × Heap) := runBody (tab [(104, g_104)]) a_66
theorem v_66 : Valid Try.prog (tab [(104, g_104)]) := (tab_cons ok_104 tab_nil)
theorem k_66 : chkFunc Try.prog Try.f66 a_66 = true := by kernel_rfl
theorem ok_66 : Ok Try.prog 66 g_66 := Ok.body mixed v_66 Try.func66 k_66
attribute [irreducible] g_66
/- drayage/drayageref07.Small -/
def a_103 : AFunc := ⟨23, .seq (.region 1 [
    ⟨(some 0), .alloc [.zsl, .zsl, .zsl, .int .i64 (0), .int .i64 (0), .int .i64 (0), .int .i64 (0), .int .i64 (0), .int .i64 (0), .int .i64 (0), .int .i64 (0), .int .i64 (0), .int .i64 (0), .int .i64 (0), .int .i64 (0), .int .i64 (0), .int .i64 (0), .int .i64 (0)], none, 0, none⟩]) (.seq (.region 1 [
    ⟨(some 4), .build [.zsl, .zsl, .zsl, .int .i64 (0), .int .i64 (0), .int .i64 (0), .int .i64 (0), .int .i64 (0), .int .i64 (0), .int .i64 (0), .int .i64 (0), .int .i64 (0), .int .i64 (0), .int .i64 (0), .int .i64 (0), .int .i64 (0), .int .i64 (0), .int .i64 (0)] [(3, 1, (.const (.int .i64 (3)))), (8, 1, (.const (.int .i64 (4)))), (9, 1, (.const (.int .i64 (1)))), (10, 1, (.const (.int .i64 (12)))), (11, 1, (.const (.int .i64 (100)))), (12, 1, (.const (.int .i64 (50)))), (13, 1, (.const (.int .i64 (5)))), (14, 1, (.const (.int .i64 (4)))), (15, 1, (.const (.int .i64 (3)))), (16, 1, (.const (.int .i64 (6)))), (17, 1, (.const (.int .i64 (4))))], none, 0, none⟩,
    ⟨(some 1), .alloc [.zsl, .zsl, .zsl, .int .i64 (0), .int .i64 (0), .int .i64 (0), .int .i64 (0), .int .i64 (0), .int .i64 (0), .int .i64 (0), .int .i64 (0), .int .i64 (0), .int .i64 (0), .int .i64 (0), .int .i64 (0), .int .i64 (0), .int .i64 (0), .int .i64 (0)], none, 0, none⟩,
    ⟨none, .store 18 (.tmp 1) (.tmp 4), none, 1, none⟩]) (.seq (.region 1 [
    ⟨(some 5), .build [.int .i64 (0), .int .i64 (0), .int .i64 (0), .int .i64 (0)] [(0, 1, (.const (.int .i64 (4)))), (1, 1, (.const (.int .i64 (8)))), (3, 1, (.const (.int .i64 (1))))], none, 0, none⟩,
    ⟨(some 6), .build [.int .i64 (0), .int .i64 (0), .int .i64 (0), .int .i64 (0)] [(0, 1, (.const (.int .i64 (8)))), (1, 1, (.const (.int .i64 (8)))), (2, 1, (.const (.int .i64 (1))))], none, 0, none⟩,
    ⟨(some 7), .buildSlice 4 2 true [.int .i64 (0), .int .i64 (0), .int .i64 (0), .int .i64 (0)] [(0, (.tmp 5)), (1, (.tmp 6))], none, 0, none⟩,
    ⟨(some 8), .fieldAddr 0 (.tmp 1), none, 1, none⟩,
    ⟨none, .store 1 (.tmp 8) (.tmp 7), none, 1, none⟩]) (.seq (.region 3 [
    ⟨(some 9), .buildSlice 1 2 true [.int .i64 (0)] [(0, (.const (.int .i64 (0)))), (1, (.const (.int .i64 (1))))], none, 0, none⟩,
    ⟨(some 10), .buildSlice 1 1 true [.int .i64 (0)] [(0, (.const (.int .i64 (1))))], none, 1, none⟩,
    ⟨(some 11), .buildSlice 1 2 true [.zsl] [(0, (.tmp 9)), (1, (.tmp 10))], none, 2, none⟩,
    ⟨(some 12), .fieldAddr 1 (.tmp 1), none, 3, none⟩,
    ⟨none, .store 1 (.tmp 12) (.tmp 11), none, 3, none⟩]) (.seq (.region 1 [
    ⟨(some 13), .build [.int .i64 (0), .zsl, .int .i64 (0), .int .i64 (0), .int .i64 (0), .int .i64 (0)] [(2, 1, (.const (.int .i64 (8)))), (3, 1, (.const (.int .i64 (4)))), (4, 1, (.const (.int .i64 (3)))), (5, 1, (.const (.int .i64 (1))))], none, 0, none⟩,
    ⟨(some 2), .alloc [.int .i64 (0), .zsl, .int .i64 (0), .int .i64 (0), .int .i64 (0), .int .i64 (0)], none, 0, none⟩,
    ⟨none, .store 6 (.tmp 2) (.tmp 13), none, 1, none⟩]) (.seq (.region 2 [
    ⟨(some 14), .buildSlice 1 2 true [.int .i64 (0)] [(0, (.const (.int .i64 (0)))), (1, (.const (.int .i64 (1))))], none, 0, none⟩,
    ⟨(some 15), .build [.int .i64 (0), .zsl, .int .i64 (0), .int .i64 (0), .int .i64 (0), .int .i64 (0)] [(0, 1, (.const (.int .i64 (1)))), (1, 1, (.tmp 14)), (2, 1, (.const (.int .i64 (4)))), (3, 1, (.const (.int .i64 (2)))), (4, 1, (.const (.int .i64 (2)))), (5, 1, (.const (.int .i64 (5))))], none, 1, none⟩,
    ⟨(some 3), .alloc [.int .i64 (0), .zsl, .int .i64 (0), .int .i64 (0), .int .i64 (0), .int .i64 (0)], none, 1, none⟩,
    ⟨none, .store 6 (.tmp 3) (.tmp 15), none, 2, none⟩]) (.seq (.region 1 [
    ⟨(some 16), .load true 6 (.tmp 2), none, 0, none⟩,
    ⟨(some 17), .load true 6 (.tmp 3), none, 0, none⟩,
    ⟨(some 18), .buildSlice 6 2 true [.int .i64 (0), .zsl, .int .i64 (0), .int .i64 (0), .int .i64 (0), .int .i64 (0)] [(0, (.tmp 16)), (1, (.tmp 17))], none, 0, none⟩,
    ⟨(some 19), .fieldAddr 2 (.tmp 1), none, 1, none⟩,
    ⟨none, .store 1 (.tmp 19) (.tmp 18), none, 1, none⟩]) (.seq (.region 0 [
    ⟨(some 20), .build [.int .i64 (0), .int .i64 (0), .int .i64 (0), .int .i64 (0)] [(0, 1, (.const (.int .i64 (1)))), (1, 1, (.const (.int .i64 (2)))), (2, 1, (.const (.int .i64 (10)))), (3, 1, (.const (.int .i64 (3))))], none, 0, none⟩,
    ⟨(some 21), .fieldAddr 4 (.tmp 1), none, 0, none⟩,
    ⟨none, .store 4 (.tmp 21) (.tmp 20), none, 0, none⟩]) (.seq (.region 0 [
    ⟨(some 22), .load true 18 (.tmp 1), none, 0, none⟩,
    ⟨none, .store 18 (.tmp 0) (.tmp 22), none, 0, none⟩]) (.ret))))))))), [.cell true 18 0], true⟩
def g_103 : List AVal → Heap → Option (AVal × Heap) := runBody (tab []) a_103
theorem v_103 : Valid Try.prog (tab []) := tab_nil
theorem k_103 : chkFunc Try.prog Try.f103 a_103 = true := by kernel_rfl
theorem ok_103 : Ok Try.prog 103 g_103 := Ok.body mixed v_103 Try.func103 k_103
attribute [irreducible] g_103
/- drayage/spec.within -/
def a_134 : AFunc := ⟨12, .seq (.region 4 [
    ⟨(some 5), .box 1 (.tmp 1), none, 0, none⟩,
    ⟨(some 6), .box 1 (.tmp 2), none, 1, none⟩,
    ⟨(some 7), .box 1 (.tmp 3), none, 2, none⟩,
    ⟨(some 8), .alloc [.str [], .nilfn], none, 3, none⟩]) (.seq (.region 0 [
    ⟨(some 9), .move (.tmp 0), none, 0, none⟩,
    ⟨(some 10), .makeFunc 142 [(.tmp 6), (.tmp 5), (.tmp 7)], none, 0, none⟩,
    ⟨(some 11), .build [.str [], .nilfn] [(0, 1, (.tmp 9)), (1, 1, (.tmp 10))], none, 0, none⟩,
    ⟨none, .store 2 (.tmp 8) (.tmp 11), none, 0, none⟩]) (.ret)), [.cell true 2 8], true⟩
def g_134 : List AVal → Heap → Option (AVal × Heap) := runBody (tab []) a_134
theorem v_134 : Valid Try.prog (tab []) := tab_nil
theorem k_134 : chkFunc Try.prog Try.f134 a_134 = true := by kernel_rfl
theorem ok_134 : Ok Try.prog 134 g_134 := Ok.body mixed v_134 Try.func134 k_134
attribute [irreducible] g_134
/- drayage/spec.rules -/
def a_129 : AFunc := ⟨44, .seq (.region 1 [
    ⟨(some 1), .box 18 (.tmp 0), none, 0, none⟩,
    ⟨(some 2), .move (.const (.zsl)), none, 1, none⟩]) (.seq (.region 41 [
    ⟨(some 3), .makeFunc 130 [(.tmp 1)], none, 0, (some [])⟩,
    ⟨(some 4), .build [.str [], .nilfn] [(0, 1, (.const (.str [78, 111, 100, 101, 115]))), (1, 1, (.tmp 3))], none, 0, (some [])⟩,
    ⟨(some 5), .makeFunc 132 [(.tmp 1)], none, 0, (some [])⟩,
    ⟨(some 6), .build [.str [], .nilfn] [(0, 1, (.const (.str [80, 97, 114, 116, 115]))), (1, 1, (.tmp 5))], none, 0, (some [])⟩,
    ⟨(some 7), .fieldAddr 3 (.tmp 1), none, 0, (some [])⟩,
    ⟨(some 8), .load false 1 (.tmp 7), none, 0, (some [])⟩,
    ⟨(some 9), .call (.func 134) [(false, (.const (.str [85, 115, 101, 114, 115]))), (false, (.tmp 8)), (false, (.const (.int .i64 (1)))), (false, (.const (.int .i64 (8))))] true 4, none, 0, (some [])⟩,
    ⟨(some 10), .makeFunc 135 [(.tmp 1)], none, 4, (some [])⟩,
    ⟨(some 11), .build [.str [], .nilfn] [(0, 1, (.const (.str [81, 117, 101, 117, 101, 115]))), (1, 1, (.tmp 10))], none, 4, (some [])⟩,
    ⟨(some 12), .makeFunc 137 [(.tmp 1)], none, 4, (some [])⟩,
    ⟨(some 13), .build [.str [], .nilfn] [(0, 1, (.const (.str [87, 101, 105, 103, 104, 116, 115]))), (1, 1, (.tmp 12))], none, 4, (some [])⟩,
    ⟨(some 14), .fieldAddr 8 (.tmp 1), none, 4, (some [])⟩,
    ⟨(some 15), .load false 1 (.tmp 14), none, 4, (some [])⟩,
    ⟨(some 16), .call (.func 134) [(false, (.const (.str [68, 101, 99, 97, 121]))), (false, (.tmp 15)), (false, (.const (.int .i64 (1)))), (false, (.const (.int .i64 (16))))] true 4, none, 4, (some [0, 1, 2, 3])⟩,
    ⟨(some 17), .makeFunc 139 [(.tmp 1)], none, 8, (some [])⟩,
    ⟨(some 18), .build [.str [], .nilfn] [(0, 1, (.const (.str [77, 111, 100, 101]))), (1, 1, (.tmp 17))], none, 8, (some [])⟩,
    ⟨(some 19), .fieldAddr 10 (.tmp 1), none, 8, (some [])⟩,
    ⟨(some 20), .load false 1 (.tmp 19), none, 8, (some [])⟩,
    ⟨(some 21), .call (.func 134) [(false, (.const (.str [74, 111, 98, 115]))), (false, (.tmp 20)), (false, (.const (.int .i64 (1)))), (false, (.const (.int .i64 (256))))] true 4, none, 8, (some [0, 1, 2, 3, 4, 5, 6, 7])⟩,
    ⟨(some 22), .fieldAddr 11 (.tmp 1), none, 12, (some [])⟩,
    ⟨(some 23), .load false 1 (.tmp 22), none, 12, (some [])⟩,
    ⟨(some 24), .call (.func 134) [(false, (.const (.str [73, 100, 115]))), (false, (.tmp 23)), (false, (.const (.int .i64 (1)))), (false, (.const (.int .i64 (1048576))))] true 4, none, 12, (some [0, 1, 2, 3, 4, 5, 6, 7, 8, 9, 10, 11])⟩,
    ⟨(some 25), .fieldAddr 12 (.tmp 1), none, 16, (some [])⟩,
    ⟨(some 26), .load false 1 (.tmp 25), none, 16, (some [])⟩,
    ⟨(some 27), .call (.func 134) [(false, (.const (.str [86, 101, 114, 115, 105, 111, 110, 115]))), (false, (.tmp 26)), (false, (.const (.int .i64 (1)))), (false, (.const (.int .i64 (65536))))] true 4, none, 16, (some [0, 1, 2, 3, 4, 5, 6, 7, 8, 9, 10, 11, 12, 13, 14, 15])⟩,
    ⟨(some 28), .fieldAddr 13 (.tmp 1), none, 20, (some [])⟩,
    ⟨(some 29), .load false 1 (.tmp 28), none, 20, (some [])⟩,
    ⟨(some 30), .call (.func 134) [(false, (.const (.str [76, 105, 110, 103, 101, 114]))), (false, (.tmp 29)), (false, (.const (.int .i64 (0)))), (false, (.const (.int .i64 (65536))))] true 4, none, 20, (some [0, 1, 2, 3, 4, 5, 6, 7, 8, 9, 10, 11, 12, 13, 14, 15, 16, 17, 18, 19])⟩,
    ⟨(some 31), .fieldAddr 14 (.tmp 1), none, 24, (some [])⟩,
    ⟨(some 32), .load false 1 (.tmp 31), none, 24, (some [])⟩,
    ⟨(some 33), .call (.func 134) [(false, (.const (.str [75, 101, 101, 112]))), (false, (.tmp 32)), (false, (.const (.int .i64 (1)))), (false, (.const (.int .i64 (16))))] true 4, none, 24, (some [0, 1, 2, 3, 4, 5, 6, 7, 8, 9, 10, 11, 12, 13, 14, 15, 16, 17, 18, 19, 20, 21, 22, 23])⟩,
    ⟨(some 34), .fieldAddr 15 (.tmp 1), none, 28, (some [])⟩,
    ⟨(some 35), .load false 1 (.tmp 34), none, 28, (some [])⟩,
    ⟨(some 36), .call (.func 134) [(false, (.const (.str [73, 110]))), (false, (.tmp 35)), (false, (.const (.int .i64 (1)))), (false, (.const (.int .i64 (8))))] true 4, none, 28, (some [0, 1, 2, 3, 4, 5, 6, 7, 8, 9, 10, 11, 12, 13, 14, 15, 16, 17, 18, 19, 20, 21, 22, 23, 24, 25, 26, 27])⟩,
    ⟨(some 37), .fieldAddr 16 (.tmp 1), none, 32, (some [])⟩,
    ⟨(some 38), .load false 1 (.tmp 37), none, 32, (some [])⟩,
    ⟨(some 39), .call (.func 134) [(false, (.const (.str [79, 117, 116]))), (false, (.tmp 38)), (false, (.const (.int .i64 (1)))), (false, (.const (.int .i64 (16))))] true 4, none, 32, (some [0, 1, 2, 3, 4, 5, 6, 7, 8, 9, 10, 11, 12, 13, 14, 15, 16, 17, 18, 19, 20, 21, 22, 23, 24, 25, 26, 27, 28, 29, 30, 31])⟩,
    ⟨(some 40), .fieldAddr 17 (.tmp 1), none, 36, (some [])⟩,
    ⟨(some 41), .load false 1 (.tmp 40), none, 36, (some [])⟩,
    ⟨(some 42), .call (.func 134) [(false, (.const (.str [67, 97, 99, 104, 101]))), (false, (.tmp 41)), (false, (.const (.int .i64 (0)))), (false, (.const (.int .i64 (16))))] false 4, none, 36, (some [0, 1, 2, 3, 4, 5, 6, 7, 8, 9, 10, 11, 12, 13, 14, 15, 16, 17, 18, 19, 20, 21, 22, 23, 24, 25, 26, 27, 28, 29, 30, 31, 32, 33, 34, 35])⟩,
    ⟨(some 43), .buildSlice 2 15 true [.str [], .nilfn] [(0, (.tmp 4)), (1, (.tmp 6)), (2, (.tmp 9)), (3, (.tmp 11)), (4, (.tmp 13)), (5, (.tmp 16)), (6, (.tmp 18)), (7, (.tmp 21)), (8, (.tmp 24)), (9, (.tmp 27)), (10, (.tmp 30)), (11, (.tmp 33)), (12, (.tmp 36)), (13, (.tmp 39)), (14, (.tmp 42))], none, 40, (some [0, 1, 2, 3, 4, 5, 6, 7, 8, 9, 10, 11, 12, 13, 14, 15, 16, 17, 18, 19, 20, 21, 22, 23, 24, 25, 26, 27, 28, 29, 30, 31, 32, 33, 34, 35, 36, 37, 38, 39])⟩,
    ⟨(some 2), .move (.tmp 43), none, 41, (some [0, 1, 2, 3, 4, 5, 6, 7, 8, 9, 10, 11, 12, 13, 14, 15, 16, 17, 18, 19, 20, 21, 22, 23, 24, 25, 26, 27, 28, 29, 30, 31, 32, 33, 34, 35, 36, 37, 38, 39, 40])⟩]) (.ret)), [.tmp 2], true⟩
def g_129 : List AVal → Heap → Option (AVal × Heap) := runBody (tab [(134, g_134)]) a_129
theorem v_129 : Valid Try.prog (tab [(134, g_134)]) := (tab_cons ok_134 tab_nil)
theorem k_129 : chkFunc Try.prog Try.f129 a_129 = true := by kernel_rfl
theorem ok_129 : Ok Try.prog 129 g_129 := Ok.body mixed v_129 Try.func129 k_129
attribute [irreducible] g_129
/- drayage/spec.Flaw -/
def b_127_0 : ACode := .seq (.region 0 [
    ⟨(some 9), .bin .lss (.tmp 8) (.tmp 7), none, 0, none⟩]) (.seq (.cond (.tmp 9) (.skip) (.exit 0)) (.seq (.block 1 (.seq (.region 1 [
    ⟨(some 10), .indexSl 2 (.tmp 6) (.tmp 8), none, 0, none⟩,
    ⟨(some 11), .load true 2 (.tmp 10), none, 0, none⟩,
    ⟨(some 4), .alloc [.str [], .nilfn], none, 0, none⟩,
    ⟨none, .store 2 (.tmp 4) (.tmp 11), none, 1, none⟩]) (.seq (.region 4 [
    ⟨(some 12), .fieldAddr 1 (.tmp 4), none, 0, none⟩,
    ⟨(some 13), .load false 1 (.tmp 12), none, 0, none⟩,
    ⟨(some 14), .call (.tmp 13) [] false 4, none, 0, none⟩,
    ⟨(some 15), .un .not (.tmp 14), none, 4, none⟩]) (.cond (.tmp 15) (.seq (.region 0 [
    ⟨(some 16), .fieldAddr 0 (.tmp 4), none, 0, none⟩,
    ⟨(some 17), .load false 1 (.tmp 16), none, 0, none⟩,
    ⟨(some 2), .move (.tmp 17), none, 0, none⟩]) (.ret)) (.skip))))) (.region 0 [
    ⟨(some 18), .bin .add (.tmp 8) (.const (.int .i64 (1))), none, 0, none⟩,
    ⟨(some 8), .move (.tmp 18), none, 0, none⟩])))
def a_127 : AFunc := ⟨19, .seq (.region 1 [
    ⟨(some 1), .box 18 (.tmp 0), none, 0, none⟩,
    ⟨(some 2), .move (.const (.str [])), none, 1, none⟩]) (.seq (.seq (.region 4 [
    ⟨(some 5), .load true 18 (.tmp 1), none, 0, none⟩,
    ⟨(some 6), .call (.func 129) [(false, (.tmp 5))] false 4, none, 0, none⟩,
    ⟨(some 7), .len (.tmp 6), none, 4, none⟩,
    ⟨(some 8), .move (.const (.int .i64 (0))), none, 4, none⟩]) (.block 0 (.loop [6, 7, 8] b_127_0))) (.seq (.region 0 [
    ⟨(some 2), .move (.const (.str [])), none, 0, none⟩]) (.ret))), [.tmp 2], true⟩
def g_127 : List AVal → Heap → Option (AVal × Heap) := runBody (tab [(129, g_129), (105, g_105), (106, g_106), (130, g_130), (132, g_132), (135, g_135), (137, g_137), (139, g_139), (142, g_142), (107, g_107)]) a_127
theorem v_127 : Valid Try.prog (tab [(129, g_129), (105, g_105), (106, g_106), (130, g_130), (132, g_132), (135, g_135), (137, g_137), (139, g_139), (142, g_142), (107, g_107)]) := (tab_cons ok_129 (tab_cons ok_105 (tab_cons ok_106 (tab_cons ok_130 (tab_cons ok_132 (tab_cons ok_135 (tab_cons ok_137 (tab_cons ok_139 (tab_cons ok_142 (tab_cons ok_107 tab_nil))))))))))
theorem k_127 : chkFunc Try.prog Try.f127 a_127 = true := by kernel_rfl
theorem ok_127 : Ok Try.prog 127 g_127 := Ok.body mixed v_127 Try.func127 k_127
attribute [irreducible] g_127
/- drayage/spec.Right -/
def a_122 : AFunc := ⟨6, .seq (.region 1 [
    ⟨(some 1), .box 18 (.tmp 0), none, 0, none⟩,
    ⟨(some 2), .move (.const (.bool false)), none, 1, none⟩]) (.seq (.region 4 [
    ⟨(some 3), .load true 18 (.tmp 1), none, 0, none⟩,
    ⟨(some 4), .call (.func 127) [(false, (.tmp 3))] false 4, none, 0, none⟩,
    ⟨(some 5), .bin .eql (.tmp 4) (.const (.str [])), none, 4, none⟩,
    ⟨(some 2), .move (.tmp 5), none, 4, none⟩]) (.ret)), [.tmp 2], true⟩
def g_122 : List AVal → Heap → Option (AVal × Heap) := runBody (tab [(127, g_127)]) a_122
theorem v_122 : Valid Try.prog (tab [(127, g_127)]) := (tab_cons ok_127 tab_nil)
theorem k_122 : chkFunc Try.prog Try.f122 a_122 = true := by kernel_rfl
theorem ok_122 : Ok Try.prog 122 g_122 := Ok.body mixed v_122 Try.func122 k_122
attribute [irreducible] g_122
/- drayage/quota.known -/
def a_117 : AFunc := ⟨18, .seq (.region 1 [
    ⟨(some 2), .box 18 (.tmp 0), none, 0, none⟩,
    ⟨(some 4), .move (.const (.bool false)), none, 1, none⟩]) (.seq (.region 4 [
    ⟨(some 5), .move (.tmp 1), none, 0, none⟩,
    ⟨(some 6), .bin .geq (.tmp 5) (.const (.int .i64 (0))), none, 0, none⟩,
    ⟨(some 7), .move (.tmp 6), none, 0, none⟩,
    ⟨(some 8), .move (.tmp 1), (some (7, true)), 0, none⟩,
    ⟨(some 9), .fieldAddr 2 (.tmp 2), (some (7, true)), 0, none⟩,
    ⟨(some 10), .load false 1 (.tmp 9), (some (7, true)), 0, none⟩,
    ⟨(some 11), .len (.tmp 10), (some (7, true)), 0, none⟩,
    ⟨(some 12), .bin .lss (.tmp 8) (.tmp 11), (some (7, true)), 0, none⟩,
    ⟨(some 13), .pick (.tmp 7) (.tmp 12) (.const (.bool false)), none, 0, none⟩,
    ⟨(some 14), .move (.tmp 13), none, 0, none⟩,
    ⟨(some 15), .load true 18 (.tmp 2), (some (14, true)), 0, none⟩,
    ⟨(some 16), .call (.func 122) [(false, (.tmp 15))] false 4, (some (14, true)), 0, none⟩,
    ⟨(some 17), .pick (.tmp 14) (.tmp 16) (.const (.bool false)), none, 4, none⟩,
    ⟨(some 4), .move (.tmp 17), none, 4, none⟩]) (.ret)), [.tmp 4], true⟩
def g_117 : List AVal → Heap → Option (AVal × Heap) := runBody (tab [(122, g_122)]) a_117
theorem v_117 : Valid Try.prog (tab [(122, g_122)]) := (tab_cons ok_122 tab_nil)
theorem k_117 : chkFunc Try.prog Try.f117 a_117 = true := by kernel_rfl
theorem ok_117 : Ok Try.prog 117 g_117 := Ok.body mixed v_117 Try.func117 k_117
attribute [irreducible] g_117
/- drayage/quota.Room -/
def a_102 : AFunc := ⟨33, .seq (.region 1 [
    ⟨(some 4), .box 18 (.tmp 0), none, 0, none⟩,
    ⟨(some 8), .move (.const (.bool false)), none, 1, none⟩]) (.seq (.seq (.region 4 [
    ⟨(some 9), .load true 18 (.tmp 4), none, 0, none⟩,
    ⟨(some 10), .move (.tmp 2), none, 0, none⟩,
    ⟨(some 11), .call (.func 117) [(false, (.tmp 9)), (false, (.tmp 10))] false 4, none, 0, none⟩,
    ⟨(some 12), .un .not (.tmp 11), none, 4, none⟩,
    ⟨(some 13), .move (.tmp 12), none, 4, none⟩,
    ⟨(some 14), .move (.tmp 3), (some (13, false)), 4, none⟩,
    ⟨(some 15), .bin .lss (.tmp 14) (.const (.int .i64 (0))), (some (13, false)), 4, none⟩,
    ⟨(some 16), .pick (.tmp 13) (.const (.bool true)) (.tmp 15), none, 4, none⟩,
    ⟨(some 17), .move (.tmp 16), none, 4, none⟩,
    ⟨(some 18), .move (.tmp 3), (some (17, false)), 4, none⟩,
    ⟨(some 19), .bin .gtr (.tmp 18) (.const (.int .i64 (256))), (some (17, false)), 4, none⟩,
    ⟨(some 20), .pick (.tmp 17) (.const (.bool true)) (.tmp 19), none, 4, none⟩]) (.cond (.tmp 20) (.seq (.region 0 [
    ⟨(some 8), .move (.const (.bool false)), none, 0, none⟩]) (.ret)) (.skip))) (.seq (.region 4 [
    ⟨(some 21), .move (.tmp 1), none, 0, (some [])⟩,
    ⟨(some 22), .move (.tmp 2), none, 0, (some [])⟩,
    ⟨(some 23), .call (.func 64) [(false, (.tmp 21)), (false, (.tmp 22))] true 4, none, 0, (some [])⟩,
    ⟨(some 24), .move (.tmp 3), none, 4, (some [])⟩,
    ⟨(some 25), .bin .add (.tmp 23) (.tmp 24), none, 4, (some [0, 1, 2, 3])⟩,
    ⟨(some 26), .fieldAddr 2 (.tmp 4), none, 4, (some [])⟩,
    ⟨(some 27), .load false 1 (.tmp 26), none, 4, (some [])⟩,
    ⟨(some 28), .move (.tmp 2), none, 4, (some [])⟩,
    ⟨(some 29), .indexSl 6 (.tmp 27) (.tmp 28), none, 4, (some [])⟩,
    ⟨(some 30), .fieldAddr 2 (.tmp 29), none, 4, (some [])⟩,
    ⟨(some 31), .load false 1 (.tmp 30), none, 4, (some [])⟩,
    ⟨(some 32), .bin .leq (.tmp 25) (.tmp 31), none, 4, (some [0, 1, 2, 3])⟩,
    ⟨(some 8), .move (.tmp 32), none, 4, (some [0, 1, 2, 3])⟩]) (.ret))), [.tmp 8], true⟩
def g_102 : List AVal → Heap → Option (AVal × Heap) := runBody (tab [(117, g_117), (64, g_64)]) a_102
theorem v_102 : Valid Try.prog (tab [(117, g_117), (64, g_64)]) := (tab_cons ok_117 (tab_cons ok_64 tab_nil))
theorem k_102 : chkFunc Try.prog Try.f102 a_102 = true := by kernel_rfl
theorem ok_102 : Ok Try.prog 102 g_102 := Ok.body mixed v_102 Try.func102 k_102
attribute [irreducible] g_102
/- drayage/drayagelaw19.awake -/
def a_62 : AFunc := ⟨26, .seq (.region 0 [
    ⟨(some 0), .move (.const (.bool false)), none, 0, none⟩]) (.seq (.region 1 [
    ⟨(some 2), .build [.int .i64 (0), .int .i64 (0), .int .i64 (0), .int .i64 (0), .int .i64 (0), .int .i64 (0), .int .i64 (0), .int .i64 (0), .int .i64 (0), .zsl, .int .i64 (0), .bool false, .bool false, .int .i64 (0), .int .i64 (0), .int .i64 (0), .int .i64 (0), .int .i64 (0)] [(10, 1, (.const (.int .i64 (1))))], none, 0, none⟩,
    ⟨(some 3), .build [.int .i64 (0), .int .i64 (0), .int .i64 (0), .int .i64 (0), .int .i64 (0), .int .i64 (0), .int .i64 (0), .int .i64 (0), .int .i64 (0), .zsl, .int .i64 (0), .bool false, .bool false, .int .i64 (0), .int .i64 (0), .int .i64 (0), .int .i64 (0), .int .i64 (0)] [(10, 1, (.const (.int .i64 (1))))], none, 0, none⟩,
    ⟨(some 4), .build [.int .i64 (0), .int .i64 (0), .int .i64 (0), .int .i64 (0), .int .i64 (0), .int .i64 (0), .int .i64 (0), .int .i64 (0), .int .i64 (0), .zsl, .int .i64 (0), .bool false, .bool false, .int .i64 (0), .int .i64 (0), .int .i64 (0), .int .i64 (0), .int .i64 (0)] [(10, 1, (.const (.int .i64 (1))))], none, 0, none⟩,
    ⟨(some 5), .build [.int .i64 (0), .int .i64 (0), .int .i64 (0), .int .i64 (0), .int .i64 (0), .int .i64 (0), .int .i64 (0), .int .i64 (0), .int .i64 (0), .zsl, .int .i64 (0), .bool false, .bool false, .int .i64 (0), .int .i64 (0), .int .i64 (0), .int .i64 (0), .int .i64 (0)] [(10, 1, (.const (.int .i64 (3))))], none, 0, none⟩,
    ⟨(some 6), .buildSlice 18 4 true [.int .i64 (0), .int .i64 (0), .int .i64 (0), .int .i64 (0), .int .i64 (0), .int .i64 (0), .int .i64 (0), .int .i64 (0), .int .i64 (0), .zsl, .int .i64 (0), .bool false, .bool false, .int .i64 (0), .int .i64 (0), .int .i64 (0), .int .i64 (0), .int .i64 (0)] [(0, (.tmp 2)), (1, (.tmp 3)), (2, (.tmp 4)), (3, (.tmp 5))], none, 0, none⟩,
    ⟨(some 1), .move (.tmp 6), none, 1, none⟩]) (.seq (.region 24 [
    ⟨(some 7), .move (.tmp 1), none, 0, none⟩,
    ⟨(some 8), .call (.func 64) [(false, (.tmp 7)), (false, (.const (.int .i64 (0))))] false 4, none, 0, none⟩,
    ⟨(some 9), .bin .eql (.tmp 8) (.const (.int .i64 (3))), none, 4, none⟩,
    ⟨(some 10), .move (.tmp 9), none, 4, none⟩,
    ⟨(some 11), .move (.tmp 1), (some (10, true)), 4, none⟩,
    ⟨(some 12), .call (.func 66) [(false, (.tmp 11)), (false, (.const (.int .i64 (0))))] false 4, (some (10, true)), 4, none⟩,
    ⟨(some 13), .bin .eql (.tmp 12) (.const (.int .i64 (1))), (some (10, true)), 8, none⟩,
    ⟨(some 14), .pick (.tmp 10) (.tmp 13) (.const (.bool false)), none, 8, none⟩,
    ⟨(some 15), .move (.tmp 14), none, 8, none⟩,
    ⟨(some 16), .call (.func 103) [] false 4, (some (15, true)), 8, none⟩,
    ⟨(some 17), .move (.tmp 1), (some (15, true)), 12, none⟩,
    ⟨(some 18), .call (.func 102) [(false, (.tmp 16)), (false, (.tmp 17)), (false, (.const (.int .i64 (0)))), (false, (.const (.int .i64 (5))))] false 4, (some (15, true)), 12, none⟩,
    ⟨(some 19), .pick (.tmp 15) (.tmp 18) (.const (.bool false)), none, 16, none⟩,
    ⟨(some 20), .move (.tmp 19), none, 16, none⟩,
    ⟨(some 21), .call (.func 103) [] false 4, (some (20, true)), 16, none⟩,
    ⟨(some 22), .move (.tmp 1), (some (20, true)), 20, none⟩,
    ⟨(some 23), .call (.func 102) [(false, (.tmp 21)), (false, (.tmp 22)), (false, (.const (.int .i64 (0)))), (false, (.const (.int .i64 (6))))] false 4, (some (20, true)), 20, none⟩,
    ⟨(some 24), .un .not (.tmp 23), (some (20, true)), 24, none⟩,
    ⟨(some 25), .pick (.tmp 20) (.tmp 24) (.const (.bool false)), none, 24, none⟩,
    ⟨(some 0), .move (.tmp 25), none, 24, none⟩]) (.ret))), [.tmp 0], true⟩
def g_62 : List AVal → Heap → Option (AVal × Heap) := runBody (tab [(64, g_64), (66, g_66), (103, g_103), (102, g_102)]) a_62
theorem v_62 : Valid Try.prog (tab [(64, g_64), (66, g_66), (103, g_103), (102, g_102)]) := (tab_cons ok_64 (tab_cons ok_66 (tab_cons ok_103 (tab_cons ok_102 tab_nil))))
theorem k_62 : chkFunc Try.prog Try.f62 a_62 = true := by kernel_rfl
theorem ok_62 : Ok Try.prog 62 g_62 := Ok.body mixed v_62 Try.func62 k_62
attribute [irreducible] g_62
/- drayage/drayagelaw17.Few -/
def b_63_0 : ACode := .seq (.region 0 [
    ⟨(some 11), .bin .lss (.tmp 10) (.tmp 9), none, 0, none⟩]) (.seq (.cond (.tmp 11) (.skip) (.exit 0)) (.seq (.block 1 (.seq (.region 1 [
    ⟨(some 12), .indexSl 18 (.tmp 8) (.tmp 10), none, 0, none⟩,
    ⟨(some 13), .load true 18 (.tmp 12), none, 0, none⟩,
    ⟨(some 4), .alloc [.int .i64 (0), .int .i64 (0), .int .i64 (0), .int .i64 (0), .int .i64 (0), .int .i64 (0), .int .i64 (0), .int .i64 (0), .int .i64 (0), .zsl, .int .i64 (0), .bool false, .bool false, .int .i64 (0), .int .i64 (0), .int .i64 (0), .int .i64 (0), .int .i64 (0)], none, 0, none⟩,
    ⟨none, .store 18 (.tmp 4) (.tmp 13), none, 1, none⟩]) (.seq (.region 0 [
    ⟨(some 14), .fieldAddr 9 (.tmp 4), none, 0, none⟩,
    ⟨(some 15), .load false 1 (.tmp 14), none, 0, none⟩,
    ⟨(some 16), .len (.tmp 15), none, 0, none⟩,
    ⟨(some 17), .bin .gtr (.tmp 16) (.const (.int .i64 (10))), none, 0, none⟩]) (.cond (.tmp 17) (.seq (.region 0 [
    ⟨(some 2), .move (.const (.bool false)), none, 0, none⟩]) (.ret)) (.skip))))) (.region 0 [
    ⟨(some 18), .bin .add (.tmp 10) (.const (.int .i64 (1))), none, 0, none⟩,
    ⟨(some 10), .move (.tmp 18), none, 0, none⟩])))
def a_63 : AFunc := ⟨19, .seq (.region 0 [
    ⟨(some 2), .move (.const (.bool false)), none, 0, none⟩]) (.seq (.seq (.region 0 [
    ⟨(some 5), .move (.tmp 0), none, 0, none⟩,
    ⟨(some 6), .len (.tmp 5), none, 0, none⟩,
    ⟨(some 7), .bin .gtr (.tmp 6) (.const (.int .i64 (30))), none, 0, none⟩]) (.cond (.tmp 7) (.seq (.region 0 [
    ⟨(some 2), .move (.const (.bool false)), none, 0, none⟩]) (.ret)) (.skip))) (.seq (.seq (.region 0 [
    ⟨(some 8), .move (.tmp 0), none, 0, none⟩,
    ⟨(some 9), .len (.tmp 8), none, 0, none⟩,
    ⟨(some 10), .move (.const (.int .i64 (0))), none, 0, none⟩]) (.block 0 (.loop [8, 9, 10] b_63_0))) (.seq (.region 0 [
    ⟨(some 2), .move (.const (.bool true)), none, 0, none⟩]) (.ret)))), [.tmp 2], true⟩
def g_63 : List AVal → Heap → Option (AVal × Heap) := runBody (tab []) a_63
theorem v_63 : Valid Try.prog (tab []) := tab_nil
theorem k_63 : chkFunc Try.prog Try.f63 a_63 = true := by kernel_rfl
theorem ok_63 : Ok Try.prog 63 g_63 := Ok.body mixed v_63 Try.func63 k_63
attribute [irreducible] g_63
/- drayage/drayageref19.Count -/
def b_65_0 : ACode := .seq (.seq (.region 0 [
    ⟨(some 12), .move (.tmp 10), none, 0, none⟩,
    ⟨(some 13), .move (.tmp 0), none, 0, none⟩,
    ⟨(some 14), .len (.tmp 13), none, 0, none⟩,
    ⟨(some 15), .bin .lss (.tmp 12) (.tmp 14), none, 0, none⟩]) (.cond (.tmp 15) (.skip) (.exit 0))) (.seq (.block 1 (.seq (.region 1 [
    ⟨(some 18), .move (.tmp 0), none, 0, none⟩,
    ⟨(some 19), .move (.tmp 10), none, 0, none⟩,
    ⟨(some 20), .indexSl 18 (.tmp 18) (.tmp 19), none, 0, none⟩,
    ⟨(some 21), .load true 18 (.tmp 20), none, 0, none⟩,
    ⟨(some 11), .alloc [.int .i64 (0), .int .i64 (0), .int .i64 (0), .int .i64 (0), .int .i64 (0), .int .i64 (0), .int .i64 (0), .int .i64 (0), .int .i64 (0), .zsl, .int .i64 (0), .bool false, .bool false, .int .i64 (0), .int .i64 (0), .int .i64 (0), .int .i64 (0), .int .i64 (0)], none, 0, none⟩,
    ⟨none, .store 18 (.tmp 11) (.tmp 21), none, 1, none⟩]) (.seq (.region 0 [
    ⟨(some 22), .fieldAddr 2 (.tmp 11), none, 0, none⟩,
    ⟨(some 23), .load false 1 (.tmp 22), none, 0, none⟩,
    ⟨(some 24), .move (.tmp 1), none, 0, none⟩,
    ⟨(some 25), .bin .eql (.tmp 23) (.tmp 24), none, 0, none⟩,
    ⟨(some 26), .move (.tmp 25), none, 0, none⟩,
    ⟨(some 27), .fieldAddr 10 (.tmp 11), (some (26, true)), 0, none⟩,
    ⟨(some 28), .load false 1 (.tmp 27), (some (26, true)), 0, none⟩,
    ⟨(some 29), .indexArr 2 1 (.tmp 6) (.const (.int .i64 (0))), (some (26, true)), 0, none⟩,
    ⟨(some 30), .load false 1 (.tmp 29), (some (26, true)), 0, none⟩,
    ⟨(some 31), .bin .eql (.tmp 28) (.tmp 30), (some (26, true)), 0, none⟩,
    ⟨(some 32), .move (.tmp 31), (some (26, true)), 0, none⟩,
    ⟨(some 33), .fieldAddr 10 (.tmp 11), (some (32, false)), 0, none⟩,
    ⟨(some 34), .load false 1 (.tmp 33), (some (32, false)), 0, none⟩,
    ⟨(some 35), .indexArr 2 1 (.tmp 6) (.const (.int .i64 (1))), (some (32, false)), 0, none⟩,
    ⟨(some 36), .load false 1 (.tmp 35), (some (32, false)), 0, none⟩,
    ⟨(some 37), .bin .eql (.tmp 34) (.tmp 36), (some (32, false)), 0, none⟩,
    ⟨(some 38), .pick (.tmp 32) (.const (.bool true)) (.tmp 37), (some (26, true)), 0, none⟩,
    ⟨(some 39), .pick (.tmp 26) (.tmp 38) (.const (.bool false)), none, 0, none⟩,
    ⟨(some 40), .move (.tmp 39), none, 0, none⟩,
    ⟨(some 41), .move (.tmp 3), (some (40, true)), 0, none⟩,
    ⟨(some 42), .bin .lss (.tmp 41) (.const (.int .i64 (0))), (some (40, true)), 0, none⟩,
    ⟨(some 43), .move (.tmp 42), (some (40, true)), 0, none⟩,
    ⟨(some 44), .fieldAddr 1 (.tmp 11), (some (43, false)), 0, none⟩,
    ⟨(some 45), .load false 1 (.tmp 44), (some (43, false)), 0, none⟩,
    ⟨(some 46), .move (.tmp 3), (some (43, false)), 0, none⟩,
    ⟨(some 47), .bin .eql (.tmp 45) (.tmp 46), (some (43, false)), 0, none⟩,
    ⟨(some 48), .pick (.tmp 43) (.const (.bool true)) (.tmp 47), (some (40, true)), 0, none⟩,
    ⟨(some 49), .pick (.tmp 40) (.tmp 48) (.const (.bool false)), none, 0, none⟩]) (.cond (.tmp 49) (.region 0 [
    ⟨(some 50), .move (.tmp 9), none, 0, none⟩,
    ⟨(some 51), .bin .add (.tmp 50) (.const (.int .i64 (1))), none, 0, none⟩,
    ⟨(some 9), .move (.tmp 51), none, 0, none⟩]) (.skip))))) (.region 0 [
    ⟨(some 16), .move (.tmp 10), none, 0, none⟩,
    ⟨(some 17), .bin .add (.tmp 16) (.const (.int .i64 (1))), none, 0, none⟩,
    ⟨(some 10), .move (.tmp 17), none, 0, none⟩]))
def a_65 : AFunc := ⟨53, .seq (.region 1 [
    ⟨(some 6), .box 2 (.tmp 2), none, 0, none⟩,
    ⟨(some 8), .move (.const (.int .i64 (0))), none, 1, none⟩]) (.seq (.region 0 [
    ⟨(some 9), .move (.const (.int .i64 (0))), none, 0, none⟩]) (.seq (.seq (.region 0 [
    ⟨(some 10), .move (.const (.int .i64 (0))), none, 0, none⟩]) (.block 0 (.loop [0, 1, 3, 6, 9, 10] b_65_0))) (.seq (.region 0 [
    ⟨(some 52), .move (.tmp 9), none, 0, none⟩,
    ⟨(some 8), .move (.tmp 52), none, 0, none⟩]) (.ret)))), [.tmp 8], true⟩
def g_65 : List AVal → Heap → Option (AVal × Heap) := runBody (tab []) a_65
theorem v_65 : Valid Try.prog (tab []) := tab_nil
theorem k_65 : chkFunc Try.prog Try.f65 a_65 = true := by kernel_rfl
theorem ok_65 : Ok Try.prog 65 g_65 := Ok.body mixed v_65 Try.func65 k_65
attribute [irreducible] g_65
/- drayage/quota.Of -/
def a_67 : AFunc := ⟨10, .seq (.region 2 [
    ⟨(some 4), .box 1 (.tmp 1), none, 0, none⟩,
    ⟨(some 5), .box 1 (.tmp 2), none, 1, none⟩,
    ⟨(some 6), .move (.const (.int .i64 (0))), none, 2, none⟩]) (.seq (.region 4 [
    ⟨(some 7), .move (.tmp 0), none, 0, none⟩,
    ⟨(some 8), .makeFunc 107 [(.tmp 4), (.tmp 5)], none, 0, none⟩,
    ⟨(some 9), .call (.func 104) [(false, (.tmp 7)), (false, (.tmp 8))] false 4, none, 0, none⟩,
    ⟨(some 6), .move (.tmp 9), none, 4, none⟩]) (.ret)), [.tmp 6], true⟩
def g_67 : List AVal → Heap → Option (AVal × Heap) := runBody (tab [(104, g_104)]) a_67
theorem v_67 : Valid Try.prog (tab [(104, g_104)]) := (tab_cons ok_104 tab_nil)
theorem k_67 : chkFunc Try.prog Try.f67 a_67 = true := by kernel_rfl
theorem ok_67 : Ok Try.prog 67 g_67 := Ok.body mixed v_67 Try.func67 k_67
attribute [irreducible] g_67
/- drayage/drayagelaw19.QuotaCounts -/
def a_11 : AFunc := ⟨45, .seq (.region 0 [
    ⟨(some 6), .move (.const (.bool false)), none, 0, none⟩]) (.seq (.seq (.region 4 [
    ⟨(some 8), .call (.func 62) [] false 4, none, 0, none⟩,
    ⟨(some 9), .un .not (.tmp 8), none, 4, none⟩]) (.cond (.tmp 9) (.seq (.region 0 [
    ⟨(some 6), .move (.const (.bool false)), none, 0, none⟩]) (.ret)) (.skip))) (.seq (.seq (.region 4 [
    ⟨(some 10), .move (.tmp 0), none, 0, none⟩,
    ⟨(some 11), .call (.func 63) [(false, (.tmp 10))] false 4, none, 0, none⟩,
    ⟨(some 12), .un .not (.tmp 11), none, 4, none⟩]) (.cond (.tmp 12) (.seq (.region 0 [
    ⟨(some 6), .move (.const (.bool true)), none, 0, none⟩]) (.ret)) (.skip))) (.seq (.region 0 [
    ⟨(some 13), .move (.tmp 2), none, 0, none⟩,
    ⟨(some 14), .conv .i64 (.tmp 13), none, 0, none⟩,
    ⟨(some 7), .move (.tmp 14), none, 0, none⟩]) (.seq (.region 24 [
    ⟨(some 15), .move (.tmp 0), none, 0, none⟩,
    ⟨(some 16), .move (.tmp 1), none, 0, none⟩,
    ⟨(some 17), .call (.func 64) [(false, (.tmp 15)), (false, (.tmp 16))] false 4, none, 0, none⟩,
    ⟨(some 18), .move (.tmp 0), none, 4, none⟩,
    ⟨(some 19), .move (.tmp 1), none, 4, none⟩,
    ⟨(some 20), .build [.int .i64 (0), .int .i64 (0)] [(0, 1, (.const (.int .i64 (1)))), (1, 1, (.const (.int .i64 (2))))], none, 4, none⟩,
    ⟨(some 21), .call (.func 65) [(false, (.tmp 18)), (false, (.tmp 19)), (false, (.tmp 20)), (false, (.const (.int .i64 (-1))))] false 4, none, 4, none⟩,
    ⟨(some 22), .bin .eql (.tmp 17) (.tmp 21), none, 8, none⟩,
    ⟨(some 23), .move (.tmp 22), none, 8, none⟩,
    ⟨(some 24), .move (.tmp 0), (some (23, true)), 8, none⟩,
    ⟨(some 25), .move (.tmp 1), (some (23, true)), 8, none⟩,
    ⟨(some 26), .call (.func 66) [(false, (.tmp 24)), (false, (.tmp 25))] false 4, (some (23, true)), 8, none⟩,
    ⟨(some 27), .move (.tmp 0), (some (23, true)), 12, none⟩,
    ⟨(some 28), .move (.tmp 1), (some (23, true)), 12, none⟩,
    ⟨(some 29), .build [.int .i64 (0), .int .i64 (0)] [(0, 1, (.const (.int .i64 (3)))), (1, 1, (.const (.int .i64 (4))))], (some (23, true)), 12, none⟩,
    ⟨(some 30), .call (.func 65) [(false, (.tmp 27)), (false, (.tmp 28)), (false, (.tmp 29)), (false, (.const (.int .i64 (-1))))] false 4, (some (23, true)), 12, none⟩,
    ⟨(some 31), .bin .eql (.tmp 26) (.tmp 30), (some (23, true)), 16, none⟩,
    ⟨(some 32), .pick (.tmp 23) (.tmp 31) (.const (.bool false)), none, 16, none⟩,
    ⟨(some 33), .move (.tmp 32), none, 16, none⟩,
    ⟨(some 34), .move (.tmp 0), (some (33, true)), 16, none⟩,
    ⟨(some 35), .move (.tmp 1), (some (33, true)), 16, none⟩,
    ⟨(some 36), .move (.tmp 7), (some (33, true)), 16, none⟩,
    ⟨(some 37), .call (.func 67) [(false, (.tmp 34)), (false, (.tmp 35)), (false, (.tmp 36))] false 4, (some (33, true)), 16, none⟩,
    ⟨(some 38), .move (.tmp 0), (some (33, true)), 20, none⟩,
    ⟨(some 39), .move (.tmp 1), (some (33, true)), 20, none⟩,
    ⟨(some 40), .build [.int .i64 (0), .int .i64 (0)] [(0, 1, (.const (.int .i64 (3)))), (1, 1, (.const (.int .i64 (4))))], (some (33, true)), 20, none⟩,
    ⟨(some 41), .move (.tmp 7), (some (33, true)), 20, none⟩,
    ⟨(some 42), .call (.func 65) [(false, (.tmp 38)), (false, (.tmp 39)), (false, (.tmp 40)), (false, (.tmp 41))] false 4, (some (33, true)), 20, none⟩,
    ⟨(some 43), .bin .eql (.tmp 37) (.tmp 42), (some (33, true)), 24, none⟩,
    ⟨(some 44), .pick (.tmp 33) (.tmp 43) (.const (.bool false)), none, 24, none⟩,
    ⟨(some 6), .move (.tmp 44), none, 24, none⟩]) (.ret))))), [.tmp 6], true⟩
def g_11 : List AVal → Heap → Option (AVal × Heap) := runBody (tab [(62, g_62), (63, g_63), (64, g_64), (65, g_65), (66, g_66), (67, g_67)]) a_11
theorem v_11 : Valid Try.prog (tab [(62, g_62), (63, g_63), (64, g_64), (65, g_65), (66, g_66), (67, g_67)]) := (tab_cons ok_62 (tab_cons ok_63 (tab_cons ok_64 (tab_cons ok_65 (tab_cons ok_66 (tab_cons ok_67 tab_nil))))))
theorem k_11 : chkFunc Try.prog Try.f11 a_11 = true := by kernel_rfl
theorem ok_11 : Ok Try.prog 11 g_11 := Ok.body mixed v_11 Try.func11 k_11
attribute [irreducible] g_11
end AM
end Go.Proofs.Ytofboijlcjgnnaa
