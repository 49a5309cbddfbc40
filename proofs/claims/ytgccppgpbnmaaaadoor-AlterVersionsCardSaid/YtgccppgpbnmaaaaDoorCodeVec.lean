/-
  The abstract code of the functions that the statement reaches, and that each is its function's body. (Written by program.)
-/
import Derived.Test.YtgccppgpbnmaaaaDoorAmQ
import Derived.Test.YtgccppgpbnmaaaaDoorProg
import Derived.ProofKit
set_option linter.unusedVariables false
set_option maxRecDepth 100000
set_option maxHeartbeats 4000000
namespace Go.Proofs.YtgccppgpbnmaaaaDoor
namespace AM
theorem mixed : Tryd.prog.follows .mixedOrders = true := by kernel_rfl
/- drayage/vec.numbers -/
def a_80 : AFunc := ⟨12, .seq (.region 2 [
    ⟨(some 1), .box 4 (.tmp 0), none, 0, none⟩,
    ⟨(some 2), .alloc [.int .i64 (0), .int .i64 (0), .int .i64 (0), .int .i64 (0)], none, 1, none⟩]) (.seq (.region 0 [
    ⟨(some 3), .fieldAddr 0 (.tmp 1), none, 0, none⟩,
    ⟨(some 4), .load false 1 (.tmp 3), none, 0, none⟩,
    ⟨(some 5), .fieldAddr 1 (.tmp 1), none, 0, none⟩,
    ⟨(some 6), .load false 1 (.tmp 5), none, 0, none⟩,
    ⟨(some 7), .fieldAddr 2 (.tmp 1), none, 0, none⟩,
    ⟨(some 8), .load false 1 (.tmp 7), none, 0, none⟩,
    ⟨(some 9), .fieldAddr 3 (.tmp 1), none, 0, none⟩,
    ⟨(some 10), .load false 1 (.tmp 9), none, 0, none⟩,
    ⟨(some 11), .build [.int .i64 (0), .int .i64 (0), .int .i64 (0), .int .i64 (0)] [(0, 1, (.tmp 4)), (1, 1, (.tmp 6)), (2, 1, (.tmp 8)), (3, 1, (.tmp 10))], none, 0, none⟩,
    ⟨none, .store 4 (.tmp 2) (.tmp 11), none, 0, none⟩]) (.ret)), [.cell true 4 2], true⟩
def g_80 : List AVal → Heap → Option (AVal × Heap) := runBody (tab []) a_80
theorem v_80 : Valid Tryd.prog (tab []) := tab_nil
theorem k_80 : chkFunc Tryd.prog Tryd.f80 a_80 = true := by kernel_rfl
theorem ok_80 : Ok Tryd.prog 80 g_80 := Ok.body mixed v_80 Tryd.func80 k_80
attribute [irreducible] g_80
/- drayage/vec.Right -/
def b_59_0 : ACode := .seq (.region 0 [
    ⟨(some 8), .bin .lss (.tmp 7) (.const (.int .i64 (4))), none, 0, none⟩]) (.seq (.cond (.tmp 8) (.skip) (.exit 0)) (.seq (.block 1 (.seq (.region 0 [
    ⟨(some 9), .indexVal false 4 1 (.tmp 6) (.tmp 7), none, 0, none⟩,
    ⟨(some 4), .move (.tmp 9), none, 0, none⟩]) (.seq (.region 0 [
    ⟨(some 10), .move (.tmp 4), none, 0, none⟩,
    ⟨(some 11), .bin .lss (.tmp 10) (.const (.int .i64 (0))), none, 0, none⟩,
    ⟨(some 12), .move (.tmp 11), none, 0, none⟩,
    ⟨(some 13), .move (.tmp 4), (some (12, false)), 0, none⟩,
    ⟨(some 14), .bin .gtr (.tmp 13) (.const (.int .i64 (1048576))), (some (12, false)), 0, none⟩,
    ⟨(some 15), .pick (.tmp 12) (.const (.bool true)) (.tmp 14), none, 0, none⟩]) (.cond (.tmp 15) (.seq (.region 0 [
    ⟨(some 2), .move (.const (.bool false)), none, 0, none⟩]) (.ret)) (.skip))))) (.region 0 [
    ⟨(some 16), .bin .add (.tmp 7) (.const (.int .i64 (1))), none, 0, none⟩,
    ⟨(some 7), .move (.tmp 16), none, 0, none⟩])))
def a_59 : AFunc := ⟨17, .seq (.region 1 [
    ⟨(some 1), .box 4 (.tmp 0), none, 0, none⟩,
    ⟨(some 2), .move (.const (.bool false)), none, 1, none⟩]) (.seq (.seq (.region 4 [
    ⟨(some 5), .load true 4 (.tmp 1), none, 0, none⟩,
    ⟨(some 6), .call (.func 80) [(false, (.tmp 5))] false 4, none, 0, none⟩,
    ⟨(some 7), .move (.const (.int .i64 (0))), none, 4, none⟩]) (.block 0 (.loop [6, 7] b_59_0))) (.seq (.region 0 [
    ⟨(some 2), .move (.const (.bool true)), none, 0, none⟩]) (.ret))), [.tmp 2], true⟩
def g_59 : List AVal → Heap → Option (AVal × Heap) := runBody (tab [(80, g_80)]) a_59
theorem v_59 : Valid Tryd.prog (tab [(80, g_80)]) := (tab_cons ok_80 tab_nil)
theorem k_59 : chkFunc Tryd.prog Tryd.f59 a_59 = true := by kernel_rfl
theorem ok_59 : Ok Tryd.prog 59 g_59 := Ok.body mixed v_59 Tryd.func59 k_59
attribute [irreducible] g_59
/- drayage/vec.split -/
def a_131 : AFunc := ⟨18, .seq (.region 2 [
    ⟨(some 1), .box 4 (.tmp 0), none, 0, none⟩,
    ⟨(some 2), .alloc [.cx (0) (0), .cx (0) (0)], none, 1, none⟩]) (.seq (.region 0 [
    ⟨(some 3), .fieldAddr 0 (.tmp 1), none, 0, none⟩,
    ⟨(some 4), .load false 1 (.tmp 3), none, 0, none⟩,
    ⟨(some 5), .flt .ofInt (.tmp 4) (.tmp 4), none, 0, none⟩,
    ⟨(some 6), .fieldAddr 1 (.tmp 1), none, 0, none⟩,
    ⟨(some 7), .load false 1 (.tmp 6), none, 0, none⟩,
    ⟨(some 8), .flt .ofInt (.tmp 7) (.tmp 7), none, 0, none⟩,
    ⟨(some 9), .flt .mk (.tmp 5) (.tmp 8), none, 0, none⟩,
    ⟨(some 10), .fieldAddr 2 (.tmp 1), none, 0, none⟩,
    ⟨(some 11), .load false 1 (.tmp 10), none, 0, none⟩,
    ⟨(some 12), .flt .ofInt (.tmp 11) (.tmp 11), none, 0, none⟩,
    ⟨(some 13), .fieldAddr 3 (.tmp 1), none, 0, none⟩,
    ⟨(some 14), .load false 1 (.tmp 13), none, 0, none⟩,
    ⟨(some 15), .flt .ofInt (.tmp 14) (.tmp 14), none, 0, none⟩,
    ⟨(some 16), .flt .mk (.tmp 12) (.tmp 15), none, 0, none⟩,
    ⟨(some 17), .build [.cx (0) (0), .cx (0) (0)] [(0, 1, (.tmp 9)), (1, 1, (.tmp 16))], none, 0, none⟩,
    ⟨none, .store 2 (.tmp 2) (.tmp 17), none, 0, none⟩]) (.ret)), [.cell true 2 2], true⟩
def g_131 : List AVal → Heap → Option (AVal × Heap) := runBody (tab []) a_131
theorem v_131 : Valid Tryd.prog (tab []) := tab_nil
theorem k_131 : chkFunc Tryd.prog Tryd.f131 a_131 = true := by kernel_rfl
theorem ok_131 : Ok Tryd.prog 131 g_131 := Ok.body mixed v_131 Tryd.func131 k_131
attribute [irreducible] g_131
/- drayage/vec.join -/
def a_138 : AFunc := ⟨20, .seq (.region 2 [
    ⟨(some 1), .box 2 (.tmp 0), none, 0, none⟩,
    ⟨(some 2), .alloc [.int .i64 (0), .int .i64 (0), .int .i64 (0), .int .i64 (0)], none, 1, none⟩]) (.seq (.region 0 [
    ⟨(some 3), .indexArr 2 1 (.tmp 1) (.const (.int .i64 (0))), none, 0, none⟩,
    ⟨(some 4), .load false 1 (.tmp 3), none, 0, none⟩,
    ⟨(some 5), .flt .re (.tmp 4) (.tmp 4), none, 0, none⟩,
    ⟨(some 6), .flt .toInt (.tmp 5) (.tmp 5), none, 0, none⟩,
    ⟨(some 7), .indexArr 2 1 (.tmp 1) (.const (.int .i64 (0))), none, 0, none⟩,
    ⟨(some 8), .load false 1 (.tmp 7), none, 0, none⟩,
    ⟨(some 9), .flt .im (.tmp 8) (.tmp 8), none, 0, none⟩,
    ⟨(some 10), .flt .toInt (.tmp 9) (.tmp 9), none, 0, none⟩,
    ⟨(some 11), .indexArr 2 1 (.tmp 1) (.const (.int .i64 (1))), none, 0, none⟩,
    ⟨(some 12), .load false 1 (.tmp 11), none, 0, none⟩,
    ⟨(some 13), .flt .re (.tmp 12) (.tmp 12), none, 0, none⟩,
    ⟨(some 14), .flt .toInt (.tmp 13) (.tmp 13), none, 0, none⟩,
    ⟨(some 15), .indexArr 2 1 (.tmp 1) (.const (.int .i64 (1))), none, 0, none⟩,
    ⟨(some 16), .load false 1 (.tmp 15), none, 0, none⟩,
    ⟨(some 17), .flt .im (.tmp 16) (.tmp 16), none, 0, none⟩,
    ⟨(some 18), .flt .toInt (.tmp 17) (.tmp 17), none, 0, none⟩,
    ⟨(some 19), .build [.int .i64 (0), .int .i64 (0), .int .i64 (0), .int .i64 (0)] [(0, 1, (.tmp 6)), (1, 1, (.tmp 10)), (2, 1, (.tmp 14)), (3, 1, (.tmp 18))], none, 0, none⟩,
    ⟨none, .store 4 (.tmp 2) (.tmp 19), none, 0, none⟩]) (.ret)), [.cell true 4 2], true⟩
def g_138 : List AVal → Heap → Option (AVal × Heap) := runBody (tab []) a_138
theorem v_138 : Valid Tryd.prog (tab []) := tab_nil
theorem k_138 : chkFunc Tryd.prog Tryd.f138 a_138 = true := by kernel_rfl
theorem ok_138 : Ok Tryd.prog 138 g_138 := Ok.body mixed v_138 Tryd.func138 k_138
attribute [irreducible] g_138
/- drayage/vec.within -/
def a_132 : AFunc := ⟨12, .seq (.region 2 [
    ⟨(some 1), .box 2 (.tmp 0), none, 0, none⟩,
    ⟨(some 2), .alloc [.int .i64 (0), .int .i64 (0), .int .i64 (0), .int .i64 (0)], none, 1, none⟩,
    ⟨(some 3), .move (.const (.int .i64 (0))), none, 2, none⟩]) (.seq (.region 5 [
    ⟨(some 5), .load true 2 (.tmp 1), none, 0, none⟩,
    ⟨(some 6), .call (.func 138) [(false, (.tmp 5))] false 4, none, 0, none⟩,
    ⟨(some 4), .alloc [.int .i64 (0), .int .i64 (0), .int .i64 (0), .int .i64 (0)], none, 4, none⟩,
    ⟨none, .store 4 (.tmp 4) (.tmp 6), none, 5, none⟩]) (.seq (.seq (.region 4 [
    ⟨(some 7), .load true 4 (.tmp 4), none, 0, none⟩,
    ⟨(some 8), .call (.func 59) [(false, (.tmp 7))] false 4, none, 0, none⟩,
    ⟨(some 9), .un .not (.tmp 8), none, 4, none⟩]) (.cond (.tmp 9) (.seq (.region 0 [
    ⟨(some 10), .build [.int .i64 (0), .int .i64 (0), .int .i64 (0), .int .i64 (0)] [], none, 0, none⟩,
    ⟨none, .store 4 (.tmp 2) (.tmp 10), none, 0, none⟩,
    ⟨(some 3), .move (.const (.int .i64 (20))), none, 0, none⟩]) (.ret)) (.skip))) (.seq (.region 0 [
    ⟨(some 11), .load true 4 (.tmp 4), none, 0, none⟩,
    ⟨none, .store 4 (.tmp 2) (.tmp 11), none, 0, none⟩,
    ⟨(some 3), .move (.const (.int .i64 (0))), none, 0, none⟩]) (.ret)))), [.cell true 4 2, .tmp 3], true⟩
def g_132 : List AVal → Heap → Option (AVal × Heap) := runBody (tab [(138, g_138), (59, g_59)]) a_132
theorem v_132 : Valid Tryd.prog (tab [(138, g_138), (59, g_59)]) := (tab_cons ok_138 (tab_cons ok_59 tab_nil))
theorem k_132 : chkFunc Tryd.prog Tryd.f132 a_132 = true := by kernel_rfl
theorem ok_132 : Ok Tryd.prog 132 g_132 := Ok.body mixed v_132 Tryd.func132 k_132
attribute [irreducible] g_132
/- drayage/vec.Times -/
def a_111 : AFunc := ⟨40, .seq (.region 2 [
    ⟨(some 2), .box 4 (.tmp 0), none, 0, none⟩,
    ⟨(some 4), .alloc [.int .i64 (0), .int .i64 (0), .int .i64 (0), .int .i64 (0)], none, 1, none⟩,
    ⟨(some 5), .move (.const (.int .i64 (0))), none, 2, none⟩]) (.seq (.seq (.region 4 [
    ⟨(some 8), .load true 4 (.tmp 2), none, 0, none⟩,
    ⟨(some 9), .call (.func 59) [(false, (.tmp 8))] false 4, none, 0, none⟩,
    ⟨(some 10), .un .not (.tmp 9), none, 4, none⟩,
    ⟨(some 11), .move (.tmp 10), none, 4, none⟩,
    ⟨(some 12), .move (.tmp 1), (some (11, false)), 4, none⟩,
    ⟨(some 13), .bin .lss (.tmp 12) (.const (.int .i64 (0))), (some (11, false)), 4, none⟩,
    ⟨(some 14), .pick (.tmp 11) (.const (.bool true)) (.tmp 13), none, 4, none⟩]) (.cond (.tmp 14) (.seq (.region 0 [
    ⟨(some 15), .build [.int .i64 (0), .int .i64 (0), .int .i64 (0), .int .i64 (0)] [], none, 0, none⟩,
    ⟨none, .store 4 (.tmp 4) (.tmp 15), none, 0, none⟩,
    ⟨(some 5), .move (.const (.int .i64 (2))), none, 0, none⟩]) (.ret)) (.skip))) (.seq (.seq (.region 0 [
    ⟨(some 16), .load true 4 (.tmp 2), none, 0, none⟩,
    ⟨(some 17), .build [.int .i64 (0), .int .i64 (0), .int .i64 (0), .int .i64 (0)] [], none, 0, none⟩,
    ⟨(some 18), .eqAgg (false, [.int .i64, .int .i64, .int .i64, .int .i64]) (.tmp 16) (.tmp 17), none, 0, none⟩]) (.cond (.tmp 18) (.seq (.region 0 [
    ⟨(some 19), .build [.int .i64 (0), .int .i64 (0), .int .i64 (0), .int .i64 (0)] [], none, 0, none⟩,
    ⟨none, .store 4 (.tmp 4) (.tmp 19), none, 0, none⟩,
    ⟨(some 5), .move (.const (.int .i64 (0))), none, 0, none⟩]) (.ret)) (.skip))) (.seq (.seq (.region 0 [
    ⟨(some 20), .move (.tmp 1), none, 0, none⟩,
    ⟨(some 21), .bin .gtr (.tmp 20) (.const (.int .i64 (1048576))), none, 0, none⟩]) (.cond (.tmp 21) (.seq (.region 0 [
    ⟨(some 22), .build [.int .i64 (0), .int .i64 (0), .int .i64 (0), .int .i64 (0)] [], none, 0, none⟩,
    ⟨none, .store 4 (.tmp 4) (.tmp 22), none, 0, none⟩,
    ⟨(some 5), .move (.const (.int .i64 (20))), none, 0, none⟩]) (.ret)) (.skip))) (.seq (.region 5 [
    ⟨(some 23), .load true 4 (.tmp 2), none, 0, none⟩,
    ⟨(some 24), .call (.func 131) [(false, (.tmp 23))] false 4, none, 0, none⟩,
    ⟨(some 25), .move (.tmp 1), none, 4, none⟩,
    ⟨(some 26), .flt .ofInt (.tmp 25) (.tmp 25), none, 4, none⟩,
    ⟨(some 27), .flt .mk (.tmp 26) (.const (.fl (0))), none, 4, none⟩,
    ⟨(some 6), .alloc [.cx (0) (0), .cx (0) (0)], none, 4, none⟩,
    ⟨none, .store 2 (.tmp 6) (.tmp 24), none, 5, none⟩,
    ⟨(some 7), .move (.tmp 27), none, 5, none⟩]) (.seq (.region 4 [
    ⟨(some 28), .indexArr 2 1 (.tmp 6) (.const (.int .i64 (0))), none, 0, none⟩,
    ⟨(some 29), .load false 1 (.tmp 28), none, 0, none⟩,
    ⟨(some 30), .move (.tmp 7), none, 0, none⟩,
    ⟨(some 31), .flt .mul (.tmp 29) (.tmp 30), none, 0, none⟩,
    ⟨(some 32), .indexArr 2 1 (.tmp 6) (.const (.int .i64 (1))), none, 0, none⟩,
    ⟨(some 33), .load false 1 (.tmp 32), none, 0, none⟩,
    ⟨(some 34), .move (.tmp 7), none, 0, none⟩,
    ⟨(some 35), .flt .mul (.tmp 33) (.tmp 34), none, 0, none⟩,
    ⟨(some 36), .build [.cx (0) (0), .cx (0) (0)] [(0, 1, (.tmp 31)), (1, 1, (.tmp 35))], none, 0, none⟩,
    ⟨(some 37), .call (.func 132) [(false, (.tmp 36))] false 4, none, 0, none⟩,
    ⟨(some 38), .extract (.tmp 37) 0, none, 4, none⟩,
    ⟨(some 39), .extract (.tmp 37) 1, none, 4, none⟩,
    ⟨none, .store 4 (.tmp 4) (.tmp 38), none, 4, none⟩,
    ⟨(some 5), .move (.tmp 39), none, 4, none⟩]) (.ret)))))), [.cell true 4 4, .tmp 5], true⟩
def g_111 : List AVal → Heap → Option (AVal × Heap) := runBody (tab [(59, g_59), (131, g_131), (132, g_132)]) a_111
theorem v_111 : Valid Tryd.prog (tab [(59, g_59), (131, g_131), (132, g_132)]) := (tab_cons ok_59 (tab_cons ok_131 (tab_cons ok_132 tab_nil)))
theorem k_111 : chkFunc Tryd.prog Tryd.f111 a_111 = true := by kernel_rfl
theorem ok_111 : Ok Tryd.prog 111 g_111 := Ok.body mixed v_111 Tryd.func111 k_111
attribute [irreducible] g_111
end AM
end Go.Proofs.YtgccppgpbnmaaaaDoor
