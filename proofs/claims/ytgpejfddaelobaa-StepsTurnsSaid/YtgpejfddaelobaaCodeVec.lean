/-
  The abstract code of the functions that the statement reaches, and that each is its function's body. (Written by program.)
-/
import Derived.Test.YtgpejfddaelobaaAmQ
import Derived.Test.YtgpejfddaelobaaProg
import Derived.ProofKit
set_option linter.unusedVariables false
set_option maxRecDepth 100000
set_option maxHeartbeats 4000000
namespace Go.Proofs.Ytgpejfddaelobaa
namespace AM
theorem mixed : Try.prog.follows .mixedOrders = true := by kernel_rfl
/- drayage/vec.numbers -/
def a_114 : AFunc := ⟨12, .seq (.region 2 [
    ⟨(some 1), .box 4 (.tmp 0), none, 0, none⟩,
    ⟨(some 2), .alloc [.int .i64 (0), .int .i64 (0), .int .i64 (0), .int .i64 (0)], none, 1, none⟩]) (.seq (.region 0 [
    ⟨(some 3), .fieldAddr 0 (.tmp 1), none, 0, none⟩,
    ⟨(some 4), .load false 1 (.tmp 3), none, 0, none⟩,
    ⟨(some 5), .fieldAddr 1 (.tmp 1), none, 0, none⟩,
    ⟨(some 6), .load false 1 (.tmp 5), none, 0, none⟩,
    ⟨(some 7), .fieldAddr 2 (.tmp 1), none, 0, none⟩,
    ⟨(some 8), .load false 1 (.tmp 7), none, 0, none⟩,
    ⟨(some 9), .fieldAddr 3 (.tmp 1), none, 0, none⟩,
    ⟨(some 10), .load false 1 (.tmp 9), none, 0, none⟩,
    ⟨(some 11), .build [.int .i64 (0), .int .i64 (0), .int .i64 (0), .int .i64 (0)] [(0, 1, (.tmp 4)), (1, 1, (.tmp 6)), (2, 1, (.tmp 8)), (3, 1, (.tmp 10))], none, 0, none⟩,
    ⟨none, .store 4 (.tmp 2) (.tmp 11), none, 0, none⟩]) (.ret)), [.cell true 4 2], true⟩
def g_114 : List AVal → Heap → Option (AVal × Heap) := runBody (tab []) a_114
theorem v_114 : Valid Try.prog (tab []) := tab_nil
theorem k_114 : chkFunc Try.prog Try.f114 a_114 = true := by kernel_rfl
theorem ok_114 : Ok Try.prog 114 g_114 := Ok.body mixed v_114 Try.func114 k_114
attribute [irreducible] g_114
/- drayage/vec.Right -/
def b_86_0 : ACode := .seq (.region 0 [
    ⟨(some 8), .bin .lss (.tmp 7) (.const (.int .i64 (4))), none, 0, none⟩]) (.seq (.cond (.tmp 8) (.skip) (.exit 0)) (.seq (.block 1 (.seq (.region 0 [
    ⟨(some 9), .indexVal false 4 1 (.tmp 6) (.tmp 7), none, 0, none⟩,
    ⟨(some 4), .move (.tmp 9), none, 0, none⟩]) (.seq (.region 0 [
    ⟨(some 10), .move (.tmp 4), none, 0, none⟩,
    ⟨(some 11), .bin .lss (.tmp 10) (.const (.int .i64 (0))), none, 0, none⟩,
    ⟨(some 12), .move (.tmp 11), none, 0, none⟩,
    ⟨(some 13), .move (.tmp 4), (some (12, false)), 0, none⟩,
    ⟨(some 14), .bin .gtr (.tmp 13) (.const (.int .i64 (1048576))), (some (12, false)), 0, none⟩,
    ⟨(some 15), .pick (.tmp 12) (.const (.bool true)) (.tmp 14), none, 0, none⟩]) (.cond (.tmp 15) (.seq (.region 0 [
    ⟨(some 2), .move (.const (.bool false)), none, 0, none⟩]) (.ret)) (.skip))))) (.region 0 [
    ⟨(some 16), .bin .add (.tmp 7) (.const (.int .i64 (1))), none, 0, none⟩,
    ⟨(some 7), .move (.tmp 16), none, 0, none⟩])))
def a_86 : AFunc := ⟨17, .seq (.region 1 [
    ⟨(some 1), .box 4 (.tmp 0), none, 0, none⟩,
    ⟨(some 2), .move (.const (.bool false)), none, 1, none⟩]) (.seq (.seq (.region 4 [
    ⟨(some 5), .load true 4 (.tmp 1), none, 0, none⟩,
    ⟨(some 6), .call (.func 114) [(false, (.tmp 5))] false 4, none, 0, none⟩,
    ⟨(some 7), .move (.const (.int .i64 (0))), none, 4, none⟩]) (.block 0 (.loop [6, 7] b_86_0))) (.seq (.region 0 [
    ⟨(some 2), .move (.const (.bool true)), none, 0, none⟩]) (.ret))), [.tmp 2], true⟩
def g_86 : List AVal → Heap → Option (AVal × Heap) := runBody (tab [(114, g_114)]) a_86
theorem v_86 : Valid Try.prog (tab [(114, g_114)]) := (tab_cons ok_114 tab_nil)
theorem k_86 : chkFunc Try.prog Try.f86 a_86 = true := by kernel_rfl
theorem ok_86 : Ok Try.prog 86 g_86 := Ok.body mixed v_86 Try.func86 k_86
attribute [irreducible] g_86
/- drayage/vec.split -/
def a_119 : AFunc := ⟨18, .seq (.region 2 [
    ⟨(some 1), .box 4 (.tmp 0), none, 0, none⟩,
    ⟨(some 2), .alloc [.cx (0) (0), .cx (0) (0)], none, 1, none⟩]) (.seq (.region 0 [
    ⟨(some 3), .fieldAddr 0 (.tmp 1), none, 0, none⟩,
    ⟨(some 4), .load false 1 (.tmp 3), none, 0, none⟩,
    ⟨(some 5), .flt .ofInt (.tmp 4) (.tmp 4), none, 0, none⟩,
    ⟨(some 6), .fieldAddr 1 (.tmp 1), none, 0, none⟩,
    ⟨(some 7), .load false 1 (.tmp 6), none, 0, none⟩,
    ⟨(some 8), .flt .ofInt (.tmp 7) (.tmp 7), none, 0, none⟩,
    ⟨(some 9), .flt .mk (.tmp 5) (.tmp 8), none, 0, none⟩,
    ⟨(some 10), .fieldAddr 2 (.tmp 1), none, 0, none⟩,
    ⟨(some 11), .load false 1 (.tmp 10), none, 0, none⟩,
    ⟨(some 12), .flt .ofInt (.tmp 11) (.tmp 11), none, 0, none⟩,
    ⟨(some 13), .fieldAddr 3 (.tmp 1), none, 0, none⟩,
    ⟨(some 14), .load false 1 (.tmp 13), none, 0, none⟩,
    ⟨(some 15), .flt .ofInt (.tmp 14) (.tmp 14), none, 0, none⟩,
    ⟨(some 16), .flt .mk (.tmp 12) (.tmp 15), none, 0, none⟩,
    ⟨(some 17), .build [.cx (0) (0), .cx (0) (0)] [(0, 1, (.tmp 9)), (1, 1, (.tmp 16))], none, 0, none⟩,
    ⟨none, .store 2 (.tmp 2) (.tmp 17), none, 0, none⟩]) (.ret)), [.cell true 2 2], true⟩
def g_119 : List AVal → Heap → Option (AVal × Heap) := runBody (tab []) a_119
theorem v_119 : Valid Try.prog (tab []) := tab_nil
theorem k_119 : chkFunc Try.prog Try.f119 a_119 = true := by kernel_rfl
theorem ok_119 : Ok Try.prog 119 g_119 := Ok.body mixed v_119 Try.func119 k_119
attribute [irreducible] g_119
/- drayage/vec.join -/
def a_130 : AFunc := ⟨20, .seq (.region 2 [
    ⟨(some 1), .box 2 (.tmp 0), none, 0, none⟩,
    ⟨(some 2), .alloc [.int .i64 (0), .int .i64 (0), .int .i64 (0), .int .i64 (0)], none, 1, none⟩]) (.seq (.region 0 [
    ⟨(some 3), .indexArr 2 1 (.tmp 1) (.const (.int .i64 (0))), none, 0, none⟩,
    ⟨(some 4), .load false 1 (.tmp 3), none, 0, none⟩,
    ⟨(some 5), .flt .re (.tmp 4) (.tmp 4), none, 0, none⟩,
    ⟨(some 6), .flt .toInt (.tmp 5) (.tmp 5), none, 0, none⟩,
    ⟨(some 7), .indexArr 2 1 (.tmp 1) (.const (.int .i64 (0))), none, 0, none⟩,
    ⟨(some 8), .load false 1 (.tmp 7), none, 0, none⟩,
    ⟨(some 9), .flt .im (.tmp 8) (.tmp 8), none, 0, none⟩,
    ⟨(some 10), .flt .toInt (.tmp 9) (.tmp 9), none, 0, none⟩,
    ⟨(some 11), .indexArr 2 1 (.tmp 1) (.const (.int .i64 (1))), none, 0, none⟩,
    ⟨(some 12), .load false 1 (.tmp 11), none, 0, none⟩,
    ⟨(some 13), .flt .re (.tmp 12) (.tmp 12), none, 0, none⟩,
    ⟨(some 14), .flt .toInt (.tmp 13) (.tmp 13), none, 0, none⟩,
    ⟨(some 15), .indexArr 2 1 (.tmp 1) (.const (.int .i64 (1))), none, 0, none⟩,
    ⟨(some 16), .load false 1 (.tmp 15), none, 0, none⟩,
    ⟨(some 17), .flt .im (.tmp 16) (.tmp 16), none, 0, none⟩,
    ⟨(some 18), .flt .toInt (.tmp 17) (.tmp 17), none, 0, none⟩,
    ⟨(some 19), .build [.int .i64 (0), .int .i64 (0), .int .i64 (0), .int .i64 (0)] [(0, 1, (.tmp 6)), (1, 1, (.tmp 10)), (2, 1, (.tmp 14)), (3, 1, (.tmp 18))], none, 0, none⟩,
    ⟨none, .store 4 (.tmp 2) (.tmp 19), none, 0, none⟩]) (.ret)), [.cell true 4 2], true⟩
def g_130 : List AVal → Heap → Option (AVal × Heap) := runBody (tab []) a_130
theorem v_130 : Valid Try.prog (tab []) := tab_nil
theorem k_130 : chkFunc Try.prog Try.f130 a_130 = true := by kernel_rfl
theorem ok_130 : Ok Try.prog 130 g_130 := Ok.body mixed v_130 Try.func130 k_130
attribute [irreducible] g_130
/- drayage/vec.within -/
def a_120 : AFunc := ⟨12, .seq (.region 2 [
    ⟨(some 1), .box 2 (.tmp 0), none, 0, none⟩,
    ⟨(some 2), .alloc [.int .i64 (0), .int .i64 (0), .int .i64 (0), .int .i64 (0)], none, 1, none⟩,
    ⟨(some 3), .move (.const (.int .i64 (0))), none, 2, none⟩]) (.seq (.region 5 [
    ⟨(some 5), .load true 2 (.tmp 1), none, 0, none⟩,
    ⟨(some 6), .call (.func 130) [(false, (.tmp 5))] false 4, none, 0, none⟩,
    ⟨(some 4), .alloc [.int .i64 (0), .int .i64 (0), .int .i64 (0), .int .i64 (0)], none, 4, none⟩,
    ⟨none, .store 4 (.tmp 4) (.tmp 6), none, 5, none⟩]) (.seq (.seq (.region 4 [
    ⟨(some 7), .load true 4 (.tmp 4), none, 0, none⟩,
    ⟨(some 8), .call (.func 86) [(false, (.tmp 7))] false 4, none, 0, none⟩,
    ⟨(some 9), .un .not (.tmp 8), none, 4, none⟩]) (.cond (.tmp 9) (.seq (.region 0 [
    ⟨(some 10), .build [.int .i64 (0), .int .i64 (0), .int .i64 (0), .int .i64 (0)] [], none, 0, none⟩,
    ⟨none, .store 4 (.tmp 2) (.tmp 10), none, 0, none⟩,
    ⟨(some 3), .move (.const (.int .i64 (20))), none, 0, none⟩]) (.ret)) (.skip))) (.seq (.region 0 [
    ⟨(some 11), .load true 4 (.tmp 4), none, 0, none⟩,
    ⟨none, .store 4 (.tmp 2) (.tmp 11), none, 0, none⟩,
    ⟨(some 3), .move (.const (.int .i64 (0))), none, 0, none⟩]) (.ret)))), [.cell true 4 2, .tmp 3], true⟩
def g_120 : List AVal → Heap → Option (AVal × Heap) := runBody (tab [(130, g_130), (86, g_86)]) a_120
theorem v_120 : Valid Try.prog (tab [(130, g_130), (86, g_86)]) := (tab_cons ok_130 (tab_cons ok_86 tab_nil))
theorem k_120 : chkFunc Try.prog Try.f120 a_120 = true := by kernel_rfl
theorem ok_120 : Ok Try.prog 120 g_120 := Ok.body mixed v_120 Try.func120 k_120
attribute [irreducible] g_120
/- drayage/vec.Sub -/
def a_92 : AFunc := ⟨35, .seq (.region 3 [
    ⟨(some 2), .box 4 (.tmp 0), none, 0, none⟩,
    ⟨(some 3), .box 4 (.tmp 1), none, 1, none⟩,
    ⟨(some 4), .alloc [.int .i64 (0), .int .i64 (0), .int .i64 (0), .int .i64 (0)], none, 2, none⟩,
    ⟨(some 5), .move (.const (.int .i64 (0))), none, 3, none⟩]) (.seq (.seq (.region 8 [
    ⟨(some 8), .load true 4 (.tmp 2), none, 0, none⟩,
    ⟨(some 9), .call (.func 86) [(false, (.tmp 8))] false 4, none, 0, none⟩,
    ⟨(some 10), .un .not (.tmp 9), none, 4, none⟩,
    ⟨(some 11), .move (.tmp 10), none, 4, none⟩,
    ⟨(some 12), .load true 4 (.tmp 3), (some (11, false)), 4, none⟩,
    ⟨(some 13), .call (.func 86) [(false, (.tmp 12))] false 4, (some (11, false)), 4, none⟩,
    ⟨(some 14), .un .not (.tmp 13), (some (11, false)), 8, none⟩,
    ⟨(some 15), .pick (.tmp 11) (.const (.bool true)) (.tmp 14), none, 8, none⟩]) (.cond (.tmp 15) (.seq (.region 0 [
    ⟨(some 16), .build [.int .i64 (0), .int .i64 (0), .int .i64 (0), .int .i64 (0)] [], none, 0, none⟩,
    ⟨none, .store 4 (.tmp 4) (.tmp 16), none, 0, none⟩,
    ⟨(some 5), .move (.const (.int .i64 (2))), none, 0, none⟩]) (.ret)) (.skip))) (.seq (.region 10 [
    ⟨(some 17), .load true 4 (.tmp 2), none, 0, (some ([], none))⟩,
    ⟨(some 18), .call (.func 119) [(false, (.tmp 17))] true 4, none, 0, (some ([], none))⟩,
    ⟨(some 19), .load true 4 (.tmp 3), none, 4, (some ([], none))⟩,
    ⟨(some 20), .call (.func 119) [(false, (.tmp 19))] true 4, none, 4, (some ([0, 1, 2, 3], none))⟩,
    ⟨(some 6), .alloc [.cx (0) (0), .cx (0) (0)], none, 8, (some ([], none))⟩,
    ⟨(some 7), .alloc [.cx (0) (0), .cx (0) (0)], none, 9, (some ([], none))⟩,
    ⟨none, .store 2 (.tmp 6) (.tmp 18), none, 10, (some ([0, 1, 2, 3, 4, 5, 6, 7, 8, 9], none))⟩,
    ⟨none, .store 2 (.tmp 7) (.tmp 20), none, 10, (some ([0, 1, 2, 3, 4, 5, 6, 7, 8, 9], none))⟩]) (.seq (.region 4 [
    ⟨(some 21), .indexArr 2 1 (.tmp 6) (.const (.int .i64 (0))), none, 0, none⟩,
    ⟨(some 22), .load false 1 (.tmp 21), none, 0, none⟩,
    ⟨(some 23), .indexArr 2 1 (.tmp 7) (.const (.int .i64 (0))), none, 0, none⟩,
    ⟨(some 24), .load false 1 (.tmp 23), none, 0, none⟩,
    ⟨(some 25), .flt .sub (.tmp 22) (.tmp 24), none, 0, none⟩,
    ⟨(some 26), .indexArr 2 1 (.tmp 6) (.const (.int .i64 (1))), none, 0, none⟩,
    ⟨(some 27), .load false 1 (.tmp 26), none, 0, none⟩,
    ⟨(some 28), .indexArr 2 1 (.tmp 7) (.const (.int .i64 (1))), none, 0, none⟩,
    ⟨(some 29), .load false 1 (.tmp 28), none, 0, none⟩,
    ⟨(some 30), .flt .sub (.tmp 27) (.tmp 29), none, 0, none⟩,
    ⟨(some 31), .build [.cx (0) (0), .cx (0) (0)] [(0, 1, (.tmp 25)), (1, 1, (.tmp 30))], none, 0, none⟩,
    ⟨(some 32), .call (.func 120) [(false, (.tmp 31))] false 4, none, 0, none⟩,
    ⟨(some 33), .extract (.tmp 32) 0, none, 4, none⟩,
    ⟨(some 34), .extract (.tmp 32) 1, none, 4, none⟩,
    ⟨none, .store 4 (.tmp 4) (.tmp 33), none, 4, none⟩,
    ⟨(some 5), .move (.tmp 34), none, 4, none⟩]) (.ret)))), [.cell true 4 4, .tmp 5], true⟩
def g_92 : List AVal → Heap → Option (AVal × Heap) := runBody (tab [(86, g_86), (119, g_119), (120, g_120)]) a_92
theorem v_92 : Valid Try.prog (tab [(86, g_86), (119, g_119), (120, g_120)]) := (tab_cons ok_86 (tab_cons ok_119 (tab_cons ok_120 tab_nil)))
theorem k_92 : chkFunc Try.prog Try.f92 a_92 = true := by kernel_rfl
theorem ok_92 : Ok Try.prog 92 g_92 := Ok.body mixed v_92 Try.func92 k_92
attribute [irreducible] g_92
/- drayage/vec.Add -/
def a_93 : AFunc := ⟨35, .seq (.region 3 [
    ⟨(some 2), .box 4 (.tmp 0), none, 0, none⟩,
    ⟨(some 3), .box 4 (.tmp 1), none, 1, none⟩,
    ⟨(some 4), .alloc [.int .i64 (0), .int .i64 (0), .int .i64 (0), .int .i64 (0)], none, 2, none⟩,
    ⟨(some 5), .move (.const (.int .i64 (0))), none, 3, none⟩]) (.seq (.seq (.region 8 [
    ⟨(some 8), .load true 4 (.tmp 2), none, 0, none⟩,
    ⟨(some 9), .call (.func 86) [(false, (.tmp 8))] false 4, none, 0, none⟩,
    ⟨(some 10), .un .not (.tmp 9), none, 4, none⟩,
    ⟨(some 11), .move (.tmp 10), none, 4, none⟩,
    ⟨(some 12), .load true 4 (.tmp 3), (some (11, false)), 4, none⟩,
    ⟨(some 13), .call (.func 86) [(false, (.tmp 12))] false 4, (some (11, false)), 4, none⟩,
    ⟨(some 14), .un .not (.tmp 13), (some (11, false)), 8, none⟩,
    ⟨(some 15), .pick (.tmp 11) (.const (.bool true)) (.tmp 14), none, 8, none⟩]) (.cond (.tmp 15) (.seq (.region 0 [
    ⟨(some 16), .build [.int .i64 (0), .int .i64 (0), .int .i64 (0), .int .i64 (0)] [], none, 0, none⟩,
    ⟨none, .store 4 (.tmp 4) (.tmp 16), none, 0, none⟩,
    ⟨(some 5), .move (.const (.int .i64 (2))), none, 0, none⟩]) (.ret)) (.skip))) (.seq (.region 10 [
    ⟨(some 17), .load true 4 (.tmp 2), none, 0, (some ([], none))⟩,
    ⟨(some 18), .call (.func 119) [(false, (.tmp 17))] true 4, none, 0, (some ([], none))⟩,
    ⟨(some 19), .load true 4 (.tmp 3), none, 4, (some ([], none))⟩,
    ⟨(some 20), .call (.func 119) [(false, (.tmp 19))] true 4, none, 4, (some ([0, 1, 2, 3], none))⟩,
    ⟨(some 6), .alloc [.cx (0) (0), .cx (0) (0)], none, 8, (some ([], none))⟩,
    ⟨(some 7), .alloc [.cx (0) (0), .cx (0) (0)], none, 9, (some ([], none))⟩,
    ⟨none, .store 2 (.tmp 6) (.tmp 18), none, 10, (some ([0, 1, 2, 3, 4, 5, 6, 7, 8, 9], none))⟩,
    ⟨none, .store 2 (.tmp 7) (.tmp 20), none, 10, (some ([0, 1, 2, 3, 4, 5, 6, 7, 8, 9], none))⟩]) (.seq (.region 4 [
    ⟨(some 21), .indexArr 2 1 (.tmp 6) (.const (.int .i64 (0))), none, 0, none⟩,
    ⟨(some 22), .load false 1 (.tmp 21), none, 0, none⟩,
    ⟨(some 23), .indexArr 2 1 (.tmp 7) (.const (.int .i64 (0))), none, 0, none⟩,
    ⟨(some 24), .load false 1 (.tmp 23), none, 0, none⟩,
    ⟨(some 25), .flt .add (.tmp 22) (.tmp 24), none, 0, none⟩,
    ⟨(some 26), .indexArr 2 1 (.tmp 6) (.const (.int .i64 (1))), none, 0, none⟩,
    ⟨(some 27), .load false 1 (.tmp 26), none, 0, none⟩,
    ⟨(some 28), .indexArr 2 1 (.tmp 7) (.const (.int .i64 (1))), none, 0, none⟩,
    ⟨(some 29), .load false 1 (.tmp 28), none, 0, none⟩,
    ⟨(some 30), .flt .add (.tmp 27) (.tmp 29), none, 0, none⟩,
    ⟨(some 31), .build [.cx (0) (0), .cx (0) (0)] [(0, 1, (.tmp 25)), (1, 1, (.tmp 30))], none, 0, none⟩,
    ⟨(some 32), .call (.func 120) [(false, (.tmp 31))] false 4, none, 0, none⟩,
    ⟨(some 33), .extract (.tmp 32) 0, none, 4, none⟩,
    ⟨(some 34), .extract (.tmp 32) 1, none, 4, none⟩,
    ⟨none, .store 4 (.tmp 4) (.tmp 33), none, 4, none⟩,
    ⟨(some 5), .move (.tmp 34), none, 4, none⟩]) (.ret)))), [.cell true 4 4, .tmp 5], true⟩
def g_93 : List AVal → Heap → Option (AVal × Heap) := runBody (tab [(86, g_86), (119, g_119), (120, g_120)]) a_93
theorem v_93 : Valid Try.prog (tab [(86, g_86), (119, g_119), (120, g_120)]) := (tab_cons ok_86 (tab_cons ok_119 (tab_cons ok_120 tab_nil)))
theorem k_93 : chkFunc Try.prog Try.f93 a_93 = true := by kernel_rfl
theorem ok_93 : Ok Try.prog 93 g_93 := Ok.body mixed v_93 Try.func93 k_93
attribute [irreducible] g_93
end AM
end Go.Proofs.Ytgpejfddaelobaa
