/-
  What the proof of PlanStays leans on, part 10. (Many texts laid together by program.)
-/
import Derived.Test.YtmnhkpekmgobbaaPkTi
import Derived.Test.YtmnhkpekmgobbaaProg
import Derived.ProofKit
import Derived.WalkKit
import Derived.LoopTactic
import Derived.Below
import Derived.Laws.OwnMore
import Derived.Laws.Rows
import Derived.Deep.Draws
import Derived.Deep.AppendLies
import Derived.Deep.QuietTactic
import Derived.Deep.OwnRows
import Derived.BigQuiet
import Derived.Lib.Hide
import Derived.Outline
import Derived.OpenShut
import Derived.Deep.Slices
import Derived.ChangeOld
import Derived.Carry
import Derived.ScopeJumps
import Derived.Maps.AppendAt
import Derived.RegionTactic
import Derived.OwnWalk
import Derived.Lib.SliceRun
import Derived.WalkSpells
import Derived.WalkLawsBesides
set_option linter.unnecessarySimpa false
set_option linter.unusedSimpArgs false
set_option linter.unusedVariables false
section
set_option maxRecDepth 100000
set_option maxHeartbeats 4000000
namespace Go.Proofs.Ytmnhkpekmgobbaa
namespace AM
theorem mixed : Try.prog.follows .mixedOrders = true := by kernel_rfl
def a_160 : AFunc := ⟨12, .seq (.region 2 [
   ⟨(some 1), .box 4 (.tmp 0), none, 0, none⟩,
   ⟨(some 2), .alloc [.int .i64 (0), .int .i64 (0), .int .i64 (0), .int .i64 (0)], none, 1, none⟩]) (.seq (.region 0 [
   ⟨(some 3), .fieldAddr 0 (.tmp 1), none, 0, none⟩,
   ⟨(some 4), .load false 1 (.tmp 3), none, 0, none⟩,
   ⟨(some 5), .fieldAddr 1 (.tmp 1), none, 0, none⟩,
   ⟨(some 6), .load false 1 (.tmp 5), none, 0, none⟩,
   ⟨(some 7), .fieldAddr 2 (.tmp 1), none, 0, none⟩,
   ⟨(some 8), .load false 1 (.tmp 7), none, 0, none⟩,
   ⟨(some 9), .fieldAddr 3 (.tmp 1), none, 0, none⟩,
   ⟨(some 10), .load false 1 (.tmp 9), none, 0, none⟩,
   ⟨(some 11), .build [.int .i64 (0), .int .i64 (0), .int .i64 (0), .int .i64 (0)] [(0, 1, (.tmp 4)), (1, 1, (.tmp 6)), (2, 1, (.tmp 8)), (3, 1, (.tmp 10))], none, 0, none⟩,
   ⟨none, .store 4 (.tmp 2) (.tmp 11), none, 0, none⟩]) (.ret)), [.cell true 4 2], true⟩
def g_160 : List AVal → Heap → Option (AVal × Heap) := runBody (tab []) a_160
theorem v_160 : Valid Try.prog (tab []) := tab_nil
theorem k_160 : chkFunc Try.prog Try.f160 a_160 = true := by kernel_rfl
theorem ok_160 : Ok Try.prog 160 g_160 := Ok.body mixed v_160 Try.func160 k_160
attribute [irreducible] g_160
def b_108_0 : ACode := .seq (.region 0 [
   ⟨(some 8), .bin .lss (.tmp 7) (.const (.int .i64 (4))), none, 0, none⟩]) (.seq (.cond (.tmp 8) (.skip) (.exit 0)) (.seq (.block 1 (.seq (.region 0 [
   ⟨(some 9), .indexVal false 4 1 (.tmp 6) (.tmp 7), none, 0, none⟩,
   ⟨(some 4), .move (.tmp 9), none, 0, none⟩]) (.seq (.region 0 [
   ⟨(some 10), .move (.tmp 4), none, 0, none⟩,
   ⟨(some 11), .bin .lss (.tmp 10) (.const (.int .i64 (0))), none, 0, none⟩,
   ⟨(some 12), .move (.tmp 11), none, 0, none⟩,
   ⟨(some 13), .move (.tmp 4), (some (12, false)), 0, none⟩,
   ⟨(some 14), .bin .gtr (.tmp 13) (.const (.int .i64 (1048576))), (some (12, false)), 0, none⟩,
   ⟨(some 15), .pick (.tmp 12) (.const (.bool true)) (.tmp 14), none, 0, none⟩]) (.cond (.tmp 15) (.seq (.region 0 [
   ⟨(some 2), .move (.const (.bool false)), none, 0, none⟩]) (.ret)) (.skip))))) (.region 0 [
   ⟨(some 16), .bin .add (.tmp 7) (.const (.int .i64 (1))), none, 0, none⟩,
   ⟨(some 7), .move (.tmp 16), none, 0, none⟩])))
def a_108 : AFunc := ⟨17, .seq (.region 1 [
   ⟨(some 1), .box 4 (.tmp 0), none, 0, none⟩,
   ⟨(some 2), .move (.const (.bool false)), none, 1, none⟩]) (.seq (.seq (.region 4 [
   ⟨(some 5), .load true 4 (.tmp 1), none, 0, none⟩,
   ⟨(some 6), .call (.func 160) [(false, (.tmp 5))] false 4, none, 0, none⟩,
   ⟨(some 7), .move (.const (.int .i64 (0))), none, 4, none⟩]) (.block 0 (.loop [6, 7] b_108_0))) (.seq (.region 0 [
   ⟨(some 2), .move (.const (.bool true)), none, 0, none⟩]) (.ret))), [.tmp 2], true⟩
def g_108 : List AVal → Heap → Option (AVal × Heap) := runBody (tab [(160, g_160)]) a_108
theorem v_108 : Valid Try.prog (tab [(160, g_160)]) := (tab_cons ok_160 tab_nil)
theorem k_108 : chkFunc Try.prog Try.f108 a_108 = true := by kernel_rfl
theorem ok_108 : Ok Try.prog 108 g_108 := Ok.body mixed v_108 Try.func108 k_108
attribute [irreducible] g_108
def a_158 : AFunc := ⟨18, .seq (.region 2 [
   ⟨(some 1), .box 4 (.tmp 0), none, 0, none⟩,
   ⟨(some 2), .alloc [.cx (0) (0), .cx (0) (0)], none, 1, none⟩]) (.seq (.region 0 [
   ⟨(some 3), .fieldAddr 0 (.tmp 1), none, 0, none⟩,
   ⟨(some 4), .load false 1 (.tmp 3), none, 0, none⟩,
   ⟨(some 5), .flt .ofInt (.tmp 4) (.tmp 4), none, 0, none⟩,
   ⟨(some 6), .fieldAddr 1 (.tmp 1), none, 0, none⟩,
   ⟨(some 7), .load false 1 (.tmp 6), none, 0, none⟩,
   ⟨(some 8), .flt .ofInt (.tmp 7) (.tmp 7), none, 0, none⟩,
   ⟨(some 9), .flt .mk (.tmp 5) (.tmp 8), none, 0, none⟩,
   ⟨(some 10), .fieldAddr 2 (.tmp 1), none, 0, none⟩,
   ⟨(some 11), .load false 1 (.tmp 10), none, 0, none⟩,
   ⟨(some 12), .flt .ofInt (.tmp 11) (.tmp 11), none, 0, none⟩,
   ⟨(some 13), .fieldAddr 3 (.tmp 1), none, 0, none⟩,
   ⟨(some 14), .load false 1 (.tmp 13), none, 0, none⟩,
   ⟨(some 15), .flt .ofInt (.tmp 14) (.tmp 14), none, 0, none⟩,
   ⟨(some 16), .flt .mk (.tmp 12) (.tmp 15), none, 0, none⟩,
   ⟨(some 17), .build [.cx (0) (0), .cx (0) (0)] [(0, 1, (.tmp 9)), (1, 1, (.tmp 16))], none, 0, none⟩,
   ⟨none, .store 2 (.tmp 2) (.tmp 17), none, 0, none⟩]) (.ret)), [.cell true 2 2], true⟩
def g_158 : List AVal → Heap → Option (AVal × Heap) := runBody (tab []) a_158
theorem v_158 : Valid Try.prog (tab []) := tab_nil
theorem k_158 : chkFunc Try.prog Try.f158 a_158 = true := by kernel_rfl
theorem ok_158 : Ok Try.prog 158 g_158 := Ok.body mixed v_158 Try.func158 k_158
attribute [irreducible] g_158
def a_185 : AFunc := ⟨20, .seq (.region 2 [
   ⟨(some 1), .box 2 (.tmp 0), none, 0, none⟩,
   ⟨(some 2), .alloc [.int .i64 (0), .int .i64 (0), .int .i64 (0), .int .i64 (0)], none, 1, none⟩]) (.seq (.region 0 [
   ⟨(some 3), .indexArr 2 1 (.tmp 1) (.const (.int .i64 (0))), none, 0, none⟩,
   ⟨(some 4), .load false 1 (.tmp 3), none, 0, none⟩,
   ⟨(some 5), .flt .re (.tmp 4) (.tmp 4), none, 0, none⟩,
   ⟨(some 6), .flt .toInt (.tmp 5) (.tmp 5), none, 0, none⟩,
   ⟨(some 7), .indexArr 2 1 (.tmp 1) (.const (.int .i64 (0))), none, 0, none⟩,
   ⟨(some 8), .load false 1 (.tmp 7), none, 0, none⟩,
   ⟨(some 9), .flt .im (.tmp 8) (.tmp 8), none, 0, none⟩,
   ⟨(some 10), .flt .toInt (.tmp 9) (.tmp 9), none, 0, none⟩,
   ⟨(some 11), .indexArr 2 1 (.tmp 1) (.const (.int .i64 (1))), none, 0, none⟩,
   ⟨(some 12), .load false 1 (.tmp 11), none, 0, none⟩,
   ⟨(some 13), .flt .re (.tmp 12) (.tmp 12), none, 0, none⟩,
   ⟨(some 14), .flt .toInt (.tmp 13) (.tmp 13), none, 0, none⟩,
   ⟨(some 15), .indexArr 2 1 (.tmp 1) (.const (.int .i64 (1))), none, 0, none⟩,
   ⟨(some 16), .load false 1 (.tmp 15), none, 0, none⟩,
   ⟨(some 17), .flt .im (.tmp 16) (.tmp 16), none, 0, none⟩,
   ⟨(some 18), .flt .toInt (.tmp 17) (.tmp 17), none, 0, none⟩,
   ⟨(some 19), .build [.int .i64 (0), .int .i64 (0), .int .i64 (0), .int .i64 (0)] [(0, 1, (.tmp 6)), (1, 1, (.tmp 10)), (2, 1, (.tmp 14)), (3, 1, (.tmp 18))], none, 0, none⟩,
   ⟨none, .store 4 (.tmp 2) (.tmp 19), none, 0, none⟩]) (.ret)), [.cell true 4 2], true⟩
def g_185 : List AVal → Heap → Option (AVal × Heap) := runBody (tab []) a_185
theorem v_185 : Valid Try.prog (tab []) := tab_nil
theorem k_185 : chkFunc Try.prog Try.f185 a_185 = true := by kernel_rfl
theorem ok_185 : Ok Try.prog 185 g_185 := Ok.body mixed v_185 Try.func185 k_185
attribute [irreducible] g_185
def a_159 : AFunc := ⟨12, .seq (.region 2 [
   ⟨(some 1), .box 2 (.tmp 0), none, 0, none⟩,
   ⟨(some 2), .alloc [.int .i64 (0), .int .i64 (0), .int .i64 (0), .int .i64 (0)], none, 1, none⟩,
   ⟨(some 3), .move (.const (.int .i64 (0))), none, 2, none⟩]) (.seq (.region 5 [
   ⟨(some 5), .load true 2 (.tmp 1), none, 0, none⟩,
   ⟨(some 6), .call (.func 185) [(false, (.tmp 5))] false 4, none, 0, none⟩,
   ⟨(some 4), .alloc [.int .i64 (0), .int .i64 (0), .int .i64 (0), .int .i64 (0)], none, 4, none⟩,
   ⟨none, .store 4 (.tmp 4) (.tmp 6), none, 5, none⟩]) (.seq (.seq (.region 4 [
   ⟨(some 7), .load true 4 (.tmp 4), none, 0, none⟩,
   ⟨(some 8), .call (.func 108) [(false, (.tmp 7))] false 4, none, 0, none⟩,
   ⟨(some 9), .un .not (.tmp 8), none, 4, none⟩]) (.cond (.tmp 9) (.seq (.region 0 [
   ⟨(some 10), .build [.int .i64 (0), .int .i64 (0), .int .i64 (0), .int .i64 (0)] [], none, 0, none⟩,
   ⟨none, .store 4 (.tmp 2) (.tmp 10), none, 0, none⟩,
   ⟨(some 3), .move (.const (.int .i64 (20))), none, 0, none⟩]) (.ret)) (.skip))) (.seq (.region 0 [
   ⟨(some 11), .load true 4 (.tmp 4), none, 0, none⟩,
   ⟨none, .store 4 (.tmp 2) (.tmp 11), none, 0, none⟩,
   ⟨(some 3), .move (.const (.int .i64 (0))), none, 0, none⟩]) (.ret)))), [.cell true 4 2, .tmp 3], true⟩
def g_159 : List AVal → Heap → Option (AVal × Heap) := runBody (tab [(185, g_185), (108, g_108)]) a_159
theorem v_159 : Valid Try.prog (tab [(185, g_185), (108, g_108)]) := (tab_cons ok_185 (tab_cons ok_108 tab_nil))
theorem k_159 : chkFunc Try.prog Try.f159 a_159 = true := by kernel_rfl
theorem ok_159 : Ok Try.prog 159 g_159 := Ok.body mixed v_159 Try.func159 k_159
attribute [irreducible] g_159
def a_109 : AFunc := ⟨35, .seq (.region 3 [
   ⟨(some 2), .box 4 (.tmp 0), none, 0, none⟩,
   ⟨(some 3), .box 4 (.tmp 1), none, 1, none⟩,
   ⟨(some 4), .alloc [.int .i64 (0), .int .i64 (0), .int .i64 (0), .int .i64 (0)], none, 2, none⟩,
   ⟨(some 5), .move (.const (.int .i64 (0))), none, 3, none⟩]) (.seq (.seq (.region 8 [
   ⟨(some 8), .load true 4 (.tmp 2), none, 0, none⟩,
   ⟨(some 9), .call (.func 108) [(false, (.tmp 8))] false 4, none, 0, none⟩,
   ⟨(some 10), .un .not (.tmp 9), none, 4, none⟩,
   ⟨(some 11), .move (.tmp 10), none, 4, none⟩,
   ⟨(some 12), .load true 4 (.tmp 3), (some (11, false)), 4, none⟩,
   ⟨(some 13), .call (.func 108) [(false, (.tmp 12))] false 4, (some (11, false)), 4, none⟩,
   ⟨(some 14), .un .not (.tmp 13), (some (11, false)), 8, none⟩,
   ⟨(some 15), .pick (.tmp 11) (.const (.bool true)) (.tmp 14), none, 8, none⟩]) (.cond (.tmp 15) (.seq (.region 0 [
   ⟨(some 16), .build [.int .i64 (0), .int .i64 (0), .int .i64 (0), .int .i64 (0)] [], none, 0, none⟩,
   ⟨none, .store 4 (.tmp 4) (.tmp 16), none, 0, none⟩,
   ⟨(some 5), .move (.const (.int .i64 (2))), none, 0, none⟩]) (.ret)) (.skip))) (.seq (.region 10 [
   ⟨(some 17), .load true 4 (.tmp 2), none, 0, (some ([], none))⟩,
   ⟨(some 18), .call (.func 158) [(false, (.tmp 17))] true 4, none, 0, (some ([], none))⟩,
   ⟨(some 19), .load true 4 (.tmp 3), none, 4, (some ([], none))⟩,
   ⟨(some 20), .call (.func 158) [(false, (.tmp 19))] true 4, none, 4, (some ([0, 1, 2, 3], none))⟩,
   ⟨(some 6), .alloc [.cx (0) (0), .cx (0) (0)], none, 8, (some ([], none))⟩,
   ⟨(some 7), .alloc [.cx (0) (0), .cx (0) (0)], none, 9, (some ([], none))⟩,
   ⟨none, .store 2 (.tmp 6) (.tmp 18), none, 10, (some ([0, 1, 2, 3, 4, 5, 6, 7, 8, 9], none))⟩,
   ⟨none, .store 2 (.tmp 7) (.tmp 20), none, 10, (some ([0, 1, 2, 3, 4, 5, 6, 7, 8, 9], none))⟩]) (.seq (.region 4 [
   ⟨(some 21), .indexArr 2 1 (.tmp 6) (.const (.int .i64 (0))), none, 0, none⟩,
   ⟨(some 22), .load false 1 (.tmp 21), none, 0, none⟩,
   ⟨(some 23), .indexArr 2 1 (.tmp 7) (.const (.int .i64 (0))), none, 0, none⟩,
   ⟨(some 24), .load false 1 (.tmp 23), none, 0, none⟩,
   ⟨(some 25), .flt .sub (.tmp 22) (.tmp 24), none, 0, none⟩,
   ⟨(some 26), .indexArr 2 1 (.tmp 6) (.const (.int .i64 (1))), none, 0, none⟩,
   ⟨(some 27), .load false 1 (.tmp 26), none, 0, none⟩,
   ⟨(some 28), .indexArr 2 1 (.tmp 7) (.const (.int .i64 (1))), none, 0, none⟩,
   ⟨(some 29), .load false 1 (.tmp 28), none, 0, none⟩,
   ⟨(some 30), .flt .sub (.tmp 27) (.tmp 29), none, 0, none⟩,
   ⟨(some 31), .build [.cx (0) (0), .cx (0) (0)] [(0, 1, (.tmp 25)), (1, 1, (.tmp 30))], none, 0, none⟩,
   ⟨(some 32), .call (.func 159) [(false, (.tmp 31))] false 4, none, 0, none⟩,
   ⟨(some 33), .extract (.tmp 32) 0, none, 4, none⟩,
   ⟨(some 34), .extract (.tmp 32) 1, none, 4, none⟩,
   ⟨none, .store 4 (.tmp 4) (.tmp 33), none, 4, none⟩,
   ⟨(some 5), .move (.tmp 34), none, 4, none⟩]) (.ret)))), [.cell true 4 4, .tmp 5], true⟩
def g_109 : List AVal → Heap → Option (AVal × Heap) := runBody (tab [(108, g_108), (158, g_158), (159, g_159)]) a_109
theorem v_109 : Valid Try.prog (tab [(108, g_108), (158, g_158), (159, g_159)]) := (tab_cons ok_108 (tab_cons ok_158 (tab_cons ok_159 tab_nil)))
theorem k_109 : chkFunc Try.prog Try.f109 a_109 = true := by kernel_rfl
theorem ok_109 : Ok Try.prog 109 g_109 := Ok.body mixed v_109 Try.func109 k_109
attribute [irreducible] g_109
def a_157 : AFunc := ⟨40, .seq (.region 2 [
   ⟨(some 2), .box 4 (.tmp 0), none, 0, none⟩,
   ⟨(some 4), .alloc [.int .i64 (0), .int .i64 (0), .int .i64 (0), .int .i64 (0)], none, 1, none⟩,
   ⟨(some 5), .move (.const (.int .i64 (0))), none, 2, none⟩]) (.seq (.seq (.region 4 [
   ⟨(some 8), .load true 4 (.tmp 2), none, 0, none⟩,
   ⟨(some 9), .call (.func 108) [(false, (.tmp 8))] false 4, none, 0, none⟩,
   ⟨(some 10), .un .not (.tmp 9), none, 4, none⟩,
   ⟨(some 11), .move (.tmp 10), none, 4, none⟩,
   ⟨(some 12), .move (.tmp 1), (some (11, false)), 4, none⟩,
   ⟨(some 13), .bin .lss (.tmp 12) (.const (.int .i64 (0))), (some (11, false)), 4, none⟩,
   ⟨(some 14), .pick (.tmp 11) (.const (.bool true)) (.tmp 13), none, 4, none⟩]) (.cond (.tmp 14) (.seq (.region 0 [
   ⟨(some 15), .build [.int .i64 (0), .int .i64 (0), .int .i64 (0), .int .i64 (0)] [], none, 0, none⟩,
   ⟨none, .store 4 (.tmp 4) (.tmp 15), none, 0, none⟩,
   ⟨(some 5), .move (.const (.int .i64 (2))), none, 0, none⟩]) (.ret)) (.skip))) (.seq (.seq (.region 0 [
   ⟨(some 16), .load true 4 (.tmp 2), none, 0, none⟩,
   ⟨(some 17), .build [.int .i64 (0), .int .i64 (0), .int .i64 (0), .int .i64 (0)] [], none, 0, none⟩,
   ⟨(some 18), .eqAgg (false, [.int .i64, .int .i64, .int .i64, .int .i64]) (.tmp 16) (.tmp 17), none, 0, none⟩]) (.cond (.tmp 18) (.seq (.region 0 [
   ⟨(some 19), .build [.int .i64 (0), .int .i64 (0), .int .i64 (0), .int .i64 (0)] [], none, 0, none⟩,
   ⟨none, .store 4 (.tmp 4) (.tmp 19), none, 0, none⟩,
   ⟨(some 5), .move (.const (.int .i64 (0))), none, 0, none⟩]) (.ret)) (.skip))) (.seq (.seq (.region 0 [
   ⟨(some 20), .move (.tmp 1), none, 0, none⟩,
   ⟨(some 21), .bin .gtr (.tmp 20) (.const (.int .i64 (1048576))), none, 0, none⟩]) (.cond (.tmp 21) (.seq (.region 0 [
   ⟨(some 22), .build [.int .i64 (0), .int .i64 (0), .int .i64 (0), .int .i64 (0)] [], none, 0, none⟩,
   ⟨none, .store 4 (.tmp 4) (.tmp 22), none, 0, none⟩,
   ⟨(some 5), .move (.const (.int .i64 (20))), none, 0, none⟩]) (.ret)) (.skip))) (.seq (.region 5 [
   ⟨(some 23), .load true 4 (.tmp 2), none, 0, none⟩,
   ⟨(some 24), .call (.func 158) [(false, (.tmp 23))] false 4, none, 0, none⟩,
   ⟨(some 25), .move (.tmp 1), none, 4, none⟩,
   ⟨(some 26), .flt .ofInt (.tmp 25) (.tmp 25), none, 4, none⟩,
   ⟨(some 27), .flt .mk (.tmp 26) (.const (.fl (0))), none, 4, none⟩,
   ⟨(some 6), .alloc [.cx (0) (0), .cx (0) (0)], none, 4, none⟩,
   ⟨none, .store 2 (.tmp 6) (.tmp 24), none, 5, none⟩,
   ⟨(some 7), .move (.tmp 27), none, 5, none⟩]) (.seq (.region 4 [
   ⟨(some 28), .indexArr 2 1 (.tmp 6) (.const (.int .i64 (0))), none, 0, none⟩,
   ⟨(some 29), .load false 1 (.tmp 28), none, 0, none⟩,
   ⟨(some 30), .move (.tmp 7), none, 0, none⟩,
   ⟨(some 31), .flt .mul (.tmp 29) (.tmp 30), none, 0, none⟩,
   ⟨(some 32), .indexArr 2 1 (.tmp 6) (.const (.int .i64 (1))), none, 0, none⟩,
   ⟨(some 33), .load false 1 (.tmp 32), none, 0, none⟩,
   ⟨(some 34), .move (.tmp 7), none, 0, none⟩,
   ⟨(some 35), .flt .mul (.tmp 33) (.tmp 34), none, 0, none⟩,
   ⟨(some 36), .build [.cx (0) (0), .cx (0) (0)] [(0, 1, (.tmp 31)), (1, 1, (.tmp 35))], none, 0, none⟩,
   ⟨(some 37), .call (.func 159) [(false, (.tmp 36))] false 4, none, 0, none⟩,
   ⟨(some 38), .extract (.tmp 37) 0, none, 4, none⟩,
   ⟨(some 39), .extract (.tmp 37) 1, none, 4, none⟩,
   ⟨none, .store 4 (.tmp 4) (.tmp 38), none, 4, none⟩,
   ⟨(some 5), .move (.tmp 39), none, 4, none⟩]) (.ret)))))), [.cell true 4 4, .tmp 5], true⟩
def g_157 : List AVal → Heap → Option (AVal × Heap) := runBody (tab [(108, g_108), (158, g_158), (159, g_159)]) a_157
theorem v_157 : Valid Try.prog (tab [(108, g_108), (158, g_158), (159, g_159)]) := (tab_cons ok_108 (tab_cons ok_158 (tab_cons ok_159 tab_nil)))
theorem k_157 : chkFunc Try.prog Try.f157 a_157 = true := by kernel_rfl
theorem ok_157 : Ok Try.prog 157 g_157 := Ok.body mixed v_157 Try.func157 k_157
attribute [irreducible] g_157
end AM
end Go.Proofs.Ytmnhkpekmgobbaa
end
section
namespace Go.Proofs.Ytmnhkpekmgobbaa
namespace AM
def Goes (K : Oracle) (N : Nat) (c : ACode) (st : St) (Q : AExit → St → Prop) : Prop := ∃ e s, exec K N c st = some (e, s) ∧ Q e s
def Ops (K : Oracle) (base : Nat) (os : List AOper) (st : St) (Q : St → Prop) : Prop := ∃ s, runOps K base os st = some s ∧ Q s
variable {K : Oracle} {N : Nat} {Q : AExit → St → Prop} {st : St}
theorem goes_seq {a b : ACode} (h : Goes K N a st fun e s => (e = .normal → Goes K N b s Q) ∧ (e ≠ .normal → Q e s)) : Goes K N (.seq a b) st Q := by
 obtain ⟨e, s, he, h1, h2⟩ := h
 cases e with
 | normal => obtain ⟨e', s', h3, h4⟩ := h1 rfl; exact ⟨e', s', by simp only [exec, he, h3], h4⟩
 | exit i => exact ⟨_, s, by simp only [exec, he], h2 (by simp)⟩
 | ret => exact ⟨_, s, by simp only [exec, he], h2 (by simp)⟩
 | goto i => exact ⟨_, s, by simp only [exec, he], h2 (by simp)⟩
theorem then_normal {P R : Prop} (h : P) : (AExit.normal = .normal → P) ∧ (AExit.normal ≠ .normal → R) := ⟨fun _ => h, fun h => absurd rfl h⟩
theorem then_exit {i : Nat} {P R : Prop} (h : R) : (AExit.exit i = .normal → P) ∧ (AExit.exit i ≠ .normal → R) := ⟨fun h => (by cases h), fun _ => h⟩
theorem then_ret {P R : Prop} (h : R) : (AExit.ret = .normal → P) ∧ (AExit.ret ≠ .normal → R) := ⟨fun h => (by cases h), fun _ => h⟩
theorem goes_skip (h : Q .normal st) : Goes K N .skip st Q := ⟨_, _, rfl, h⟩
theorem goes_exit {i : Nat} (h : Q (.exit i) st) : Goes K N (.exit i) st Q := ⟨_, _, rfl, h⟩
theorem goes_ret (h : Q .ret st) : Goes K N .ret st Q := ⟨_, _, rfl, h⟩
theorem goes_region {ids : Nat} {ops : List AOper} {tm : List AVal} {hp : Heap} {k : Nat} (h : Ops K hp.length ops ⟨tm, hp ++ List.replicate ids .free, k⟩ fun s => Q .normal s) : Goes K N (.region ids ops) ⟨tm, hp, k⟩ Q := by
 obtain ⟨s, hs, hq⟩ := h
 exact ⟨_, s, by simp only [exec, hs, Option.map_some], hq⟩
theorem goes_region0 {ops : List AOper} {tm : List AVal} {hp : Heap} {k : Nat} (h : Ops K hp.length ops ⟨tm, hp, k⟩ fun s => Q .normal s) : Goes K N (.region 0 ops) ⟨tm, hp, k⟩ Q :=
 goes_region (by rw [List.replicate_zero, List.append_nil]; exact h)
theorem goes_true {c : Opd} {a b : ACode} {tm : List AVal} {hp : Heap} {k : Nat} (hc : look tm c = .bool true) (h : Goes K N a ⟨tm, hp, k⟩ Q) : Goes K N (.cond c a b) ⟨tm, hp, k⟩ Q := by
 obtain ⟨e, s, he, hq⟩ := h
 exact ⟨e, s, by simp only [exec, hc, if_true, he], hq⟩
theorem goes_false {c : Opd} {a b : ACode} {tm : List AVal} {hp : Heap} {k : Nat} (hc : look tm c = .bool false) (h : Goes K N b ⟨tm, hp, k⟩ Q) : Goes K N (.cond c a b) ⟨tm, hp, k⟩ Q := by
 obtain ⟨e, s, he, hq⟩ := h
 exact ⟨e, s, by simp only [exec, hc, Bool.false_eq_true, if_false, he], hq⟩
theorem goes_block {i : Nat} {c : ACode} (h : Goes K N c st fun e s => if e = .exit i then Q .normal s else Q e s) : Goes K N (.block i c) st Q := by
 obtain ⟨e, s, he, hq⟩ := h
 by_cases hi : e = .exit i
 · rw [if_pos hi] at hq
   exact ⟨.normal, s, by simp only [exec, he, hi, if_true], hq⟩
 · rw [if_neg hi] at hq
   refine ⟨e, s, ?_, hq⟩
   cases e with
   | exit j => have : ¬ j = i := fun e => hi (by rw [e])
               simp only [exec, he, if_neg this]
   | normal => simp only [exec, he]
   | ret => simp only [exec, he]
   | goto j => simp only [exec, he]
theorem blk_out {i : Nat} {P R : Prop} (h : P) : if AExit.exit i = .exit i then P else R := by rw [if_pos rfl]; exact h
theorem blk_far {i j : Nat} {P R : Prop} (hj : (j == i) = false) (h : R) : if AExit.exit j = .exit i then P else R := by
 rw [if_neg]; exact h
 intro e; cases e; simp at hj
theorem blk_normal {i : Nat} {P R : Prop} (h : R) : if AExit.normal = .exit i then P else R := by rw [if_neg (by simp)]; exact h
theorem blk_ret {i : Nat} {P R : Prop} (h : R) : if AExit.ret = .exit i then P else R := by rw [if_neg (by simp)]; exact h
theorem goes_loop {keep : List Nat} {c : ACode} {e : AExit} {s : St} (h : iter keep (exec K N c) N st = some (e, s)) (hq : Q e s) : Goes K N (.loop keep c) st Q := ⟨e, s, by simp only [exec, h], hq⟩
variable {base : Nat} {os : List AOper} {R : St → Prop} {tm tm' : List AVal} {hp hp' : Heap} {k d a : Nat} {sees : Sees} {op : AOp} {v : AVal}
theorem ops_nil (h : R st) : Ops K base [] st R := ⟨st, rfl, h⟩
theorem ops_pure (hpure : isPure op = true) (h : pureOp op (look tm) = some v) (hset : tm.set d v = tm') (hk : Ops K base os ⟨tm', hp, k⟩ R) : Ops K base (⟨some d, op, none, a, sees⟩ :: os) ⟨tm, hp, k⟩ R := by
 obtain ⟨s, hs, hq⟩ := hk
 have ht : tightOk base ⟨some d, op, none, a, sees⟩ (look tm) hp = true := by
   have : AOp.cls op = 0 := by unfold AOp.cls; rw [if_pos hpure]
   unfold tightOk
   simp only [this]
   rfl
 exact ⟨s, by simp only [runOps, runOp, effOp, ht, eff0, hpure, if_true, h, Option.map_some, setTmp, hset, Option.bind_some, hs], hq⟩
theorem ops_eff {dst : Option Nat} (h : effOp K base ⟨dst, op, none, a, sees⟩ (look tm) hp = some (v, hp')) (hset : setTmp tm dst v = tm') (hk : Ops K base os ⟨tm', hp', k⟩ R) : Ops K base (⟨dst, op, none, a, sees⟩ :: os) ⟨tm, hp, k⟩ R := by
 obtain ⟨s, hs, hq⟩ := hk
 exact ⟨s, by simp only [runOps, runOp, h, Option.map_some, hset, Option.bind_some, hs], hq⟩
theorem ops_on {dst : Option Nat} {t : Nat} {b : Bool} (hg : tm.getD t .undef = .bool b) (h : effOp K base ⟨dst, op, some (t, b), a, sees⟩ (look tm) hp = some (v, hp')) (hset : setTmp tm dst v = tm') (hk : Ops K base os ⟨tm', hp', k⟩ R) : Ops K base (⟨dst, op, some (t, b), a, sees⟩ :: os) ⟨tm, hp, k⟩ R := by
 obtain ⟨s, hs, hq⟩ := hk
 exact ⟨s, by simp only [runOps, runOp, hg, if_true, h, Option.map_some, hset, Option.bind_some, hs], hq⟩
theorem ops_off {dst : Option Nat} {t : Nat} {b c : Bool} (hg : tm.getD t .undef = .bool c) (hbc : (c == b) = false) (hset : setTmp tm dst (.tup []) = tm') (hk : Ops K base os ⟨tm', hp, k⟩ R) : Ops K base (⟨dst, op, some (t, b), a, sees⟩ :: os) ⟨tm, hp, k⟩ R := by
 obtain ⟨s, hs, hq⟩ := hk
 have : ¬ c = b := by simpa using hbc
 exact ⟨s, by simp only [runOps, runOp, hg, if_neg this, hset, Option.bind_some, hs], hq⟩
theorem ops_dead {dst : Option Nat} {t : Nat} {b : Bool} (hg : tm.getD t .undef = .tup []) (hset : setTmp tm dst (.tup []) = tm') (hk : Ops K base os ⟨tm', hp, k⟩ R) : Ops K base (⟨dst, op, some (t, b), a, sees⟩ :: os) ⟨tm, hp, k⟩ R := by
 obtain ⟨s, hs, hq⟩ := hk
 exact ⟨s, by simp only [runOps, runOp, hg, hset, Option.bind_some, hs], hq⟩
theorem body_of {f : AFunc} {args : List AVal} {hp : Heap} {r : AVal × Heap} (h : Goes K LOOPS f.code ⟨args ++ List.replicate (f.ntmps - args.length) .undef, hp, hp.length⟩ fun e s => (e = .normal ∨ e = .ret) ∧ leave f s = some r) : runBody K f args hp = some r := by
 obtain ⟨e, s, he, h1, h2⟩ := h
 unfold runBody
 rw [he]
 rcases h1 with rfl | rfl <;> exact h2
theorem round_of {keep : List Nat} {c : ACode} {s' : St} (h : Goes K N c st fun e s => e = .normal ∧ norm keep s = some s') : roundN keep (exec K N c) st = some s' := by
 obtain ⟨e, s, he, rfl, h2⟩ := h
 unfold roundN
 rw [he]; exact h2
theorem goes_upto {keep : List Nat} {c : ACode} {H : Nat → St} (p : Nat → Bool) (m : Nat) (h0 : norm keep st = some (H 0)) (hN : m < N)
   (step : ∀ k, k < m → p k = true → roundN keep (exec K N c) (H k) = some (H (k + 1)))
   (bad : ∀ k, k < m → (∀ j, j < k → p j = true) → p k = false → Goes K N c (H k) fun e s => e ≠ .normal ∧ Q e s)
   (last : (∀ k, k < m → p k = true) → Goes K N c (H m) fun e s => e ≠ .normal ∧ Q e s) : Goes K N (.loop keep c) st Q := by
 by_cases hall : ∀ k, k < m → p k = true
 · obtain ⟨e, s, he, hn, hq⟩ := last hall
   exact goes_loop (iter_upto h0 (fun k hk => step k hk (hall k hk)) he hn hN) hq
 · have hex : ∃ k, k < m ∧ p k = false ∧ ∀ j, j < k → p j = true := by
     have : ∃ k, k < m ∧ p k = false := by
       apply Classical.byContradiction
       intro h
       exact hall fun k hk => by
         cases hp : p k with
         | true => rfl
         | false => exact absurd ⟨k, hk, hp⟩ h
     obtain ⟨k, hk, hp⟩ := this
     induction k using Nat.strongRecOn with
     | ind k ih =>
       by_cases hj : ∀ j, j < k → p j = true
       · exact ⟨k, hk, hp, hj⟩
       · apply Classical.byContradiction
         intro hno
         refine hj fun j hjk => ?_
         cases hpj : p j with
         | true => rfl
         | false => exact absurd (ih j hjk (by omega) hpj) hno
   obtain ⟨k, hk, hp, hj⟩ := hex
   obtain ⟨e, s, he, hn, hq⟩ := bad k hk hj hp
   exact goes_loop (iter_upto h0 (fun j hjk => step j (by omega) (hj j hjk)) he hn (by omega)) hq
end AM
end Go.Proofs.Ytmnhkpekmgobbaa
end
section
namespace Go.Proofs.Ytmnhkpekmgobbaa
open Go.RowKit
theorem add_block (a : Addr) (n : Nat) : (a.add n).block = a.block := by unfold Addr.add; split <;> rfl
theorem add_add (a : Addr) (i j : Nat) : (a.add i).add j = a.add (i + j) := by
 unfold Addr.add
 by_cases hi : i = 0 <;> by_cases hj : j = 0 <;> simp [hi, hj, Nat.add_assoc]
def Lt (B : Nat) (b : Nat) : Prop := b < B
def Same (S : Nat → Prop) (w w' : World) : Prop := ∀ p : Addr, S p.block → w'.cell? p = w.cell? p
class Lay (α : Type) where
 n : Nat
 agg : Bool
 pos : 0 < n
 R : World → (Nat → Prop) → α → List Value → Prop
 size : ∀ {w : World} {B : Nat → Prop} {x : α} {cs : List Value}, R w B x cs → cs.length = n
 one : ∀ {w : World} {B : Nat → Prop} {x : α} {cs : List Value}, R w B x cs → ∀ u ∈ cs, u.oneCell' = true
 keep : ∀ {w w' : World} {B : Nat → Prop} {x : α} {cs : List Value}, Same B w w' → R w B x cs → R w' B x cs
 mono : ∀ {w : World} {B B' : Nat → Prop} {x : α} {cs : List Value}, (∀ b, B b → B' b) → R w B x cs → R w B' x cs
def I64 (n : Int) : Prop := -9223372036854775808 ≤ n ∧ n ≤ 9223372036854775807
instance : Lay Int where
 n := 1
 agg := false
 pos := Nat.one_pos
 R _ _ x cs := cs = [.int .i64 x] ∧ I64 x
 size h := by rw [h.1]; rfl
 one h u hu := by rw [h.1] at hu; simp at hu; subst hu; rfl
 keep _ h := h
 mono _ h := h
instance : Lay Bool where
 n := 1
 agg := false
 pos := Nat.one_pos
 R _ _ x cs := cs = [.bool x]
 size h := by rw [h]; rfl
 one h u hu := by rw [h] at hu; simp at hu; subst hu; rfl
 keep _ h := h
 mono _ h := h
instance : Lay UInt8 where
 n := 1
 agg := false
 pos := Nat.one_pos
 R _ _ x cs := cs = [.int .u8 (x.toNat : Int)]
 size h := by rw [h]; rfl
 one h u hu := by rw [h] at hu; simp at hu; subst hu; rfl
 keep _ h := h
 mono _ h := h
instance : Lay ByteArray where
 n := 1
 agg := false
 pos := Nat.one_pos
 R _ _ x cs := cs = [.string x] ∧ x.size ≤ maxLen
 size h := by rw [h.1]; rfl
 one h u hu := by rw [h.1] at hu; simp at hu; subst hu; rfl
 keep _ h := h
 mono _ h := h
def Sl {α : Type} [Lay α] (w : World) (B : Nat → Prop) (A : Option Addr) (xs : List α) : Prop :=
 ∀ (k : Nat) (x : α), xs[k]? = some x → ∃ ad cs, A = some ad ∧ B ad.block ∧ Lay.R w B x cs ∧ ∀ j u, cs[j]? = some u → w.cell? (ad.add (k * Lay.n α + j)) = some u
section
variable {α : Type} [Lay α] {w w' : World} {B B' : Nat → Prop} {A : Option Addr} {xs : List α}
theorem Sl.nil : Sl w B A ([] : List α) := fun k x h => by simp at h
theorem Sl.keep (h : Sl w B A xs) (hs : Same B w w') : Sl w' B A xs := fun k x hk => by
 obtain ⟨ad, cs, rfl, hb, hr, hc⟩ := h k x hk
 exact ⟨ad, cs, rfl, hb, Lay.keep hs hr, fun j u hu => (hs _ (by rw [add_block]; exact hb)).trans (hc j u hu)⟩
theorem Sl.mono (h : Sl w B A xs) (hB : ∀ b, B b → B' b) : Sl w B' A xs := fun k x hk => by
 obtain ⟨ad, cs, rfl, hb, hr, hc⟩ := h k x hk
 exact ⟨ad, cs, rfl, hB _ hb, Lay.mono hB hr, hc⟩
end
instance {α : Type} [Lay α] : Lay (List α) where
 n := 1
 agg := false
 pos := Nat.one_pos
 R w B xs cs := ∃ A c, cs = [.slice A xs.length c] ∧ xs.length ≤ c ∧ c ≤ maxLen ∧ (A = none → c = 0) ∧ Sl w B A xs
 size h := by obtain ⟨A, c, rfl, _⟩ := h; rfl
 one h u hu := by obtain ⟨A, c, rfl, _⟩ := h; simp at hu; subst hu; rfl
 keep hs h := by obtain ⟨A, c, rfl, hc, hm, hn, h⟩ := h; exact ⟨A, c, rfl, hc, hm, hn, h.keep hs⟩
 mono hB h := by obtain ⟨A, c, rfl, hc, hm, hn, h⟩ := h; exact ⟨A, c, rfl, hc, hm, hn, h.mono hB⟩
instance {α β : Type} [Lay α] [Lay β] : Lay (α × β) where
 n := Lay.n α + Lay.n β
 agg := true
 pos := by have : 0 < Lay.n α := Lay.pos; omega
 R w B x cs := ∃ c d, cs = c ++ d ∧ Lay.R w B x.1 c ∧ Lay.R w B x.2 d
 size h := by obtain ⟨c, d, rfl, h1, h2⟩ := h; rw [List.length_append, Lay.size h1, Lay.size h2]
 one h u hu := by
   obtain ⟨c, d, rfl, h1, h2⟩ := h
   rcases List.mem_append.1 hu with hu | hu
   · exact Lay.one h1 u hu
   · exact Lay.one h2 u hu
 keep hs h := by obtain ⟨c, d, rfl, h1, h2⟩ := h; exact ⟨c, d, rfl, Lay.keep hs h1, Lay.keep hs h2⟩
 mono hB h := by obtain ⟨c, d, rfl, h1, h2⟩ := h; exact ⟨c, d, rfl, Lay.mono hB h1, Lay.mono hB h2⟩
@[reducible] def Lay.iso {α β : Type} [Lay β] (f : α → β) : Lay α where
 n := Lay.n β
 agg := true
 pos := Lay.pos
 R w B x cs := Lay.R w B (f x) cs
 size h := Lay.size h
 one h := Lay.one h
 keep hs h := Lay.keep hs h
 mono hB h := Lay.mono hB h
def isAgg : Value → Bool | .agg _ => true | _ => false
def V {α : Type} [Lay α] (w : World) (B : Nat → Prop) (x : α) (v : Value) : Prop := Lay.R w B x v.cells.toList ∧ isAgg v = Lay.agg α
section
variable {α : Type} [Lay α] {w w' : World} {B B' : Nat → Prop} {x : α} {v : Value}
theorem V.cells_eq (h : Lay.agg α = false) (k : V w B x v) : v.cells.toList = [v] := by
 have h2 := k.2
 rw [h] at h2
 cases v <;> simp_all [isAgg, Value.cells]
theorem V.agg_eq (h : Lay.agg α = true) (k : V w B x v) : ∃ cs, v = .agg cs ∧ Lay.R w B x cs.toList := by
 have h2 := k.2
 rw [h] at h2
 cases v <;> simp [isAgg] at h2
 exact ⟨_, rfl, k.1⟩
end
def Rd (P : Program) (t : TypeId) (α : Type) [Lay α] : Prop :=
 ∀ {H : Type} {enc : TypeId × Value → H} {w : World} {base : Nat} {spare : Nat → Bool} {held : Bool} {fuel : Nat} {cs : List Value} {y : DataW H × List MemPlace},
   DataW.trod enc P w base spare held fuel t cs = some y → ∃ x : α, Lay.R w (Lt w.heap.size) x cs
theorem rd_int {P : Program} {t : TypeId} (ht : P.underlying t = some (.int .i64)) : Rd P t Int := fun h => by
 obtain ⟨n, rfl, _, hw⟩ := DataW.trod_int ht h
 refine ⟨n, rfl, ?_⟩
 simpa [I64, Lit.wf, IntKind.min, IntKind.max, IntKind.signed, IntKind.bits] using hw
theorem rd_u8 {P : Program} {t : TypeId} (ht : P.underlying t = some (.int .u8)) : Rd P t UInt8 := fun h => by
 obtain ⟨n, rfl, _, hw⟩ := DataW.trod_int ht h
 have hb : 0 ≤ n ∧ n ≤ 255 := by simpa [Lit.wf, IntKind.min, IntKind.max, IntKind.signed, IntKind.bits] using hw
 refine ⟨UInt8.ofNat n.toNat, ?_⟩
 show _ = [Value.int .u8 ((UInt8.ofNat n.toNat).toNat : Int)]
 rw [UInt8.toNat_ofNat']
 congr 2
 omega
theorem cell_lt {w : World} {p : Addr} {u : Value} (h : w.cell? p = some u) : p.block < w.heap.size := by
 rcases Nat.lt_or_ge p.block w.heap.size with hlt | hge
 · exact hlt
 · unfold World.cell? at h
   rw [Array.getElem?_eq_none hge] at h
   simp at h
theorem choose_list {α : Type} {Q : Nat → α → Prop} : ∀ (n : Nat), (∀ i, i < n → ∃ x, Q i x) → ∃ xs : List α, xs.length = n ∧ ∀ i x, xs[i]? = some x → Q i x
 | 0, _ => ⟨[], rfl, by simp⟩
 | n + 1, h => by
   obtain ⟨xs, hl, hx⟩ := choose_list n (fun i hi => h i (by omega))
   obtain ⟨y, hy⟩ := h n (by omega)
   refine ⟨xs ++ [y], by simp [hl], fun i x hi => ?_⟩
   rcases Nat.lt_trichotomy i n with h1 | h1 | h1
   · rw [List.getElem?_append_left (by omega)] at hi; exact hx i x hi
   · subst h1; rw [List.getElem?_append_right (by omega)] at hi; simp [hl] at hi; subst hi; exact hy
   · rw [List.getElem?_eq_none (by simp; omega)] at hi; cases hi
theorem rd_slice {P : Program} {t e : TypeId} {α : Type} [Lay α] (ht : P.underlying t = some (.slice e)) (hc : P.cellsOf e = Lay.n α) (he : Rd P e α) : Rd P t (List α) := fun {H enc w base spare held fuel cs y} h => by
 rcases Deep.open_slice ht h with ⟨rfl, _⟩ | ⟨a, len, cap, m, n, D, Pl, rfl, _, hl, hm, hmm, _, hi⟩
 · exact ⟨[], none, 0, rfl, Nat.le_refl _, Nat.zero_le _, fun _ => rfl, Sl.nil⟩
 · have hlm : len ≤ m := by rw [hmm]; split <;> omega
   obtain ⟨xs, hxl, hx⟩ := choose_list (Q := fun i (x : α) => Lt w.heap.size a.block ∧ ∃ cs, Lay.R w (Lt w.heap.size) x cs ∧ ∀ j u, cs[j]? = some u → w.cell? (a.add (i * Lay.n α + j)) = some u) len (fun i hi' => by
     obtain ⟨cs', hcs, htr⟩ := hi i (by omega)
     obtain ⟨x, hx⟩ := he htr
     rw [hc] at hcs
     obtain ⟨_, hcl, hat⟩ := World.cells?_some hcs
     have hcell : ∀ j u, cs'[j]? = some u → w.cell? (a.add (i * Lay.n α + j)) = some u := fun j u hu => by
       have hj : j < Lay.n α := by rw [← Lay.size hx]; exact (List.getElem?_eq_some_iff.1 hu).1
       have := hat j hj
       rw [add_add] at this
       rw [this, hu]
     have h0 : 0 < cs'.length := by rw [Lay.size hx]; exact Lay.pos
     have := cell_lt (hcell 0 _ (List.getElem?_eq_getElem h0))
     rw [add_block] at this
     exact ⟨x, this, cs', hx, hcell⟩)
   refine ⟨xs, some a, cap, by rw [hxl], by omega, hm, (fun h => (by cases h)), fun k x hk => ?_⟩
   obtain ⟨hb, cs, h1, h2⟩ := hx k x hk
   exact ⟨a, cs, rfl, hb, h1, h2⟩
def RdF (P : Program) (fs : List Field) (off : Nat) (α : Type) [Lay α] : Prop :=
 ∀ {H : Type} {enc : TypeId × Value → H} {w : World} {base : Nat} {spare : Nat → Bool} {held : Bool} {fuel : Nat} {cs : List Value},
   (∀ f ∈ fs, ∃ y, DataW.trod enc P w base spare held fuel f.type ((cs.drop f.offset).take (P.cellsOf f.type)) = some y) → cs.length = off + Lay.n α → ∃ x : α, Lay.R w (Lt w.heap.size) x (cs.drop off)
theorem RdF.last {P : Program} {f : Field} {off : Nat} {α : Type} [Lay α] (h : Rd P f.type α) (ho : f.offset = off) (hc : P.cellsOf f.type = Lay.n α) : RdF P [f] off α := fun hf hl => by
 obtain ⟨y, hy⟩ := hf f (by simp)
 rw [ho, hc, List.take_of_length_le (by rw [List.length_drop, hl]; omega)] at hy
 exact h hy
theorem RdF.cons {P : Program} {f : Field} {fs : List Field} {off off' : Nat} {α β : Type} [Lay α] [Lay β] (h : Rd P f.type α) (ho : f.offset = off) (hc : P.cellsOf f.type = Lay.n α) (he : off' = off + Lay.n α) (k : RdF P fs off' β) : RdF P (f :: fs) off (α × β) := fun {H enc w base spare held fuel cs} hf hl => by
 obtain ⟨y, hy⟩ := hf f (by simp)
 rw [ho, hc] at hy
 obtain ⟨x, hx⟩ := h hy
 have hl' : cs.length = off + (Lay.n α + Lay.n β) := hl
 obtain ⟨z, hz⟩ := k (enc := enc) (w := w) (base := base) (spare := spare) (held := held) (fuel := fuel) (cs := cs) (fun g hg => hf g (by simp [hg])) (by rw [hl', he]; omega)
 refine ⟨(x, z), (cs.drop off).take (Lay.n α), cs.drop off', ?_, hx, hz⟩
 rw [he, ← List.drop_drop, List.take_append_drop]
theorem rd_struct {P : Program} {t : TypeId} {fs : Array Field} {α : Type} [Lay α] (ht : P.underlying t = some (.struct fs)) (hc : P.cellsOf t = Lay.n α) (h : RdF P fs.toList 0 α) : Rd P t α := fun {H enc w base spare held fuel cs y} hr => by
 obtain ⟨xs, n, _, _, hl, hxl, hf⟩ := DataW.trod_struct ht hr
 obtain ⟨x, hx⟩ := h (enc := enc) (w := w) (base := base) (spare := spare) (held := held) (fuel := n) (cs := cs) (fun f hfm => by
   obtain ⟨i, hi⟩ := List.getElem?_of_mem hfm
   have hi' : fs[i]? = some f := by simpa using hi
   have hlt : i < fs.size := (Array.getElem?_eq_some_iff.1 hi').1
   exact ⟨xs[i]'(by omega), by rw [hf i f hi']; exact List.getElem?_eq_getElem (by omega)⟩) (by rw [hl, hc]; omega)
 exact ⟨x, by simpa using hx⟩
theorem rd_iso {P : Program} {t : TypeId} {α β : Type} [Lay β] (f : α → β) (g : β → α) (hfg : ∀ y, f (g y) = y) (h : Rd P t β) : @Rd P t α (Lay.iso f) := fun hr => by
 obtain ⟨y, hy⟩ := h hr
 exact ⟨g y, by show Lay.R _ _ (f (g y)) _; rw [hfg]; exact hy⟩
theorem arg_of {P : Program} {H : Type} {enc : TypeId × Value → H} {w : World} {base : Nat} {spare : Nat → Bool} {held : Bool} {t : TypeId} {v : Value} {d : DataW H} {ps : List MemPlace} {α : Type} [Lay α] (h : Rd P t α) (hd : DataW.Trod enc P w base spare held t v d ps)
   (ha : isAgg v = Lay.agg α) : ∃ x : α, V w (Lt w.heap.size) x v := by
 obtain ⟨fuel, hf⟩ := hd
 obtain ⟨x, hx⟩ := h hf
 exact ⟨x, hx, ha⟩
theorem agg_int {P : Program} {w : World} {r : Reach} {b : Nat} {t : TypeId} {v : Value} {k : IntKind} (ht : P.underlying t = some (.int k)) (h : Value.okWide P w r b t v) : isAgg v = false := by
 obtain ⟨n, rfl⟩ := WideShapes.okWide_int ht h; rfl
theorem agg_slice {P : Program} {w : World} {r : Reach} {b : Nat} {t e : TypeId} {v : Value} (ht : P.underlying t = some (.slice e)) (h : Value.okWide P w r b t v) : isAgg v = false := by
 obtain ⟨a, n, c, rfl⟩ := WideShapes.okWide_slice ht h; rfl
theorem agg_struct {P : Program} {w : World} {r : Reach} {b : Nat} {t : TypeId} {v : Value} {fs : Array Field} (ht : P.underlying t = some (.struct fs)) (h : Value.okWide P w r b t v) : isAgg v = true := by
 obtain ⟨cs, rfl, _⟩ := WideShapes.okWide_struct ht h; rfl
def Rs {α : Type} [Lay α] (w : World) (B : Nat → Prop) : List α → List Value → Prop
 | [], cs => cs = []
 | x :: xs, cs => ∃ c r, cs = c ++ r ∧ Lay.R w B x c ∧ Rs w B xs r
section
variable {α : Type} [Lay α] {w w' : World} {B B' : Nat → Prop}
end
def Blk (w : World) (g : Nat) (t : TypeId) (cs : List Value) : Prop := w.heap[g]? = some (.cells cs.toArray t (0, 0))
section
variable {w w' : World} {g : Nat} {t : TypeId} {cs : List Value}
end
class Flat (α : Type) [Lay α] : Prop where
 flat : ∀ {w w' : World} {B B' : Nat → Prop} {x : α} {cs : List Value}, Lay.R w B x cs → Lay.R w' B' x cs
instance : Flat Int := ⟨fun h => h⟩
instance : Flat Bool := ⟨fun h => h⟩
instance : Flat UInt8 := ⟨fun h => h⟩
instance : Flat ByteArray := ⟨fun h => h⟩
instance {α β : Type} [Lay α] [Lay β] [Flat α] [Flat β] : Flat (α × β) := ⟨fun h => by obtain ⟨c, d, rfl, h1, h2⟩ := h; exact ⟨c, d, rfl, Flat.flat h1, Flat.flat h2⟩⟩
def Src {α : Type} [Lay α] (w : World) (B : Nat → Prop) (A : Option Addr) (ys : List α) : Prop :=
 ∃ news, Rs w B ys news ∧ (ys ≠ [] → A ≠ none) ∧ ∀ ad, A = some ad → ∀ j u, news[j]? = some u → w.cell? (ad.add j) = some u
structure Elem (P : Program) (t e : TypeId) (bytes : Nat) (α : Type) [Lay α] : Prop where
 ty : P.underlying t = some (.slice e)
 small : bytes ≤ 4096
 info : ∃ i z, P.info? e = some i ∧ i.zero = some z ∧ i.size = Lay.n α ∧ i.bytes = bytes ∧ z.cells.size = Lay.n α
section
variable {α : Type} [Lay α] {base : Nat} {e : TypeId} {w w' : World} {B : Nat → Prop} {v : Value} {xs : List α}
end
section
variable {P : Program} (w : World)
end
structure Late (w : World) where
 val : World
 below : Below w.heap.size w val
instance {w : World} : Nonempty (Late w) := ⟨⟨w, Below.refl _ _⟩⟩
end Go.Proofs.Ytmnhkpekmgobbaa
end
section
namespace Go.Proofs.Ytmnhkpekmgobbaa
open Go.RowKit
theorem int_inv {w : World} {B : Nat → Prop} {x : Int} {cs : List Value} (h : Lay.R w B x cs) : cs = [.int .i64 x] ∧ I64 x := h
theorem bool_inv {w : World} {B : Nat → Prop} {x : Bool} {cs : List Value} (h : Lay.R w B x cs) : cs = [.bool x] := h
structure Res where
 cpu : Int
 mem : Int
 gpu : Int
 lic : Int
def Res.pr (x : Res) : Int × Int × Int × Int := (x.cpu, x.mem, x.gpu, x.lic)
def Res.of (y : Int × Int × Int × Int) : Res := ⟨y.1, y.2.1, y.2.2.1, y.2.2.2⟩
instance : Lay Res := Lay.iso Res.pr
theorem rd_Res : Rd Try.prog 23 Res := rd_iso Res.pr Res.of (fun _ => rfl) (rd_struct Try.underlying23 (by kernel_rfl) (RdF.cons (rd_int Try.underlying3) rfl (by kernel_rfl) rfl (RdF.cons (rd_int Try.underlying3) rfl (by kernel_rfl) rfl (RdF.cons (rd_int Try.underlying3) rfl (by kernel_rfl) rfl (RdF.last (rd_int Try.underlying3) rfl (by kernel_rfl))))))
structure Dep where
 job : Int
 ok : Bool
def Dep.pr (x : Dep) : Int × Bool := (x.job, x.ok)
def Dep.of (y : Int × Bool) : Dep := ⟨y.1, y.2⟩
instance : Lay Dep := Lay.iso Dep.pr
structure Queue where
 part : Int
 users : (List Int)
 maxJobs : Int
 maxRun : Int
 maxUser : Int
 qos : Int
def Queue.pr (x : Queue) : Int × (List Int) × Int × Int × Int × Int := (x.part, x.users, x.maxJobs, x.maxRun, x.maxUser, x.qos)
def Queue.of (y : Int × (List Int) × Int × Int × Int × Int) : Queue := ⟨y.1, y.2.1, y.2.2.1, y.2.2.2.1, y.2.2.2.2.1, y.2.2.2.2.2⟩
instance : Lay Queue := Lay.iso Queue.pr
theorem rd_Queue : Rd Try.prog 190 Queue := rd_iso Queue.pr Queue.of (fun _ => rfl) (rd_struct Try.underlying190 (by kernel_rfl) (RdF.cons (rd_int Try.underlying3) rfl (by kernel_rfl) rfl (RdF.cons (rd_slice Try.underlying60 (by kernel_rfl) (rd_int Try.underlying3)) rfl (by kernel_rfl) rfl (RdF.cons (rd_int Try.underlying3) rfl (by kernel_rfl) rfl (RdF.cons (rd_int Try.underlying3) rfl (by kernel_rfl) rfl (RdF.cons (rd_int Try.underlying3) rfl (by kernel_rfl) rfl (RdF.last (rd_int Try.underlying3) rfl (by kernel_rfl))))))))
structure Weights where
 age : Int
 size : Int
 qos : Int
 share : Int
def Weights.pr (x : Weights) : Int × Int × Int × Int := (x.age, x.size, x.qos, x.share)
def Weights.of (y : Int × Int × Int × Int) : Weights := ⟨y.1, y.2.1, y.2.2.1, y.2.2.2⟩
instance : Lay Weights := Lay.iso Weights.pr
theorem rd_Weights : Rd Try.prog 88 Weights := rd_iso Weights.pr Weights.of (fun _ => rfl) (rd_struct Try.underlying88 (by kernel_rfl) (RdF.cons (rd_int Try.underlying3) rfl (by kernel_rfl) rfl (RdF.cons (rd_int Try.underlying3) rfl (by kernel_rfl) rfl (RdF.cons (rd_int Try.underlying3) rfl (by kernel_rfl) rfl (RdF.last (rd_int Try.underlying3) rfl (by kernel_rfl))))))
structure Spec where
 nodes : (List Res)
 parts : (List (List Int))
 queues : (List Queue)
 users : Int
 weights : Weights
 decay : Int
 mode : Int
 jobs : Int
 ids : Int
 versions : Int
 linger : Int
 keep : Int
 inn : Int
 out : Int
 cache : Int
def Spec.pr (x : Spec) : (List Res) × (List (List Int)) × (List Queue) × Int × Weights × Int × Int × Int × Int × Int × Int × Int × Int × Int × Int := (x.nodes, x.parts, x.queues, x.users, x.weights, x.decay, x.mode, x.jobs, x.ids, x.versions, x.linger, x.keep, x.inn, x.out, x.cache)
def Spec.of (y : (List Res) × (List (List Int)) × (List Queue) × Int × Weights × Int × Int × Int × Int × Int × Int × Int × Int × Int × Int) : Spec := ⟨y.1, y.2.1, y.2.2.1, y.2.2.2.1, y.2.2.2.2.1, y.2.2.2.2.2.1, y.2.2.2.2.2.2.1, y.2.2.2.2.2.2.2.1, y.2.2.2.2.2.2.2.2.1, y.2.2.2.2.2.2.2.2.2.1, y.2.2.2.2.2.2.2.2.2.2.1, y.2.2.2.2.2.2.2.2.2.2.2.1, y.2.2.2.2.2.2.2.2.2.2.2.2.1, y.2.2.2.2.2.2.2.2.2.2.2.2.2.1, y.2.2.2.2.2.2.2.2.2.2.2.2.2.2⟩
instance : Lay Spec := Lay.iso Spec.pr
theorem rd_Spec : Rd Try.prog 90 Spec := rd_iso Spec.pr Spec.of (fun _ => rfl) (rd_struct Try.underlying90 (by kernel_rfl) (RdF.cons (rd_slice Try.underlying84 (by kernel_rfl) rd_Res) rfl (by kernel_rfl) rfl (RdF.cons (rd_slice Try.underlying85 (by kernel_rfl) (rd_slice Try.underlying60 (by kernel_rfl) (rd_int Try.underlying3))) rfl (by kernel_rfl) rfl (RdF.cons (rd_slice Try.underlying86 (by kernel_rfl) rd_Queue) rfl (by kernel_rfl) rfl (RdF.cons (rd_int Try.underlying3) rfl (by kernel_rfl) rfl (RdF.cons rd_Weights rfl (by kernel_rfl) rfl (RdF.cons (rd_int Try.underlying3) rfl (by kernel_rfl) rfl (RdF.cons (rd_int Try.underlying3) rfl (by kernel_rfl) rfl (RdF.cons (rd_int Try.underlying3) rfl (by kernel_rfl) rfl (RdF.cons (rd_int Try.underlying3) rfl (by kernel_rfl) rfl (RdF.cons (rd_int Try.underlying3) rfl (by kernel_rfl) rfl (RdF.cons (rd_int Try.underlying3) rfl (by kernel_rfl) rfl (RdF.cons (rd_int Try.underlying3) rfl (by kernel_rfl) rfl (RdF.cons (rd_int Try.underlying3) rfl (by kernel_rfl) rfl (RdF.cons (rd_int Try.underlying3) rfl (by kernel_rfl) rfl (RdF.last (rd_int Try.underlying3) rfl (by kernel_rfl)))))))))))))))))
structure Job where
 id : Int
 user : Int
 queue : Int
 many : Int
 need : Res
 wall : Int
 after : (List Dep)
 state : Int
 ok : Bool
 kill : Bool
 version : Int
 born : Int
 start : Int
 fin : Int
 array : Int
def Job.pr (x : Job) : Int × Int × Int × Int × Res × Int × (List Dep) × Int × Bool × Bool × Int × Int × Int × Int × Int := (x.id, x.user, x.queue, x.many, x.need, x.wall, x.after, x.state, x.ok, x.kill, x.version, x.born, x.start, x.fin, x.array)
def Job.of (y : Int × Int × Int × Int × Res × Int × (List Dep) × Int × Bool × Bool × Int × Int × Int × Int × Int) : Job := ⟨y.1, y.2.1, y.2.2.1, y.2.2.2.1, y.2.2.2.2.1, y.2.2.2.2.2.1, y.2.2.2.2.2.2.1, y.2.2.2.2.2.2.2.1, y.2.2.2.2.2.2.2.2.1, y.2.2.2.2.2.2.2.2.2.1, y.2.2.2.2.2.2.2.2.2.2.1, y.2.2.2.2.2.2.2.2.2.2.2.1, y.2.2.2.2.2.2.2.2.2.2.2.2.1, y.2.2.2.2.2.2.2.2.2.2.2.2.2.1, y.2.2.2.2.2.2.2.2.2.2.2.2.2.2⟩
instance : Lay Job := Lay.iso Job.pr
structure Share where
 node : Int
 many : Int
def Share.pr (x : Share) : Int × Int := (x.node, x.many)
def Share.of (y : Int × Int) : Share := ⟨y.1, y.2⟩
instance : Lay Share := Lay.iso Share.pr
theorem rd_Share : Rd Try.prog 142 Share := rd_iso Share.pr Share.of (fun _ => rfl) (rd_struct Try.underlying142 (by kernel_rfl) (RdF.cons (rd_int Try.underlying3) rfl (by kernel_rfl) rfl (RdF.last (rd_int Try.underlying3) rfl (by kernel_rfl))))
structure Alloc where
 job : Int
 need : Res
 shares : (List Share)
def Alloc.pr (x : Alloc) : Int × Res × (List Share) := (x.job, x.need, x.shares)
def Alloc.of (y : Int × Res × (List Share)) : Alloc := ⟨y.1, y.2.1, y.2.2⟩
instance : Lay Alloc := Lay.iso Alloc.pr
structure Run where
 need : Res
 shares : (List Share)
 til : Int
def Run.pr (x : Run) : Res × (List Share) × Int := (x.need, x.shares, x.til)
def Run.of (y : Res × (List Share) × Int) : Run := ⟨y.1, y.2.1, y.2.2⟩
instance : Lay Run := Lay.iso Run.pr
theorem rd_Run : Rd Try.prog 129 Run := rd_iso Run.pr Run.of (fun _ => rfl) (rd_struct Try.underlying129 (by kernel_rfl) (RdF.cons rd_Res rfl (by kernel_rfl) rfl (RdF.cons (rd_slice Try.underlying97 (by kernel_rfl) rd_Share) rfl (by kernel_rfl) rfl (RdF.last (rd_int Try.underlying3) rfl (by kernel_rfl)))))
structure Booking where
 id : Int
 node : Int
 fro : Int
 to : Int
def Booking.pr (x : Booking) : Int × Int × Int × Int := (x.id, x.node, x.fro, x.to)
def Booking.of (y : Int × Int × Int × Int) : Booking := ⟨y.1, y.2.1, y.2.2.1, y.2.2.2⟩
instance : Lay Booking := Lay.iso Booking.pr
theorem rd_Booking : Rd Try.prog 131 Booking := rd_iso Booking.pr Booking.of (fun _ => rfl) (rd_struct Try.underlying131 (by kernel_rfl) (RdF.cons (rd_int Try.underlying3) rfl (by kernel_rfl) rfl (RdF.cons (rd_int Try.underlying3) rfl (by kernel_rfl) rfl (RdF.cons (rd_int Try.underlying3) rfl (by kernel_rfl) rfl (RdF.last (rd_int Try.underlying3) rfl (by kernel_rfl))))))
structure Step where
 at_ : Int
 free : Res
def Step.pr (x : Step) : Int × Res := (x.at_, x.free)
def Step.of (y : Int × Res) : Step := ⟨y.1, y.2⟩
instance : Lay Step := Lay.iso Step.pr
structure Request where
 kind : Int
 key : Int
 job : Int
 version : Int
 queue : Int
 many : Int
 need : Res
 wall : Int
 tasks : Int
 after : (List Dep)
 node : Int
 fro : Int
 to : Int
 id : Int
def Request.pr (x : Request) : Int × Int × Int × Int × Int × Int × Res × Int × Int × (List Dep) × Int × Int × Int × Int := (x.kind, x.key, x.job, x.version, x.queue, x.many, x.need, x.wall, x.tasks, x.after, x.node, x.fro, x.to, x.id)
def Request.of (y : Int × Int × Int × Int × Int × Int × Res × Int × Int × (List Dep) × Int × Int × Int × Int) : Request := ⟨y.1, y.2.1, y.2.2.1, y.2.2.2.1, y.2.2.2.2.1, y.2.2.2.2.2.1, y.2.2.2.2.2.2.1, y.2.2.2.2.2.2.2.1, y.2.2.2.2.2.2.2.2.1, y.2.2.2.2.2.2.2.2.2.1, y.2.2.2.2.2.2.2.2.2.2.1, y.2.2.2.2.2.2.2.2.2.2.2.1, y.2.2.2.2.2.2.2.2.2.2.2.2.1, y.2.2.2.2.2.2.2.2.2.2.2.2.2⟩
instance : Lay Request := Lay.iso Request.pr
structure Reply where
 key : Int
 err : Int
 job : Int
 version : Int
 nums : (List Int)
def Reply.pr (x : Reply) : Int × Int × Int × Int × (List Int) := (x.key, x.err, x.job, x.version, x.nums)
def Reply.of (y : Int × Int × Int × Int × (List Int)) : Reply := ⟨y.1, y.2.1, y.2.2.1, y.2.2.2.1, y.2.2.2.2⟩
instance : Lay Reply := Lay.iso Reply.pr
structure Call where
 user : Int
 request : Request
def Call.pr (x : Call) : Int × Request := (x.user, x.request)
def Call.of (y : Int × Request) : Call := ⟨y.1, y.2⟩
instance : Lay Call := Lay.iso Call.pr
structure Entry where
 kind : Int
 user : Int
 request : Request
 reply : Reply
 job : Int
 ok : Bool
def Entry.pr (x : Entry) : Int × Int × Request × Reply × Int × Bool := (x.kind, x.user, x.request, x.reply, x.job, x.ok)
def Entry.of (y : Int × Int × Request × Reply × Int × Bool) : Entry := ⟨y.1, y.2.1, y.2.2.1, y.2.2.2.1, y.2.2.2.2.1, y.2.2.2.2.2⟩
instance : Lay Entry := Lay.iso Entry.pr
structure Event where
 kind : Int
 user : Int
 request : Request
 bytes : (List UInt8)
 n : Int
 keep : Bool
 job : Int
 ok : Bool
end Go.Proofs.Ytmnhkpekmgobbaa
end
section
namespace Go.Proofs.Ytmnhkpekmgobbaa
open AM
class Enc (α : Type) [Lay α] where
 cells : α → List AVal
 ok : ∀ {w : World} {B S : Nat → Prop} {x : α} {cs : List Value}, Lay.R w B x cs → (∀ b, B b → S b) → cs.length = (cells x).length ∧ ∀ (j : Nat) (c : AVal) (v : Value), (cells x)[j]? = some c → cs[j]? = some v → IR w S c v
theorem one_cell {w : World} {S : Nat → Prop} {c : AVal} {v : Value} (h : IR w S c v) : [v].length = [c].length ∧ ∀ (j : Nat) (c' : AVal) (v' : Value), [c][j]? = some c' → [v][j]? = some v' → IR w S c' v' := by
 refine ⟨rfl, fun j c' v' hj hv => ?_⟩
 cases j with
 | zero => simp at hj hv; subst hj; subst hv; exact h
 | succ j => simp at hj
instance : Enc Int where
 cells x := [.int .i64 x]
 ok h _ := by rw [h.1]; exact one_cell (.int _ _)
instance : Enc Bool where
 cells x := [.bool x]
 ok h _ := by
   have h : _ = _ := h
   rw [h]; exact one_cell (.bool _)
instance : Enc UInt8 where
 cells x := [.int .u8 (x.toNat : Int)]
 ok h _ := by
   have h : _ = _ := h
   rw [h]; exact one_cell (.int _ _)
instance : Enc ByteArray where
 cells x := [.str x.data.toList]
 ok h _ := by rw [h.1]; exact one_cell (.str _)
instance {α : Type} [Lay α] [Enc α] : Enc (List α) where
 cells xs := [.imm (Lay.n α) (xs.map Enc.cells)]
 ok {w B S xs cs} h hS := by
   obtain ⟨A, c, rfl, hlc, hcm, hn, hsl⟩ := h
   have key : IR w S (.imm (Lay.n α) (xs.map Enc.cells)) (.slice A (xs.map (Enc.cells (α := α))).length c) := by
     refine .imm _ _ A c (fun i j => (match A with | some ad => (w.cell? (ad.add (i * Lay.n α + j))).getD undef | none => undef)) (by simpa using hlc) hn (fun i x hi => ?_) (fun i x j cc hi hj => ?_) (fun i x j cc hi hj => ?_)
     · rw [List.getElem?_map] at hi
       simp only [Option.map_eq_some_iff] at hi
       obtain ⟨y, hy, rfl⟩ := hi
       obtain ⟨ad, cs, _, _, hr, _⟩ := hsl i y hy
       rw [← (Enc.ok hr hS).1, Lay.size hr]
     · rw [List.getElem?_map] at hi
       simp only [Option.map_eq_some_iff] at hi
       obtain ⟨y, hy, rfl⟩ := hi
       obtain ⟨ad, cs, rfl, hb, hr, hcell⟩ := hsl i y hy
       have hl := (Enc.ok hr hS).1
       have hjl := (List.getElem?_eq_some_iff.1 hj).1
       have hlen := (List.getElem?_eq_some_iff.1 hy).1
       -- the first element shows that the address is plain
       obtain ⟨ad', cs', had, _, hr', hcell'⟩ := hsl 0 xs[0] (List.getElem?_eq_getElem (by omega))
       cases had
       have h0 : 0 < cs'.length := by rw [Lay.size hr']; exact Lay.pos
       have hplain := hcell' 0 cs'[0] (List.getElem?_eq_getElem h0)
       have hspot : ad.spot = none := by
         cases hsp : ad.spot with
         | none => rfl
         | some q =>
           exfalso
           simp only [Nat.zero_mul, Nat.add_zero, Addr.add, if_true, World.cell?] at hplain
           split at hplain
           · rw [hsp] at hplain; simp at hplain
           · cases hplain
       have hadd : ∀ n, ad.add n = ⟨ad.block, ad.off + n, none⟩ := fun n => by
         obtain ⟨b, o, s⟩ := ad
         simp only at hspot
         subst hspot
         exact add_mk b o n
       have hu := hcell j (cs[j]'(by omega)) (List.getElem?_eq_getElem _)
       refine ⟨ad.block, ad.off, by obtain ⟨b, o, s⟩ := ad; simp only at hspot; subst hspot; rfl, hS _ hb, ?_⟩
       simp only
       rw [← hadd, hu]
       rfl
     · rw [List.getElem?_map] at hi
       simp only [Option.map_eq_some_iff] at hi
       obtain ⟨y, hy, rfl⟩ := hi
       obtain ⟨ad, cs, rfl, hb, hr, hcell⟩ := hsl i y hy
       obtain ⟨hl, hir⟩ := Enc.ok hr hS
       have hjl := (List.getElem?_eq_some_iff.1 hj).1
       have hcs : cs[j]? = some (cs[j]'(by omega)) := List.getElem?_eq_getElem _
       simp only
       rw [hcell j _ hcs]
       exact hir j cc _ hj hcs
   rw [List.length_map] at key
   exact one_cell key
instance {α β : Type} [Lay α] [Lay β] [Enc α] [Enc β] : Enc (α × β) where
 cells x := Enc.cells x.1 ++ Enc.cells x.2
 ok h hS := by
   obtain ⟨c, d, rfl, h1, h2⟩ := h
   obtain ⟨l1, r1⟩ := Enc.ok h1 hS
   obtain ⟨l2, r2⟩ := Enc.ok h2 hS
   refine ⟨by simp [l1, l2], fun j a v hj hv => ?_⟩
   rw [List.getElem?_append] at hj hv
   rw [l1] at hv
   split at hj
   · rename_i hlt; rw [if_pos hlt] at hv; exact r1 j a v hj hv
   · rename_i hlt; rw [if_neg hlt] at hv; exact r2 _ a v hj hv
@[reducible] def Enc.iso {α β : Type} [Lay β] [Enc β] (f : α → β) : @Enc α (Lay.iso f) :=
 @Enc.mk α (Lay.iso f) (fun x => Enc.cells (f x)) (fun h hS => Enc.ok (α := β) h hS)
instance : Enc Res := Enc.iso Res.pr
instance : Enc Dep := Enc.iso Dep.pr
instance : Enc Queue := Enc.iso Queue.pr
instance : Enc Weights := Enc.iso Weights.pr
instance : Enc Spec := Enc.iso Spec.pr
instance : Enc Job := Enc.iso Job.pr
instance : Enc Share := Enc.iso Share.pr
instance : Enc Alloc := Enc.iso Alloc.pr
instance : Enc Run := Enc.iso Run.pr
instance : Enc Booking := Enc.iso Booking.pr
instance : Enc Step := Enc.iso Step.pr
instance : Enc Request := Enc.iso Request.pr
instance : Enc Reply := Enc.iso Reply.pr
instance : Enc Call := Enc.iso Call.pr
instance : Enc Entry := Enc.iso Entry.pr
def encV {α : Type} [Lay α] [Enc α] (x : α) : AVal := if Lay.agg α then .agg (Enc.cells x) else (Enc.cells x).headD .undef
theorem V.vr {α : Type} [Lay α] [Enc α] {w : World} {B S : Nat → Prop} {x : α} {v : Value} (h : V w B x v) (hS : ∀ b, B b → S b) (μ : Nat → AM.Loc) : VR μ w S (encV x) v := by
 obtain ⟨hl, hr⟩ := Enc.ok h.1 hS
 unfold encV
 split
 · rename_i ha
   obtain ⟨cs, rfl, hR⟩ := h.agg_eq ha
   exact .agg _ cs (by simpa [Value.cells] using hl.symm) fun j c u hj hu => .imm _ _ (hr j c u hj (by simpa [Value.cells] using hu))
 · rename_i ha
   have hc := h.cells_eq (by simpa using ha)
   rw [hc] at hl hr
   match hx : Enc.cells x, hl, hr with
   | [c], _, hr => exact .imm _ _ (hr 0 c v rfl rfl)
end Go.Proofs.Ytmnhkpekmgobbaa
end
