/-
  What the proof of LedgerDoes leans on, part 10. (Many texts laid together by program.)
-/
import Derived.Test.YtfelhbeiegppgaaPkBi
import Derived.Test.YtfelhbeiegppgaaProg
import Derived.ProofKit
import Derived.WalkKit
import Derived.LoopTactic
import Derived.Below
import Derived.Laws.OwnMore
import Derived.Laws.Rows
import Derived.Deep.Draws
import Derived.Deep.AppendLies
import Derived.Deep.QuietTactic
import Derived.Deep.OwnRows
import Derived.BigQuiet
import Derived.Lib.Hide
import Derived.Outline
import Derived.OpenShut
import Derived.Deep.Slices
import Derived.ChangeOld
import Derived.Carry
import Derived.ScopeJumps
import Derived.Maps.AppendAt
import Derived.RegionTactic
import Derived.OwnWalk
import Derived.Lib.SliceRun
import Derived.WalkSpells
import Derived.WalkLawsBesides
set_option linter.unnecessarySimpa false
set_option linter.unusedSimpArgs false
set_option linter.unusedVariables false
section
set_option maxRecDepth 100000
set_option maxHeartbeats 4000000
namespace Go.Proofs.Ytfelhbeiegppgaa
namespace AM
theorem mixed : Try.prog.follows .mixedOrders = true := by kernel_rfl
def a_74 : AFunc := ⟨12, .seq (.region 2 [
   ⟨(some 1), .box 4 (.tmp 0), none, 0, none⟩,
   ⟨(some 2), .alloc [.int .i64 (0), .int .i64 (0), .int .i64 (0), .int .i64 (0)], none, 1, none⟩]) (.seq (.region 0 [
   ⟨(some 3), .fieldAddr 0 (.tmp 1), none, 0, none⟩,
   ⟨(some 4), .load false 1 (.tmp 3), none, 0, none⟩,
   ⟨(some 5), .fieldAddr 1 (.tmp 1), none, 0, none⟩,
   ⟨(some 6), .load false 1 (.tmp 5), none, 0, none⟩,
   ⟨(some 7), .fieldAddr 2 (.tmp 1), none, 0, none⟩,
   ⟨(some 8), .load false 1 (.tmp 7), none, 0, none⟩,
   ⟨(some 9), .fieldAddr 3 (.tmp 1), none, 0, none⟩,
   ⟨(some 10), .load false 1 (.tmp 9), none, 0, none⟩,
   ⟨(some 11), .build [.int .i64 (0), .int .i64 (0), .int .i64 (0), .int .i64 (0)] [(0, 1, (.tmp 4)), (1, 1, (.tmp 6)), (2, 1, (.tmp 8)), (3, 1, (.tmp 10))], none, 0, none⟩,
   ⟨none, .store 4 (.tmp 2) (.tmp 11), none, 0, none⟩]) (.ret)), [.cell true 4 2], true⟩
def g_74 : List AVal → Heap → Option (AVal × Heap) := runBody (tab []) a_74
theorem v_74 : Valid Try.prog (tab []) := tab_nil
theorem k_74 : chkFunc Try.prog Try.f74 a_74 = true := by kernel_rfl
theorem ok_74 : Ok Try.prog 74 g_74 := Ok.body mixed v_74 Try.func74 k_74
attribute [irreducible] g_74
def b_45_0 : ACode := .seq (.region 0 [
   ⟨(some 8), .bin .lss (.tmp 7) (.const (.int .i64 (4))), none, 0, none⟩]) (.seq (.cond (.tmp 8) (.skip) (.exit 0)) (.seq (.block 1 (.seq (.region 0 [
   ⟨(some 9), .indexVal false 4 1 (.tmp 6) (.tmp 7), none, 0, none⟩,
   ⟨(some 4), .move (.tmp 9), none, 0, none⟩]) (.seq (.region 0 [
   ⟨(some 10), .move (.tmp 4), none, 0, none⟩,
   ⟨(some 11), .bin .lss (.tmp 10) (.const (.int .i64 (0))), none, 0, none⟩,
   ⟨(some 12), .move (.tmp 11), none, 0, none⟩,
   ⟨(some 13), .move (.tmp 4), (some (12, false)), 0, none⟩,
   ⟨(some 14), .bin .gtr (.tmp 13) (.const (.int .i64 (1048576))), (some (12, false)), 0, none⟩,
   ⟨(some 15), .pick (.tmp 12) (.const (.bool true)) (.tmp 14), none, 0, none⟩]) (.cond (.tmp 15) (.seq (.region 0 [
   ⟨(some 2), .move (.const (.bool false)), none, 0, none⟩]) (.ret)) (.skip))))) (.region 0 [
   ⟨(some 16), .bin .add (.tmp 7) (.const (.int .i64 (1))), none, 0, none⟩,
   ⟨(some 7), .move (.tmp 16), none, 0, none⟩])))
def a_45 : AFunc := ⟨17, .seq (.region 1 [
   ⟨(some 1), .box 4 (.tmp 0), none, 0, none⟩,
   ⟨(some 2), .move (.const (.bool false)), none, 1, none⟩]) (.seq (.seq (.region 4 [
   ⟨(some 5), .load true 4 (.tmp 1), none, 0, none⟩,
   ⟨(some 6), .call (.func 74) [(false, (.tmp 5))] false 4, none, 0, none⟩,
   ⟨(some 7), .move (.const (.int .i64 (0))), none, 4, none⟩]) (.block 0 (.loop [6, 7] b_45_0))) (.seq (.region 0 [
   ⟨(some 2), .move (.const (.bool true)), none, 0, none⟩]) (.ret))), [.tmp 2], true⟩
def g_45 : List AVal → Heap → Option (AVal × Heap) := runBody (tab [(74, g_74)]) a_45
theorem v_45 : Valid Try.prog (tab [(74, g_74)]) := (tab_cons ok_74 tab_nil)
theorem k_45 : chkFunc Try.prog Try.f45 a_45 = true := by kernel_rfl
theorem ok_45 : Ok Try.prog 45 g_45 := Ok.body mixed v_45 Try.func45 k_45
attribute [irreducible] g_45
def a_72 : AFunc := ⟨18, .seq (.region 2 [
   ⟨(some 1), .box 4 (.tmp 0), none, 0, none⟩,
   ⟨(some 2), .alloc [.cx (0) (0), .cx (0) (0)], none, 1, none⟩]) (.seq (.region 0 [
   ⟨(some 3), .fieldAddr 0 (.tmp 1), none, 0, none⟩,
   ⟨(some 4), .load false 1 (.tmp 3), none, 0, none⟩,
   ⟨(some 5), .flt .ofInt (.tmp 4) (.tmp 4), none, 0, none⟩,
   ⟨(some 6), .fieldAddr 1 (.tmp 1), none, 0, none⟩,
   ⟨(some 7), .load false 1 (.tmp 6), none, 0, none⟩,
   ⟨(some 8), .flt .ofInt (.tmp 7) (.tmp 7), none, 0, none⟩,
   ⟨(some 9), .flt .mk (.tmp 5) (.tmp 8), none, 0, none⟩,
   ⟨(some 10), .fieldAddr 2 (.tmp 1), none, 0, none⟩,
   ⟨(some 11), .load false 1 (.tmp 10), none, 0, none⟩,
   ⟨(some 12), .flt .ofInt (.tmp 11) (.tmp 11), none, 0, none⟩,
   ⟨(some 13), .fieldAddr 3 (.tmp 1), none, 0, none⟩,
   ⟨(some 14), .load false 1 (.tmp 13), none, 0, none⟩,
   ⟨(some 15), .flt .ofInt (.tmp 14) (.tmp 14), none, 0, none⟩,
   ⟨(some 16), .flt .mk (.tmp 12) (.tmp 15), none, 0, none⟩,
   ⟨(some 17), .build [.cx (0) (0), .cx (0) (0)] [(0, 1, (.tmp 9)), (1, 1, (.tmp 16))], none, 0, none⟩,
   ⟨none, .store 2 (.tmp 2) (.tmp 17), none, 0, none⟩]) (.ret)), [.cell true 2 2], true⟩
def g_72 : List AVal → Heap → Option (AVal × Heap) := runBody (tab []) a_72
theorem v_72 : Valid Try.prog (tab []) := tab_nil
theorem k_72 : chkFunc Try.prog Try.f72 a_72 = true := by kernel_rfl
theorem ok_72 : Ok Try.prog 72 g_72 := Ok.body mixed v_72 Try.func72 k_72
attribute [irreducible] g_72
def a_89 : AFunc := ⟨20, .seq (.region 2 [
   ⟨(some 1), .box 2 (.tmp 0), none, 0, none⟩,
   ⟨(some 2), .alloc [.int .i64 (0), .int .i64 (0), .int .i64 (0), .int .i64 (0)], none, 1, none⟩]) (.seq (.region 0 [
   ⟨(some 3), .indexArr 2 1 (.tmp 1) (.const (.int .i64 (0))), none, 0, none⟩,
   ⟨(some 4), .load false 1 (.tmp 3), none, 0, none⟩,
   ⟨(some 5), .flt .re (.tmp 4) (.tmp 4), none, 0, none⟩,
   ⟨(some 6), .flt .toInt (.tmp 5) (.tmp 5), none, 0, none⟩,
   ⟨(some 7), .indexArr 2 1 (.tmp 1) (.const (.int .i64 (0))), none, 0, none⟩,
   ⟨(some 8), .load false 1 (.tmp 7), none, 0, none⟩,
   ⟨(some 9), .flt .im (.tmp 8) (.tmp 8), none, 0, none⟩,
   ⟨(some 10), .flt .toInt (.tmp 9) (.tmp 9), none, 0, none⟩,
   ⟨(some 11), .indexArr 2 1 (.tmp 1) (.const (.int .i64 (1))), none, 0, none⟩,
   ⟨(some 12), .load false 1 (.tmp 11), none, 0, none⟩,
   ⟨(some 13), .flt .re (.tmp 12) (.tmp 12), none, 0, none⟩,
   ⟨(some 14), .flt .toInt (.tmp 13) (.tmp 13), none, 0, none⟩,
   ⟨(some 15), .indexArr 2 1 (.tmp 1) (.const (.int .i64 (1))), none, 0, none⟩,
   ⟨(some 16), .load false 1 (.tmp 15), none, 0, none⟩,
   ⟨(some 17), .flt .im (.tmp 16) (.tmp 16), none, 0, none⟩,
   ⟨(some 18), .flt .toInt (.tmp 17) (.tmp 17), none, 0, none⟩,
   ⟨(some 19), .build [.int .i64 (0), .int .i64 (0), .int .i64 (0), .int .i64 (0)] [(0, 1, (.tmp 6)), (1, 1, (.tmp 10)), (2, 1, (.tmp 14)), (3, 1, (.tmp 18))], none, 0, none⟩,
   ⟨none, .store 4 (.tmp 2) (.tmp 19), none, 0, none⟩]) (.ret)), [.cell true 4 2], true⟩
def g_89 : List AVal → Heap → Option (AVal × Heap) := runBody (tab []) a_89
theorem v_89 : Valid Try.prog (tab []) := tab_nil
theorem k_89 : chkFunc Try.prog Try.f89 a_89 = true := by kernel_rfl
theorem ok_89 : Ok Try.prog 89 g_89 := Ok.body mixed v_89 Try.func89 k_89
attribute [irreducible] g_89
def a_73 : AFunc := ⟨12, .seq (.region 2 [
   ⟨(some 1), .box 2 (.tmp 0), none, 0, none⟩,
   ⟨(some 2), .alloc [.int .i64 (0), .int .i64 (0), .int .i64 (0), .int .i64 (0)], none, 1, none⟩,
   ⟨(some 3), .move (.const (.int .i64 (0))), none, 2, none⟩]) (.seq (.region 5 [
   ⟨(some 5), .load true 2 (.tmp 1), none, 0, none⟩,
   ⟨(some 6), .call (.func 89) [(false, (.tmp 5))] false 4, none, 0, none⟩,
   ⟨(some 4), .alloc [.int .i64 (0), .int .i64 (0), .int .i64 (0), .int .i64 (0)], none, 4, none⟩,
   ⟨none, .store 4 (.tmp 4) (.tmp 6), none, 5, none⟩]) (.seq (.seq (.region 4 [
   ⟨(some 7), .load true 4 (.tmp 4), none, 0, none⟩,
   ⟨(some 8), .call (.func 45) [(false, (.tmp 7))] false 4, none, 0, none⟩,
   ⟨(some 9), .un .not (.tmp 8), none, 4, none⟩]) (.cond (.tmp 9) (.seq (.region 0 [
   ⟨(some 10), .build [.int .i64 (0), .int .i64 (0), .int .i64 (0), .int .i64 (0)] [], none, 0, none⟩,
   ⟨none, .store 4 (.tmp 2) (.tmp 10), none, 0, none⟩,
   ⟨(some 3), .move (.const (.int .i64 (20))), none, 0, none⟩]) (.ret)) (.skip))) (.seq (.region 0 [
   ⟨(some 11), .load true 4 (.tmp 4), none, 0, none⟩,
   ⟨none, .store 4 (.tmp 2) (.tmp 11), none, 0, none⟩,
   ⟨(some 3), .move (.const (.int .i64 (0))), none, 0, none⟩]) (.ret)))), [.cell true 4 2, .tmp 3], true⟩
def g_73 : List AVal → Heap → Option (AVal × Heap) := runBody (tab [(89, g_89), (45, g_45)]) a_73
theorem v_73 : Valid Try.prog (tab [(89, g_89), (45, g_45)]) := (tab_cons ok_89 (tab_cons ok_45 tab_nil))
theorem k_73 : chkFunc Try.prog Try.f73 a_73 = true := by kernel_rfl
theorem ok_73 : Ok Try.prog 73 g_73 := Ok.body mixed v_73 Try.func73 k_73
attribute [irreducible] g_73
def a_43 : AFunc := ⟨35, .seq (.region 3 [
   ⟨(some 2), .box 4 (.tmp 0), none, 0, none⟩,
   ⟨(some 3), .box 4 (.tmp 1), none, 1, none⟩,
   ⟨(some 4), .alloc [.int .i64 (0), .int .i64 (0), .int .i64 (0), .int .i64 (0)], none, 2, none⟩,
   ⟨(some 5), .move (.const (.int .i64 (0))), none, 3, none⟩]) (.seq (.seq (.region 8 [
   ⟨(some 8), .load true 4 (.tmp 2), none, 0, none⟩,
   ⟨(some 9), .call (.func 45) [(false, (.tmp 8))] false 4, none, 0, none⟩,
   ⟨(some 10), .un .not (.tmp 9), none, 4, none⟩,
   ⟨(some 11), .move (.tmp 10), none, 4, none⟩,
   ⟨(some 12), .load true 4 (.tmp 3), (some (11, false)), 4, none⟩,
   ⟨(some 13), .call (.func 45) [(false, (.tmp 12))] false 4, (some (11, false)), 4, none⟩,
   ⟨(some 14), .un .not (.tmp 13), (some (11, false)), 8, none⟩,
   ⟨(some 15), .pick (.tmp 11) (.const (.bool true)) (.tmp 14), none, 8, none⟩]) (.cond (.tmp 15) (.seq (.region 0 [
   ⟨(some 16), .build [.int .i64 (0), .int .i64 (0), .int .i64 (0), .int .i64 (0)] [], none, 0, none⟩,
   ⟨none, .store 4 (.tmp 4) (.tmp 16), none, 0, none⟩,
   ⟨(some 5), .move (.const (.int .i64 (2))), none, 0, none⟩]) (.ret)) (.skip))) (.seq (.region 10 [
   ⟨(some 17), .load true 4 (.tmp 2), none, 0, (some ([], none))⟩,
   ⟨(some 18), .call (.func 72) [(false, (.tmp 17))] true 4, none, 0, (some ([], none))⟩,
   ⟨(some 19), .load true 4 (.tmp 3), none, 4, (some ([], none))⟩,
   ⟨(some 20), .call (.func 72) [(false, (.tmp 19))] true 4, none, 4, (some ([0, 1, 2, 3], none))⟩,
   ⟨(some 6), .alloc [.cx (0) (0), .cx (0) (0)], none, 8, (some ([], none))⟩,
   ⟨(some 7), .alloc [.cx (0) (0), .cx (0) (0)], none, 9, (some ([], none))⟩,
   ⟨none, .store 2 (.tmp 6) (.tmp 18), none, 10, (some ([0, 1, 2, 3, 4, 5, 6, 7, 8, 9], none))⟩,
   ⟨none, .store 2 (.tmp 7) (.tmp 20), none, 10, (some ([0, 1, 2, 3, 4, 5, 6, 7, 8, 9], none))⟩]) (.seq (.region 4 [
   ⟨(some 21), .indexArr 2 1 (.tmp 6) (.const (.int .i64 (0))), none, 0, none⟩,
   ⟨(some 22), .load false 1 (.tmp 21), none, 0, none⟩,
   ⟨(some 23), .indexArr 2 1 (.tmp 7) (.const (.int .i64 (0))), none, 0, none⟩,
   ⟨(some 24), .load false 1 (.tmp 23), none, 0, none⟩,
   ⟨(some 25), .flt .add (.tmp 22) (.tmp 24), none, 0, none⟩,
   ⟨(some 26), .indexArr 2 1 (.tmp 6) (.const (.int .i64 (1))), none, 0, none⟩,
   ⟨(some 27), .load false 1 (.tmp 26), none, 0, none⟩,
   ⟨(some 28), .indexArr 2 1 (.tmp 7) (.const (.int .i64 (1))), none, 0, none⟩,
   ⟨(some 29), .load false 1 (.tmp 28), none, 0, none⟩,
   ⟨(some 30), .flt .add (.tmp 27) (.tmp 29), none, 0, none⟩,
   ⟨(some 31), .build [.cx (0) (0), .cx (0) (0)] [(0, 1, (.tmp 25)), (1, 1, (.tmp 30))], none, 0, none⟩,
   ⟨(some 32), .call (.func 73) [(false, (.tmp 31))] false 4, none, 0, none⟩,
   ⟨(some 33), .extract (.tmp 32) 0, none, 4, none⟩,
   ⟨(some 34), .extract (.tmp 32) 1, none, 4, none⟩,
   ⟨none, .store 4 (.tmp 4) (.tmp 33), none, 4, none⟩,
   ⟨(some 5), .move (.tmp 34), none, 4, none⟩]) (.ret)))), [.cell true 4 4, .tmp 5], true⟩
def g_43 : List AVal → Heap → Option (AVal × Heap) := runBody (tab [(45, g_45), (72, g_72), (73, g_73)]) a_43
theorem v_43 : Valid Try.prog (tab [(45, g_45), (72, g_72), (73, g_73)]) := (tab_cons ok_45 (tab_cons ok_72 (tab_cons ok_73 tab_nil)))
theorem k_43 : chkFunc Try.prog Try.f43 a_43 = true := by kernel_rfl
theorem ok_43 : Ok Try.prog 43 g_43 := Ok.body mixed v_43 Try.func43 k_43
attribute [irreducible] g_43
def a_46 : AFunc := ⟨35, .seq (.region 3 [
   ⟨(some 2), .box 4 (.tmp 0), none, 0, none⟩,
   ⟨(some 3), .box 4 (.tmp 1), none, 1, none⟩,
   ⟨(some 4), .alloc [.int .i64 (0), .int .i64 (0), .int .i64 (0), .int .i64 (0)], none, 2, none⟩,
   ⟨(some 5), .move (.const (.int .i64 (0))), none, 3, none⟩]) (.seq (.seq (.region 8 [
   ⟨(some 8), .load true 4 (.tmp 2), none, 0, none⟩,
   ⟨(some 9), .call (.func 45) [(false, (.tmp 8))] false 4, none, 0, none⟩,
   ⟨(some 10), .un .not (.tmp 9), none, 4, none⟩,
   ⟨(some 11), .move (.tmp 10), none, 4, none⟩,
   ⟨(some 12), .load true 4 (.tmp 3), (some (11, false)), 4, none⟩,
   ⟨(some 13), .call (.func 45) [(false, (.tmp 12))] false 4, (some (11, false)), 4, none⟩,
   ⟨(some 14), .un .not (.tmp 13), (some (11, false)), 8, none⟩,
   ⟨(some 15), .pick (.tmp 11) (.const (.bool true)) (.tmp 14), none, 8, none⟩]) (.cond (.tmp 15) (.seq (.region 0 [
   ⟨(some 16), .build [.int .i64 (0), .int .i64 (0), .int .i64 (0), .int .i64 (0)] [], none, 0, none⟩,
   ⟨none, .store 4 (.tmp 4) (.tmp 16), none, 0, none⟩,
   ⟨(some 5), .move (.const (.int .i64 (2))), none, 0, none⟩]) (.ret)) (.skip))) (.seq (.region 10 [
   ⟨(some 17), .load true 4 (.tmp 2), none, 0, (some ([], none))⟩,
   ⟨(some 18), .call (.func 72) [(false, (.tmp 17))] true 4, none, 0, (some ([], none))⟩,
   ⟨(some 19), .load true 4 (.tmp 3), none, 4, (some ([], none))⟩,
   ⟨(some 20), .call (.func 72) [(false, (.tmp 19))] true 4, none, 4, (some ([0, 1, 2, 3], none))⟩,
   ⟨(some 6), .alloc [.cx (0) (0), .cx (0) (0)], none, 8, (some ([], none))⟩,
   ⟨(some 7), .alloc [.cx (0) (0), .cx (0) (0)], none, 9, (some ([], none))⟩,
   ⟨none, .store 2 (.tmp 6) (.tmp 18), none, 10, (some ([0, 1, 2, 3, 4, 5, 6, 7, 8, 9], none))⟩,
   ⟨none, .store 2 (.tmp 7) (.tmp 20), none, 10, (some ([0, 1, 2, 3, 4, 5, 6, 7, 8, 9], none))⟩]) (.seq (.region 4 [
   ⟨(some 21), .indexArr 2 1 (.tmp 6) (.const (.int .i64 (0))), none, 0, none⟩,
   ⟨(some 22), .load false 1 (.tmp 21), none, 0, none⟩,
   ⟨(some 23), .indexArr 2 1 (.tmp 7) (.const (.int .i64 (0))), none, 0, none⟩,
   ⟨(some 24), .load false 1 (.tmp 23), none, 0, none⟩,
   ⟨(some 25), .flt .sub (.tmp 22) (.tmp 24), none, 0, none⟩,
   ⟨(some 26), .indexArr 2 1 (.tmp 6) (.const (.int .i64 (1))), none, 0, none⟩,
   ⟨(some 27), .load false 1 (.tmp 26), none, 0, none⟩,
   ⟨(some 28), .indexArr 2 1 (.tmp 7) (.const (.int .i64 (1))), none, 0, none⟩,
   ⟨(some 29), .load false 1 (.tmp 28), none, 0, none⟩,
   ⟨(some 30), .flt .sub (.tmp 27) (.tmp 29), none, 0, none⟩,
   ⟨(some 31), .build [.cx (0) (0), .cx (0) (0)] [(0, 1, (.tmp 25)), (1, 1, (.tmp 30))], none, 0, none⟩,
   ⟨(some 32), .call (.func 73) [(false, (.tmp 31))] false 4, none, 0, none⟩,
   ⟨(some 33), .extract (.tmp 32) 0, none, 4, none⟩,
   ⟨(some 34), .extract (.tmp 32) 1, none, 4, none⟩,
   ⟨none, .store 4 (.tmp 4) (.tmp 33), none, 4, none⟩,
   ⟨(some 5), .move (.tmp 34), none, 4, none⟩]) (.ret)))), [.cell true 4 4, .tmp 5], true⟩
def g_46 : List AVal → Heap → Option (AVal × Heap) := runBody (tab [(45, g_45), (72, g_72), (73, g_73)]) a_46
theorem v_46 : Valid Try.prog (tab [(45, g_45), (72, g_72), (73, g_73)]) := (tab_cons ok_45 (tab_cons ok_72 (tab_cons ok_73 tab_nil)))
theorem k_46 : chkFunc Try.prog Try.f46 a_46 = true := by kernel_rfl
theorem ok_46 : Ok Try.prog 46 g_46 := Ok.body mixed v_46 Try.func46 k_46
attribute [irreducible] g_46
def a_71 : AFunc := ⟨40, .seq (.region 2 [
   ⟨(some 2), .box 4 (.tmp 0), none, 0, none⟩,
   ⟨(some 4), .alloc [.int .i64 (0), .int .i64 (0), .int .i64 (0), .int .i64 (0)], none, 1, none⟩,
   ⟨(some 5), .move (.const (.int .i64 (0))), none, 2, none⟩]) (.seq (.seq (.region 4 [
   ⟨(some 8), .load true 4 (.tmp 2), none, 0, none⟩,
   ⟨(some 9), .call (.func 45) [(false, (.tmp 8))] false 4, none, 0, none⟩,
   ⟨(some 10), .un .not (.tmp 9), none, 4, none⟩,
   ⟨(some 11), .move (.tmp 10), none, 4, none⟩,
   ⟨(some 12), .move (.tmp 1), (some (11, false)), 4, none⟩,
   ⟨(some 13), .bin .lss (.tmp 12) (.const (.int .i64 (0))), (some (11, false)), 4, none⟩,
   ⟨(some 14), .pick (.tmp 11) (.const (.bool true)) (.tmp 13), none, 4, none⟩]) (.cond (.tmp 14) (.seq (.region 0 [
   ⟨(some 15), .build [.int .i64 (0), .int .i64 (0), .int .i64 (0), .int .i64 (0)] [], none, 0, none⟩,
   ⟨none, .store 4 (.tmp 4) (.tmp 15), none, 0, none⟩,
   ⟨(some 5), .move (.const (.int .i64 (2))), none, 0, none⟩]) (.ret)) (.skip))) (.seq (.seq (.region 0 [
   ⟨(some 16), .load true 4 (.tmp 2), none, 0, none⟩,
   ⟨(some 17), .build [.int .i64 (0), .int .i64 (0), .int .i64 (0), .int .i64 (0)] [], none, 0, none⟩,
   ⟨(some 18), .eqAgg (false, [.int .i64, .int .i64, .int .i64, .int .i64]) (.tmp 16) (.tmp 17), none, 0, none⟩]) (.cond (.tmp 18) (.seq (.region 0 [
   ⟨(some 19), .build [.int .i64 (0), .int .i64 (0), .int .i64 (0), .int .i64 (0)] [], none, 0, none⟩,
   ⟨none, .store 4 (.tmp 4) (.tmp 19), none, 0, none⟩,
   ⟨(some 5), .move (.const (.int .i64 (0))), none, 0, none⟩]) (.ret)) (.skip))) (.seq (.seq (.region 0 [
   ⟨(some 20), .move (.tmp 1), none, 0, none⟩,
   ⟨(some 21), .bin .gtr (.tmp 20) (.const (.int .i64 (1048576))), none, 0, none⟩]) (.cond (.tmp 21) (.seq (.region 0 [
   ⟨(some 22), .build [.int .i64 (0), .int .i64 (0), .int .i64 (0), .int .i64 (0)] [], none, 0, none⟩,
   ⟨none, .store 4 (.tmp 4) (.tmp 22), none, 0, none⟩,
   ⟨(some 5), .move (.const (.int .i64 (20))), none, 0, none⟩]) (.ret)) (.skip))) (.seq (.region 5 [
   ⟨(some 23), .load true 4 (.tmp 2), none, 0, none⟩,
   ⟨(some 24), .call (.func 72) [(false, (.tmp 23))] false 4, none, 0, none⟩,
   ⟨(some 25), .move (.tmp 1), none, 4, none⟩,
   ⟨(some 26), .flt .ofInt (.tmp 25) (.tmp 25), none, 4, none⟩,
   ⟨(some 27), .flt .mk (.tmp 26) (.const (.fl (0))), none, 4, none⟩,
   ⟨(some 6), .alloc [.cx (0) (0), .cx (0) (0)], none, 4, none⟩,
   ⟨none, .store 2 (.tmp 6) (.tmp 24), none, 5, none⟩,
   ⟨(some 7), .move (.tmp 27), none, 5, none⟩]) (.seq (.region 4 [
   ⟨(some 28), .indexArr 2 1 (.tmp 6) (.const (.int .i64 (0))), none, 0, none⟩,
   ⟨(some 29), .load false 1 (.tmp 28), none, 0, none⟩,
   ⟨(some 30), .move (.tmp 7), none, 0, none⟩,
   ⟨(some 31), .flt .mul (.tmp 29) (.tmp 30), none, 0, none⟩,
   ⟨(some 32), .indexArr 2 1 (.tmp 6) (.const (.int .i64 (1))), none, 0, none⟩,
   ⟨(some 33), .load false 1 (.tmp 32), none, 0, none⟩,
   ⟨(some 34), .move (.tmp 7), none, 0, none⟩,
   ⟨(some 35), .flt .mul (.tmp 33) (.tmp 34), none, 0, none⟩,
   ⟨(some 36), .build [.cx (0) (0), .cx (0) (0)] [(0, 1, (.tmp 31)), (1, 1, (.tmp 35))], none, 0, none⟩,
   ⟨(some 37), .call (.func 73) [(false, (.tmp 36))] false 4, none, 0, none⟩,
   ⟨(some 38), .extract (.tmp 37) 0, none, 4, none⟩,
   ⟨(some 39), .extract (.tmp 37) 1, none, 4, none⟩,
   ⟨none, .store 4 (.tmp 4) (.tmp 38), none, 4, none⟩,
   ⟨(some 5), .move (.tmp 39), none, 4, none⟩]) (.ret)))))), [.cell true 4 4, .tmp 5], true⟩
def g_71 : List AVal → Heap → Option (AVal × Heap) := runBody (tab [(45, g_45), (72, g_72), (73, g_73)]) a_71
theorem v_71 : Valid Try.prog (tab [(45, g_45), (72, g_72), (73, g_73)]) := (tab_cons ok_45 (tab_cons ok_72 (tab_cons ok_73 tab_nil)))
theorem k_71 : chkFunc Try.prog Try.f71 a_71 = true := by kernel_rfl
theorem ok_71 : Ok Try.prog 71 g_71 := Ok.body mixed v_71 Try.func71 k_71
attribute [irreducible] g_71
end AM
end Go.Proofs.Ytfelhbeiegppgaa
end
section
namespace Go.Proofs.Ytfelhbeiegppgaa
namespace AM
def Goes (K : Oracle) (N : Nat) (c : ACode) (st : St) (Q : AExit → St → Prop) : Prop := ∃ e s, exec K N c st = some (e, s) ∧ Q e s
def Ops (K : Oracle) (base : Nat) (os : List AOper) (st : St) (Q : St → Prop) : Prop := ∃ s, runOps K base os st = some s ∧ Q s
variable {K : Oracle} {N : Nat} {Q : AExit → St → Prop} {st : St}
theorem goes_seq {a b : ACode} (h : Goes K N a st fun e s => (e = .normal → Goes K N b s Q) ∧ (e ≠ .normal → Q e s)) : Goes K N (.seq a b) st Q := by
 obtain ⟨e, s, he, h1, h2⟩ := h
 cases e with
 | normal => obtain ⟨e', s', h3, h4⟩ := h1 rfl; exact ⟨e', s', by simp only [exec, he, h3], h4⟩
 | exit i => exact ⟨_, s, by simp only [exec, he], h2 (by simp)⟩
 | ret => exact ⟨_, s, by simp only [exec, he], h2 (by simp)⟩
 | goto i => exact ⟨_, s, by simp only [exec, he], h2 (by simp)⟩
theorem then_normal {P R : Prop} (h : P) : (AExit.normal = .normal → P) ∧ (AExit.normal ≠ .normal → R) := ⟨fun _ => h, fun h => absurd rfl h⟩
theorem then_exit {i : Nat} {P R : Prop} (h : R) : (AExit.exit i = .normal → P) ∧ (AExit.exit i ≠ .normal → R) := ⟨fun h => (by cases h), fun _ => h⟩
theorem then_ret {P R : Prop} (h : R) : (AExit.ret = .normal → P) ∧ (AExit.ret ≠ .normal → R) := ⟨fun h => (by cases h), fun _ => h⟩
theorem goes_skip (h : Q .normal st) : Goes K N .skip st Q := ⟨_, _, rfl, h⟩
theorem goes_exit {i : Nat} (h : Q (.exit i) st) : Goes K N (.exit i) st Q := ⟨_, _, rfl, h⟩
theorem goes_ret (h : Q .ret st) : Goes K N .ret st Q := ⟨_, _, rfl, h⟩
theorem goes_region {ids : Nat} {ops : List AOper} {tm : List AVal} {hp : Heap} {k : Nat} (h : Ops K hp.length ops ⟨tm, hp ++ List.replicate ids .free, k⟩ fun s => Q .normal s) : Goes K N (.region ids ops) ⟨tm, hp, k⟩ Q := by
 obtain ⟨s, hs, hq⟩ := h
 exact ⟨_, s, by simp only [exec, hs, Option.map_some], hq⟩
theorem goes_region0 {ops : List AOper} {tm : List AVal} {hp : Heap} {k : Nat} (h : Ops K hp.length ops ⟨tm, hp, k⟩ fun s => Q .normal s) : Goes K N (.region 0 ops) ⟨tm, hp, k⟩ Q :=
 goes_region (by rw [List.replicate_zero, List.append_nil]; exact h)
theorem goes_true {c : Opd} {a b : ACode} {tm : List AVal} {hp : Heap} {k : Nat} (hc : look tm c = .bool true) (h : Goes K N a ⟨tm, hp, k⟩ Q) : Goes K N (.cond c a b) ⟨tm, hp, k⟩ Q := by
 obtain ⟨e, s, he, hq⟩ := h
 exact ⟨e, s, by simp only [exec, hc, if_true, he], hq⟩
theorem goes_false {c : Opd} {a b : ACode} {tm : List AVal} {hp : Heap} {k : Nat} (hc : look tm c = .bool false) (h : Goes K N b ⟨tm, hp, k⟩ Q) : Goes K N (.cond c a b) ⟨tm, hp, k⟩ Q := by
 obtain ⟨e, s, he, hq⟩ := h
 exact ⟨e, s, by simp only [exec, hc, Bool.false_eq_true, if_false, he], hq⟩
theorem goes_block {i : Nat} {c : ACode} (h : Goes K N c st fun e s => if e = .exit i then Q .normal s else Q e s) : Goes K N (.block i c) st Q := by
 obtain ⟨e, s, he, hq⟩ := h
 by_cases hi : e = .exit i
 · rw [if_pos hi] at hq
   exact ⟨.normal, s, by simp only [exec, he, hi, if_true], hq⟩
 · rw [if_neg hi] at hq
   refine ⟨e, s, ?_, hq⟩
   cases e with
   | exit j => have : ¬ j = i := fun e => hi (by rw [e])
               simp only [exec, he, if_neg this]
   | normal => simp only [exec, he]
   | ret => simp only [exec, he]
   | goto j => simp only [exec, he]
theorem blk_out {i : Nat} {P R : Prop} (h : P) : if AExit.exit i = .exit i then P else R := by rw [if_pos rfl]; exact h
theorem blk_far {i j : Nat} {P R : Prop} (hj : (j == i) = false) (h : R) : if AExit.exit j = .exit i then P else R := by
 rw [if_neg]; exact h
 intro e; cases e; simp at hj
theorem blk_normal {i : Nat} {P R : Prop} (h : R) : if AExit.normal = .exit i then P else R := by rw [if_neg (by simp)]; exact h
theorem blk_ret {i : Nat} {P R : Prop} (h : R) : if AExit.ret = .exit i then P else R := by rw [if_neg (by simp)]; exact h
theorem goes_loop {keep : List Nat} {c : ACode} {e : AExit} {s : St} (h : iter keep (exec K N c) N st = some (e, s)) (hq : Q e s) : Goes K N (.loop keep c) st Q := ⟨e, s, by simp only [exec, h], hq⟩
variable {base : Nat} {os : List AOper} {R : St → Prop} {tm tm' : List AVal} {hp hp' : Heap} {k d a : Nat} {sees : Sees} {op : AOp} {v : AVal}
theorem ops_nil (h : R st) : Ops K base [] st R := ⟨st, rfl, h⟩
theorem ops_pure (hpure : isPure op = true) (h : pureOp op (look tm) = some v) (hset : tm.set d v = tm') (hk : Ops K base os ⟨tm', hp, k⟩ R) : Ops K base (⟨some d, op, none, a, sees⟩ :: os) ⟨tm, hp, k⟩ R := by
 obtain ⟨s, hs, hq⟩ := hk
 have ht : tightOk base ⟨some d, op, none, a, sees⟩ (look tm) hp = true := by
   have : AOp.cls op = 0 := by unfold AOp.cls; rw [if_pos hpure]
   unfold tightOk
   simp only [this]
   rfl
 exact ⟨s, by simp only [runOps, runOp, effOp, ht, eff0, hpure, if_true, h, Option.map_some, setTmp, hset, Option.bind_some, hs], hq⟩
theorem ops_eff {dst : Option Nat} (h : effOp K base ⟨dst, op, none, a, sees⟩ (look tm) hp = some (v, hp')) (hset : setTmp tm dst v = tm') (hk : Ops K base os ⟨tm', hp', k⟩ R) : Ops K base (⟨dst, op, none, a, sees⟩ :: os) ⟨tm, hp, k⟩ R := by
 obtain ⟨s, hs, hq⟩ := hk
 exact ⟨s, by simp only [runOps, runOp, h, Option.map_some, hset, Option.bind_some, hs], hq⟩
theorem ops_on {dst : Option Nat} {t : Nat} {b : Bool} (hg : tm.getD t .undef = .bool b) (h : effOp K base ⟨dst, op, some (t, b), a, sees⟩ (look tm) hp = some (v, hp')) (hset : setTmp tm dst v = tm') (hk : Ops K base os ⟨tm', hp', k⟩ R) : Ops K base (⟨dst, op, some (t, b), a, sees⟩ :: os) ⟨tm, hp, k⟩ R := by
 obtain ⟨s, hs, hq⟩ := hk
 exact ⟨s, by simp only [runOps, runOp, hg, if_true, h, Option.map_some, hset, Option.bind_some, hs], hq⟩
theorem ops_off {dst : Option Nat} {t : Nat} {b c : Bool} (hg : tm.getD t .undef = .bool c) (hbc : (c == b) = false) (hset : setTmp tm dst (.tup []) = tm') (hk : Ops K base os ⟨tm', hp, k⟩ R) : Ops K base (⟨dst, op, some (t, b), a, sees⟩ :: os) ⟨tm, hp, k⟩ R := by
 obtain ⟨s, hs, hq⟩ := hk
 have : ¬ c = b := by simpa using hbc
 exact ⟨s, by simp only [runOps, runOp, hg, if_neg this, hset, Option.bind_some, hs], hq⟩
theorem ops_dead {dst : Option Nat} {t : Nat} {b : Bool} (hg : tm.getD t .undef = .tup []) (hset : setTmp tm dst (.tup []) = tm') (hk : Ops K base os ⟨tm', hp, k⟩ R) : Ops K base (⟨dst, op, some (t, b), a, sees⟩ :: os) ⟨tm, hp, k⟩ R := by
 obtain ⟨s, hs, hq⟩ := hk
 exact ⟨s, by simp only [runOps, runOp, hg, hset, Option.bind_some, hs], hq⟩
theorem body_of {f : AFunc} {args : List AVal} {hp : Heap} {r : AVal × Heap} (h : Goes K LOOPS f.code ⟨args ++ List.replicate (f.ntmps - args.length) .undef, hp, hp.length⟩ fun e s => (e = .normal ∨ e = .ret) ∧ leave f s = some r) : runBody K f args hp = some r := by
 obtain ⟨e, s, he, h1, h2⟩ := h
 unfold runBody
 rw [he]
 rcases h1 with rfl | rfl <;> exact h2
theorem round_of {keep : List Nat} {c : ACode} {s' : St} (h : Goes K N c st fun e s => e = .normal ∧ norm keep s = some s') : roundN keep (exec K N c) st = some s' := by
 obtain ⟨e, s, he, rfl, h2⟩ := h
 unfold roundN
 rw [he]; exact h2
theorem goes_upto {keep : List Nat} {c : ACode} {H : Nat → St} (p : Nat → Bool) (m : Nat) (h0 : norm keep st = some (H 0)) (hN : m < N)
   (step : ∀ k, k < m → p k = true → roundN keep (exec K N c) (H k) = some (H (k + 1)))
   (bad : ∀ k, k < m → (∀ j, j < k → p j = true) → p k = false → Goes K N c (H k) fun e s => e ≠ .normal ∧ Q e s)
   (last : (∀ k, k < m → p k = true) → Goes K N c (H m) fun e s => e ≠ .normal ∧ Q e s) : Goes K N (.loop keep c) st Q := by
 by_cases hall : ∀ k, k < m → p k = true
 · obtain ⟨e, s, he, hn, hq⟩ := last hall
   exact goes_loop (iter_upto h0 (fun k hk => step k hk (hall k hk)) he hn hN) hq
 · have hex : ∃ k, k < m ∧ p k = false ∧ ∀ j, j < k → p j = true := by
     have : ∃ k, k < m ∧ p k = false := by
       apply Classical.byContradiction
       intro h
       exact hall fun k hk => by
         cases hp : p k with
         | true => rfl
         | false => exact absurd ⟨k, hk, hp⟩ h
     obtain ⟨k, hk, hp⟩ := this
     induction k using Nat.strongRecOn with
     | ind k ih =>
       by_cases hj : ∀ j, j < k → p j = true
       · exact ⟨k, hk, hp, hj⟩
       · apply Classical.byContradiction
         intro hno
         refine hj fun j hjk => ?_
         cases hpj : p j with
         | true => rfl
         | false => exact absurd (ih j hjk (by omega) hpj) hno
   obtain ⟨k, hk, hp, hj⟩ := hex
   obtain ⟨e, s, he, hn, hq⟩ := bad k hk hj hp
   exact goes_loop (iter_upto h0 (fun j hjk => step j (by omega) (hj j hjk)) he hn (by omega)) hq
end AM
end Go.Proofs.Ytfelhbeiegppgaa
end
section
namespace Go.Proofs.Ytfelhbeiegppgaa
open Go.RowKit
theorem add_block (a : Addr) (n : Nat) : (a.add n).block = a.block := by unfold Addr.add; split <;> rfl
theorem add_add (a : Addr) (i j : Nat) : (a.add i).add j = a.add (i + j) := by
 unfold Addr.add
 by_cases hi : i = 0 <;> by_cases hj : j = 0 <;> simp [hi, hj, Nat.add_assoc]
def Lt (B : Nat) (b : Nat) : Prop := b < B
theorem Lt.le {B B' : Nat} (h : B ≤ B') : ∀ b, Lt B b → Lt B' b := fun _ hb => Nat.lt_of_lt_of_le hb h
def Same (S : Nat → Prop) (w w' : World) : Prop := ∀ p : Addr, S p.block → w'.cell? p = w.cell? p
theorem Same.refl (S : Nat → Prop) (w : World) : Same S w w := fun _ _ => rfl
theorem Same.trans {S : Nat → Prop} {a b c : World} (h : Same S a b) (k : Same S b c) : Same S a c := fun p hp => (k p hp).trans (h p hp)
theorem Same.mono {S S' : Nat → Prop} {a b : World} (h : Same S a b) (hS : ∀ x, S' x → S x) : Same S' a b := fun p hp => h p (hS _ hp)
theorem Same.below {B : Nat} {a b : World} (h : Below B a b) : Same (Lt B) a b := fun _ hp => h.cell hp
class Lay (α : Type) where
 n : Nat
 agg : Bool
 pos : 0 < n
 R : World → (Nat → Prop) → α → List Value → Prop
 size : ∀ {w : World} {B : Nat → Prop} {x : α} {cs : List Value}, R w B x cs → cs.length = n
 one : ∀ {w : World} {B : Nat → Prop} {x : α} {cs : List Value}, R w B x cs → ∀ u ∈ cs, u.oneCell' = true
 keep : ∀ {w w' : World} {B : Nat → Prop} {x : α} {cs : List Value}, Same B w w' → R w B x cs → R w' B x cs
 mono : ∀ {w : World} {B B' : Nat → Prop} {x : α} {cs : List Value}, (∀ b, B b → B' b) → R w B x cs → R w B' x cs
def I64 (n : Int) : Prop := -9223372036854775808 ≤ n ∧ n ≤ 9223372036854775807
instance : Lay Int where
 n := 1
 agg := false
 pos := Nat.one_pos
 R _ _ x cs := cs = [.int .i64 x] ∧ I64 x
 size h := by rw [h.1]; rfl
 one h u hu := by rw [h.1] at hu; simp at hu; subst hu; rfl
 keep _ h := h
 mono _ h := h
instance : Lay Bool where
 n := 1
 agg := false
 pos := Nat.one_pos
 R _ _ x cs := cs = [.bool x]
 size h := by rw [h]; rfl
 one h u hu := by rw [h] at hu; simp at hu; subst hu; rfl
 keep _ h := h
 mono _ h := h
instance : Lay UInt8 where
 n := 1
 agg := false
 pos := Nat.one_pos
 R _ _ x cs := cs = [.int .u8 (x.toNat : Int)]
 size h := by rw [h]; rfl
 one h u hu := by rw [h] at hu; simp at hu; subst hu; rfl
 keep _ h := h
 mono _ h := h
instance : Lay ByteArray where
 n := 1
 agg := false
 pos := Nat.one_pos
 R _ _ x cs := cs = [.string x] ∧ x.size ≤ maxLen
 size h := by rw [h.1]; rfl
 one h u hu := by rw [h.1] at hu; simp at hu; subst hu; rfl
 keep _ h := h
 mono _ h := h
def Sl {α : Type} [Lay α] (w : World) (B : Nat → Prop) (A : Option Addr) (xs : List α) : Prop :=
 ∀ (k : Nat) (x : α), xs[k]? = some x → ∃ ad cs, A = some ad ∧ B ad.block ∧ Lay.R w B x cs ∧ ∀ j u, cs[j]? = some u → w.cell? (ad.add (k * Lay.n α + j)) = some u
section
variable {α : Type} [Lay α] {w w' : World} {B B' : Nat → Prop} {A : Option Addr} {xs : List α}
theorem Sl.nil : Sl w B A ([] : List α) := fun k x h => by simp at h
theorem Sl.keep (h : Sl w B A xs) (hs : Same B w w') : Sl w' B A xs := fun k x hk => by
 obtain ⟨ad, cs, rfl, hb, hr, hc⟩ := h k x hk
 exact ⟨ad, cs, rfl, hb, Lay.keep hs hr, fun j u hu => (hs _ (by rw [add_block]; exact hb)).trans (hc j u hu)⟩
theorem Sl.mono (h : Sl w B A xs) (hB : ∀ b, B b → B' b) : Sl w B' A xs := fun k x hk => by
 obtain ⟨ad, cs, rfl, hb, hr, hc⟩ := h k x hk
 exact ⟨ad, cs, rfl, hB _ hb, Lay.mono hB hr, hc⟩
theorem Sl.below {N : Nat} (h : Sl w (Lt N) A xs) (hb : Below N w w') : Sl w' (Lt N) A xs := h.keep (Same.below hb)
theorem Sl.later (h : Sl w (Lt w.heap.size) A xs) (hb : Below w.heap.size w w') : Sl w' (Lt w'.heap.size) A xs := (h.below hb).mono (Lt.le hb.size)
end
theorem Sl.cut {α : Type} [Lay α] {w : World} {B : Nat → Prop} {A : Option Addr} {xs : List α} (h : Sl w B A xs) {k c : Nat} (hc : xs.length ≤ c) :
   Sl w B (if c = k then A else A.map (·.add (k * Lay.n α))) (xs.drop k) := fun i x hi => by
 rw [List.getElem?_drop] at hi
 have hlt := (List.getElem?_eq_some_iff.1 hi).1
 obtain ⟨ad, cs, rfl, hb, hr, hcell⟩ := h (k + i) x hi
 rw [if_neg (by omega)]
 refine ⟨ad.add (k * Lay.n α), cs, rfl, by rw [add_block]; exact hb, hr, fun j u hu => ?_⟩
 rw [add_add, show k * Lay.n α + (i * Lay.n α + j) = (k + i) * Lay.n α + j by rw [Nat.add_mul]; omega]
 exact hcell j u hu
theorem Sl.take {α : Type} [Lay α] {w : World} {B : Nat → Prop} {A : Option Addr} {xs : List α} (h : Sl w B A xs) (k : Nat) : Sl w B A (xs.take k) := fun i x hi => by
 rw [List.getElem?_take] at hi
 split at hi
 · exact h i x hi
 · cases hi
theorem Sl.isSome {α : Type} [Lay α] {w : World} {B : Nat → Prop} {A : Option Addr} {xs : List α} (h : Sl w B A xs) (hx : 0 < xs.length) : ∃ ad, A = some ad := by
 obtain ⟨ad, _, e, _⟩ := h 0 _ (List.getElem?_eq_getElem hx)
 exact ⟨ad, e⟩
instance {α : Type} [Lay α] : Lay (List α) where
 n := 1
 agg := false
 pos := Nat.one_pos
 R w B xs cs := ∃ A c, cs = [.slice A xs.length c] ∧ xs.length ≤ c ∧ c ≤ maxLen ∧ (A = none → c = 0) ∧ Sl w B A xs
 size h := by obtain ⟨A, c, rfl, _⟩ := h; rfl
 one h u hu := by obtain ⟨A, c, rfl, _⟩ := h; simp at hu; subst hu; rfl
 keep hs h := by obtain ⟨A, c, rfl, hc, hm, hn, h⟩ := h; exact ⟨A, c, rfl, hc, hm, hn, h.keep hs⟩
 mono hB h := by obtain ⟨A, c, rfl, hc, hm, hn, h⟩ := h; exact ⟨A, c, rfl, hc, hm, hn, h.mono hB⟩
instance {α β : Type} [Lay α] [Lay β] : Lay (α × β) where
 n := Lay.n α + Lay.n β
 agg := true
 pos := by have : 0 < Lay.n α := Lay.pos; omega
 R w B x cs := ∃ c d, cs = c ++ d ∧ Lay.R w B x.1 c ∧ Lay.R w B x.2 d
 size h := by obtain ⟨c, d, rfl, h1, h2⟩ := h; rw [List.length_append, Lay.size h1, Lay.size h2]
 one h u hu := by
   obtain ⟨c, d, rfl, h1, h2⟩ := h
   rcases List.mem_append.1 hu with hu | hu
   · exact Lay.one h1 u hu
   · exact Lay.one h2 u hu
 keep hs h := by obtain ⟨c, d, rfl, h1, h2⟩ := h; exact ⟨c, d, rfl, Lay.keep hs h1, Lay.keep hs h2⟩
 mono hB h := by obtain ⟨c, d, rfl, h1, h2⟩ := h; exact ⟨c, d, rfl, Lay.mono hB h1, Lay.mono hB h2⟩
@[reducible] def Lay.iso {α β : Type} [Lay β] (f : α → β) : Lay α where
 n := Lay.n β
 agg := true
 pos := Lay.pos
 R w B x cs := Lay.R w B (f x) cs
 size h := Lay.size h
 one h := Lay.one h
 keep hs h := Lay.keep hs h
 mono hB h := Lay.mono hB h
def isAgg : Value → Bool | .agg _ => true | _ => false
def V {α : Type} [Lay α] (w : World) (B : Nat → Prop) (x : α) (v : Value) : Prop := Lay.R w B x v.cells.toList ∧ isAgg v = Lay.agg α
section
variable {α : Type} [Lay α] {w w' : World} {B B' : Nat → Prop} {x : α} {v : Value}
theorem V.keep (h : V w B x v) (hs : Same B w w') : V w' B x v := ⟨Lay.keep hs h.1, h.2⟩
theorem V.mono (h : V w B x v) (hB : ∀ b, B b → B' b) : V w B' x v := ⟨Lay.mono hB h.1, h.2⟩
theorem V.below {N : Nat} (h : V w (Lt N) x v) (hb : Below N w w') : V w' (Lt N) x v := h.keep (Same.below hb)
theorem V.later (h : V w (Lt w.heap.size) x v) (hb : Below w.heap.size w w') : V w' (Lt w'.heap.size) x v := (h.below hb).mono (Lt.le hb.size)
theorem V.cells_eq (h : Lay.agg α = false) (k : V w B x v) : v.cells.toList = [v] := by
 have h2 := k.2
 rw [h] at h2
 cases v <;> simp_all [isAgg, Value.cells]
theorem V.agg_eq (h : Lay.agg α = true) (k : V w B x v) : ∃ cs, v = .agg cs ∧ Lay.R w B x cs.toList := by
 have h2 := k.2
 rw [h] at h2
 cases v <;> simp [isAgg] at h2
 exact ⟨_, rfl, k.1⟩
end
theorem V.int {w : World} {B : Nat → Prop} {x : Int} {v : Value} (h : V w B x v) : v = .int .i64 x ∧ I64 x := by
 have h1 := h.1
 rw [h.cells_eq rfl] at h1
 obtain ⟨h1, h2⟩ := h1
 exact ⟨by simpa using h1, h2⟩
theorem V.bool {w : World} {B : Nat → Prop} {x : Bool} {v : Value} (h : V w B x v) : v = .bool x := by
 have h1 : v.cells.toList = [.bool x] := h.1
 rw [h.cells_eq rfl] at h1
 simpa using h1
theorem V.string {w : World} {B : Nat → Prop} {x : ByteArray} {v : Value} (h : V w B x v) : v = .string x ∧ x.size ≤ maxLen := by
 have h1 : v.cells.toList = [.string x] ∧ x.size ≤ maxLen := h.1
 rw [h.cells_eq rfl] at h1
 exact ⟨by simpa using h1.1, h1.2⟩
theorem V.slice {α : Type} [Lay α] {w : World} {B : Nat → Prop} {xs : List α} {v : Value} (h : V w B xs v) : ∃ A c, v = .slice A xs.length c ∧ xs.length ≤ c ∧ c ≤ maxLen ∧ (A = none → c = 0) ∧ Sl w B A xs := by
 obtain ⟨A, c, h1, h2⟩ := h.1
 rw [h.cells_eq rfl] at h1
 exact ⟨A, c, by simpa using h1, h2⟩
theorem V.slice_mk {α : Type} [Lay α] {w : World} {B : Nat → Prop} {xs : List α} {A : Option Addr} {n c : Nat} (hn : n = xs.length) (h1 : xs.length ≤ c) (h2 : c ≤ maxLen) (h3 : A = none → c = 0) (h : Sl w B A xs) : V w B xs (.slice A n c) :=
 ⟨⟨A, c, by rw [hn]; rfl, h1, h2, h3, h⟩, rfl⟩
def Rd (P : Program) (t : TypeId) (α : Type) [Lay α] : Prop :=
 ∀ {H : Type} {enc : TypeId × Value → H} {w : World} {base : Nat} {spare : Nat → Bool} {held : Bool} {fuel : Nat} {cs : List Value} {y : DataW H × List MemPlace},
   DataW.trod enc P w base spare held fuel t cs = some y → ∃ x : α, Lay.R w (Lt w.heap.size) x cs
theorem rd_int {P : Program} {t : TypeId} (ht : P.underlying t = some (.int .i64)) : Rd P t Int := fun h => by
 obtain ⟨n, rfl, _, hw⟩ := DataW.trod_int ht h
 refine ⟨n, rfl, ?_⟩
 simpa [I64, Lit.wf, IntKind.min, IntKind.max, IntKind.signed, IntKind.bits] using hw
theorem rd_bool {P : Program} {t : TypeId} (ht : P.underlying t = some .bool) : Rd P t Bool := fun h => by
 obtain ⟨b, rfl, _⟩ := DataW.trod_bool ht h
 exact ⟨b, rfl⟩
theorem cell_lt {w : World} {p : Addr} {u : Value} (h : w.cell? p = some u) : p.block < w.heap.size := by
 rcases Nat.lt_or_ge p.block w.heap.size with hlt | hge
 · exact hlt
 · unfold World.cell? at h
   rw [Array.getElem?_eq_none hge] at h
   simp at h
theorem choose_list {α : Type} {Q : Nat → α → Prop} : ∀ (n : Nat), (∀ i, i < n → ∃ x, Q i x) → ∃ xs : List α, xs.length = n ∧ ∀ i x, xs[i]? = some x → Q i x
 | 0, _ => ⟨[], rfl, by simp⟩
 | n + 1, h => by
   obtain ⟨xs, hl, hx⟩ := choose_list n (fun i hi => h i (by omega))
   obtain ⟨y, hy⟩ := h n (by omega)
   refine ⟨xs ++ [y], by simp [hl], fun i x hi => ?_⟩
   rcases Nat.lt_trichotomy i n with h1 | h1 | h1
   · rw [List.getElem?_append_left (by omega)] at hi; exact hx i x hi
   · subst h1; rw [List.getElem?_append_right (by omega)] at hi; simp [hl] at hi; subst hi; exact hy
   · rw [List.getElem?_eq_none (by simp; omega)] at hi; cases hi
theorem rd_slice {P : Program} {t e : TypeId} {α : Type} [Lay α] (ht : P.underlying t = some (.slice e)) (hc : P.cellsOf e = Lay.n α) (he : Rd P e α) : Rd P t (List α) := fun {H enc w base spare held fuel cs y} h => by
 rcases Deep.open_slice ht h with ⟨rfl, _⟩ | ⟨a, len, cap, m, n, D, Pl, rfl, _, hl, hm, hmm, _, hi⟩
 · exact ⟨[], none, 0, rfl, Nat.le_refl _, Nat.zero_le _, fun _ => rfl, Sl.nil⟩
 · have hlm : len ≤ m := by rw [hmm]; split <;> omega
   obtain ⟨xs, hxl, hx⟩ := choose_list (Q := fun i (x : α) => Lt w.heap.size a.block ∧ ∃ cs, Lay.R w (Lt w.heap.size) x cs ∧ ∀ j u, cs[j]? = some u → w.cell? (a.add (i * Lay.n α + j)) = some u) len (fun i hi' => by
     obtain ⟨cs', hcs, htr⟩ := hi i (by omega)
     obtain ⟨x, hx⟩ := he htr
     rw [hc] at hcs
     obtain ⟨_, hcl, hat⟩ := World.cells?_some hcs
     have hcell : ∀ j u, cs'[j]? = some u → w.cell? (a.add (i * Lay.n α + j)) = some u := fun j u hu => by
       have hj : j < Lay.n α := by rw [← Lay.size hx]; exact (List.getElem?_eq_some_iff.1 hu).1
       have := hat j hj
       rw [add_add] at this
       rw [this, hu]
     have h0 : 0 < cs'.length := by rw [Lay.size hx]; exact Lay.pos
     have := cell_lt (hcell 0 _ (List.getElem?_eq_getElem h0))
     rw [add_block] at this
     exact ⟨x, this, cs', hx, hcell⟩)
   refine ⟨xs, some a, cap, by rw [hxl], by omega, hm, (fun h => (by cases h)), fun k x hk => ?_⟩
   obtain ⟨hb, cs, h1, h2⟩ := hx k x hk
   exact ⟨a, cs, rfl, hb, h1, h2⟩
def RdF (P : Program) (fs : List Field) (off : Nat) (α : Type) [Lay α] : Prop :=
 ∀ {H : Type} {enc : TypeId × Value → H} {w : World} {base : Nat} {spare : Nat → Bool} {held : Bool} {fuel : Nat} {cs : List Value},
   (∀ f ∈ fs, ∃ y, DataW.trod enc P w base spare held fuel f.type ((cs.drop f.offset).take (P.cellsOf f.type)) = some y) → cs.length = off + Lay.n α → ∃ x : α, Lay.R w (Lt w.heap.size) x (cs.drop off)
theorem RdF.last {P : Program} {f : Field} {off : Nat} {α : Type} [Lay α] (h : Rd P f.type α) (ho : f.offset = off) (hc : P.cellsOf f.type = Lay.n α) : RdF P [f] off α := fun hf hl => by
 obtain ⟨y, hy⟩ := hf f (by simp)
 rw [ho, hc, List.take_of_length_le (by rw [List.length_drop, hl]; omega)] at hy
 exact h hy
theorem RdF.cons {P : Program} {f : Field} {fs : List Field} {off off' : Nat} {α β : Type} [Lay α] [Lay β] (h : Rd P f.type α) (ho : f.offset = off) (hc : P.cellsOf f.type = Lay.n α) (he : off' = off + Lay.n α) (k : RdF P fs off' β) : RdF P (f :: fs) off (α × β) := fun {H enc w base spare held fuel cs} hf hl => by
 obtain ⟨y, hy⟩ := hf f (by simp)
 rw [ho, hc] at hy
 obtain ⟨x, hx⟩ := h hy
 have hl' : cs.length = off + (Lay.n α + Lay.n β) := hl
 obtain ⟨z, hz⟩ := k (enc := enc) (w := w) (base := base) (spare := spare) (held := held) (fuel := fuel) (cs := cs) (fun g hg => hf g (by simp [hg])) (by rw [hl', he]; omega)
 refine ⟨(x, z), (cs.drop off).take (Lay.n α), cs.drop off', ?_, hx, hz⟩
 rw [he, ← List.drop_drop, List.take_append_drop]
theorem rd_struct {P : Program} {t : TypeId} {fs : Array Field} {α : Type} [Lay α] (ht : P.underlying t = some (.struct fs)) (hc : P.cellsOf t = Lay.n α) (h : RdF P fs.toList 0 α) : Rd P t α := fun {H enc w base spare held fuel cs y} hr => by
 obtain ⟨xs, n, _, _, hl, hxl, hf⟩ := DataW.trod_struct ht hr
 obtain ⟨x, hx⟩ := h (enc := enc) (w := w) (base := base) (spare := spare) (held := held) (fuel := n) (cs := cs) (fun f hfm => by
   obtain ⟨i, hi⟩ := List.getElem?_of_mem hfm
   have hi' : fs[i]? = some f := by simpa using hi
   have hlt : i < fs.size := (Array.getElem?_eq_some_iff.1 hi').1
   exact ⟨xs[i]'(by omega), by rw [hf i f hi']; exact List.getElem?_eq_getElem (by omega)⟩) (by rw [hl, hc]; omega)
 exact ⟨x, by simpa using hx⟩
theorem rd_iso {P : Program} {t : TypeId} {α β : Type} [Lay β] (f : α → β) (g : β → α) (hfg : ∀ y, f (g y) = y) (h : Rd P t β) : @Rd P t α (Lay.iso f) := fun hr => by
 obtain ⟨y, hy⟩ := h hr
 exact ⟨g y, by show Lay.R _ _ (f (g y)) _; rw [hfg]; exact hy⟩
def fieldAt (e c i : Nat) : Field := { (default : Field) with type := e, offset := i * c }
theorem arg_of {P : Program} {H : Type} {enc : TypeId × Value → H} {w : World} {base : Nat} {spare : Nat → Bool} {held : Bool} {t : TypeId} {v : Value} {d : DataW H} {ps : List MemPlace} {α : Type} [Lay α] (h : Rd P t α) (hd : DataW.Trod enc P w base spare held t v d ps)
   (ha : isAgg v = Lay.agg α) : ∃ x : α, V w (Lt w.heap.size) x v := by
 obtain ⟨fuel, hf⟩ := hd
 obtain ⟨x, hx⟩ := h hf
 exact ⟨x, hx, ha⟩
theorem agg_slice {P : Program} {w : World} {r : Reach} {b : Nat} {t e : TypeId} {v : Value} (ht : P.underlying t = some (.slice e)) (h : Value.okWide P w r b t v) : isAgg v = false := by
 obtain ⟨a, n, c, rfl⟩ := WideShapes.okWide_slice ht h; rfl
theorem agg_struct {P : Program} {w : World} {r : Reach} {b : Nat} {t : TypeId} {v : Value} {fs : Array Field} (ht : P.underlying t = some (.struct fs)) (h : Value.okWide P w r b t v) : isAgg v = true := by
 obtain ⟨cs, rfl, _⟩ := WideShapes.okWide_struct ht h; rfl
def Rs {α : Type} [Lay α] (w : World) (B : Nat → Prop) : List α → List Value → Prop
 | [], cs => cs = []
 | x :: xs, cs => ∃ c r, cs = c ++ r ∧ Lay.R w B x c ∧ Rs w B xs r
section
variable {α : Type} [Lay α] {w w' : World} {B B' : Nat → Prop}
theorem Rs.length : ∀ {xs : List α} {cs : List Value}, Rs w B xs cs → cs.length = xs.length * Lay.n α
 | [], cs, h => by simp [Rs] at h; simp [h]
 | x :: xs, cs, h => by
   obtain ⟨c, r, rfl, h1, h2⟩ := h
   rw [List.length_append, Lay.size h1, Rs.length h2, List.length_cons, Nat.add_mul, Nat.one_mul, Nat.add_comm]
theorem Rs.one : ∀ {xs : List α} {cs : List Value}, Rs w B xs cs → ∀ u ∈ cs, u.oneCell' = true
 | [], cs, h => by simp [Rs] at h; subst h; simp
 | x :: xs, cs, h => by
   obtain ⟨c, r, rfl, h1, h2⟩ := h
   intro u hu
   rcases List.mem_append.1 hu with hu | hu
   · exact Lay.one h1 u hu
   · exact Rs.one h2 u hu
theorem Rs.keep (hs : Same B w w') : ∀ {xs : List α} {cs : List Value}, Rs w B xs cs → Rs w' B xs cs
 | [], _, h => h
 | x :: xs, _, h => by
   obtain ⟨c, r, rfl, h1, h2⟩ := h
   exact ⟨c, r, rfl, Lay.keep hs h1, Rs.keep hs h2⟩
theorem Rs.mono (hB : ∀ b, B b → B' b) : ∀ {xs : List α} {cs : List Value}, Rs w B xs cs → Rs w B' xs cs
 | [], _, h => h
 | x :: xs, _, h => by
   obtain ⟨c, r, rfl, h1, h2⟩ := h
   exact ⟨c, r, rfl, Lay.mono hB h1, Rs.mono hB h2⟩
theorem Rs.append : ∀ {xs ys : List α} {cs ds : List Value}, Rs w B xs cs → Rs w B ys ds → Rs w B (xs ++ ys) (cs ++ ds)
 | [], _, cs, _, h, k => by simp [Rs] at h; subst h; simpa using k
 | x :: xs, ys, _, ds, h, k => by
   obtain ⟨c, r, rfl, h1, h2⟩ := h
   exact ⟨c, r ++ ds, by rw [List.append_assoc], h1, Rs.append h2 k⟩
theorem Rs.single {x : α} {cs : List Value} (h : Lay.R w B x cs) : Rs w B [x] cs := ⟨cs, [], by simp, h, rfl⟩
theorem Rs.get : ∀ {xs : List α} {cs : List Value} (_ : Rs w B xs cs) (k : Nat) (x : α) (_ : xs[k]? = some x),
   ∃ c, Lay.R w B x c ∧ ∀ j u, c[j]? = some u → cs[k * Lay.n α + j]? = some u
 | [], _, _, k, x, hk => by simp at hk
 | y :: xs, _, h, 0, x, hk => by
   obtain ⟨c, r, rfl, h1, h2⟩ := h
   simp at hk; subst hk
   refine ⟨c, h1, fun j u hu => ?_⟩
   have : j < c.length := (List.getElem?_eq_some_iff.1 hu).1
   rw [Nat.zero_mul, Nat.zero_add, List.getElem?_append_left this]
   exact hu
 | y :: xs, _, h, k + 1, x, hk => by
   obtain ⟨c, r, rfl, h1, h2⟩ := h
   simp at hk
   obtain ⟨c', hr, hc⟩ := Rs.get h2 k x hk
   refine ⟨c', hr, fun j u hu => ?_⟩
   have e : (k + 1) * Lay.n α + j = c.length + (k * Lay.n α + j) := by rw [Lay.size h1, Nat.add_mul]; omega
   rw [e, List.getElem?_append_right (by omega), Nat.add_sub_cancel_left]
   exact hc j u hu
end
theorem Sl.own {α : Type} [Lay α] {w : World} {base n c : Nat} {B : Nat → Prop} {e : TypeId} {A : Option Addr} {xs : List α} {cells : List Value}
   (h : w.ownsRow base e (Lay.n α) (.slice A n c) n cells) (hB : ∀ g, base ≤ g → g < w.heap.size → B g) (hr : Rs w B xs cells) : Sl w B A xs := fun k x hk => by
 obtain ⟨cs, h1, h2⟩ := hr.get k x hk
 rcases h.2 with ⟨hv, rfl⟩ | ⟨g, cap, cur, hv, hg, hh, hrest⟩
 · have hl := hr.length
   have hc : cells = [] := List.eq_nil_of_length_eq_zero (by simpa using h.1)
   subst hc
   have h0 : 0 < Lay.n α := Lay.pos
   have hk' := (List.getElem?_eq_some_iff.1 hk).1
   have : 0 < xs.length * Lay.n α := Nat.mul_pos (by omega) h0
   simp only [List.length_nil] at hl
   omega
 · have hA : A = some ⟨g, 0, none⟩ := by injection hv
   subst hA
   have hlt : g < w.heap.size := (h.lt g rfl).2
   exact ⟨_, cs, rfl, hB g hg hlt, h1, fun j u hu => h.cells (g := g) rfl _ u (h2 j u hu)⟩
def Blk (w : World) (g : Nat) (t : TypeId) (cs : List Value) : Prop := w.heap[g]? = some (.cells cs.toArray t (0, 0))
section
variable {w w' : World} {g : Nat} {t : TypeId} {cs : List Value}
theorem Blk.lt (h : Blk w g t cs) : g < w.heap.size := by
 rcases Nat.lt_or_ge g w.heap.size with hlt | hge
 · exact hlt
 · unfold Blk at h; rw [Array.getElem?_eq_none hge] at h; cases h
theorem Blk.cell (h : Blk w g t cs) (i : Nat) : w.cell? ⟨g, i, none⟩ = cs[i]? := by
 rw [cell_of_row w g i cs.toArray t (0, 0) h]; simp
theorem Blk.frozen (h : Blk w g t cs) (i : Nat) : w.frozen? ⟨g, i, none⟩ = false := by
 unfold Blk at h
 simp [World.frozen?, h]
theorem Blk.new (w : World) (t : TypeId) (cs : List Value) : Blk (w.alloc (.cells cs.toArray t)) w.heap.size t cs := heap_alloc_new w _
theorem Blk.drew (h : Blk w g t cs) : Blk w.drew g t cs := h
theorem Blk.alloc (h : Blk w g t cs) (o : Obj) : Blk (w.alloc o) g t cs := (Below.heap_alloc w o g h.lt).trans h
theorem Blk.far (h : Blk w g t cs) {p : Addr} (hp : g ≠ p.block) (u : Value) : Blk (w.setCell p u) g t cs := (Below.heap_setCell w p u g hp).trans h
theorem Blk.below {B : Nat} (h : Blk w g t cs) (hb : Below B w w') (hg : g < B) : Blk w' g t cs := (hb.block g hg).trans h
theorem Blk.own {base size n : Nat} (h : Blk w g t cs) (hb : base ≤ g) (hn : cs.length = n * size) (hm : n ≤ maxLen) : w.ownsRow base t size (.slice (some ⟨g, 0, none⟩) n n) n cs :=
 ⟨hn, .inr ⟨g, n, cs.toArray, rfl, hb, h, Nat.le_refl _, hm, by simpa using hn, by simp [← hn]⟩⟩
end
theorem Sl.blk {α : Type} [Lay α] {w : World} {B : Nat → Prop} {g : Nat} {t : TypeId} {xs : List α} {cells : List Value} (h : Blk w g t cells) (hg : B g) (hr : Rs w B xs cells) : Sl w B (some ⟨g, 0, none⟩) xs := fun k x hk => by
 obtain ⟨cs, h1, h2⟩ := hr.get k x hk
 refine ⟨_, cs, rfl, hg, h1, fun j u hu => ?_⟩
 have : (⟨g, 0, none⟩ : Addr).add (k * Lay.n α + j) = ⟨g, k * Lay.n α + j, none⟩ := by unfold Addr.add; split <;> simp_all
 rw [this, h.cell]
 exact h2 j u hu
theorem Sl.int {w : World} {B : Nat → Prop} {A : Option Addr} {zs : List Int} (h : Sl w B A zs) {k : Nat} (hk : k < zs.length) :
   ∃ ad x, A = some ad ∧ zs[k]? = some x ∧ w.cell? (ad.add k) = some (.int .i64 x) ∧ -9223372036854775808 ≤ x ∧ x ≤ 9223372036854775807 := by
 obtain ⟨ad, cs, rfl, hb, ⟨rfl, h1⟩, hc⟩ := h k _ (List.getElem?_eq_getElem hk)
 exact ⟨ad, zs[k], rfl, List.getElem?_eq_getElem hk, by simpa [Lay.n] using hc 0 _ rfl, h1.1, h1.2⟩
class Flat (α : Type) [Lay α] : Prop where
 flat : ∀ {w w' : World} {B B' : Nat → Prop} {x : α} {cs : List Value}, Lay.R w B x cs → Lay.R w' B' x cs
instance : Flat Int := ⟨fun h => h⟩
instance : Flat Bool := ⟨fun h => h⟩
instance : Flat UInt8 := ⟨fun h => h⟩
instance : Flat ByteArray := ⟨fun h => h⟩
instance {α β : Type} [Lay α] [Lay β] [Flat α] [Flat β] : Flat (α × β) := ⟨fun h => by obtain ⟨c, d, rfl, h1, h2⟩ := h; exact ⟨c, d, rfl, Flat.flat h1, Flat.flat h2⟩⟩
theorem Flat.iso {α β : Type} [Lay β] [Flat β] (f : α → β) : @Flat α (Lay.iso f) := @Flat.mk α (Lay.iso f) (fun h => Flat.flat (α := β) h)
theorem Rs.flat {α : Type} [Lay α] [Flat α] {w w' : World} {B B' : Nat → Prop} : ∀ {xs : List α} {cs : List Value}, Rs w B xs cs → Rs w' B' xs cs
 | [], _, h => h
 | x :: xs, _, h => by
   obtain ⟨c, r, rfl, h1, h2⟩ := h
   exact ⟨c, r, rfl, Flat.flat h1, Rs.flat h2⟩
def Src {α : Type} [Lay α] (w : World) (B : Nat → Prop) (A : Option Addr) (ys : List α) : Prop :=
 ∃ news, Rs w B ys news ∧ (ys ≠ [] → A ≠ none) ∧ ∀ ad, A = some ad → ∀ j u, news[j]? = some u → w.cell? (ad.add j) = some u
theorem Sl.take_src {α : Type} [Lay α] {w : World} {B : Nat → Prop} {A : Option Addr} {ys : List α} (h : Sl w B A ys) : ∀ n, n ≤ ys.length →
   ∃ news, Rs w B (ys.take n) news ∧ ∀ ad, A = some ad → ∀ j u, news[j]? = some u → w.cell? (ad.add j) = some u
 | 0, _ => ⟨[], by simp [Rs], by simp⟩
 | n + 1, hn => by
   obtain ⟨news, hr, hc⟩ := Sl.take_src h n (by omega)
   obtain ⟨ad, cs, rfl, hb, hR, hcell⟩ := h n _ (List.getElem?_eq_getElem (by omega))
   refine ⟨news ++ cs, by rw [List.take_succ_eq_append_getElem (by omega)]; exact hr.append (Rs.single hR), fun ad' e j u hu => ?_⟩
   injection e with e
   subst e
   have hl : news.length = n * Lay.n α := by rw [hr.length, List.length_take]; congr 1; omega
   rcases Nat.lt_or_ge j news.length with hj | hj
   · rw [List.getElem?_append_left hj] at hu; exact hc _ rfl j u hu
   · rw [List.getElem?_append_right hj] at hu
     have := hcell _ u hu
     rwa [hl, show n * Lay.n α + (j - n * Lay.n α) = j by omega] at this
theorem Sl.src {α : Type} [Lay α] {w : World} {B B' : Nat → Prop} {A : Option Addr} {ys : List α} (h : Sl w B A ys) (hB : ∀ b, B b → B' b) : Src w B' A ys := by
 obtain ⟨news, hr, hc⟩ := h.take_src ys.length (Nat.le_refl _)
 rw [List.take_length] at hr
 refine ⟨news, hr.mono hB, fun hne hA => ?_, hc⟩
 cases ys with
 | nil => exact hne rfl
 | cons y ys =>
   obtain ⟨ad, _, e, _⟩ := h 0 y rfl
   rw [hA] at e; cases e
theorem Src.keep {α : Type} [Lay α] {w w' : World} {B : Nat → Prop} {A : Option Addr} {ys : List α} (h : Src w B A ys) (hs : Same B w w') (hA : ∀ ad : Addr, A = some ad → ∀ (p : Addr) u, p.block = ad.block → w.cell? p = some u → w'.cell? p = some u) : Src w' B A ys := by
 obtain ⟨news, hr, h2, hc⟩ := h
 exact ⟨news, hr.keep hs, h2, fun ad e j u hu => hA ad e _ u (add_block _ _) (hc ad e j u hu)⟩
theorem Src.alloc {α : Type} [Lay α] {w : World} {B : Nat → Prop} {A : Option Addr} {ys : List α} (h : Src w B A ys) (hB : ∀ b, B b → b < w.heap.size) (o : Obj) : Src (w.alloc o) B A ys :=
 h.keep (fun p hp => World.cell?_alloc_lt w o p (hB _ hp)) (fun ad _ p u _ hc => (World.cell?_alloc_lt w o p (cell_lt hc)).trans hc)
theorem Src.blk {α : Type} [Lay α] {w : World} {B : Nat → Prop} {g : Nat} {t : TypeId} {ys : List α} {cells : List Value} (h : Blk w g t cells) (hr : Rs w B ys cells) : Src w B (some ⟨g, 0, none⟩) ys :=
 ⟨cells, hr, fun _ h => (by cases h), fun ad e j u hu => by
   injection e with e
   subst e
   have : (⟨g, 0, none⟩ : Addr).add j = ⟨g, j, none⟩ := by unfold Addr.add; split <;> simp_all
   rw [this, h.cell]
   exact hu⟩
structure Elem (P : Program) (t e : TypeId) (bytes : Nat) (α : Type) [Lay α] : Prop where
 ty : P.underlying t = some (.slice e)
 small : bytes ≤ 4096
 info : ∃ i z, P.info? e = some i ∧ i.zero = some z ∧ i.size = Lay.n α ∧ i.bytes = bytes ∧ z.cells.size = Lay.n α
theorem Elem.of {P : Program} {t e : TypeId} {bytes : Nat} {α : Type} [Lay α] (z : Value) (ty : P.underlying t = some (.slice e)) (h : (P.info? e).map (fun i => (i.zero, i.size, i.bytes)) = some (some z, Lay.n α, bytes)) (hz : z.cells.size = Lay.n α) (hb : bytes ≤ 4096 := by decide) : Elem P t e bytes α := by
 obtain ⟨i, hi, h⟩ := Option.map_eq_some_iff.1 h
 simp only [Prod.mk.injEq] at h
 exact ⟨ty, hb, i, z, hi, h.1, h.2.1, h.2.2, hz⟩
def Own {α : Type} [Lay α] (base : Nat) (e : TypeId) (w : World) (B : Nat → Prop) (v : Value) (xs : List α) : Prop :=
 ∃ cells, w.ownsRow base e (Lay.n α) v xs.length cells ∧ Rs w B xs cells
section
variable {α : Type} [Lay α] {base : Nat} {e : TypeId} {w w' : World} {B : Nat → Prop} {v : Value} {xs : List α}
theorem Own.nil : Own base e w B (.slice none 0 0) ([] : List α) := ⟨[], World.ownsRow_nil _ _ _ _, rfl⟩
theorem Own.form (h : Own base e w B v xs) : ∃ A c, v = .slice A xs.length c ∧ xs.length ≤ c ∧ c ≤ maxLen ∧ (A = none → c = 0) ∧ (∀ ad, A = some ad → ∃ g, ad = ⟨g, 0, none⟩ ∧ base ≤ g ∧ g < w.heap.size) := by
 obtain ⟨cells, h, _⟩ := h
 rcases h.2 with ⟨rfl, h0⟩ | ⟨g, cap, cur, rfl, hg, hh, hn, hm, _⟩
 · exact ⟨none, 0, by rw [h0], by omega, Nat.zero_le _, fun _ => rfl, fun _ h => (by cases h)⟩
 · have hlt : g < w.heap.size := by
     rcases Nat.lt_or_ge g w.heap.size with hlt | hge
     · exact hlt
     · rw [Array.getElem?_eq_none hge] at hh; cases hh
   exact ⟨_, cap, rfl, hn, hm, fun h => (by cases h), fun ad h => (by injection h with h; exact ⟨g, h.symm, hg, hlt⟩)⟩
theorem Own.val (h : Own base e w B v xs) {B' : Nat → Prop} (hB : ∀ b, B b → B' b) (hB' : ∀ g, base ≤ g → g < w.heap.size → B' g) : V w B' xs v := by
 obtain ⟨A, c, rfl, h1, h2, h3, _⟩ := h.form
 obtain ⟨cells, ho, hr⟩ := h
 exact V.slice_mk rfl h1 h2 h3 (Sl.own ho hB' (hr.mono hB))
theorem Own.kept {row : Option Nat} (h : Own base e w B v xs) (hg : w.grownBy w' row) (hne : v.ownBlock = none ∨ v.ownBlock ≠ row) (hB : ∀ b, B b → b < w.heap.size ∧ row ≠ some b) : Own base e w' B v xs := by
 obtain ⟨cells, ho, hr⟩ := h
 exact ⟨cells, ho.kept hg hne, hr.keep (fun p hp => World.cell?_of_block (hg.block _ (hB _ hp).1 (fun h => (hB _ hp).2 h.symm)))⟩
theorem Own.below {N : Nat} (h : Own base e w B v xs) (hb : Below N w w') (hN : w.heap.size ≤ N) (hB : ∀ b, B b → b < w.heap.size) : Own base e w' B v xs :=
 h.kept (row := none) ⟨hb.os, hb.tape, hb.output, hb.size, fun i hi _ => hb.block i (by omega)⟩ (by cases h : v.ownBlock <;> simp) (fun b hb => ⟨hB b hb, by simp⟩)
theorem Own.alloc (h : Own base e w B v xs) (o : Obj) (hB : ∀ b, B b → b < w.heap.size) : Own base e (w.alloc o) B v xs :=
 h.kept (World.grownBy_alloc w o none) (by cases h : v.ownBlock <;> simp) (fun b hb => ⟨hB b hb, by simp⟩)
theorem Own.drew (h : Own base e w B v xs) : Own base e w.drew B v xs := by
 obtain ⟨cells, ho, hr⟩ := h
 exact ⟨cells, ho, Rs.keep (w := w) (w' := w.drew) (fun _ _ => rfl) hr⟩
theorem Own.blk {g n : Nat} {cells : List Value} (h : Blk w g e cells) (hr : Rs w B xs cells) (hb : base ≤ g) (hm : xs.length ≤ maxLen) (hn : n = xs.length) : Own base e w B (.slice (some ⟨g, 0, none⟩) n n) xs := by
 subst hn
 exact ⟨cells, h.own hb hr.length hm, hr⟩
end
section
variable {P : Program} (w : World)
end
theorem Own.at_ {α : Type} [Lay α] {base : Nat} {e : TypeId} {w : World} {B : Nat → Prop} {v : Value} {xs : List α} (h : Own base e w B v xs) : ∀ g, v.ownBlock = some g → base ≤ g := by
 obtain ⟨cells, ho, _⟩ := h
 exact fun g hg => (ho.lt g hg).1
structure Late (w : World) where
 val : World
 below : Below w.heap.size w val
instance {w : World} : Nonempty (Late w) := ⟨⟨w, Below.refl _ _⟩⟩
theorem Late.cell {w : World} (x : Late w) (p : Addr) (h : p.block < w.heap.size) : x.val.cell? p = w.cell? p := x.below.cell h
theorem Late.frozen {w : World} (x : Late w) (p : Addr) (h : p.block < w.heap.size) : x.val.frozen? p = w.frozen? p := x.below.frozen h
attribute [go_sem] Late.cell Late.frozen
def AggT (P : Program) (ty : TypeId) (k : Nat) : Prop := ∃ d, P.underlying ty = some d ∧ (match d with | .struct _ | .array _ _ => true | _ => false) = true ∧ (P.info? ty).map (·.size) = some k
def Row (w : World) (a : Addr) (cs : Array Value) : Prop := ∀ j v, cs[j]? = some v → w.cell? (a.add j) = some v
theorem run_loadVar_at {P : Program} {w : World} {ty : TypeId} {a : Addr} {cs : Array Value} (hr : Row w a cs) (hT : AggT P ty cs.size) : (loadVar ty a).run P w = .ok (.agg cs) w := by
 obtain ⟨d, hu, hd, hi⟩ := hT
 have hl : (loadCells a cs.toList.length).run P w = .ok cs.toList.toArray w :=
   run_loadCells_list (P := P) w a cs.toList (fun j v hv => hr j v (by simpa using hv))
 cases hq : P.info? ty with
 | none => simp [hq] at hi
 | some i =>
   have hs : i.size = cs.size := by simpa [hq] using hi
   have hagg : (Go.isAgg ty).run P w = .ok true w := by
     unfold Go.isAgg
     rw [Sem.run_bind, run_underlying hu w]
     cases d <;> simp_all
   simp only [Array.length_toList, Array.toArray_toList] at hl
   simp [loadVar, Sem.run_bind, hagg, sizeOf, typeInfo, hq, hs, hl]
theorem row_new {w : World} {cs : Array Value} {t : TypeId} {n : Nat} (hn : n = w.heap.size) : Row (w.alloc (.cells cs t)) ⟨n, 0, none⟩ cs := fun j v hv => by
 subst hn
 have hadd : (⟨w.heap.size, 0, none⟩ : Addr).add j = ⟨w.heap.size, j, none⟩ := by unfold Addr.add; split <;> simp_all
 rw [hadd, cell_of_row _ _ j cs t (0, 0) (heap_alloc_new w _)]
 exact hv
theorem Blk.row {w : World} {g : Nat} {t : TypeId} {cs : List Value} (h : Blk w g t cs) : Row w ⟨g, 0, none⟩ cs.toArray := fun j v hv => by
 have hadd : (⟨g, 0, none⟩ : Addr).add j = ⟨g, j, none⟩ := by unfold Addr.add; split <;> simp_all
 rw [hadd, h.cell]
 simpa using hv
theorem run_loadVar_new {P : Program} {w : World} {ty t : TypeId} {cs : Array Value} {n : Nat} (hn : n = w.heap.size) (hT : AggT P ty cs.size) : (loadVar ty ⟨n, 0, none⟩).run P (w.alloc (.cells cs t)) = .ok (.agg cs) (w.alloc (.cells cs t)) :=
 run_loadVar_at (row_new hn) hT
attribute [go_sem ↓] run_loadVar_new
def RowOk (w : World) (a : Addr) (k : Nat) : Prop := ∃ cs, cs.size = k ∧ Row w a cs
def rowAt (w : World) (a : Addr) (k : Nat) : Array Value := ((List.range k).map fun j => (w.cell? (a.add j)).getD undef).toArray
theorem Row.eq {w : World} {a : Addr} {cs : Array Value} (h : Row w a cs) : rowAt w a cs.size = cs := by
 unfold rowAt
 apply Array.ext
 · simp
 · intro i h1 h2
   have := h i cs[i] (Array.getElem?_eq_getElem h2)
   simp [this]
theorem Row.ok {w : World} {a : Addr} {cs : Array Value} {k : Nat} (h : Row w a cs) (hk : cs.size = k) : RowOk w a k := ⟨cs, hk, h⟩
theorem run_load_row {P : Program} {w : World} {ty : TypeId} {a : Addr} {k : Nat} (hr : RowOk w a k) (hT : AggT P ty k) : (loadVar ty a).run P w = .ok (.agg (rowAt w a k)) w := by
 obtain ⟨cs, rfl, h⟩ := hr
 rw [h.eq]
 exact run_loadVar_at h hT
end Go.Proofs.Ytfelhbeiegppgaa
end
