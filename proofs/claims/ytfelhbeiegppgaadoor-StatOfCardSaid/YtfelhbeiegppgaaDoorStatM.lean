/-
  The plain forms of the functions that the statement reaches, and that each is its function's body. (Written by program.)
-/
import Derived.Test.YtfelhbeiegppgaaDoorNmX
import Derived.Test.YtfelhbeiegppgaaDoorProg
import Derived.ProofKit
import Derived.Test.YtfelhbeiegppgaaDoorNStatC
set_option linter.unusedVariables false
set_option maxRecDepth 100000
set_option maxHeartbeats 4000000
namespace Go.Proofs.YtfelhbeiegppgaaDoor
namespace NM
open AM Go.RowKit
theorem mixed : Tryd.prog.follows .mixedOrders = true := by kernel_rfl
/- drayage/stat.request -/
def n9 : NFunc := ⟨35, .seq (.region 1 [
 ⟨(some 3), .box 26 (.tmp 1), none, 0, none⟩] []) (.seq (.seq (.region 0 [
 ⟨(some 5), .fieldAddr 19 (.tmp 3), none, 0, none⟩,
 ⟨(some 6), .fieldAddr 1 (.tmp 5), none, 0, none⟩,
 ⟨(some 7), .load false 1 (.tmp 6), none, 0, none⟩,
 ⟨(some 8), .bin .neq (.tmp 7) (.const (.int .i64 (0))), none, 0, none⟩] []) (.cond (.tmp 8) (.region 0 [
 ⟨(some 9), .move (.tmp 0), none, 0, none⟩,
 ⟨(some 10), .nilCheck (.tmp 9), none, 0, none⟩,
 ⟨(some 11), .fieldAddr 2 (.tmp 10), none, 0, none⟩,
 ⟨(some 12), .load false 1 (.tmp 11), none, 0, none⟩,
 ⟨(some 13), .bin .add (.tmp 12) (.const (.int .i64 (1))), none, 0, none⟩,
 ⟨(some 14), .nilCheck (.tmp 9), none, 0, none⟩,
 ⟨(some 15), .fieldAddr 2 (.tmp 14), none, 0, none⟩,
 ⟨none, .store 1 (.tmp 15) (.tmp 13), none, 0, none⟩] []) (.skip))) (.seq (.region 0 [
 ⟨(some 16), .fieldAddr 2 (.tmp 3), none, 0, none⟩,
 ⟨(some 17), .fieldAddr 0 (.tmp 16), none, 0, none⟩,
 ⟨(some 18), .load false 1 (.tmp 17), none, 0, none⟩,
 ⟨(some 4), .move (.tmp 18), none, 0, none⟩] []) (.seq (.region 0 [
 ⟨(some 19), .move (.tmp 4), none, 0, none⟩,
 ⟨(some 20), .bin .geq (.tmp 19) (.const (.int .i64 (1))), none, 0, none⟩,
 ⟨(some 21), .move (.tmp 20), none, 0, none⟩,
 ⟨(some 22), .move (.tmp 4), (some (21, true)), 0, none⟩,
 ⟨(some 23), .bin .leq (.tmp 22) (.const (.int .i64 (12))), (some (21, true)), 0, none⟩,
 ⟨(some 24), .pick (.tmp 21) (.tmp 23) (.const (.bool false)), none, 0, none⟩] []) (.cond (.tmp 24) (.region 0 [
 ⟨(some 25), .move (.tmp 0), none, 0, (some ([], none))⟩,
 ⟨(some 26), .move (.tmp 4), none, 0, (some ([], none))⟩,
 ⟨(some 27), .nilCheck (.tmp 25), none, 0, (some ([], none))⟩,
 ⟨(some 28), .fieldAddr 6 (.tmp 27), none, 0, (some ([], none))⟩,
 ⟨(some 29), .indexArr 13 1 (.tmp 28) (.tmp 26), none, 0, (some ([], none))⟩,
 ⟨(some 30), .load false 1 (.tmp 29), none, 0, (some ([], none))⟩,
 ⟨(some 31), .bin .add (.tmp 30) (.const (.int .i64 (1))), none, 0, (some ([], none))⟩,
 ⟨(some 32), .nilCheck (.tmp 25), none, 0, (some ([], none))⟩,
 ⟨(some 33), .fieldAddr 6 (.tmp 32), none, 0, (some ([], none))⟩,
 ⟨(some 34), .indexArr 13 1 (.tmp 33) (.tmp 26), none, 0, (some ([], none))⟩,
 ⟨none, .store 1 (.tmp 34) (.tmp 31), none, 0, (some ([], none))⟩] [⟨29, none, some (26, 13)⟩]) (.skip))))), [], true⟩
def s9 : Sig := ⟨(.cons (.ptr 0 0 0) (.cons (.v .entry) .nil)), [.one false (.pair (.int .i64) (.pair (.int .i64) (.pair (.int .i64) (.pair (.int .i64) (.pair (.int .i64) (.pair (.int .i64) (.pair (.int .i64) (.pair (.int .i64) (.pair (.int .i64) (.pair (.int .i64) (.pair (.int .i64) (.pair (.int .i64) (.pair (.int .i64) (.pair (.int .i64) (.pair (.int .i64) (.pair (.int .i64) (.pair (.int .i64) (.pair (.int .i64) (.int .i64)))))))))))))))))))], ((.tup .nil), [.one false (.pair (.int .i64) (.pair (.int .i64) (.pair (.int .i64) (.pair (.int .i64) (.pair (.int .i64) (.pair (.int .i64) (.pair (.int .i64) (.pair (.int .i64) (.pair (.int .i64) (.pair (.int .i64) (.pair (.int .i64) (.pair (.int .i64) (.pair (.int .i64) (.pair (.int .i64) (.pair (.int .i64) (.pair (.int .i64) (.pair (.int .i64) (.pair (.int .i64) (.int .i64)))))))))))))))))))]), []⟩
def F9 (L : Lp)  (ae0 : Entry) (a1 : (Int × (Int × (Int × (Int × (Int × (Int × (Int × (Int × (Int × (Int × (Int × (Int × (Int × (Int × (Int × (Int × (Int × (Int × Int))))))))))))))))))) : Option (Unit × ((Int × (Int × (Int × (Int × (Int × (Int × (Int × (Int × (Int × (Int × (Int × (Int × (Int × (Int × (Int × (Int × (Int × (Int × Int)))))))))))))))))) × Unit)) :=
 cond (!decide (ae0.reply.err = 0))
 (cond (decide (1 ≤ ae0.request.kind))
 (cond (decide (ae0.request.kind ≤ 12))
 (cond (decide (ae0.request.kind = 12))
 (some ((), ((a1.1, (a1.2.1, (IntKind.wrap .i64 (a1.2.2.1 + 1), (a1.2.2.2.1, (a1.2.2.2.2.1, (a1.2.2.2.2.2.1, (a1.2.2.2.2.2.2.1, (a1.2.2.2.2.2.2.2.1, (a1.2.2.2.2.2.2.2.2.1, (a1.2.2.2.2.2.2.2.2.2.1, (a1.2.2.2.2.2.2.2.2.2.2.1, (a1.2.2.2.2.2.2.2.2.2.2.2.1, (a1.2.2.2.2.2.2.2.2.2.2.2.2.1, (a1.2.2.2.2.2.2.2.2.2.2.2.2.2.1, (a1.2.2.2.2.2.2.2.2.2.2.2.2.2.2.1, (a1.2.2.2.2.2.2.2.2.2.2.2.2.2.2.2.1, (a1.2.2.2.2.2.2.2.2.2.2.2.2.2.2.2.2.1, (a1.2.2.2.2.2.2.2.2.2.2.2.2.2.2.2.2.2.1, IntKind.wrap .i64 (a1.2.2.2.2.2.2.2.2.2.2.2.2.2.2.2.2.2.2 + 1))))))))))))))))))), ())))
 (cond (decide (ae0.request.kind = 11))
 (some ((), ((a1.1, (a1.2.1, (IntKind.wrap .i64 (a1.2.2.1 + 1), (a1.2.2.2.1, (a1.2.2.2.2.1, (a1.2.2.2.2.2.1, (a1.2.2.2.2.2.2.1, (a1.2.2.2.2.2.2.2.1, (a1.2.2.2.2.2.2.2.2.1, (a1.2.2.2.2.2.2.2.2.2.1, (a1.2.2.2.2.2.2.2.2.2.2.1, (a1.2.2.2.2.2.2.2.2.2.2.2.1, (a1.2.2.2.2.2.2.2.2.2.2.2.2.1, (a1.2.2.2.2.2.2.2.2.2.2.2.2.2.1, (a1.2.2.2.2.2.2.2.2.2.2.2.2.2.2.1, (a1.2.2.2.2.2.2.2.2.2.2.2.2.2.2.2.1, (a1.2.2.2.2.2.2.2.2.2.2.2.2.2.2.2.2.1, (IntKind.wrap .i64 (a1.2.2.2.2.2.2.2.2.2.2.2.2.2.2.2.2.2.1 + 1), a1.2.2.2.2.2.2.2.2.2.2.2.2.2.2.2.2.2.2)))))))))))))))))), ())))
 (cond (decide (ae0.request.kind = 10))
 (some ((), ((a1.1, (a1.2.1, (IntKind.wrap .i64 (a1.2.2.1 + 1), (a1.2.2.2.1, (a1.2.2.2.2.1, (a1.2.2.2.2.2.1, (a1.2.2.2.2.2.2.1, (a1.2.2.2.2.2.2.2.1, (a1.2.2.2.2.2.2.2.2.1, (a1.2.2.2.2.2.2.2.2.2.1, (a1.2.2.2.2.2.2.2.2.2.2.1, (a1.2.2.2.2.2.2.2.2.2.2.2.1, (a1.2.2.2.2.2.2.2.2.2.2.2.2.1, (a1.2.2.2.2.2.2.2.2.2.2.2.2.2.1, (a1.2.2.2.2.2.2.2.2.2.2.2.2.2.2.1, (a1.2.2.2.2.2.2.2.2.2.2.2.2.2.2.2.1, (IntKind.wrap .i64 (a1.2.2.2.2.2.2.2.2.2.2.2.2.2.2.2.2.1 + 1), a1.2.2.2.2.2.2.2.2.2.2.2.2.2.2.2.2.2))))))))))))))))), ())))
 (cond (decide (ae0.request.kind = 9))
 (some ((), ((a1.1, (a1.2.1, (IntKind.wrap .i64 (a1.2.2.1 + 1), (a1.2.2.2.1, (a1.2.2.2.2.1, (a1.2.2.2.2.2.1, (a1.2.2.2.2.2.2.1, (a1.2.2.2.2.2.2.2.1, (a1.2.2.2.2.2.2.2.2.1, (a1.2.2.2.2.2.2.2.2.2.1, (a1.2.2.2.2.2.2.2.2.2.2.1, (a1.2.2.2.2.2.2.2.2.2.2.2.1, (a1.2.2.2.2.2.2.2.2.2.2.2.2.1, (a1.2.2.2.2.2.2.2.2.2.2.2.2.2.1, (a1.2.2.2.2.2.2.2.2.2.2.2.2.2.2.1, (IntKind.wrap .i64 (a1.2.2.2.2.2.2.2.2.2.2.2.2.2.2.2.1 + 1), a1.2.2.2.2.2.2.2.2.2.2.2.2.2.2.2.2)))))))))))))))), ())))
 (cond (decide (ae0.request.kind = 8))
 (some ((), ((a1.1, (a1.2.1, (IntKind.wrap .i64 (a1.2.2.1 + 1), (a1.2.2.2.1, (a1.2.2.2.2.1, (a1.2.2.2.2.2.1, (a1.2.2.2.2.2.2.1, (a1.2.2.2.2.2.2.2.1, (a1.2.2.2.2.2.2.2.2.1, (a1.2.2.2.2.2.2.2.2.2.1, (a1.2.2.2.2.2.2.2.2.2.2.1, (a1.2.2.2.2.2.2.2.2.2.2.2.1, (a1.2.2.2.2.2.2.2.2.2.2.2.2.1, (a1.2.2.2.2.2.2.2.2.2.2.2.2.2.1, (IntKind.wrap .i64 (a1.2.2.2.2.2.2.2.2.2.2.2.2.2.2.1 + 1), a1.2.2.2.2.2.2.2.2.2.2.2.2.2.2.2))))))))))))))), ())))
 (cond (decide (ae0.request.kind = 7))
 (some ((), ((a1.1, (a1.2.1, (IntKind.wrap .i64 (a1.2.2.1 + 1), (a1.2.2.2.1, (a1.2.2.2.2.1, (a1.2.2.2.2.2.1, (a1.2.2.2.2.2.2.1, (a1.2.2.2.2.2.2.2.1, (a1.2.2.2.2.2.2.2.2.1, (a1.2.2.2.2.2.2.2.2.2.1, (a1.2.2.2.2.2.2.2.2.2.2.1, (a1.2.2.2.2.2.2.2.2.2.2.2.1, (a1.2.2.2.2.2.2.2.2.2.2.2.2.1, (IntKind.wrap .i64 (a1.2.2.2.2.2.2.2.2.2.2.2.2.2.1 + 1), a1.2.2.2.2.2.2.2.2.2.2.2.2.2.2)))))))))))))), ())))
 (cond (decide (ae0.request.kind = 6))
 (some ((), ((a1.1, (a1.2.1, (IntKind.wrap .i64 (a1.2.2.1 + 1), (a1.2.2.2.1, (a1.2.2.2.2.1, (a1.2.2.2.2.2.1, (a1.2.2.2.2.2.2.1, (a1.2.2.2.2.2.2.2.1, (a1.2.2.2.2.2.2.2.2.1, (a1.2.2.2.2.2.2.2.2.2.1, (a1.2.2.2.2.2.2.2.2.2.2.1, (a1.2.2.2.2.2.2.2.2.2.2.2.1, (IntKind.wrap .i64 (a1.2.2.2.2.2.2.2.2.2.2.2.2.1 + 1), a1.2.2.2.2.2.2.2.2.2.2.2.2.2))))))))))))), ())))
 (cond (decide (ae0.request.kind = 5))
 (some ((), ((a1.1, (a1.2.1, (IntKind.wrap .i64 (a1.2.2.1 + 1), (a1.2.2.2.1, (a1.2.2.2.2.1, (a1.2.2.2.2.2.1, (a1.2.2.2.2.2.2.1, (a1.2.2.2.2.2.2.2.1, (a1.2.2.2.2.2.2.2.2.1, (a1.2.2.2.2.2.2.2.2.2.1, (a1.2.2.2.2.2.2.2.2.2.2.1, (IntKind.wrap .i64 (a1.2.2.2.2.2.2.2.2.2.2.2.1 + 1), a1.2.2.2.2.2.2.2.2.2.2.2.2)))))))))))), ())))
 (cond (decide (ae0.request.kind = 4))
 (some ((), ((a1.1, (a1.2.1, (IntKind.wrap .i64 (a1.2.2.1 + 1), (a1.2.2.2.1, (a1.2.2.2.2.1, (a1.2.2.2.2.2.1, (a1.2.2.2.2.2.2.1, (a1.2.2.2.2.2.2.2.1, (a1.2.2.2.2.2.2.2.2.1, (a1.2.2.2.2.2.2.2.2.2.1, (IntKind.wrap .i64 (a1.2.2.2.2.2.2.2.2.2.2.1 + 1), a1.2.2.2.2.2.2.2.2.2.2.2))))))))))), ())))
 (cond (decide (ae0.request.kind = 3))
 (some ((), ((a1.1, (a1.2.1, (IntKind.wrap .i64 (a1.2.2.1 + 1), (a1.2.2.2.1, (a1.2.2.2.2.1, (a1.2.2.2.2.2.1, (a1.2.2.2.2.2.2.1, (a1.2.2.2.2.2.2.2.1, (a1.2.2.2.2.2.2.2.2.1, (IntKind.wrap .i64 (a1.2.2.2.2.2.2.2.2.2.1 + 1), a1.2.2.2.2.2.2.2.2.2.2)))))))))), ())))
 (cond (decide (ae0.request.kind = 2))
 (some ((), ((a1.1, (a1.2.1, (IntKind.wrap .i64 (a1.2.2.1 + 1), (a1.2.2.2.1, (a1.2.2.2.2.1, (a1.2.2.2.2.2.1, (a1.2.2.2.2.2.2.1, (a1.2.2.2.2.2.2.2.1, (IntKind.wrap .i64 (a1.2.2.2.2.2.2.2.2.1 + 1), a1.2.2.2.2.2.2.2.2.2))))))))), ())))
 (cond (decide (ae0.request.kind = 1))
 (some ((), ((a1.1, (a1.2.1, (IntKind.wrap .i64 (a1.2.2.1 + 1), (a1.2.2.2.1, (a1.2.2.2.2.1, (a1.2.2.2.2.2.1, (a1.2.2.2.2.2.2.1, (IntKind.wrap .i64 (a1.2.2.2.2.2.2.2.1 + 1), a1.2.2.2.2.2.2.2.2)))))))), ())))
 (cond (decide (ae0.request.kind = 0))
 (some ((), ((a1.1, (a1.2.1, (IntKind.wrap .i64 (a1.2.2.1 + 1), (a1.2.2.2.1, (a1.2.2.2.2.1, (a1.2.2.2.2.2.1, (IntKind.wrap .i64 (a1.2.2.2.2.2.2.1 + 1), a1.2.2.2.2.2.2.2))))))), ())))
 (none))))))))))))))
 (some ((), ((a1.1, (a1.2.1, (IntKind.wrap .i64 (a1.2.2.1 + 1), a1.2.2.2))), ()))))
 (some ((), ((a1.1, (a1.2.1, (IntKind.wrap .i64 (a1.2.2.1 + 1), a1.2.2.2))), ()))))
 (cond (decide (1 ≤ ae0.request.kind))
 (cond (decide (ae0.request.kind ≤ 12))
 (cond (decide (ae0.request.kind = 12))
 (some ((), ((a1.1, (a1.2.1, (a1.2.2.1, (a1.2.2.2.1, (a1.2.2.2.2.1, (a1.2.2.2.2.2.1, (a1.2.2.2.2.2.2.1, (a1.2.2.2.2.2.2.2.1, (a1.2.2.2.2.2.2.2.2.1, (a1.2.2.2.2.2.2.2.2.2.1, (a1.2.2.2.2.2.2.2.2.2.2.1, (a1.2.2.2.2.2.2.2.2.2.2.2.1, (a1.2.2.2.2.2.2.2.2.2.2.2.2.1, (a1.2.2.2.2.2.2.2.2.2.2.2.2.2.1, (a1.2.2.2.2.2.2.2.2.2.2.2.2.2.2.1, (a1.2.2.2.2.2.2.2.2.2.2.2.2.2.2.2.1, (a1.2.2.2.2.2.2.2.2.2.2.2.2.2.2.2.2.1, (a1.2.2.2.2.2.2.2.2.2.2.2.2.2.2.2.2.2.1, IntKind.wrap .i64 (a1.2.2.2.2.2.2.2.2.2.2.2.2.2.2.2.2.2.2 + 1))))))))))))))))))), ())))
 (cond (decide (ae0.request.kind = 11))
 (some ((), ((a1.1, (a1.2.1, (a1.2.2.1, (a1.2.2.2.1, (a1.2.2.2.2.1, (a1.2.2.2.2.2.1, (a1.2.2.2.2.2.2.1, (a1.2.2.2.2.2.2.2.1, (a1.2.2.2.2.2.2.2.2.1, (a1.2.2.2.2.2.2.2.2.2.1, (a1.2.2.2.2.2.2.2.2.2.2.1, (a1.2.2.2.2.2.2.2.2.2.2.2.1, (a1.2.2.2.2.2.2.2.2.2.2.2.2.1, (a1.2.2.2.2.2.2.2.2.2.2.2.2.2.1, (a1.2.2.2.2.2.2.2.2.2.2.2.2.2.2.1, (a1.2.2.2.2.2.2.2.2.2.2.2.2.2.2.2.1, (a1.2.2.2.2.2.2.2.2.2.2.2.2.2.2.2.2.1, (IntKind.wrap .i64 (a1.2.2.2.2.2.2.2.2.2.2.2.2.2.2.2.2.2.1 + 1), a1.2.2.2.2.2.2.2.2.2.2.2.2.2.2.2.2.2.2)))))))))))))))))), ())))
 (cond (decide (ae0.request.kind = 10))
 (some ((), ((a1.1, (a1.2.1, (a1.2.2.1, (a1.2.2.2.1, (a1.2.2.2.2.1, (a1.2.2.2.2.2.1, (a1.2.2.2.2.2.2.1, (a1.2.2.2.2.2.2.2.1, (a1.2.2.2.2.2.2.2.2.1, (a1.2.2.2.2.2.2.2.2.2.1, (a1.2.2.2.2.2.2.2.2.2.2.1, (a1.2.2.2.2.2.2.2.2.2.2.2.1, (a1.2.2.2.2.2.2.2.2.2.2.2.2.1, (a1.2.2.2.2.2.2.2.2.2.2.2.2.2.1, (a1.2.2.2.2.2.2.2.2.2.2.2.2.2.2.1, (a1.2.2.2.2.2.2.2.2.2.2.2.2.2.2.2.1, (IntKind.wrap .i64 (a1.2.2.2.2.2.2.2.2.2.2.2.2.2.2.2.2.1 + 1), a1.2.2.2.2.2.2.2.2.2.2.2.2.2.2.2.2.2))))))))))))))))), ())))
 (cond (decide (ae0.request.kind = 9))
 (some ((), ((a1.1, (a1.2.1, (a1.2.2.1, (a1.2.2.2.1, (a1.2.2.2.2.1, (a1.2.2.2.2.2.1, (a1.2.2.2.2.2.2.1, (a1.2.2.2.2.2.2.2.1, (a1.2.2.2.2.2.2.2.2.1, (a1.2.2.2.2.2.2.2.2.2.1, (a1.2.2.2.2.2.2.2.2.2.2.1, (a1.2.2.2.2.2.2.2.2.2.2.2.1, (a1.2.2.2.2.2.2.2.2.2.2.2.2.1, (a1.2.2.2.2.2.2.2.2.2.2.2.2.2.1, (a1.2.2.2.2.2.2.2.2.2.2.2.2.2.2.1, (IntKind.wrap .i64 (a1.2.2.2.2.2.2.2.2.2.2.2.2.2.2.2.1 + 1), a1.2.2.2.2.2.2.2.2.2.2.2.2.2.2.2.2)))))))))))))))), ())))
 (cond (decide (ae0.request.kind = 8))
 (some ((), ((a1.1, (a1.2.1, (a1.2.2.1, (a1.2.2.2.1, (a1.2.2.2.2.1, (a1.2.2.2.2.2.1, (a1.2.2.2.2.2.2.1, (a1.2.2.2.2.2.2.2.1, (a1.2.2.2.2.2.2.2.2.1, (a1.2.2.2.2.2.2.2.2.2.1, (a1.2.2.2.2.2.2.2.2.2.2.1, (a1.2.2.2.2.2.2.2.2.2.2.2.1, (a1.2.2.2.2.2.2.2.2.2.2.2.2.1, (a1.2.2.2.2.2.2.2.2.2.2.2.2.2.1, (IntKind.wrap .i64 (a1.2.2.2.2.2.2.2.2.2.2.2.2.2.2.1 + 1), a1.2.2.2.2.2.2.2.2.2.2.2.2.2.2.2))))))))))))))), ())))
 (cond (decide (ae0.request.kind = 7))
 (some ((), ((a1.1, (a1.2.1, (a1.2.2.1, (a1.2.2.2.1, (a1.2.2.2.2.1, (a1.2.2.2.2.2.1, (a1.2.2.2.2.2.2.1, (a1.2.2.2.2.2.2.2.1, (a1.2.2.2.2.2.2.2.2.1, (a1.2.2.2.2.2.2.2.2.2.1, (a1.2.2.2.2.2.2.2.2.2.2.1, (a1.2.2.2.2.2.2.2.2.2.2.2.1, (a1.2.2.2.2.2.2.2.2.2.2.2.2.1, (IntKind.wrap .i64 (a1.2.2.2.2.2.2.2.2.2.2.2.2.2.1 + 1), a1.2.2.2.2.2.2.2.2.2.2.2.2.2.2)))))))))))))), ())))
 (cond (decide (ae0.request.kind = 6))
 (some ((), ((a1.1, (a1.2.1, (a1.2.2.1, (a1.2.2.2.1, (a1.2.2.2.2.1, (a1.2.2.2.2.2.1, (a1.2.2.2.2.2.2.1, (a1.2.2.2.2.2.2.2.1, (a1.2.2.2.2.2.2.2.2.1, (a1.2.2.2.2.2.2.2.2.2.1, (a1.2.2.2.2.2.2.2.2.2.2.1, (a1.2.2.2.2.2.2.2.2.2.2.2.1, (IntKind.wrap .i64 (a1.2.2.2.2.2.2.2.2.2.2.2.2.1 + 1), a1.2.2.2.2.2.2.2.2.2.2.2.2.2))))))))))))), ())))
 (cond (decide (ae0.request.kind = 5))
 (some ((), ((a1.1, (a1.2.1, (a1.2.2.1, (a1.2.2.2.1, (a1.2.2.2.2.1, (a1.2.2.2.2.2.1, (a1.2.2.2.2.2.2.1, (a1.2.2.2.2.2.2.2.1, (a1.2.2.2.2.2.2.2.2.1, (a1.2.2.2.2.2.2.2.2.2.1, (a1.2.2.2.2.2.2.2.2.2.2.1, (IntKind.wrap .i64 (a1.2.2.2.2.2.2.2.2.2.2.2.1 + 1), a1.2.2.2.2.2.2.2.2.2.2.2.2)))))))))))), ())))
 (cond (decide (ae0.request.kind = 4))
 (some ((), ((a1.1, (a1.2.1, (a1.2.2.1, (a1.2.2.2.1, (a1.2.2.2.2.1, (a1.2.2.2.2.2.1, (a1.2.2.2.2.2.2.1, (a1.2.2.2.2.2.2.2.1, (a1.2.2.2.2.2.2.2.2.1, (a1.2.2.2.2.2.2.2.2.2.1, (IntKind.wrap .i64 (a1.2.2.2.2.2.2.2.2.2.2.1 + 1), a1.2.2.2.2.2.2.2.2.2.2.2))))))))))), ())))
 (cond (decide (ae0.request.kind = 3))
 (some ((), ((a1.1, (a1.2.1, (a1.2.2.1, (a1.2.2.2.1, (a1.2.2.2.2.1, (a1.2.2.2.2.2.1, (a1.2.2.2.2.2.2.1, (a1.2.2.2.2.2.2.2.1, (a1.2.2.2.2.2.2.2.2.1, (IntKind.wrap .i64 (a1.2.2.2.2.2.2.2.2.2.1 + 1), a1.2.2.2.2.2.2.2.2.2.2)))))))))), ())))
 (cond (decide (ae0.request.kind = 2))
 (some ((), ((a1.1, (a1.2.1, (a1.2.2.1, (a1.2.2.2.1, (a1.2.2.2.2.1, (a1.2.2.2.2.2.1, (a1.2.2.2.2.2.2.1, (a1.2.2.2.2.2.2.2.1, (IntKind.wrap .i64 (a1.2.2.2.2.2.2.2.2.1 + 1), a1.2.2.2.2.2.2.2.2.2))))))))), ())))
 (cond (decide (ae0.request.kind = 1))
 (some ((), ((a1.1, (a1.2.1, (a1.2.2.1, (a1.2.2.2.1, (a1.2.2.2.2.1, (a1.2.2.2.2.2.1, (a1.2.2.2.2.2.2.1, (IntKind.wrap .i64 (a1.2.2.2.2.2.2.2.1 + 1), a1.2.2.2.2.2.2.2.2)))))))), ())))
 (cond (decide (ae0.request.kind = 0))
 (some ((), ((a1.1, (a1.2.1, (a1.2.2.1, (a1.2.2.2.1, (a1.2.2.2.2.1, (a1.2.2.2.2.2.1, (IntKind.wrap .i64 (a1.2.2.2.2.2.2.1 + 1), a1.2.2.2.2.2.2.2))))))), ())))
 (none))))))))))))))
 (some ((), (a1, ()))))
 (some ((), (a1, ()))))
theorem e9 (L : Lp)  (x : s9.args.den) (h : denH s9.heap) : nrun [] L n9 s9 x h = F9 L  x.2.1 h.1 := by kernel_rfl
def f9 : Entry → (Int × (Int × (Int × (Int × (Int × (Int × (Int × (Int × (Int × (Int × (Int × (Int × (Int × (Int × (Int × (Int × (Int × (Int × Int)))))))))))))))))) → Option (Unit × ((Int × (Int × (Int × (Int × (Int × (Int × (Int × (Int × (Int × (Int × (Int × (Int × (Int × (Int × (Int × (Int × (Int × (Int × Int)))))))))))))))))) × Unit)) := F9 (@LN LOOPS) 
@[reducible] def t9 : Ent := ⟨9, s9, fun x h => f9 x.2.1 h.1⟩
theorem k9 : chkNF Tryd.prog Tryd.f9 n9 = true := by kernel_rfl
theorem ok9 : NOk Tryd.prog t9 := NOk.body (T := []) mixed nall_nil (oneEach_of (by kernel_rfl)) Tryd.func9 k9 (by kernel_rfl) (fun x h => e9 _  x h)
/- drayage/stat.Of -/
def n5 : NFunc := ⟨50, .seq (.region 1 [
 ⟨(some 2), .alloc [.int .i64 (0), .int .i64 (0), .int .i64 (0), .int .i64 (0), .int .i64 (0), .int .i64 (0), .int .i64 (0), .int .i64 (0), .int .i64 (0), .int .i64 (0), .int .i64 (0), .int .i64 (0), .int .i64 (0), .int .i64 (0), .int .i64 (0), .int .i64 (0), .int .i64 (0), .int .i64 (0), .int .i64 (0)], none, 0, none⟩] []) (.seq (.region 1 [
 ⟨(some 3), .alloc [.int .i64 (0), .int .i64 (0), .int .i64 (0), .int .i64 (0), .int .i64 (0), .int .i64 (0), .int .i64 (0), .int .i64 (0), .int .i64 (0), .int .i64 (0), .int .i64 (0), .int .i64 (0), .int .i64 (0), .int .i64 (0), .int .i64 (0), .int .i64 (0), .int .i64 (0), .int .i64 (0), .int .i64 (0)], none, 0, none⟩] []) (.seq (.seq (.region 0 [
 ⟨(some 6), .move (.tmp 0), none, 0, none⟩,
 ⟨(some 7), .len (.tmp 6), none, 0, none⟩,
 ⟨(some 8), .move (.const (.int .i64 (0))), none, 0, none⟩] []) (.block 0 (.loop [2, 3, 6, 7, 8] ⟨[(2, (.ptr 0 0 0)), (3, (.ptr 1 0 0)), (8, (.v (.int .i64)))], [6, 7], [.one false (.pair (.int .i64) (.pair (.int .i64) (.pair (.int .i64) (.pair (.int .i64) (.pair (.int .i64) (.pair (.int .i64) (.pair (.int .i64) (.pair (.int .i64) (.pair (.int .i64) (.pair (.int .i64) (.pair (.int .i64) (.pair (.int .i64) (.pair (.int .i64) (.pair (.int .i64) (.pair (.int .i64) (.pair (.int .i64) (.pair (.int .i64) (.pair (.int .i64) (.int .i64))))))))))))))))))), .one false (.pair (.int .i64) (.pair (.int .i64) (.pair (.int .i64) (.pair (.int .i64) (.pair (.int .i64) (.pair (.int .i64) (.pair (.int .i64) (.pair (.int .i64) (.pair (.int .i64) (.pair (.int .i64) (.pair (.int .i64) (.pair (.int .i64) (.pair (.int .i64) (.pair (.int .i64) (.pair (.int .i64) (.pair (.int .i64) (.pair (.int .i64) (.pair (.int .i64) (.int .i64)))))))))))))))))))]⟩ (.seq (.region 0 [
 ⟨(some 9), .bin .lss (.tmp 8) (.tmp 7), none, 0, none⟩] []) (.seq (.cond (.tmp 9) (.skip) (.exit 0)) (.seq (.meet [2, 3, 6, 7, 8] [] ⟨[(2, (.ptr 0 0 0)), (3, (.ptr 1 0 0))], [6, 7, 8], [.one false (.pair (.int .i64) (.pair (.int .i64) (.pair (.int .i64) (.pair (.int .i64) (.pair (.int .i64) (.pair (.int .i64) (.pair (.int .i64) (.pair (.int .i64) (.pair (.int .i64) (.pair (.int .i64) (.pair (.int .i64) (.pair (.int .i64) (.pair (.int .i64) (.pair (.int .i64) (.pair (.int .i64) (.pair (.int .i64) (.pair (.int .i64) (.pair (.int .i64) (.int .i64))))))))))))))))))), .one false (.pair (.int .i64) (.pair (.int .i64) (.pair (.int .i64) (.pair (.int .i64) (.pair (.int .i64) (.pair (.int .i64) (.pair (.int .i64) (.pair (.int .i64) (.pair (.int .i64) (.pair (.int .i64) (.pair (.int .i64) (.pair (.int .i64) (.pair (.int .i64) (.pair (.int .i64) (.pair (.int .i64) (.pair (.int .i64) (.pair (.int .i64) (.pair (.int .i64) (.int .i64)))))))))))))))))))]⟩ (.block 1 (.seq (.region 1 [
 ⟨(some 10), .indexSl 26 (.tmp 6) (.tmp 8), none, 0, none⟩,
 ⟨(some 11), .load true 26 (.tmp 10), none, 0, none⟩,
 ⟨(some 5), .alloc [.int .i64 (0), .int .i64 (0), .int .i64 (0), .int .i64 (0), .int .i64 (0), .int .i64 (0), .int .i64 (0), .int .i64 (0), .int .i64 (0), .int .i64 (0), .int .i64 (0), .int .i64 (0), .int .i64 (0), .int .i64 (0), .zsl, .int .i64 (0), .int .i64 (0), .int .i64 (0), .int .i64 (0), .int .i64 (0), .int .i64 (0), .int .i64 (0), .int .i64 (0), .zsl, .int .i64 (0), .bool false], none, 0, none⟩,
 ⟨none, .store 26 (.tmp 5) (.tmp 11), none, 1, none⟩] []) (.seq (.region 0 [
 ⟨(some 12), .fieldAddr 0 (.tmp 5), none, 0, none⟩,
 ⟨(some 13), .load false 1 (.tmp 12), none, 0, none⟩] []) (.block 2 (.seq (.region 0 [
 ⟨(some 15), .bin .eql (.tmp 13) (.const (.int .i64 (1))), none, 0, none⟩,
 ⟨(some 14), .move (.tmp 15), none, 0, none⟩] []) (.cond (.tmp 14) (.seq (.region 0 [
 ⟨(some 16), .fieldAddr 0 (.tmp 3), none, 0, none⟩,
 ⟨(some 17), .load false 1 (.tmp 16), none, 0, none⟩,
 ⟨(some 18), .bin .add (.tmp 17) (.const (.int .i64 (1))), none, 0, none⟩,
 ⟨(some 19), .fieldAddr 0 (.tmp 3), none, 0, none⟩,
 ⟨none, .store 1 (.tmp 19) (.tmp 18), none, 0, none⟩] []) (.region 4 [
 ⟨(some 20), .load true 26 (.tmp 5), none, 0, none⟩,
 ⟨(some 21), .call (.func 9) [(true, (.tmp 3)), (false, (.tmp 20))] false 4, none, 0, none⟩] [])) (.seq (.region 0 [
 ⟨(some 23), .bin .eql (.tmp 13) (.const (.int .i64 (2))), none, 0, none⟩,
 ⟨(some 22), .move (.tmp 23), none, 0, none⟩] []) (.cond (.tmp 22) (.seq (.region 0 [
 ⟨(some 24), .fieldAddr 1 (.tmp 3), none, 0, none⟩,
 ⟨(some 25), .load false 1 (.tmp 24), none, 0, none⟩,
 ⟨(some 26), .bin .add (.tmp 25) (.const (.int .i64 (1))), none, 0, none⟩,
 ⟨(some 27), .fieldAddr 1 (.tmp 3), none, 0, none⟩,
 ⟨none, .store 1 (.tmp 27) (.tmp 26), none, 0, none⟩] []) (.region 4 [
 ⟨(some 28), .load true 26 (.tmp 5), none, 0, none⟩,
 ⟨(some 29), .call (.func 9) [(true, (.tmp 3)), (false, (.tmp 28))] false 4, none, 0, none⟩] [])) (.seq (.region 0 [
 ⟨(some 31), .bin .eql (.tmp 13) (.const (.int .i64 (3))), none, 0, none⟩,
 ⟨(some 30), .move (.tmp 31), none, 0, none⟩] []) (.cond (.tmp 30) (.region 0 [
 ⟨(some 32), .fieldAddr 3 (.tmp 3), none, 0, none⟩,
 ⟨(some 33), .load false 1 (.tmp 32), none, 0, none⟩,
 ⟨(some 34), .bin .add (.tmp 33) (.const (.int .i64 (1))), none, 0, none⟩,
 ⟨(some 35), .fieldAddr 3 (.tmp 3), none, 0, none⟩,
 ⟨none, .store 1 (.tmp 35) (.tmp 34), none, 0, none⟩] []) (.seq (.region 0 [
 ⟨(some 37), .bin .eql (.tmp 13) (.const (.int .i64 (4))), none, 0, none⟩,
 ⟨(some 36), .move (.tmp 37), none, 0, none⟩] []) (.cond (.tmp 36) (.region 0 [
 ⟨(some 38), .fieldAddr 4 (.tmp 3), none, 0, none⟩,
 ⟨(some 39), .load false 1 (.tmp 38), none, 0, none⟩,
 ⟨(some 40), .bin .add (.tmp 39) (.const (.int .i64 (1))), none, 0, none⟩,
 ⟨(some 41), .fieldAddr 4 (.tmp 3), none, 0, none⟩,
 ⟨none, .store 1 (.tmp 41) (.tmp 40), none, 0, none⟩] []) (.seq (.region 0 [
 ⟨(some 43), .bin .eql (.tmp 13) (.const (.int .i64 (5))), none, 0, none⟩,
 ⟨(some 42), .move (.tmp 43), none, 0, none⟩] []) (.cond (.tmp 42) (.region 0 [
 ⟨(some 44), .fieldAddr 5 (.tmp 3), none, 0, none⟩,
 ⟨(some 45), .load false 1 (.tmp 44), none, 0, none⟩,
 ⟨(some 46), .bin .add (.tmp 45) (.const (.int .i64 (1))), none, 0, none⟩,
 ⟨(some 47), .fieldAddr 5 (.tmp 3), none, 0, none⟩,
 ⟨none, .store 1 (.tmp 47) (.tmp 46), none, 0, none⟩] []) (.skip)))))))))))))))) (.region 0 [
 ⟨(some 48), .bin .add (.tmp 8) (.const (.int .i64 (1))), none, 0, none⟩,
 ⟨(some 8), .move (.tmp 48), none, 0, none⟩] []))))))) (.seq (.region 0 [
 ⟨(some 49), .load true 19 (.tmp 3), none, 0, none⟩,
 ⟨none, .store 19 (.tmp 2) (.tmp 49), none, 0, none⟩] []) (.ret)))), [.cell true 19 2], true⟩
def s5 : Sig := ⟨(.cons (.v (.list .entry)) .nil), [], ((.v (.pair (.int .i64) (.pair (.int .i64) (.pair (.int .i64) (.pair (.int .i64) (.pair (.int .i64) (.pair (.int .i64) (.pair (.int .i64) (.pair (.int .i64) (.pair (.int .i64) (.pair (.int .i64) (.pair (.int .i64) (.pair (.int .i64) (.pair (.int .i64) (.pair (.int .i64) (.pair (.int .i64) (.pair (.int .i64) (.pair (.int .i64) (.pair (.int .i64) (.int .i64)))))))))))))))))))), []), []⟩
def l5_0 (g9 : Entry → (Int × (Int × (Int × (Int × (Int × (Int × (Int × (Int × (Int × (Int × (Int × (Int × (Int × (Int × (Int × (Int × (Int × (Int × Int)))))))))))))))))) → Option (Unit × ((Int × (Int × (Int × (Int × (Int × (Int × (Int × (Int × (Int × (Int × (Int × (Int × (Int × (Int × (Int × (Int × (Int × (Int × Int)))))))))))))))))) × Unit))) (al0 : (List Entry)) (nx2 : ((Unit × (Unit × (Int × Unit))) × ((Int × (Int × (Int × (Int × (Int × (Int × (Int × (Int × (Int × (Int × (Int × (Int × (Int × (Int × (Int × (Int × (Int × (Int × Int)))))))))))))))))) × ((Int × (Int × (Int × (Int × (Int × (Int × (Int × (Int × (Int × (Int × (Int × (Int × (Int × (Int × (Int × (Int × (Int × (Int × Int)))))))))))))))))) × Unit))) → Option (Int × (Int × (Int × (Int × (Int × (Int × (Int × (Int × (Int × (Int × (Int × (Int × (Int × (Int × (Int × (Int × (Int × (Int × Int))))))))))))))))))) (z3 : Int) (z4 : (Int × (Int × (Int × (Int × (Int × (Int × (Int × (Int × (Int × (Int × (Int × (Int × (Int × (Int × (Int × (Int × (Int × (Int × Int))))))))))))))))))) (z5 : (Int × (Int × (Int × (Int × (Int × (Int × (Int × (Int × (Int × (Int × (Int × (Int × (Int × (Int × (Int × (Int × (Int × (Int × Int))))))))))))))))))) : Option (Int × (Int × (Int × (Int × (Int × (Int × (Int × (Int × (Int × (Int × (Int × (Int × (Int × (Int × (Int × (Int × (Int × (Int × Int)))))))))))))))))) :=
 cond (decide (z3 < (List.length al0 : Int)))
 (Option.bind (α := ((Unit × (Unit × Unit)) × ((Int × (Int × (Int × (Int × (Int × (Int × (Int × (Int × (Int × (Int × (Int × (Int × (Int × (Int × (Int × (Int × (Int × (Int × Int)))))))))))))))))) × ((Int × (Int × (Int × (Int × (Int × (Int × (Int × (Int × (Int × (Int × (Int × (Int × (Int × (Int × (Int × (Int × (Int × (Int × Int)))))))))))))))))) × Unit))))
 (cond (decide (0 ≤ z3))
 (Option.bind (al0[Int.toNat z3]?) fun y6 =>
 cond (decide (y6.kind = 1))
 (Option.bind (g9 y6 (IntKind.wrap .i64 (z5.1 + 1), z5.2)) fun r7 =>
 some (((), (), ()), (z4, r7.2.1, ())))
 (cond (decide (y6.kind = 2))
 (Option.bind (g9 y6 (z5.1, (IntKind.wrap .i64 (z5.2.1 + 1), z5.2.2))) fun r8 =>
 some (((), (), ()), (z4, r8.2.1, ())))
 (cond (decide (y6.kind = 3))
 (some (((), (), ()), (z4, (z5.1, (z5.2.1, (z5.2.2.1, (IntKind.wrap .i64 (z5.2.2.2.1 + 1), z5.2.2.2.2)))), ())))
 (cond (decide (y6.kind = 4))
 (some (((), (), ()), (z4, (z5.1, (z5.2.1, (z5.2.2.1, (z5.2.2.2.1, (IntKind.wrap .i64 (z5.2.2.2.2.1 + 1), z5.2.2.2.2.2))))), ())))
 (cond (decide (y6.kind = 5))
 (some (((), (), ()), (z4, (z5.1, (z5.2.1, (z5.2.2.1, (z5.2.2.2.1, (z5.2.2.2.2.1, (IntKind.wrap .i64 (z5.2.2.2.2.2.1 + 1), z5.2.2.2.2.2.2)))))), ())))
 (some (((), (), ()), (z4, z5, ()))))))))
 (none)) fun x9 =>
 nx2 (((), (), IntKind.wrap .i64 (z3 + 1), ()), (x9.2.1, x9.2.2.1, ())))
 (some z5)
def F5 (L : Lp) (g9 : Entry → (Int × (Int × (Int × (Int × (Int × (Int × (Int × (Int × (Int × (Int × (Int × (Int × (Int × (Int × (Int × (Int × (Int × (Int × Int)))))))))))))))))) → Option (Unit × ((Int × (Int × (Int × (Int × (Int × (Int × (Int × (Int × (Int × (Int × (Int × (Int × (Int × (Int × (Int × (Int × (Int × (Int × Int)))))))))))))))))) × Unit))) (al0 : (List Entry)) : Option (Int × (Int × (Int × (Int × (Int × (Int × (Int × (Int × (Int × (Int × (Int × (Int × (Int × (Int × (Int × (Int × (Int × (Int × Int)))))))))))))))))) :=
 L (fun (s1 : ((Unit × (Unit × (Int × Unit))) × ((Int × (Int × (Int × (Int × (Int × (Int × (Int × (Int × (Int × (Int × (Int × (Int × (Int × (Int × (Int × (Int × (Int × (Int × Int)))))))))))))))))) × ((Int × (Int × (Int × (Int × (Int × (Int × (Int × (Int × (Int × (Int × (Int × (Int × (Int × (Int × (Int × (Int × (Int × (Int × Int)))))))))))))))))) × Unit)))) nx2 => l5_0 g9 al0 nx2 s1.1.2.2.1 s1.2.1 s1.2.2.1) (((), (), 0, ()), ((0, (0, (0, (0, (0, (0, (0, (0, (0, (0, (0, (0, (0, (0, (0, (0, (0, (0, 0)))))))))))))))))), (0, (0, (0, (0, (0, (0, (0, (0, (0, (0, (0, (0, (0, (0, (0, (0, (0, (0, 0)))))))))))))))))), ()))
theorem e5 (L : Lp) (g9 : Entry → (Int × (Int × (Int × (Int × (Int × (Int × (Int × (Int × (Int × (Int × (Int × (Int × (Int × (Int × (Int × (Int × (Int × (Int × Int)))))))))))))))))) → Option (Unit × ((Int × (Int × (Int × (Int × (Int × (Int × (Int × (Int × (Int × (Int × (Int × (Int × (Int × (Int × (Int × (Int × (Int × (Int × Int)))))))))))))))))) × Unit))) (x : s5.args.den) (h : denH s5.heap) : nrun [⟨9, s9, fun x h => g9 x.2.1 h.1⟩] L n5 s5 x h = F5 L g9 x.1 := by kernel_rfl
def f5 : (List Entry) → Option (Int × (Int × (Int × (Int × (Int × (Int × (Int × (Int × (Int × (Int × (Int × (Int × (Int × (Int × (Int × (Int × (Int × (Int × Int)))))))))))))))))) := F5 (@LN LOOPS) f9
@[reducible] def t5 : Ent := ⟨5, s5, fun x h => f5 x.1⟩
theorem k5 : chkNF Tryd.prog Tryd.f5 n5 = true := by kernel_rfl
theorem ok5 : NOk Tryd.prog t5 := NOk.body (T := [t9]) mixed (nall_cons ok9 nall_nil) (oneEach_of (by kernel_rfl)) Tryd.func5 k5 (by kernel_rfl) (fun x h => e5 _ _ x h)
/- drayage/stat.Text -/
def s8 : Sig := ⟨(.cons (.v (.pair (.int .i64) (.pair (.int .i64) (.pair (.int .i64) (.pair (.int .i64) (.pair (.int .i64) (.pair (.int .i64) (.pair (.int .i64) (.pair (.int .i64) (.pair (.int .i64) (.pair (.int .i64) (.pair (.int .i64) (.pair (.int .i64) (.pair (.int .i64) (.pair (.int .i64) (.pair (.int .i64) (.pair (.int .i64) (.pair (.int .i64) (.pair (.int .i64) (.int .i64)))))))))))))))))))) .nil), [], ((.tup (.cons (.v .str) (.cons (.v (.int .i64)) .nil))), []), []⟩
def f8 : (Int × (Int × (Int × (Int × (Int × (Int × (Int × (Int × (Int × (Int × (Int × (Int × (Int × (Int × (Int × (Int × (Int × (Int × Int)))))))))))))))))) → Option ((List UInt8) × (Int × Unit)) := textF
@[reducible] def t8 : Ent := ⟨8, s8, fun x h => f8 x.1⟩
theorem ok8 : NOk Tryd.prog t8 := ext8
/- drayage/drayagelaw49.awake -/
def n4 : NFunc := ⟨36, .seq (.region 0 [
 ⟨(some 0), .move (.const (.bool false)), none, 0, none⟩] []) (.seq (.region 6 [
 ⟨(some 4), .build [.int .i64 (0), .int .i64 (0), .int .i64 (0), .int .i64 (0), .int .i64 (0), .int .i64 (0), .int .i64 (0), .int .i64 (0), .int .i64 (0), .int .i64 (0), .int .i64 (0), .int .i64 (0), .zsl, .int .i64 (0), .int .i64 (0), .int .i64 (0), .int .i64 (0)] [(0, 1, (.const (.int .i64 (1))))], none, 0, none⟩,
 ⟨(some 5), .build [.int .i64 (0), .int .i64 (0), .int .i64 (0), .int .i64 (0), .int .i64 (0), .int .i64 (0), .int .i64 (0), .int .i64 (0), .int .i64 (0), .int .i64 (0), .int .i64 (0), .int .i64 (0), .int .i64 (0), .int .i64 (0), .zsl, .int .i64 (0), .int .i64 (0), .int .i64 (0), .int .i64 (0), .int .i64 (0), .int .i64 (0), .int .i64 (0), .int .i64 (0), .zsl, .int .i64 (0), .bool false] [(0, 1, (.const (.int .i64 (1)))), (2, 17, (.tmp 4))], none, 0, none⟩,
 ⟨(some 6), .build [.int .i64 (0), .int .i64 (0), .int .i64 (0), .int .i64 (0), .int .i64 (0), .int .i64 (0), .int .i64 (0), .int .i64 (0), .int .i64 (0), .int .i64 (0), .int .i64 (0), .int .i64 (0), .int .i64 (0), .int .i64 (0), .zsl, .int .i64 (0), .int .i64 (0), .int .i64 (0), .int .i64 (0), .int .i64 (0), .int .i64 (0), .int .i64 (0), .int .i64 (0), .zsl, .int .i64 (0), .bool false] [(0, 1, (.const (.int .i64 (3))))], none, 0, none⟩,
 ⟨(some 7), .buildSlice 26 2 true [.int .i64 (0), .int .i64 (0), .int .i64 (0), .int .i64 (0), .int .i64 (0), .int .i64 (0), .int .i64 (0), .int .i64 (0), .int .i64 (0), .int .i64 (0), .int .i64 (0), .int .i64 (0), .int .i64 (0), .int .i64 (0), .zsl, .int .i64 (0), .int .i64 (0), .int .i64 (0), .int .i64 (0), .int .i64 (0), .int .i64 (0), .int .i64 (0), .int .i64 (0), .zsl, .int .i64 (0), .bool false] [(0, (.tmp 5)), (1, (.tmp 6))], none, 0, none⟩,
 ⟨(some 8), .call (.func 5) [(false, (.tmp 7))] false 4, none, 1, none⟩,
 ⟨(some 1), .alloc [.int .i64 (0), .int .i64 (0), .int .i64 (0), .int .i64 (0), .int .i64 (0), .int .i64 (0), .int .i64 (0), .int .i64 (0), .int .i64 (0), .int .i64 (0), .int .i64 (0), .int .i64 (0), .int .i64 (0), .int .i64 (0), .int .i64 (0), .int .i64 (0), .int .i64 (0), .int .i64 (0), .int .i64 (0)], none, 5, none⟩,
 ⟨none, .store 19 (.tmp 1) (.tmp 8), none, 6, none⟩] []) (.seq (.region 4 [
 ⟨(some 10), .load true 19 (.tmp 1), none, 0, none⟩,
 ⟨(some 11), .call (.func 8) [(false, (.tmp 10))] false 4, none, 0, none⟩,
 ⟨(some 9), .move (.tmp 11), none, 4, none⟩,
 ⟨(some 12), .extract (.tmp 9) 0, none, 4, none⟩,
 ⟨(some 13), .extract (.tmp 9) 1, none, 4, none⟩,
 ⟨(some 2), .move (.tmp 12), none, 4, none⟩,
 ⟨(some 3), .move (.tmp 13), none, 4, none⟩] []) (.seq (.region 0 [
 ⟨(some 14), .move (.tmp 3), none, 0, none⟩,
 ⟨(some 15), .bin .eql (.tmp 14) (.const (.int .i64 (0))), none, 0, none⟩,
 ⟨(some 16), .move (.tmp 15), none, 0, none⟩,
 ⟨(some 17), .fieldAddr 0 (.tmp 1), (some (16, true)), 0, none⟩,
 ⟨(some 18), .load false 1 (.tmp 17), (some (16, true)), 0, none⟩,
 ⟨(some 19), .bin .eql (.tmp 18) (.const (.int .i64 (1))), (some (16, true)), 0, none⟩,
 ⟨(some 20), .pick (.tmp 16) (.tmp 19) (.const (.bool false)), none, 0, none⟩,
 ⟨(some 21), .move (.tmp 20), none, 0, none⟩,
 ⟨(some 22), .fieldAddr 3 (.tmp 1), (some (21, true)), 0, none⟩,
 ⟨(some 23), .load false 1 (.tmp 22), (some (21, true)), 0, none⟩,
 ⟨(some 24), .bin .eql (.tmp 23) (.const (.int .i64 (1))), (some (21, true)), 0, none⟩,
 ⟨(some 25), .pick (.tmp 21) (.tmp 24) (.const (.bool false)), none, 0, none⟩,
 ⟨(some 26), .move (.tmp 25), none, 0, none⟩,
 ⟨(some 27), .fieldAddr 6 (.tmp 1), (some (26, true)), 0, none⟩,
 ⟨(some 28), .indexArr 13 1 (.tmp 27) (.const (.int .i64 (1))), (some (26, true)), 0, none⟩,
 ⟨(some 29), .load false 1 (.tmp 28), (some (26, true)), 0, none⟩,
 ⟨(some 30), .bin .eql (.tmp 29) (.const (.int .i64 (1))), (some (26, true)), 0, none⟩,
 ⟨(some 31), .pick (.tmp 26) (.tmp 30) (.const (.bool false)), none, 0, none⟩,
 ⟨(some 32), .move (.tmp 31), none, 0, none⟩,
 ⟨(some 33), .move (.tmp 2), (some (32, true)), 0, none⟩,
 ⟨(some 34), .bin .eql (.tmp 33) (.const (.str [97, 112, 112, 108, 105, 101, 100, 32, 49, 10, 99, 97, 99, 104, 101, 100, 32, 48, 10, 114, 101, 102, 117, 115, 101, 100, 32, 48, 10, 99, 121, 99, 108, 101, 115, 32, 49, 10, 116, 105, 99, 107, 115, 32, 48, 10, 101, 120, 105, 116, 115, 32, 48, 10, 115, 117, 98, 109, 105, 116, 32, 49, 10])), (some (32, true)), 0, none⟩,
 ⟨(some 35), .pick (.tmp 32) (.tmp 34) (.const (.bool false)), none, 0, none⟩,
 ⟨(some 0), .move (.tmp 35), none, 0, none⟩] []) (.ret)))), [.tmp 0], true⟩
def s4 : Sig := ⟨.nil, [], ((.v .bool), []), []⟩
def F4 (L : Lp) (g5 : (List Entry) → Option (Int × (Int × (Int × (Int × (Int × (Int × (Int × (Int × (Int × (Int × (Int × (Int × (Int × (Int × (Int × (Int × (Int × (Int × Int))))))))))))))))))) (g8 : (Int × (Int × (Int × (Int × (Int × (Int × (Int × (Int × (Int × (Int × (Int × (Int × (Int × (Int × (Int × (Int × (Int × (Int × Int)))))))))))))))))) → Option ((List UInt8) × (Int × Unit)))  : Option Bool :=
 Option.bind (g5 [Entry.mk 1 0 (Request.mk 1 0 0 0 0 0 (Res.mk 0 0 0 0) 0 0 [] 0 0 0 0) (Reply.mk 0 0 0 0 []) 0 false, Entry.mk 3 0 (Request.mk 0 0 0 0 0 0 (Res.mk 0 0 0 0) 0 0 [] 0 0 0 0) (Reply.mk 0 0 0 0 []) 0 false]) fun r0 =>
 Option.bind (g8 r0) fun r1 =>
 cond (decide (r1.2.1 = 0))
 (cond (decide (r0.1 = 1))
 (cond (decide (r0.2.2.2.1 = 1))
 (cond (decide (r0.2.2.2.2.2.2.2.1 = 1))
 (some (decide (r1.1 = ([97, 112, 112, 108, 105, 101, 100, 32, 49, 10, 99, 97, 99, 104, 101, 100, 32, 48, 10, 114, 101, 102, 117, 115, 101, 100, 32, 48, 10, 99, 121, 99, 108, 101, 115, 32, 49, 10, 116, 105, 99, 107, 115, 32, 48, 10, 101, 120, 105, 116, 115, 32, 48, 10, 115, 117, 98, 109, 105, 116, 32, 49, 10] : List UInt8))))
 (some false))
 (some false))
 (some false))
 (some false)
theorem e4 (L : Lp) (g5 : (List Entry) → Option (Int × (Int × (Int × (Int × (Int × (Int × (Int × (Int × (Int × (Int × (Int × (Int × (Int × (Int × (Int × (Int × (Int × (Int × Int))))))))))))))))))) (g8 : (Int × (Int × (Int × (Int × (Int × (Int × (Int × (Int × (Int × (Int × (Int × (Int × (Int × (Int × (Int × (Int × (Int × (Int × Int)))))))))))))))))) → Option ((List UInt8) × (Int × Unit))) (x : s4.args.den) (h : denH s4.heap) : nrun [⟨5, s5, fun x h => g5 x.1⟩, ⟨8, s8, fun x h => g8 x.1⟩] L n4 s4 x h = F4 L g5 g8  := by kernel_rfl
def f4 : Option Bool := F4 (@LN LOOPS) f5 f8
@[reducible] def t4 : Ent := ⟨4, s4, fun x h => f4 ⟩
theorem k4 : chkNF Tryd.prog Tryd.f4 n4 = true := by kernel_rfl
theorem ok4 : NOk Tryd.prog t4 := NOk.body (T := [t5, t8]) mixed (nall_cons ok5 (nall_cons ok8 nall_nil)) (oneEach_of (by kernel_rfl)) Tryd.func4 k4 (by kernel_rfl) (fun x h => e4 _ _ _ x h)
/- drayage/stat.numbers -/
def n11 : NFunc := ⟨37, .seq (.region 1 [
 ⟨(some 2), .alloc [.nilp, .nilp, .nilp, .nilp, .nilp, .nilp, .nilp, .nilp, .nilp, .nilp, .nilp, .nilp, .nilp, .nilp, .nilp, .nilp, .nilp, .nilp, .nilp], none, 0, none⟩] []) (.seq (.region 1 [
 ⟨(some 5), .move (.tmp 0), none, 0, (some ([], none))⟩,
 ⟨(some 6), .nilCheck (.tmp 5), none, 0, (some ([], none))⟩,
 ⟨(some 7), .fieldAddr 0 (.tmp 6), none, 0, (some ([], none))⟩,
 ⟨(some 8), .move (.tmp 0), none, 0, (some ([], none))⟩,
 ⟨(some 9), .nilCheck (.tmp 8), none, 0, (some ([], none))⟩,
 ⟨(some 10), .fieldAddr 1 (.tmp 9), none, 0, (some ([], none))⟩,
 ⟨(some 11), .move (.tmp 0), none, 0, (some ([], none))⟩,
 ⟨(some 12), .nilCheck (.tmp 11), none, 0, (some ([], none))⟩,
 ⟨(some 13), .fieldAddr 2 (.tmp 12), none, 0, (some ([], none))⟩,
 ⟨(some 14), .move (.tmp 0), none, 0, (some ([], none))⟩,
 ⟨(some 15), .nilCheck (.tmp 14), none, 0, (some ([], none))⟩,
 ⟨(some 16), .fieldAddr 3 (.tmp 15), none, 0, (some ([], none))⟩,
 ⟨(some 17), .move (.tmp 0), none, 0, (some ([], none))⟩,
 ⟨(some 18), .nilCheck (.tmp 17), none, 0, (some ([], none))⟩,
 ⟨(some 19), .fieldAddr 4 (.tmp 18), none, 0, (some ([], none))⟩,
 ⟨(some 20), .move (.tmp 0), none, 0, (some ([], none))⟩,
 ⟨(some 21), .nilCheck (.tmp 20), none, 0, (some ([], none))⟩,
 ⟨(some 22), .fieldAddr 5 (.tmp 21), none, 0, (some ([], none))⟩,
 ⟨(some 23), .build [.nilp, .nilp, .nilp, .nilp, .nilp, .nilp, .nilp, .nilp, .nilp, .nilp, .nilp, .nilp, .nilp, .nilp, .nilp, .nilp, .nilp, .nilp, .nilp] [(0, 1, (.tmp 7)), (1, 1, (.tmp 10)), (2, 1, (.tmp 13)), (3, 1, (.tmp 16)), (4, 1, (.tmp 19)), (5, 1, (.tmp 22))], none, 0, (some ([], none))⟩,
 ⟨(some 3), .alloc [.nilp, .nilp, .nilp, .nilp, .nilp, .nilp, .nilp, .nilp, .nilp, .nilp, .nilp, .nilp, .nilp, .nilp, .nilp, .nilp, .nilp, .nilp, .nilp], none, 0, (some ([], none))⟩,
 ⟨none, .store 19 (.tmp 3) (.tmp 23), none, 1, (some ([0], none))⟩] []) (.seq (.seq (.region 0 [
 ⟨(some 24), .move (.const (.int .i64 (0))), none, 0, none⟩] []) (.block 0 (.loopU [0, 2, 3, 24] 14 (.seq (.region 0 [
 ⟨(some 25), .bin .lss (.tmp 24) (.const (.int .i64 (13))), none, 0, none⟩] []) (.seq (.cond (.tmp 25) (.skip) (.exit 0)) (.seq (.block 1 (.seq (.region 0 [
 ⟨(some 26), .move (.tmp 24), none, 0, none⟩,
 ⟨(some 4), .move (.tmp 26), none, 0, none⟩] []) (.region 0 [
 ⟨(some 27), .move (.tmp 4), none, 0, none⟩,
 ⟨(some 28), .bin .add (.const (.int .i64 (6))) (.tmp 27), none, 0, none⟩,
 ⟨(some 29), .move (.tmp 0), none, 0, none⟩,
 ⟨(some 30), .move (.tmp 4), none, 0, none⟩,
 ⟨(some 31), .nilCheck (.tmp 29), none, 0, none⟩,
 ⟨(some 32), .fieldAddr 6 (.tmp 31), none, 0, none⟩,
 ⟨(some 33), .indexArr 13 1 (.tmp 32) (.tmp 30), none, 0, none⟩,
 ⟨(some 34), .indexArr 19 1 (.tmp 3) (.tmp 28), none, 0, none⟩,
 ⟨none, .store 1 (.tmp 34) (.tmp 33), none, 0, none⟩] []))) (.region 0 [
 ⟨(some 35), .bin .add (.tmp 24) (.const (.int .i64 (1))), none, 0, none⟩,
 ⟨(some 24), .move (.tmp 35), none, 0, none⟩] []))))))) (.seq (.region 0 [
 ⟨(some 36), .load true 19 (.tmp 3), none, 0, none⟩,
 ⟨none, .store 19 (.tmp 2) (.tmp 36), none, 0, none⟩] []) (.ret)))), [.cell true 19 2], false⟩
def s11 : Sig := ⟨(.cons (.ptr 0 0 0) .nil), [.one false (.pair (.int .i64) (.pair (.int .i64) (.pair (.int .i64) (.pair (.int .i64) (.pair (.int .i64) (.pair (.int .i64) (.pair (.int .i64) (.pair (.int .i64) (.pair (.int .i64) (.pair (.int .i64) (.pair (.int .i64) (.pair (.int .i64) (.pair (.int .i64) (.pair (.int .i64) (.pair (.int .i64) (.pair (.int .i64) (.pair (.int .i64) (.pair (.int .i64) (.int .i64)))))))))))))))))))], ((.agg (.cons (.ptr 0 0 0) (.cons (.ptr 0 0 1) (.cons (.ptr 0 0 2) (.cons (.ptr 0 0 3) (.cons (.ptr 0 0 4) (.cons (.ptr 0 0 5) (.cons (.ptr 0 0 6) (.cons (.ptr 0 0 7) (.cons (.ptr 0 0 8) (.cons (.ptr 0 0 9) (.cons (.ptr 0 0 10) (.cons (.ptr 0 0 11) (.cons (.ptr 0 0 12) (.cons (.ptr 0 0 13) (.cons (.ptr 0 0 14) (.cons (.ptr 0 0 15) (.cons (.ptr 0 0 16) (.cons (.ptr 0 0 17) (.cons (.ptr 0 0 18) .nil)))))))))))))))))))), [.one false (.pair (.int .i64) (.pair (.int .i64) (.pair (.int .i64) (.pair (.int .i64) (.pair (.int .i64) (.pair (.int .i64) (.pair (.int .i64) (.pair (.int .i64) (.pair (.int .i64) (.pair (.int .i64) (.pair (.int .i64) (.pair (.int .i64) (.pair (.int .i64) (.pair (.int .i64) (.pair (.int .i64) (.pair (.int .i64) (.pair (.int .i64) (.pair (.int .i64) (.int .i64)))))))))))))))))))]), []⟩
@[reducible] def y11 : Type := ((Unit × (Unit × (Unit × (Unit × (Unit × (Unit × (Unit × (Unit × (Unit × (Unit × (Unit × (Unit × (Unit × (Unit × (Unit × (Unit × (Unit × (Unit × (Unit × Unit))))))))))))))))))) × ((Int × (Int × (Int × (Int × (Int × (Int × (Int × (Int × (Int × (Int × (Int × (Int × (Int × (Int × (Int × (Int × (Int × (Int × Int)))))))))))))))))) × Unit))
def F11 (L : Lp)  (a0 : (Int × (Int × (Int × (Int × (Int × (Int × (Int × (Int × (Int × (Int × (Int × (Int × (Int × (Int × (Int × (Int × (Int × (Int × Int))))))))))))))))))) : Option y11 :=
 some (((), (), (), (), (), (), (), (), (), (), (), (), (), (), (), (), (), (), (), ()), (a0, ()))
theorem e11 (L : Lp)  (x : s11.args.den) (h : denH s11.heap) : nrun [] L n11 s11 x h = F11 L  h.1 := by kernel_rfl
def f11 : (Int × (Int × (Int × (Int × (Int × (Int × (Int × (Int × (Int × (Int × (Int × (Int × (Int × (Int × (Int × (Int × (Int × (Int × Int)))))))))))))))))) → Option y11 := F11 (@LN LOOPS) 
@[reducible] def t11 : Ent := ⟨11, s11, fun x h => f11 h.1⟩
theorem k11 : chkNF Tryd.prog Tryd.f11 n11 = true := by kernel_rfl
theorem ok11 : NOk Tryd.prog t11 := NOk.body (T := []) mixed nall_nil (oneEach_of (by kernel_rfl)) Tryd.func11 k11 (by kernel_rfl) (fun x h => e11 _  x h)
/- drayage/stat.right -/
def n10 : NFunc := ⟨20, .seq (.region 1 [
 ⟨(some 1), .box 19 (.tmp 0), none, 0, none⟩,
 ⟨(some 2), .move (.const (.bool false)), none, 1, none⟩] []) (.seq (.seq (.region 4 [
 ⟨(some 5), .call (.func 11) [(true, (.tmp 1))] false 4, none, 0, none⟩,
 ⟨(some 6), .move (.const (.int .i64 (0))), none, 4, none⟩] []) (.block 0 (.loopU [5, 6] 20 (.seq (.region 0 [
 ⟨(some 7), .bin .lss (.tmp 6) (.const (.int .i64 (19))), none, 0, none⟩] []) (.seq (.cond (.tmp 7) (.skip) (.exit 0)) (.seq (.block 1 (.seq (.region 0 [
 ⟨(some 8), .indexVal false 19 1 (.tmp 5) (.tmp 6), none, 0, none⟩,
 ⟨(some 4), .move (.tmp 8), none, 0, none⟩] []) (.seq (.region 0 [
 ⟨(some 9), .move (.tmp 4), none, 0, none⟩,
 ⟨(some 10), .nilCheck (.tmp 9), none, 0, none⟩,
 ⟨(some 11), .load false 1 (.tmp 10), none, 0, none⟩,
 ⟨(some 12), .bin .lss (.tmp 11) (.const (.int .i64 (0))), none, 0, none⟩,
 ⟨(some 13), .move (.tmp 12), none, 0, none⟩,
 ⟨(some 14), .move (.tmp 4), (some (13, false)), 0, none⟩,
 ⟨(some 15), .nilCheck (.tmp 14), (some (13, false)), 0, none⟩,
 ⟨(some 16), .load false 1 (.tmp 15), (some (13, false)), 0, none⟩,
 ⟨(some 17), .bin .gtr (.tmp 16) (.const (.int .i64 (281474976710656))), (some (13, false)), 0, none⟩,
 ⟨(some 18), .pick (.tmp 13) (.const (.bool true)) (.tmp 17), none, 0, none⟩] []) (.cond (.tmp 18) (.seq (.region 0 [
 ⟨(some 2), .move (.const (.bool false)), none, 0, none⟩] []) (.ret)) (.skip))))) (.region 0 [
 ⟨(some 19), .bin .add (.tmp 6) (.const (.int .i64 (1))), none, 0, none⟩,
 ⟨(some 6), .move (.tmp 19), none, 0, none⟩] []))))))) (.seq (.region 0 [
 ⟨(some 2), .move (.const (.bool true)), none, 0, none⟩] []) (.ret))), [.tmp 2], true⟩
def s10 : Sig := ⟨(.cons (.v (.pair (.int .i64) (.pair (.int .i64) (.pair (.int .i64) (.pair (.int .i64) (.pair (.int .i64) (.pair (.int .i64) (.pair (.int .i64) (.pair (.int .i64) (.pair (.int .i64) (.pair (.int .i64) (.pair (.int .i64) (.pair (.int .i64) (.pair (.int .i64) (.pair (.int .i64) (.pair (.int .i64) (.pair (.int .i64) (.pair (.int .i64) (.pair (.int .i64) (.int .i64)))))))))))))))))))) .nil), [], ((.v .bool), []), []⟩
def F10 (L : Lp) (g11 : (Int × (Int × (Int × (Int × (Int × (Int × (Int × (Int × (Int × (Int × (Int × (Int × (Int × (Int × (Int × (Int × (Int × (Int × Int)))))))))))))))))) → Option y11) (at0 : (Int × (Int × (Int × (Int × (Int × (Int × (Int × (Int × (Int × (Int × (Int × (Int × (Int × (Int × (Int × (Int × (Int × (Int × Int))))))))))))))))))) : Option Bool :=
 Option.bind (g11 at0) fun r1 =>
 cond (decide (r1.2.1.1 < 0))
 (some false)
 (cond (decide (281474976710656 < r1.2.1.1))
 (some false)
 (cond (decide (r1.2.1.2.1 < 0))
 (some false)
 (cond (decide (281474976710656 < r1.2.1.2.1))
 (some false)
 (cond (decide (r1.2.1.2.2.1 < 0))
 (some false)
 (cond (decide (281474976710656 < r1.2.1.2.2.1))
 (some false)
 (cond (decide (r1.2.1.2.2.2.1 < 0))
 (some false)
 (cond (decide (281474976710656 < r1.2.1.2.2.2.1))
 (some false)
 (cond (decide (r1.2.1.2.2.2.2.1 < 0))
 (some false)
 (cond (decide (281474976710656 < r1.2.1.2.2.2.2.1))
 (some false)
 (cond (decide (r1.2.1.2.2.2.2.2.1 < 0))
 (some false)
 (cond (decide (281474976710656 < r1.2.1.2.2.2.2.2.1))
 (some false)
 (cond (decide (r1.2.1.2.2.2.2.2.2.1 < 0))
 (some false)
 (cond (decide (281474976710656 < r1.2.1.2.2.2.2.2.2.1))
 (some false)
 (cond (decide (r1.2.1.2.2.2.2.2.2.2.1 < 0))
 (some false)
 (cond (decide (281474976710656 < r1.2.1.2.2.2.2.2.2.2.1))
 (some false)
 (cond (decide (r1.2.1.2.2.2.2.2.2.2.2.1 < 0))
 (some false)
 (cond (decide (281474976710656 < r1.2.1.2.2.2.2.2.2.2.2.1))
 (some false)
 (cond (decide (r1.2.1.2.2.2.2.2.2.2.2.2.1 < 0))
 (some false)
 (cond (decide (281474976710656 < r1.2.1.2.2.2.2.2.2.2.2.2.1))
 (some false)
 (cond (decide (r1.2.1.2.2.2.2.2.2.2.2.2.2.1 < 0))
 (some false)
 (cond (decide (281474976710656 < r1.2.1.2.2.2.2.2.2.2.2.2.2.1))
 (some false)
 (cond (decide (r1.2.1.2.2.2.2.2.2.2.2.2.2.2.1 < 0))
 (some false)
 (cond (decide (281474976710656 < r1.2.1.2.2.2.2.2.2.2.2.2.2.2.1))
 (some false)
 (cond (decide (r1.2.1.2.2.2.2.2.2.2.2.2.2.2.2.1 < 0))
 (some false)
 (cond (decide (281474976710656 < r1.2.1.2.2.2.2.2.2.2.2.2.2.2.2.1))
 (some false)
 (cond (decide (r1.2.1.2.2.2.2.2.2.2.2.2.2.2.2.2.1 < 0))
 (some false)
 (cond (decide (281474976710656 < r1.2.1.2.2.2.2.2.2.2.2.2.2.2.2.2.1))
 (some false)
 (cond (decide (r1.2.1.2.2.2.2.2.2.2.2.2.2.2.2.2.2.1 < 0))
 (some false)
 (cond (decide (281474976710656 < r1.2.1.2.2.2.2.2.2.2.2.2.2.2.2.2.2.1))
 (some false)
 (cond (decide (r1.2.1.2.2.2.2.2.2.2.2.2.2.2.2.2.2.2.1 < 0))
 (some false)
 (cond (decide (281474976710656 < r1.2.1.2.2.2.2.2.2.2.2.2.2.2.2.2.2.2.1))
 (some false)
 (cond (decide (r1.2.1.2.2.2.2.2.2.2.2.2.2.2.2.2.2.2.2.1 < 0))
 (some false)
 (cond (decide (281474976710656 < r1.2.1.2.2.2.2.2.2.2.2.2.2.2.2.2.2.2.2.1))
 (some false)
 (cond (decide (r1.2.1.2.2.2.2.2.2.2.2.2.2.2.2.2.2.2.2.2.1 < 0))
 (some false)
 (cond (decide (281474976710656 < r1.2.1.2.2.2.2.2.2.2.2.2.2.2.2.2.2.2.2.2.1))
 (some false)
 (cond (decide (r1.2.1.2.2.2.2.2.2.2.2.2.2.2.2.2.2.2.2.2.2 < 0))
 (some false)
 (cond (decide (281474976710656 < r1.2.1.2.2.2.2.2.2.2.2.2.2.2.2.2.2.2.2.2.2))
 (some false)
 (some true))))))))))))))))))))))))))))))))))))))
theorem e10 (L : Lp) (g11 : (Int × (Int × (Int × (Int × (Int × (Int × (Int × (Int × (Int × (Int × (Int × (Int × (Int × (Int × (Int × (Int × (Int × (Int × Int)))))))))))))))))) → Option y11) (x : s10.args.den) (h : denH s10.heap) : nrun [⟨11, s11, fun x h => g11 h.1⟩] L n10 s10 x h = F10 L g11 x.1 := by kernel_rfl
def f10 : (Int × (Int × (Int × (Int × (Int × (Int × (Int × (Int × (Int × (Int × (Int × (Int × (Int × (Int × (Int × (Int × (Int × (Int × Int)))))))))))))))))) → Option Bool := F10 (@LN LOOPS) f11
@[reducible] def t10 : Ent := ⟨10, s10, fun x h => f10 x.1⟩
theorem k10 : chkNF Tryd.prog Tryd.f10 n10 = true := by kernel_rfl
theorem ok10 : NOk Tryd.prog t10 := NOk.body (T := [t11]) mixed (nall_cons ok11 nall_nil) (oneEach_of (by kernel_rfl)) Tryd.func10 k10 (by kernel_rfl) (fun x h => e10 _ _ x h)
/- drayage/nat.Add -/
def n12 : NFunc := ⟨31, .seq (.region 0 [
 ⟨(some 6), .move (.const (.int .i64 (0))), none, 0, none⟩,
 ⟨(some 7), .move (.const (.int .i64 (0))), none, 0, none⟩] []) (.seq (.seq (.region 0 [
 ⟨(some 8), .move (.tmp 0), none, 0, none⟩,
 ⟨(some 9), .bin .lss (.tmp 8) (.const (.int .i64 (0))), none, 0, none⟩,
 ⟨(some 10), .move (.tmp 9), none, 0, none⟩,
 ⟨(some 11), .move (.tmp 1), (some (10, false)), 0, none⟩,
 ⟨(some 12), .bin .lss (.tmp 11) (.const (.int .i64 (0))), (some (10, false)), 0, none⟩,
 ⟨(some 13), .pick (.tmp 10) (.const (.bool true)) (.tmp 12), none, 0, none⟩,
 ⟨(some 14), .move (.tmp 13), none, 0, none⟩,
 ⟨(some 15), .move (.tmp 2), (some (14, false)), 0, none⟩,
 ⟨(some 16), .bin .lss (.tmp 15) (.const (.int .i64 (0))), (some (14, false)), 0, none⟩,
 ⟨(some 17), .pick (.tmp 14) (.const (.bool true)) (.tmp 16), none, 0, none⟩] []) (.cond (.tmp 17) (.seq (.region 0 [
 ⟨(some 6), .move (.const (.int .i64 (0))), none, 0, none⟩,
 ⟨(some 7), .move (.const (.int .i64 (2))), none, 0, none⟩] []) (.ret)) (.skip))) (.seq (.seq (.region 0 [
 ⟨(some 18), .move (.tmp 0), none, 0, none⟩,
 ⟨(some 19), .move (.tmp 2), none, 0, none⟩,
 ⟨(some 20), .bin .gtr (.tmp 18) (.tmp 19), none, 0, none⟩,
 ⟨(some 21), .move (.tmp 20), none, 0, none⟩,
 ⟨(some 22), .move (.tmp 1), (some (21, false)), 0, none⟩,
 ⟨(some 23), .move (.tmp 2), (some (21, false)), 0, none⟩,
 ⟨(some 24), .move (.tmp 0), (some (21, false)), 0, none⟩,
 ⟨(some 25), .bin .sub (.tmp 23) (.tmp 24), (some (21, false)), 0, none⟩,
 ⟨(some 26), .bin .gtr (.tmp 22) (.tmp 25), (some (21, false)), 0, none⟩,
 ⟨(some 27), .pick (.tmp 21) (.const (.bool true)) (.tmp 26), none, 0, none⟩] []) (.cond (.tmp 27) (.seq (.region 0 [
 ⟨(some 6), .move (.const (.int .i64 (0))), none, 0, none⟩,
 ⟨(some 7), .move (.const (.int .i64 (20))), none, 0, none⟩] []) (.ret)) (.skip))) (.seq (.region 0 [
 ⟨(some 28), .move (.tmp 0), none, 0, none⟩,
 ⟨(some 29), .move (.tmp 1), none, 0, none⟩,
 ⟨(some 30), .bin .add (.tmp 28) (.tmp 29), none, 0, none⟩,
 ⟨(some 6), .move (.tmp 30), none, 0, none⟩,
 ⟨(some 7), .move (.const (.int .i64 (0))), none, 0, none⟩] []) (.ret)))), [.tmp 6, .tmp 7], true⟩
def s12 : Sig := ⟨(.cons (.v (.int .i64)) (.cons (.v (.int .i64)) (.cons (.v (.int .i64)) .nil))), [], ((.tup (.cons (.v (.int .i64)) (.cons (.v (.int .i64)) .nil))), []), []⟩
def F12 (L : Lp)  (a0 : Int) (b1 : Int) (limit2 : Int) : Option (Int × (Int × Unit)) :=
 cond (decide (a0 < 0))
 (some (0, 2, ()))
 (cond (decide (b1 < 0))
 (some (0, 2, ()))
 (cond (decide (limit2 < 0))
 (some (0, 2, ()))
 (cond (decide (limit2 < a0))
 (some (0, 20, ()))
 (cond (decide ((IntKind.wrap .i64 (limit2 - a0)) < b1))
 (some (0, 20, ()))
 (some (IntKind.wrap .i64 (a0 + b1), 0, ()))))))
theorem e12 (L : Lp)  (x : s12.args.den) (h : denH s12.heap) : nrun [] L n12 s12 x h = F12 L  x.1 x.2.1 x.2.2.1 := by kernel_rfl
def f12 : Int → Int → Int → Option (Int × (Int × Unit)) := F12 (@LN LOOPS) 
@[reducible] def t12 : Ent := ⟨12, s12, fun x h => f12 x.1 x.2.1 x.2.2.1⟩
theorem k12 : chkNF Tryd.prog Tryd.f12 n12 = true := by kernel_rfl
theorem ok12 : NOk Tryd.prog t12 := NOk.body (T := []) mixed nall_nil (oneEach_of (by kernel_rfl)) Tryd.func12 k12 (by kernel_rfl) (fun x h => e12 _  x h)
/- drayage/stat.Add -/
def n6 : NFunc := ⟨52, .seq (.region 3 [
 ⟨(some 2), .box 19 (.tmp 0), none, 0, none⟩,
 ⟨(some 3), .box 19 (.tmp 1), none, 1, none⟩,
 ⟨(some 4), .alloc [.int .i64 (0), .int .i64 (0), .int .i64 (0), .int .i64 (0), .int .i64 (0), .int .i64 (0), .int .i64 (0), .int .i64 (0), .int .i64 (0), .int .i64 (0), .int .i64 (0), .int .i64 (0), .int .i64 (0), .int .i64 (0), .int .i64 (0), .int .i64 (0), .int .i64 (0), .int .i64 (0), .int .i64 (0)], none, 2, none⟩,
 ⟨(some 5), .move (.const (.int .i64 (0))), none, 3, none⟩] []) (.seq (.seq (.region 8 [
 ⟨(some 13), .load true 19 (.tmp 2), none, 0, none⟩,
 ⟨(some 14), .call (.func 10) [(false, (.tmp 13))] false 4, none, 0, none⟩,
 ⟨(some 15), .un .not (.tmp 14), none, 4, none⟩,
 ⟨(some 16), .move (.tmp 15), none, 4, none⟩,
 ⟨(some 17), .load true 19 (.tmp 3), (some (16, false)), 4, none⟩,
 ⟨(some 18), .call (.func 10) [(false, (.tmp 17))] false 4, (some (16, false)), 4, none⟩,
 ⟨(some 19), .un .not (.tmp 18), (some (16, false)), 8, none⟩,
 ⟨(some 20), .pick (.tmp 16) (.const (.bool true)) (.tmp 19), none, 8, none⟩] []) (.cond (.tmp 20) (.seq (.region 0 [
 ⟨(some 21), .build [.int .i64 (0), .int .i64 (0), .int .i64 (0), .int .i64 (0), .int .i64 (0), .int .i64 (0), .int .i64 (0), .int .i64 (0), .int .i64 (0), .int .i64 (0), .int .i64 (0), .int .i64 (0), .int .i64 (0), .int .i64 (0), .int .i64 (0), .int .i64 (0), .int .i64 (0), .int .i64 (0), .int .i64 (0)] [], none, 0, none⟩,
 ⟨none, .store 19 (.tmp 4) (.tmp 21), none, 0, none⟩,
 ⟨(some 5), .move (.const (.int .i64 (2))), none, 0, none⟩] []) (.ret)) (.skip))) (.seq (.region 1 [
 ⟨(some 6), .alloc [.int .i64 (0), .int .i64 (0), .int .i64 (0), .int .i64 (0), .int .i64 (0), .int .i64 (0), .int .i64 (0), .int .i64 (0), .int .i64 (0), .int .i64 (0), .int .i64 (0), .int .i64 (0), .int .i64 (0), .int .i64 (0), .int .i64 (0), .int .i64 (0), .int .i64 (0), .int .i64 (0), .int .i64 (0)], none, 0, none⟩] []) (.seq (.region 15 [
 ⟨(some 22), .call (.func 11) [(true, (.tmp 6))] false 4, none, 0, none⟩,
 ⟨(some 23), .call (.func 11) [(true, (.tmp 2))] false 4, none, 4, none⟩,
 ⟨(some 24), .call (.func 11) [(true, (.tmp 3))] false 4, none, 8, none⟩,
 ⟨(some 7), .alloc [.nilp, .nilp, .nilp, .nilp, .nilp, .nilp, .nilp, .nilp, .nilp, .nilp, .nilp, .nilp, .nilp, .nilp, .nilp, .nilp, .nilp, .nilp, .nilp], none, 12, none⟩,
 ⟨(some 8), .alloc [.nilp, .nilp, .nilp, .nilp, .nilp, .nilp, .nilp, .nilp, .nilp, .nilp, .nilp, .nilp, .nilp, .nilp, .nilp, .nilp, .nilp, .nilp, .nilp], none, 13, none⟩,
 ⟨(some 9), .alloc [.nilp, .nilp, .nilp, .nilp, .nilp, .nilp, .nilp, .nilp, .nilp, .nilp, .nilp, .nilp, .nilp, .nilp, .nilp, .nilp, .nilp, .nilp, .nilp], none, 14, none⟩,
 ⟨none, .store 19 (.tmp 7) (.tmp 22), none, 15, none⟩,
 ⟨none, .store 19 (.tmp 8) (.tmp 23), none, 15, none⟩,
 ⟨none, .store 19 (.tmp 9) (.tmp 24), none, 15, none⟩] []) (.seq (.seq (.region 0 [
 ⟨(some 25), .move (.const (.int .i64 (0))), none, 0, none⟩] []) (.block 0 (.loopU [4, 6, 7, 8, 9, 25] 20 (.seq (.region 0 [
 ⟨(some 26), .bin .lss (.tmp 25) (.const (.int .i64 (19))), none, 0, none⟩] []) (.seq (.cond (.tmp 26) (.skip) (.exit 0)) (.seq (.block 1 (.seq (.region 0 [
 ⟨(some 27), .move (.tmp 25), none, 0, none⟩,
 ⟨(some 10), .move (.tmp 27), none, 0, none⟩] []) (.seq (.region 4 [
 ⟨(some 29), .move (.tmp 10), none, 0, (some ([], none))⟩,
 ⟨(some 30), .indexArr 19 1 (.tmp 8) (.tmp 29), none, 0, (some ([], none))⟩,
 ⟨(some 31), .load false 1 (.tmp 30), none, 0, (some ([], none))⟩,
 ⟨(some 32), .nilCheck (.tmp 31), none, 0, (some ([], none))⟩,
 ⟨(some 33), .load false 1 (.tmp 32), none, 0, (some ([], none))⟩,
 ⟨(some 34), .move (.tmp 10), none, 0, (some ([], none))⟩,
 ⟨(some 35), .indexArr 19 1 (.tmp 9) (.tmp 34), none, 0, (some ([], none))⟩,
 ⟨(some 36), .load false 1 (.tmp 35), none, 0, (some ([], none))⟩,
 ⟨(some 37), .nilCheck (.tmp 36), none, 0, (some ([], none))⟩,
 ⟨(some 38), .load false 1 (.tmp 37), none, 0, (some ([], none))⟩,
 ⟨(some 39), .call (.func 12) [(false, (.tmp 33)), (false, (.tmp 38)), (false, (.const (.int .i64 (281474976710656))))] false 4, none, 0, (some ([], none))⟩,
 ⟨(some 28), .move (.tmp 39), none, 4, (some ([0, 1, 2, 3], none))⟩,
 ⟨(some 40), .extract (.tmp 28) 0, none, 4, (some ([0, 1, 2, 3], none))⟩,
 ⟨(some 41), .extract (.tmp 28) 1, none, 4, (some ([0, 1, 2, 3], none))⟩,
 ⟨(some 11), .move (.tmp 40), none, 4, (some ([0, 1, 2, 3], none))⟩,
 ⟨(some 12), .move (.tmp 41), none, 4, (some ([0, 1, 2, 3], none))⟩] []) (.seq (.seq (.region 0 [
 ⟨(some 42), .move (.tmp 12), none, 0, none⟩,
 ⟨(some 43), .bin .neq (.tmp 42) (.const (.int .i64 (0))), none, 0, none⟩] []) (.cond (.tmp 43) (.seq (.region 0 [
 ⟨(some 44), .build [.int .i64 (0), .int .i64 (0), .int .i64 (0), .int .i64 (0), .int .i64 (0), .int .i64 (0), .int .i64 (0), .int .i64 (0), .int .i64 (0), .int .i64 (0), .int .i64 (0), .int .i64 (0), .int .i64 (0), .int .i64 (0), .int .i64 (0), .int .i64 (0), .int .i64 (0), .int .i64 (0), .int .i64 (0)] [], none, 0, none⟩,
 ⟨none, .store 19 (.tmp 4) (.tmp 44), none, 0, none⟩,
 ⟨(some 5), .move (.const (.int .i64 (20))), none, 0, none⟩] []) (.ret)) (.skip))) (.region 0 [
 ⟨(some 45), .move (.tmp 10), none, 0, none⟩,
 ⟨(some 46), .indexArr 19 1 (.tmp 7) (.tmp 45), none, 0, none⟩,
 ⟨(some 47), .load false 1 (.tmp 46), none, 0, none⟩,
 ⟨(some 48), .move (.tmp 11), none, 0, none⟩,
 ⟨(some 49), .nilCheck (.tmp 47), none, 0, none⟩,
 ⟨none, .store 1 (.tmp 49) (.tmp 48), none, 0, none⟩] []))))) (.region 0 [
 ⟨(some 50), .bin .add (.tmp 25) (.const (.int .i64 (1))), none, 0, none⟩,
 ⟨(some 25), .move (.tmp 50), none, 0, none⟩] []))))))) (.seq (.region 0 [
 ⟨(some 51), .load true 19 (.tmp 6), none, 0, none⟩,
 ⟨none, .store 19 (.tmp 4) (.tmp 51), none, 0, none⟩,
 ⟨(some 5), .move (.const (.int .i64 (0))), none, 0, none⟩] []) (.ret)))))), [.cell true 19 4, .tmp 5], true⟩
def s6 : Sig := ⟨(.cons (.v (.pair (.int .i64) (.pair (.int .i64) (.pair (.int .i64) (.pair (.int .i64) (.pair (.int .i64) (.pair (.int .i64) (.pair (.int .i64) (.pair (.int .i64) (.pair (.int .i64) (.pair (.int .i64) (.pair (.int .i64) (.pair (.int .i64) (.pair (.int .i64) (.pair (.int .i64) (.pair (.int .i64) (.pair (.int .i64) (.pair (.int .i64) (.pair (.int .i64) (.int .i64)))))))))))))))))))) (.cons (.v (.pair (.int .i64) (.pair (.int .i64) (.pair (.int .i64) (.pair (.int .i64) (.pair (.int .i64) (.pair (.int .i64) (.pair (.int .i64) (.pair (.int .i64) (.pair (.int .i64) (.pair (.int .i64) (.pair (.int .i64) (.pair (.int .i64) (.pair (.int .i64) (.pair (.int .i64) (.pair (.int .i64) (.pair (.int .i64) (.pair (.int .i64) (.pair (.int .i64) (.int .i64)))))))))))))))))))) .nil)), [], ((.tup (.cons (.v (.pair (.int .i64) (.pair (.int .i64) (.pair (.int .i64) (.pair (.int .i64) (.pair (.int .i64) (.pair (.int .i64) (.pair (.int .i64) (.pair (.int .i64) (.pair (.int .i64) (.pair (.int .i64) (.pair (.int .i64) (.pair (.int .i64) (.pair (.int .i64) (.pair (.int .i64) (.pair (.int .i64) (.pair (.int .i64) (.pair (.int .i64) (.pair (.int .i64) (.int .i64)))))))))))))))))))) (.cons (.v (.int .i64)) .nil))), []), []⟩
def F6 (L : Lp) (g10 : (Int × (Int × (Int × (Int × (Int × (Int × (Int × (Int × (Int × (Int × (Int × (Int × (Int × (Int × (Int × (Int × (Int × (Int × Int)))))))))))))))))) → Option Bool) (g11 : (Int × (Int × (Int × (Int × (Int × (Int × (Int × (Int × (Int × (Int × (Int × (Int × (Int × (Int × (Int × (Int × (Int × (Int × Int)))))))))))))))))) → Option y11) (g12 : Int → Int → Int → Option (Int × (Int × Unit))) (a0 : (Int × (Int × (Int × (Int × (Int × (Int × (Int × (Int × (Int × (Int × (Int × (Int × (Int × (Int × (Int × (Int × (Int × (Int × Int))))))))))))))))))) (b1 : (Int × (Int × (Int × (Int × (Int × (Int × (Int × (Int × (Int × (Int × (Int × (Int × (Int × (Int × (Int × (Int × (Int × (Int × Int))))))))))))))))))) : Option ((Int × (Int × (Int × (Int × (Int × (Int × (Int × (Int × (Int × (Int × (Int × (Int × (Int × (Int × (Int × (Int × (Int × (Int × Int)))))))))))))))))) × (Int × Unit)) :=
 Option.bind (g10 a0) fun r2 =>
 cond (!r2)
 (some ((0, (0, (0, (0, (0, (0, (0, (0, (0, (0, (0, (0, (0, (0, (0, (0, (0, (0, 0)))))))))))))))))), 2, ()))
 (Option.bind (g10 b1) fun r3 =>
 cond (!r3)
 (some ((0, (0, (0, (0, (0, (0, (0, (0, (0, (0, (0, (0, (0, (0, (0, (0, (0, (0, 0)))))))))))))))))), 2, ()))
 (Option.bind (g11 (0, (0, (0, (0, (0, (0, (0, (0, (0, (0, (0, (0, (0, (0, (0, (0, (0, (0, 0))))))))))))))))))) fun r4 =>
 Option.bind (g11 a0) fun r5 =>
 Option.bind (g11 b1) fun r6 =>
 Option.bind (g12 r5.2.1.1 r6.2.1.1 281474976710656) fun r7 =>
 cond (!decide (r7.2.1 = 0))
 (some ((0, (0, (0, (0, (0, (0, (0, (0, (0, (0, (0, (0, (0, (0, (0, (0, (0, (0, 0)))))))))))))))))), 20, ()))
 (Option.bind (g12 r5.2.1.2.1 r6.2.1.2.1 281474976710656) fun r8 =>
 cond (!decide (r8.2.1 = 0))
 (some ((0, (0, (0, (0, (0, (0, (0, (0, (0, (0, (0, (0, (0, (0, (0, (0, (0, (0, 0)))))))))))))))))), 20, ()))
 (Option.bind (g12 r5.2.1.2.2.1 r6.2.1.2.2.1 281474976710656) fun r9 =>
 cond (!decide (r9.2.1 = 0))
 (some ((0, (0, (0, (0, (0, (0, (0, (0, (0, (0, (0, (0, (0, (0, (0, (0, (0, (0, 0)))))))))))))))))), 20, ()))
 (Option.bind (g12 r5.2.1.2.2.2.1 r6.2.1.2.2.2.1 281474976710656) fun r10 =>
 cond (!decide (r10.2.1 = 0))
 (some ((0, (0, (0, (0, (0, (0, (0, (0, (0, (0, (0, (0, (0, (0, (0, (0, (0, (0, 0)))))))))))))))))), 20, ()))
 (Option.bind (g12 r5.2.1.2.2.2.2.1 r6.2.1.2.2.2.2.1 281474976710656) fun r11 =>
 cond (!decide (r11.2.1 = 0))
 (some ((0, (0, (0, (0, (0, (0, (0, (0, (0, (0, (0, (0, (0, (0, (0, (0, (0, (0, 0)))))))))))))))))), 20, ()))
 (Option.bind (g12 r5.2.1.2.2.2.2.2.1 r6.2.1.2.2.2.2.2.1 281474976710656) fun r12 =>
 cond (!decide (r12.2.1 = 0))
 (some ((0, (0, (0, (0, (0, (0, (0, (0, (0, (0, (0, (0, (0, (0, (0, (0, (0, (0, 0)))))))))))))))))), 20, ()))
 (Option.bind (g12 r5.2.1.2.2.2.2.2.2.1 r6.2.1.2.2.2.2.2.2.1 281474976710656) fun r13 =>
 cond (!decide (r13.2.1 = 0))
 (some ((0, (0, (0, (0, (0, (0, (0, (0, (0, (0, (0, (0, (0, (0, (0, (0, (0, (0, 0)))))))))))))))))), 20, ()))
 (Option.bind (g12 r5.2.1.2.2.2.2.2.2.2.1 r6.2.1.2.2.2.2.2.2.2.1 281474976710656) fun r14 =>
 cond (!decide (r14.2.1 = 0))
 (some ((0, (0, (0, (0, (0, (0, (0, (0, (0, (0, (0, (0, (0, (0, (0, (0, (0, (0, 0)))))))))))))))))), 20, ()))
 (Option.bind (g12 r5.2.1.2.2.2.2.2.2.2.2.1 r6.2.1.2.2.2.2.2.2.2.2.1 281474976710656) fun r15 =>
 cond (!decide (r15.2.1 = 0))
 (some ((0, (0, (0, (0, (0, (0, (0, (0, (0, (0, (0, (0, (0, (0, (0, (0, (0, (0, 0)))))))))))))))))), 20, ()))
 (Option.bind (g12 r5.2.1.2.2.2.2.2.2.2.2.2.1 r6.2.1.2.2.2.2.2.2.2.2.2.1 281474976710656) fun r16 =>
 cond (!decide (r16.2.1 = 0))
 (some ((0, (0, (0, (0, (0, (0, (0, (0, (0, (0, (0, (0, (0, (0, (0, (0, (0, (0, 0)))))))))))))))))), 20, ()))
 (Option.bind (g12 r5.2.1.2.2.2.2.2.2.2.2.2.2.1 r6.2.1.2.2.2.2.2.2.2.2.2.2.1 281474976710656) fun r17 =>
 cond (!decide (r17.2.1 = 0))
 (some ((0, (0, (0, (0, (0, (0, (0, (0, (0, (0, (0, (0, (0, (0, (0, (0, (0, (0, 0)))))))))))))))))), 20, ()))
 (Option.bind (g12 r5.2.1.2.2.2.2.2.2.2.2.2.2.2.1 r6.2.1.2.2.2.2.2.2.2.2.2.2.2.1 281474976710656) fun r18 =>
 cond (!decide (r18.2.1 = 0))
 (some ((0, (0, (0, (0, (0, (0, (0, (0, (0, (0, (0, (0, (0, (0, (0, (0, (0, (0, 0)))))))))))))))))), 20, ()))
 (Option.bind (g12 r5.2.1.2.2.2.2.2.2.2.2.2.2.2.2.1 r6.2.1.2.2.2.2.2.2.2.2.2.2.2.2.1 281474976710656) fun r19 =>
 cond (!decide (r19.2.1 = 0))
 (some ((0, (0, (0, (0, (0, (0, (0, (0, (0, (0, (0, (0, (0, (0, (0, (0, (0, (0, 0)))))))))))))))))), 20, ()))
 (Option.bind (g12 r5.2.1.2.2.2.2.2.2.2.2.2.2.2.2.2.1 r6.2.1.2.2.2.2.2.2.2.2.2.2.2.2.2.1 281474976710656) fun r20 =>
 cond (!decide (r20.2.1 = 0))
 (some ((0, (0, (0, (0, (0, (0, (0, (0, (0, (0, (0, (0, (0, (0, (0, (0, (0, (0, 0)))))))))))))))))), 20, ()))
 (Option.bind (g12 r5.2.1.2.2.2.2.2.2.2.2.2.2.2.2.2.2.1 r6.2.1.2.2.2.2.2.2.2.2.2.2.2.2.2.2.1 281474976710656) fun r21 =>
 cond (!decide (r21.2.1 = 0))
 (some ((0, (0, (0, (0, (0, (0, (0, (0, (0, (0, (0, (0, (0, (0, (0, (0, (0, (0, 0)))))))))))))))))), 20, ()))
 (Option.bind (g12 r5.2.1.2.2.2.2.2.2.2.2.2.2.2.2.2.2.2.1 r6.2.1.2.2.2.2.2.2.2.2.2.2.2.2.2.2.2.1 281474976710656) fun r22 =>
 cond (!decide (r22.2.1 = 0))
 (some ((0, (0, (0, (0, (0, (0, (0, (0, (0, (0, (0, (0, (0, (0, (0, (0, (0, (0, 0)))))))))))))))))), 20, ()))
 (Option.bind (g12 r5.2.1.2.2.2.2.2.2.2.2.2.2.2.2.2.2.2.2.1 r6.2.1.2.2.2.2.2.2.2.2.2.2.2.2.2.2.2.2.1 281474976710656) fun r23 =>
 cond (!decide (r23.2.1 = 0))
 (some ((0, (0, (0, (0, (0, (0, (0, (0, (0, (0, (0, (0, (0, (0, (0, (0, (0, (0, 0)))))))))))))))))), 20, ()))
 (Option.bind (g12 r5.2.1.2.2.2.2.2.2.2.2.2.2.2.2.2.2.2.2.2.1 r6.2.1.2.2.2.2.2.2.2.2.2.2.2.2.2.2.2.2.2.1 281474976710656) fun r24 =>
 cond (!decide (r24.2.1 = 0))
 (some ((0, (0, (0, (0, (0, (0, (0, (0, (0, (0, (0, (0, (0, (0, (0, (0, (0, (0, 0)))))))))))))))))), 20, ()))
 (Option.bind (g12 r5.2.1.2.2.2.2.2.2.2.2.2.2.2.2.2.2.2.2.2.2 r6.2.1.2.2.2.2.2.2.2.2.2.2.2.2.2.2.2.2.2.2 281474976710656) fun r25 =>
 cond (!decide (r25.2.1 = 0))
 (some ((0, (0, (0, (0, (0, (0, (0, (0, (0, (0, (0, (0, (0, (0, (0, (0, (0, (0, 0)))))))))))))))))), 20, ()))
 (some ((r7.1, (r8.1, (r9.1, (r10.1, (r11.1, (r12.1, (r13.1, (r14.1, (r15.1, (r16.1, (r17.1, (r18.1, (r19.1, (r20.1, (r21.1, (r22.1, (r23.1, (r24.1, r25.1)))))))))))))))))), 0, ()))))))))))))))))))))))
theorem e6 (L : Lp) (g10 : (Int × (Int × (Int × (Int × (Int × (Int × (Int × (Int × (Int × (Int × (Int × (Int × (Int × (Int × (Int × (Int × (Int × (Int × Int)))))))))))))))))) → Option Bool) (g11 : (Int × (Int × (Int × (Int × (Int × (Int × (Int × (Int × (Int × (Int × (Int × (Int × (Int × (Int × (Int × (Int × (Int × (Int × Int)))))))))))))))))) → Option y11) (g12 : Int → Int → Int → Option (Int × (Int × Unit))) (x : s6.args.den) (h : denH s6.heap) : nrun [⟨10, s10, fun x h => g10 x.1⟩, ⟨11, s11, fun x h => g11 h.1⟩, ⟨12, s12, fun x h => g12 x.1 x.2.1 x.2.2.1⟩] L n6 s6 x h = F6 L g10 g11 g12 x.1 x.2.1 := by kernel_rfl
def f6 : (Int × (Int × (Int × (Int × (Int × (Int × (Int × (Int × (Int × (Int × (Int × (Int × (Int × (Int × (Int × (Int × (Int × (Int × Int)))))))))))))))))) → (Int × (Int × (Int × (Int × (Int × (Int × (Int × (Int × (Int × (Int × (Int × (Int × (Int × (Int × (Int × (Int × (Int × (Int × Int)))))))))))))))))) → Option ((Int × (Int × (Int × (Int × (Int × (Int × (Int × (Int × (Int × (Int × (Int × (Int × (Int × (Int × (Int × (Int × (Int × (Int × Int)))))))))))))))))) × (Int × Unit)) := F6 (@LN LOOPS) f10 f11 f12
@[reducible] def t6 : Ent := ⟨6, s6, fun x h => f6 x.1 x.2.1⟩
theorem k6 : chkNF Tryd.prog Tryd.f6 n6 = true := by kernel_rfl
theorem ok6 : NOk Tryd.prog t6 := NOk.body (T := [t10, t11, t12]) mixed (nall_cons ok10 (nall_cons ok11 (nall_cons ok12 nall_nil))) (oneEach_of (by kernel_rfl)) Tryd.func6 k6 (by kernel_rfl) (fun x h => e6 _ _ _ _ x h)
/- drayage/drayageref49.count -/
def n13 : NFunc := ⟨23, .seq (.region 0 [
 ⟨(some 4), .move (.const (.int .i64 (0))), none, 0, none⟩] []) (.seq (.region 0 [
 ⟨(some 5), .move (.const (.int .i64 (0))), none, 0, none⟩] []) (.seq (.seq (.region 0 [
 ⟨(some 6), .move (.const (.int .i64 (0))), none, 0, none⟩] []) (.block 0 (.loop [0, 1, 5, 6] ⟨[(5, (.v (.int .i64))), (6, (.v (.int .i64)))], [0, 1], []⟩ (.seq (.seq (.region 0 [
 ⟨(some 7), .move (.tmp 6), none, 0, none⟩,
 ⟨(some 8), .move (.tmp 0), none, 0, none⟩,
 ⟨(some 9), .len (.tmp 8), none, 0, none⟩,
 ⟨(some 10), .bin .lss (.tmp 7) (.tmp 9), none, 0, none⟩] []) (.cond (.tmp 10) (.skip) (.exit 0))) (.seq (.block 1 (.seq (.region 0 [
 ⟨(some 13), .move (.tmp 0), none, 0, none⟩,
 ⟨(some 14), .move (.tmp 6), none, 0, none⟩,
 ⟨(some 15), .indexSl 26 (.tmp 13) (.tmp 14), none, 0, none⟩,
 ⟨(some 16), .fieldAddr 0 (.tmp 15), none, 0, none⟩,
 ⟨(some 17), .load false 1 (.tmp 16), none, 0, none⟩,
 ⟨(some 18), .move (.tmp 1), none, 0, none⟩,
 ⟨(some 19), .bin .eql (.tmp 17) (.tmp 18), none, 0, none⟩] []) (.cond (.tmp 19) (.region 0 [
 ⟨(some 20), .move (.tmp 5), none, 0, none⟩,
 ⟨(some 21), .bin .add (.tmp 20) (.const (.int .i64 (1))), none, 0, none⟩,
 ⟨(some 5), .move (.tmp 21), none, 0, none⟩] []) (.skip)))) (.region 0 [
 ⟨(some 11), .move (.tmp 6), none, 0, none⟩,
 ⟨(some 12), .bin .add (.tmp 11) (.const (.int .i64 (1))), none, 0, none⟩,
 ⟨(some 6), .move (.tmp 12), none, 0, none⟩] [])))))) (.seq (.region 0 [
 ⟨(some 22), .move (.tmp 5), none, 0, none⟩,
 ⟨(some 4), .move (.tmp 22), none, 0, none⟩] []) (.ret)))), [.tmp 4], true⟩
def s13 : Sig := ⟨(.cons (.v (.list .entry)) (.cons (.v (.int .i64)) .nil)), [], ((.v (.int .i64)), []), []⟩
def l13_0 (al0 : (List Entry)) (kind1 : Int) (nx3 : ((Int × (Int × Unit)) × Unit) → Option Int) (zn4 : Int) (i5 : Int) : Option Int :=
 cond (decide (i5 < (List.length al0 : Int)))
 (cond (decide (0 ≤ i5))
 (Option.bind (al0[Int.toNat i5]?) fun y6 =>
 cond (decide (y6.kind = kind1))
 (nx3 ((IntKind.wrap .i64 (zn4 + 1), IntKind.wrap .i64 (i5 + 1), ()), ()))
 (nx3 ((zn4, IntKind.wrap .i64 (i5 + 1), ()), ())))
 (none))
 (some zn4)
def F13 (L : Lp)  (al0 : (List Entry)) (kind1 : Int) : Option Int :=
 L (fun (s2 : ((Int × (Int × Unit)) × Unit)) nx3 => l13_0 al0 kind1 nx3 s2.1.1 s2.1.2.1) ((0, 0, ()), ())
theorem e13 (L : Lp)  (x : s13.args.den) (h : denH s13.heap) : nrun [] L n13 s13 x h = F13 L  x.1 x.2.1 := by kernel_rfl
def f13 : (List Entry) → Int → Option Int := F13 (@LN LOOPS) 
@[reducible] def t13 : Ent := ⟨13, s13, fun x h => f13 x.1 x.2.1⟩
theorem k13 : chkNF Tryd.prog Tryd.f13 n13 = true := by kernel_rfl
theorem ok13 : NOk Tryd.prog t13 := NOk.body (T := []) mixed nall_nil (oneEach_of (by kernel_rfl)) Tryd.func13 k13 (by kernel_rfl) (fun x h => e13 _  x h)
/- drayage/drayageref49.asked -/
def n14 : NFunc := ⟨55, .seq (.region 0 [
 ⟨(some 4), .move (.const (.int .i64 (0))), none, 0, none⟩] []) (.seq (.region 0 [
 ⟨(some 5), .move (.const (.int .i64 (0))), none, 0, none⟩] []) (.seq (.seq (.region 0 [
 ⟨(some 6), .move (.const (.int .i64 (0))), none, 0, none⟩] []) (.block 0 (.loop [0, 1, 5, 6] ⟨[(5, (.v (.int .i64))), (6, (.v (.int .i64)))], [0, 1], []⟩ (.seq (.seq (.region 0 [
 ⟨(some 7), .move (.tmp 6), none, 0, none⟩,
 ⟨(some 8), .move (.tmp 0), none, 0, none⟩,
 ⟨(some 9), .len (.tmp 8), none, 0, none⟩,
 ⟨(some 10), .bin .lss (.tmp 7) (.tmp 9), none, 0, none⟩] []) (.cond (.tmp 10) (.skip) (.exit 0))) (.seq (.meet [0, 1, 5, 6] [] ⟨[(5, (.v (.int .i64)))], [0, 1, 6], []⟩ (.block 1 (.seq (.seq (.region 0 [
 ⟨(some 13), .move (.tmp 0), none, 0, none⟩,
 ⟨(some 14), .move (.tmp 6), none, 0, none⟩,
 ⟨(some 15), .indexSl 26 (.tmp 13) (.tmp 14), none, 0, none⟩,
 ⟨(some 16), .fieldAddr 0 (.tmp 15), none, 0, none⟩,
 ⟨(some 17), .load false 1 (.tmp 16), none, 0, none⟩,
 ⟨(some 18), .bin .neq (.tmp 17) (.const (.int .i64 (1))), none, 0, none⟩,
 ⟨(some 19), .move (.tmp 18), none, 0, none⟩,
 ⟨(some 20), .move (.tmp 0), (some (19, true)), 0, none⟩,
 ⟨(some 21), .move (.tmp 6), (some (19, true)), 0, none⟩,
 ⟨(some 22), .indexSl 26 (.tmp 20) (.tmp 21), (some (19, true)), 0, none⟩,
 ⟨(some 23), .fieldAddr 0 (.tmp 22), (some (19, true)), 0, none⟩,
 ⟨(some 24), .load false 1 (.tmp 23), (some (19, true)), 0, none⟩,
 ⟨(some 25), .bin .neq (.tmp 24) (.const (.int .i64 (2))), (some (19, true)), 0, none⟩,
 ⟨(some 26), .pick (.tmp 19) (.tmp 25) (.const (.bool false)), none, 0, none⟩] []) (.cond (.tmp 26) (.exit 1) (.skip))) (.seq (.region 0 [
 ⟨(some 27), .move (.tmp 1), none, 0, none⟩,
 ⟨(some 28), .bin .gtr (.tmp 27) (.const (.int .i64 (0))), none, 0, none⟩,
 ⟨(some 29), .move (.tmp 28), none, 0, none⟩,
 ⟨(some 30), .move (.tmp 0), (some (29, true)), 0, none⟩,
 ⟨(some 31), .move (.tmp 6), (some (29, true)), 0, none⟩,
 ⟨(some 32), .indexSl 26 (.tmp 30) (.tmp 31), (some (29, true)), 0, none⟩,
 ⟨(some 33), .fieldAddr 2 (.tmp 32), (some (29, true)), 0, none⟩,
 ⟨(some 34), .fieldAddr 0 (.tmp 33), (some (29, true)), 0, none⟩,
 ⟨(some 35), .load false 1 (.tmp 34), (some (29, true)), 0, none⟩,
 ⟨(some 36), .move (.tmp 1), (some (29, true)), 0, none⟩,
 ⟨(some 37), .bin .eql (.tmp 35) (.tmp 36), (some (29, true)), 0, none⟩,
 ⟨(some 38), .pick (.tmp 29) (.tmp 37) (.const (.bool false)), none, 0, none⟩,
 ⟨(some 39), .move (.tmp 38), none, 0, none⟩,
 ⟨(some 40), .move (.tmp 1), (some (39, false)), 0, none⟩,
 ⟨(some 41), .bin .eql (.tmp 40) (.const (.int .i64 (0))), (some (39, false)), 0, none⟩,
 ⟨(some 42), .move (.tmp 41), (some (39, false)), 0, none⟩,
 ⟨(some 43), .move (.tmp 0), (some (42, true)), 0, none⟩,
 ⟨(some 44), .move (.tmp 6), (some (42, true)), 0, none⟩,
 ⟨(some 45), .indexSl 26 (.tmp 43) (.tmp 44), (some (42, true)), 0, none⟩,
 ⟨(some 46), .fieldAddr 19 (.tmp 45), (some (42, true)), 0, none⟩,
 ⟨(some 47), .fieldAddr 1 (.tmp 46), (some (42, true)), 0, none⟩,
 ⟨(some 48), .load false 1 (.tmp 47), (some (42, true)), 0, none⟩,
 ⟨(some 49), .bin .neq (.tmp 48) (.const (.int .i64 (0))), (some (42, true)), 0, none⟩,
 ⟨(some 50), .pick (.tmp 42) (.tmp 49) (.const (.bool false)), (some (39, false)), 0, none⟩,
 ⟨(some 51), .pick (.tmp 39) (.const (.bool true)) (.tmp 50), none, 0, none⟩] []) (.cond (.tmp 51) (.region 0 [
 ⟨(some 52), .move (.tmp 5), none, 0, none⟩,
 ⟨(some 53), .bin .add (.tmp 52) (.const (.int .i64 (1))), none, 0, none⟩,
 ⟨(some 5), .move (.tmp 53), none, 0, none⟩] []) (.skip)))))) (.region 0 [
 ⟨(some 11), .move (.tmp 6), none, 0, none⟩,
 ⟨(some 12), .bin .add (.tmp 11) (.const (.int .i64 (1))), none, 0, none⟩,
 ⟨(some 6), .move (.tmp 12), none, 0, none⟩] [])))))) (.seq (.region 0 [
 ⟨(some 54), .move (.tmp 5), none, 0, none⟩,
 ⟨(some 4), .move (.tmp 54), none, 0, none⟩] []) (.ret)))), [.tmp 4], true⟩
def s14 : Sig := ⟨(.cons (.v (.list .entry)) (.cons (.v (.int .i64)) .nil)), [], ((.v (.int .i64)), []), []⟩
def l14_0 (al0 : (List Entry)) (kind1 : Int) (nx3 : ((Int × (Int × Unit)) × Unit) → Option Int) (zn4 : Int) (i5 : Int) : Option Int :=
 cond (decide (i5 < (List.length al0 : Int)))
 (Option.bind (α := ((Int × Unit) × Unit))
 (cond (decide (0 ≤ i5))
 (Option.bind (al0[Int.toNat i5]?) fun y6 =>
 cond (!decide (y6.kind = 1))
 (cond (decide (0 ≤ i5))
 (Option.bind (al0[Int.toNat i5]?) fun y7 =>
 cond (!decide (y7.kind = 2))
 (some ((zn4, ()), ()))
 (cond (decide (0 < kind1))
 (cond (decide (0 ≤ i5))
 (Option.bind (al0[Int.toNat i5]?) fun y8 =>
 cond (decide (y8.request.kind = kind1))
 (some ((IntKind.wrap .i64 (zn4 + 1), ()), ()))
 (cond (decide (kind1 = 0))
 (cond (decide (0 ≤ i5))
 (Option.bind (al0[Int.toNat i5]?) fun y9 =>
 cond (!decide (y9.reply.err = 0))
 (some ((IntKind.wrap .i64 (zn4 + 1), ()), ()))
 (some ((zn4, ()), ())))
 (none))
 (some ((zn4, ()), ()))))
 (none))
 (cond (decide (kind1 = 0))
 (cond (decide (0 ≤ i5))
 (Option.bind (al0[Int.toNat i5]?) fun y10 =>
 cond (!decide (y10.reply.err = 0))
 (some ((IntKind.wrap .i64 (zn4 + 1), ()), ()))
 (some ((zn4, ()), ())))
 (none))
 (some ((zn4, ()), ())))))
 (none))
 (cond (decide (0 < kind1))
 (cond (decide (0 ≤ i5))
 (Option.bind (al0[Int.toNat i5]?) fun y11 =>
 cond (decide (y11.request.kind = kind1))
 (some ((IntKind.wrap .i64 (zn4 + 1), ()), ()))
 (cond (decide (kind1 = 0))
 (cond (decide (0 ≤ i5))
 (Option.bind (al0[Int.toNat i5]?) fun y12 =>
 cond (!decide (y12.reply.err = 0))
 (some ((IntKind.wrap .i64 (zn4 + 1), ()), ()))
 (some ((zn4, ()), ())))
 (none))
 (some ((zn4, ()), ()))))
 (none))
 (cond (decide (kind1 = 0))
 (cond (decide (0 ≤ i5))
 (Option.bind (al0[Int.toNat i5]?) fun y13 =>
 cond (!decide (y13.reply.err = 0))
 (some ((IntKind.wrap .i64 (zn4 + 1), ()), ()))
 (some ((zn4, ()), ())))
 (none))
 (some ((zn4, ()), ())))))
 (none)) fun x14 =>
 nx3 ((x14.1.1, IntKind.wrap .i64 (i5 + 1), ()), ()))
 (some zn4)
def F14 (L : Lp)  (al0 : (List Entry)) (kind1 : Int) : Option Int :=
 L (fun (s2 : ((Int × (Int × Unit)) × Unit)) nx3 => l14_0 al0 kind1 nx3 s2.1.1 s2.1.2.1) ((0, 0, ()), ())
theorem e14 (L : Lp)  (x : s14.args.den) (h : denH s14.heap) : nrun [] L n14 s14 x h = F14 L  x.1 x.2.1 := by kernel_rfl
def f14 : (List Entry) → Int → Option Int := F14 (@LN LOOPS) 
@[reducible] def t14 : Ent := ⟨14, s14, fun x h => f14 x.1 x.2.1⟩
theorem k14 : chkNF Tryd.prog Tryd.f14 n14 = true := by kernel_rfl
theorem ok14 : NOk Tryd.prog t14 := NOk.body (T := []) mixed nall_nil (oneEach_of (by kernel_rfl)) Tryd.func14 k14 (by kernel_rfl) (fun x h => e14 _  x h)
/- drayage/drayageref49.Of -/
def n7 : NFunc := ⟨29, .seq (.region 1 [
 ⟨(some 2), .alloc [.int .i64 (0), .int .i64 (0), .int .i64 (0), .int .i64 (0), .int .i64 (0), .int .i64 (0), .int .i64 (0), .int .i64 (0), .int .i64 (0), .int .i64 (0), .int .i64 (0), .int .i64 (0), .int .i64 (0), .int .i64 (0), .int .i64 (0), .int .i64 (0), .int .i64 (0), .int .i64 (0), .int .i64 (0)], none, 0, none⟩] []) (.seq (.region 25 [
 ⟨(some 5), .move (.tmp 0), none, 0, none⟩,
 ⟨(some 6), .call (.func 13) [(false, (.tmp 5)), (false, (.const (.int .i64 (1))))] false 4, none, 0, none⟩,
 ⟨(some 7), .move (.tmp 0), none, 4, none⟩,
 ⟨(some 8), .call (.func 13) [(false, (.tmp 7)), (false, (.const (.int .i64 (2))))] false 4, none, 4, none⟩,
 ⟨(some 9), .move (.tmp 0), none, 8, none⟩,
 ⟨(some 10), .call (.func 14) [(false, (.tmp 9)), (false, (.const (.int .i64 (0))))] false 4, none, 8, none⟩,
 ⟨(some 11), .move (.tmp 0), none, 12, none⟩,
 ⟨(some 12), .call (.func 13) [(false, (.tmp 11)), (false, (.const (.int .i64 (3))))] false 4, none, 12, none⟩,
 ⟨(some 13), .move (.tmp 0), none, 16, none⟩,
 ⟨(some 14), .call (.func 13) [(false, (.tmp 13)), (false, (.const (.int .i64 (4))))] false 4, none, 16, none⟩,
 ⟨(some 15), .move (.tmp 0), none, 20, none⟩,
 ⟨(some 16), .call (.func 13) [(false, (.tmp 15)), (false, (.const (.int .i64 (5))))] false 4, none, 20, none⟩,
 ⟨(some 17), .build [.int .i64 (0), .int .i64 (0), .int .i64 (0), .int .i64 (0), .int .i64 (0), .int .i64 (0), .int .i64 (0), .int .i64 (0), .int .i64 (0), .int .i64 (0), .int .i64 (0), .int .i64 (0), .int .i64 (0), .int .i64 (0), .int .i64 (0), .int .i64 (0), .int .i64 (0), .int .i64 (0), .int .i64 (0)] [(0, 1, (.tmp 6)), (1, 1, (.tmp 8)), (2, 1, (.tmp 10)), (3, 1, (.tmp 12)), (4, 1, (.tmp 14)), (5, 1, (.tmp 16))], none, 24, none⟩,
 ⟨(some 3), .alloc [.int .i64 (0), .int .i64 (0), .int .i64 (0), .int .i64 (0), .int .i64 (0), .int .i64 (0), .int .i64 (0), .int .i64 (0), .int .i64 (0), .int .i64 (0), .int .i64 (0), .int .i64 (0), .int .i64 (0), .int .i64 (0), .int .i64 (0), .int .i64 (0), .int .i64 (0), .int .i64 (0), .int .i64 (0)], none, 24, none⟩,
 ⟨none, .store 19 (.tmp 3) (.tmp 17), none, 25, none⟩] []) (.seq (.seq (.region 0 [
 ⟨(some 4), .move (.const (.int .i64 (1))), none, 0, none⟩] []) (.block 0 (.loopU [0, 2, 3, 4] 13 (.seq (.seq (.region 0 [
 ⟨(some 18), .move (.tmp 4), none, 0, none⟩,
 ⟨(some 19), .bin .leq (.tmp 18) (.const (.int .i64 (12))), none, 0, none⟩] []) (.cond (.tmp 19) (.skip) (.exit 0))) (.seq (.block 1 (.region 4 [
 ⟨(some 22), .move (.tmp 4), none, 0, none⟩,
 ⟨(some 23), .move (.tmp 0), none, 0, none⟩,
 ⟨(some 24), .move (.tmp 4), none, 0, none⟩,
 ⟨(some 25), .call (.func 14) [(false, (.tmp 23)), (false, (.tmp 24))] false 4, none, 0, none⟩,
 ⟨(some 26), .fieldAddr 6 (.tmp 3), none, 4, none⟩,
 ⟨(some 27), .indexArr 13 1 (.tmp 26) (.tmp 22), none, 4, none⟩,
 ⟨none, .store 1 (.tmp 27) (.tmp 25), none, 4, none⟩] [])) (.region 0 [
 ⟨(some 20), .move (.tmp 4), none, 0, none⟩,
 ⟨(some 21), .bin .add (.tmp 20) (.const (.int .i64 (1))), none, 0, none⟩,
 ⟨(some 4), .move (.tmp 21), none, 0, none⟩] [])))))) (.seq (.region 0 [
 ⟨(some 28), .load true 19 (.tmp 3), none, 0, none⟩,
 ⟨none, .store 19 (.tmp 2) (.tmp 28), none, 0, none⟩] []) (.ret)))), [.cell true 19 2], true⟩
def s7 : Sig := ⟨(.cons (.v (.list .entry)) .nil), [], ((.v (.pair (.int .i64) (.pair (.int .i64) (.pair (.int .i64) (.pair (.int .i64) (.pair (.int .i64) (.pair (.int .i64) (.pair (.int .i64) (.pair (.int .i64) (.pair (.int .i64) (.pair (.int .i64) (.pair (.int .i64) (.pair (.int .i64) (.pair (.int .i64) (.pair (.int .i64) (.pair (.int .i64) (.pair (.int .i64) (.pair (.int .i64) (.pair (.int .i64) (.int .i64)))))))))))))))))))), []), []⟩
def F7 (L : Lp) (g13 : (List Entry) → Int → Option Int) (g14 : (List Entry) → Int → Option Int) (al0 : (List Entry)) : Option (Int × (Int × (Int × (Int × (Int × (Int × (Int × (Int × (Int × (Int × (Int × (Int × (Int × (Int × (Int × (Int × (Int × (Int × Int)))))))))))))))))) :=
 Option.bind (g13 al0 1) fun r1 =>
 Option.bind (g13 al0 2) fun r2 =>
 Option.bind (g14 al0 0) fun r3 =>
 Option.bind (g13 al0 3) fun r4 =>
 Option.bind (g13 al0 4) fun r5 =>
 Option.bind (g13 al0 5) fun r6 =>
 Option.bind (g14 al0 1) fun r7 =>
 Option.bind (g14 al0 2) fun r8 =>
 Option.bind (g14 al0 3) fun r9 =>
 Option.bind (g14 al0 4) fun r10 =>
 Option.bind (g14 al0 5) fun r11 =>
 Option.bind (g14 al0 6) fun r12 =>
 Option.bind (g14 al0 7) fun r13 =>
 Option.bind (g14 al0 8) fun r14 =>
 Option.bind (g14 al0 9) fun r15 =>
 Option.bind (g14 al0 10) fun r16 =>
 Option.bind (g14 al0 11) fun r17 =>
 Option.bind (g14 al0 12) fun r18 =>
 some (r1, (r2, (r3, (r4, (r5, (r6, (0, (r7, (r8, (r9, (r10, (r11, (r12, (r13, (r14, (r15, (r16, (r17, r18))))))))))))))))))
theorem e7 (L : Lp) (g13 : (List Entry) → Int → Option Int) (g14 : (List Entry) → Int → Option Int) (x : s7.args.den) (h : denH s7.heap) : nrun [⟨13, s13, fun x h => g13 x.1 x.2.1⟩, ⟨14, s14, fun x h => g14 x.1 x.2.1⟩] L n7 s7 x h = F7 L g13 g14 x.1 := by kernel_rfl
def f7 : (List Entry) → Option (Int × (Int × (Int × (Int × (Int × (Int × (Int × (Int × (Int × (Int × (Int × (Int × (Int × (Int × (Int × (Int × (Int × (Int × Int)))))))))))))))))) := F7 (@LN LOOPS) f13 f14
@[reducible] def t7 : Ent := ⟨7, s7, fun x h => f7 x.1⟩
theorem k7 : chkNF Tryd.prog Tryd.f7 n7 = true := by kernel_rfl
theorem ok7 : NOk Tryd.prog t7 := NOk.body (T := [t13, t14]) mixed (nall_cons ok13 (nall_cons ok14 nall_nil)) (oneEach_of (by kernel_rfl)) Tryd.func7 k7 (by kernel_rfl) (fun x h => e7 _ _ _ x h)
/- drayage/drayagelaw49.StatOf -/
def n3 : NFunc := ⟨47, .seq (.region 0 [
 ⟨(some 4), .move (.const (.bool false)), none, 0, none⟩] []) (.seq (.seq (.region 4 [
 ⟨(some 9), .call (.func 4) [] false 4, none, 0, none⟩,
 ⟨(some 10), .un .not (.tmp 9), none, 4, none⟩] []) (.cond (.tmp 10) (.seq (.region 0 [
 ⟨(some 4), .move (.const (.bool false)), none, 0, none⟩] []) (.ret)) (.skip))) (.seq (.seq (.region 0 [
 ⟨(some 11), .move (.tmp 0), none, 0, none⟩,
 ⟨(some 12), .len (.tmp 11), none, 0, none⟩,
 ⟨(some 13), .bin .gtr (.tmp 12) (.const (.int .i64 (200))), none, 0, none⟩] []) (.cond (.tmp 13) (.seq (.region 0 [
 ⟨(some 4), .move (.const (.bool true)), none, 0, none⟩] []) (.ret)) (.skip))) (.seq (.region 5 [
 ⟨(some 14), .move (.tmp 0), none, 0, none⟩,
 ⟨(some 15), .call (.func 5) [(false, (.tmp 14))] false 4, none, 0, none⟩,
 ⟨(some 5), .alloc [.int .i64 (0), .int .i64 (0), .int .i64 (0), .int .i64 (0), .int .i64 (0), .int .i64 (0), .int .i64 (0), .int .i64 (0), .int .i64 (0), .int .i64 (0), .int .i64 (0), .int .i64 (0), .int .i64 (0), .int .i64 (0), .int .i64 (0), .int .i64 (0), .int .i64 (0), .int .i64 (0), .int .i64 (0)], none, 4, none⟩,
 ⟨none, .store 19 (.tmp 5) (.tmp 15), none, 5, none⟩] []) (.seq (.region 0 [
 ⟨(some 16), .move (.tmp 1), none, 0, none⟩,
 ⟨(some 17), .conv .i64 (.tmp 16), none, 0, none⟩,
 ⟨(some 18), .move (.tmp 0), none, 0, none⟩,
 ⟨(some 19), .len (.tmp 18), none, 0, none⟩,
 ⟨(some 20), .bin .add (.tmp 19) (.const (.int .i64 (1))), none, 0, none⟩,
 ⟨(some 21), .bin .rem (.tmp 17) (.tmp 20), none, 0, none⟩,
 ⟨(some 6), .move (.tmp 21), none, 0, none⟩] []) (.seq (.region 13 [
 ⟨(some 23), .move (.tmp 0), none, 0, (some ([], none))⟩,
 ⟨(some 24), .move (.tmp 6), none, 0, (some ([], none))⟩,
 ⟨(some 25), .slice 26 (.tmp 23) none (some (.tmp 24)) none, none, 0, (some ([], none))⟩,
 ⟨(some 26), .call (.func 5) [(false, (.tmp 25))] true 4, none, 0, (some ([], none))⟩,
 ⟨(some 27), .move (.tmp 0), none, 4, (some ([], none))⟩,
 ⟨(some 28), .move (.tmp 6), none, 4, (some ([], none))⟩,
 ⟨(some 29), .slice 26 (.tmp 27) (some (.tmp 28)) none none, none, 4, (some ([], none))⟩,
 ⟨(some 30), .call (.func 5) [(false, (.tmp 29))] true 4, none, 4, (some ([0, 1, 2, 3], none))⟩,
 ⟨(some 31), .call (.func 6) [(false, (.tmp 26)), (false, (.tmp 30))] true 4, none, 8, (some ([0, 1, 2, 3, 4, 5, 6, 7], none))⟩,
 ⟨(some 22), .move (.tmp 31), none, 12, (some ([0, 1, 2, 3, 4, 5, 6, 7, 8, 9, 10, 11], none))⟩,
 ⟨(some 32), .extract (.tmp 22) 0, none, 12, (some ([0, 1, 2, 3, 4, 5, 6, 7, 8, 9, 10, 11], none))⟩,
 ⟨(some 33), .extract (.tmp 22) 1, none, 12, (some ([0, 1, 2, 3, 4, 5, 6, 7, 8, 9, 10, 11], none))⟩,
 ⟨(some 7), .alloc [.int .i64 (0), .int .i64 (0), .int .i64 (0), .int .i64 (0), .int .i64 (0), .int .i64 (0), .int .i64 (0), .int .i64 (0), .int .i64 (0), .int .i64 (0), .int .i64 (0), .int .i64 (0), .int .i64 (0), .int .i64 (0), .int .i64 (0), .int .i64 (0), .int .i64 (0), .int .i64 (0), .int .i64 (0)], none, 12, (some ([], none))⟩,
 ⟨none, .store 19 (.tmp 7) (.tmp 32), none, 13, (some ([0, 1, 2, 3, 4, 5, 6, 7, 8, 9, 10, 11, 12], none))⟩,
 ⟨(some 8), .move (.tmp 33), none, 13, (some ([0, 1, 2, 3, 4, 5, 6, 7, 8, 9, 10, 11, 12], none))⟩] []) (.seq (.region 4 [
 ⟨(some 34), .load true 19 (.tmp 5), none, 0, (some ([], none))⟩,
 ⟨(some 35), .move (.tmp 0), none, 0, (some ([], none))⟩,
 ⟨(some 36), .call (.func 7) [(false, (.tmp 35))] true 4, none, 0, (some ([], none))⟩,
 ⟨(some 37), .eqAgg (false, [.int .i64, .int .i64, .int .i64, .int .i64, .int .i64, .int .i64, .int .i64, .int .i64, .int .i64, .int .i64, .int .i64, .int .i64, .int .i64, .int .i64, .int .i64, .int .i64, .int .i64, .int .i64, .int .i64]) (.tmp 34) (.tmp 36), none, 4, (some ([0, 1, 2, 3], none))⟩,
 ⟨(some 38), .move (.tmp 37), none, 4, (some ([0, 1, 2, 3], none))⟩,
 ⟨(some 39), .move (.tmp 8), (some (38, true)), 4, (some ([0, 1, 2, 3], none))⟩,
 ⟨(some 40), .bin .eql (.tmp 39) (.const (.int .i64 (0))), (some (38, true)), 4, (some ([0, 1, 2, 3], none))⟩,
 ⟨(some 41), .pick (.tmp 38) (.tmp 40) (.const (.bool false)), none, 4, (some ([0, 1, 2, 3], none))⟩,
 ⟨(some 42), .move (.tmp 41), none, 4, (some ([0, 1, 2, 3], none))⟩,
 ⟨(some 43), .load true 19 (.tmp 7), (some (42, true)), 4, (some ([0, 1, 2, 3], none))⟩,
 ⟨(some 44), .load true 19 (.tmp 5), (some (42, true)), 4, (some ([0, 1, 2, 3], none))⟩,
 ⟨(some 45), .eqAgg (false, [.int .i64, .int .i64, .int .i64, .int .i64, .int .i64, .int .i64, .int .i64, .int .i64, .int .i64, .int .i64, .int .i64, .int .i64, .int .i64, .int .i64, .int .i64, .int .i64, .int .i64, .int .i64, .int .i64]) (.tmp 43) (.tmp 44), (some (42, true)), 4, (some ([0, 1, 2, 3], none))⟩,
 ⟨(some 46), .pick (.tmp 42) (.tmp 45) (.const (.bool false)), none, 4, (some ([0, 1, 2, 3], none))⟩,
 ⟨(some 4), .move (.tmp 46), none, 4, (some ([0, 1, 2, 3], none))⟩] []) (.ret))))))), [.tmp 4], true⟩
def s3 : Sig := ⟨(.cons (.v (.list .entry)) (.cons (.v (.int .u16)) .nil)), [], ((.v .bool), []), []⟩
def F3 (L : Lp) (g4 : Option Bool) (g5 : (List Entry) → Option (Int × (Int × (Int × (Int × (Int × (Int × (Int × (Int × (Int × (Int × (Int × (Int × (Int × (Int × (Int × (Int × (Int × (Int × Int))))))))))))))))))) (g6 : (Int × (Int × (Int × (Int × (Int × (Int × (Int × (Int × (Int × (Int × (Int × (Int × (Int × (Int × (Int × (Int × (Int × (Int × Int)))))))))))))))))) → (Int × (Int × (Int × (Int × (Int × (Int × (Int × (Int × (Int × (Int × (Int × (Int × (Int × (Int × (Int × (Int × (Int × (Int × Int)))))))))))))))))) → Option ((Int × (Int × (Int × (Int × (Int × (Int × (Int × (Int × (Int × (Int × (Int × (Int × (Int × (Int × (Int × (Int × (Int × (Int × Int)))))))))))))))))) × (Int × Unit))) (g7 : (List Entry) → Option (Int × (Int × (Int × (Int × (Int × (Int × (Int × (Int × (Int × (Int × (Int × (Int × (Int × (Int × (Int × (Int × (Int × (Int × Int))))))))))))))))))) (al0 : (List Entry)) (at1 : Int) : Option Bool :=
 Option.bind (g4) fun r2 =>
 cond (!r2)
 (some false)
 (cond (decide (200 < (List.length al0 : Int)))
 (some true)
 (Option.bind (g5 al0) fun r3 =>
 cond (decide ((IntKind.wrap .i64 ((List.length al0 : Int) + 1)) = 0))
 (none)
 (let v4 := Int.tmod (IntKind.wrap .i64 (at1)) (IntKind.wrap .i64 ((List.length al0 : Int) + 1))
 cond (decide (0 ≤ v4))
 (cond (decide ((Int.toNat v4) ≤ (List.length al0)))
 (Option.bind (g5 (List.take (Int.toNat v4) al0)) fun r5 =>
 cond (decide (0 ≤ v4))
 (cond (decide ((Int.toNat v4) ≤ (List.length al0)))
 (Option.bind (g5 (List.drop (Int.toNat v4) al0)) fun r6 =>
 Option.bind (g6 r5 r6) fun r7 =>
 Option.bind (g7 al0) fun r8 =>
 cond ((decide (r3.1 = r8.1)) && ((decide (r3.2.1 = r8.2.1)) && ((decide (r3.2.2.1 = r8.2.2.1)) && ((decide (r3.2.2.2.1 = r8.2.2.2.1)) && ((decide (r3.2.2.2.2.1 = r8.2.2.2.2.1)) && ((decide (r3.2.2.2.2.2.1 = r8.2.2.2.2.2.1)) && ((decide (r3.2.2.2.2.2.2.1 = r8.2.2.2.2.2.2.1)) && ((decide (r3.2.2.2.2.2.2.2.1 = r8.2.2.2.2.2.2.2.1)) && ((decide (r3.2.2.2.2.2.2.2.2.1 = r8.2.2.2.2.2.2.2.2.1)) && ((decide (r3.2.2.2.2.2.2.2.2.2.1 = r8.2.2.2.2.2.2.2.2.2.1)) && ((decide (r3.2.2.2.2.2.2.2.2.2.2.1 = r8.2.2.2.2.2.2.2.2.2.2.1)) && ((decide (r3.2.2.2.2.2.2.2.2.2.2.2.1 = r8.2.2.2.2.2.2.2.2.2.2.2.1)) && ((decide (r3.2.2.2.2.2.2.2.2.2.2.2.2.1 = r8.2.2.2.2.2.2.2.2.2.2.2.2.1)) && ((decide (r3.2.2.2.2.2.2.2.2.2.2.2.2.2.1 = r8.2.2.2.2.2.2.2.2.2.2.2.2.2.1)) && ((decide (r3.2.2.2.2.2.2.2.2.2.2.2.2.2.2.1 = r8.2.2.2.2.2.2.2.2.2.2.2.2.2.2.1)) && ((decide (r3.2.2.2.2.2.2.2.2.2.2.2.2.2.2.2.1 = r8.2.2.2.2.2.2.2.2.2.2.2.2.2.2.2.1)) && ((decide (r3.2.2.2.2.2.2.2.2.2.2.2.2.2.2.2.2.1 = r8.2.2.2.2.2.2.2.2.2.2.2.2.2.2.2.2.1)) && ((decide (r3.2.2.2.2.2.2.2.2.2.2.2.2.2.2.2.2.2.1 = r8.2.2.2.2.2.2.2.2.2.2.2.2.2.2.2.2.2.1)) && ((decide (r3.2.2.2.2.2.2.2.2.2.2.2.2.2.2.2.2.2.2 = r8.2.2.2.2.2.2.2.2.2.2.2.2.2.2.2.2.2.2)) && true)))))))))))))))))))
 (cond (decide (r7.2.1 = 0))
 (some ((decide (r7.1.1 = r3.1)) && ((decide (r7.1.2.1 = r3.2.1)) && ((decide (r7.1.2.2.1 = r3.2.2.1)) && ((decide (r7.1.2.2.2.1 = r3.2.2.2.1)) && ((decide (r7.1.2.2.2.2.1 = r3.2.2.2.2.1)) && ((decide (r7.1.2.2.2.2.2.1 = r3.2.2.2.2.2.1)) && ((decide (r7.1.2.2.2.2.2.2.1 = r3.2.2.2.2.2.2.1)) && ((decide (r7.1.2.2.2.2.2.2.2.1 = r3.2.2.2.2.2.2.2.1)) && ((decide (r7.1.2.2.2.2.2.2.2.2.1 = r3.2.2.2.2.2.2.2.2.1)) && ((decide (r7.1.2.2.2.2.2.2.2.2.2.1 = r3.2.2.2.2.2.2.2.2.2.1)) && ((decide (r7.1.2.2.2.2.2.2.2.2.2.2.1 = r3.2.2.2.2.2.2.2.2.2.2.1)) && ((decide (r7.1.2.2.2.2.2.2.2.2.2.2.2.1 = r3.2.2.2.2.2.2.2.2.2.2.2.1)) && ((decide (r7.1.2.2.2.2.2.2.2.2.2.2.2.2.1 = r3.2.2.2.2.2.2.2.2.2.2.2.2.1)) && ((decide (r7.1.2.2.2.2.2.2.2.2.2.2.2.2.2.1 = r3.2.2.2.2.2.2.2.2.2.2.2.2.2.1)) && ((decide (r7.1.2.2.2.2.2.2.2.2.2.2.2.2.2.2.1 = r3.2.2.2.2.2.2.2.2.2.2.2.2.2.2.1)) && ((decide (r7.1.2.2.2.2.2.2.2.2.2.2.2.2.2.2.2.1 = r3.2.2.2.2.2.2.2.2.2.2.2.2.2.2.2.1)) && ((decide (r7.1.2.2.2.2.2.2.2.2.2.2.2.2.2.2.2.2.1 = r3.2.2.2.2.2.2.2.2.2.2.2.2.2.2.2.2.1)) && ((decide (r7.1.2.2.2.2.2.2.2.2.2.2.2.2.2.2.2.2.2.1 = r3.2.2.2.2.2.2.2.2.2.2.2.2.2.2.2.2.2.1)) && ((decide (r7.1.2.2.2.2.2.2.2.2.2.2.2.2.2.2.2.2.2.2 = r3.2.2.2.2.2.2.2.2.2.2.2.2.2.2.2.2.2.2)) && true))))))))))))))))))))
 (some false))
 (some false))
 (none))
 (none))
 (none))
 (none))))
theorem e3 (L : Lp) (g4 : Option Bool) (g5 : (List Entry) → Option (Int × (Int × (Int × (Int × (Int × (Int × (Int × (Int × (Int × (Int × (Int × (Int × (Int × (Int × (Int × (Int × (Int × (Int × Int))))))))))))))))))) (g6 : (Int × (Int × (Int × (Int × (Int × (Int × (Int × (Int × (Int × (Int × (Int × (Int × (Int × (Int × (Int × (Int × (Int × (Int × Int)))))))))))))))))) → (Int × (Int × (Int × (Int × (Int × (Int × (Int × (Int × (Int × (Int × (Int × (Int × (Int × (Int × (Int × (Int × (Int × (Int × Int)))))))))))))))))) → Option ((Int × (Int × (Int × (Int × (Int × (Int × (Int × (Int × (Int × (Int × (Int × (Int × (Int × (Int × (Int × (Int × (Int × (Int × Int)))))))))))))))))) × (Int × Unit))) (g7 : (List Entry) → Option (Int × (Int × (Int × (Int × (Int × (Int × (Int × (Int × (Int × (Int × (Int × (Int × (Int × (Int × (Int × (Int × (Int × (Int × Int))))))))))))))))))) (x : s3.args.den) (h : denH s3.heap) : nrun [⟨4, s4, fun x h => g4 ⟩, ⟨5, s5, fun x h => g5 x.1⟩, ⟨6, s6, fun x h => g6 x.1 x.2.1⟩, ⟨7, s7, fun x h => g7 x.1⟩] L n3 s3 x h = F3 L g4 g5 g6 g7 x.1 x.2.1 := by kernel_rfl
def f3 : (List Entry) → Int → Option Bool := F3 (@LN LOOPS) f4 f5 f6 f7
@[reducible] def t3 : Ent := ⟨3, s3, fun x h => f3 x.1 x.2.1⟩
theorem k3 : chkNF Tryd.prog Tryd.f3 n3 = true := by kernel_rfl
theorem ok3 : NOk Tryd.prog t3 := NOk.body (T := [t4, t5, t6, t7]) mixed (nall_cons ok4 (nall_cons ok5 (nall_cons ok6 (nall_cons ok7 nall_nil)))) (oneEach_of (by kernel_rfl)) Tryd.func3 k3 (by kernel_rfl) (fun x h => e3 _ _ _ _ _ x h)
end NM
end Go.Proofs.YtfelhbeiegppgaaDoor
