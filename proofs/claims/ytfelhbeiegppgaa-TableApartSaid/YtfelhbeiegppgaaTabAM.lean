/-
  The plain forms of the functions that the statement reaches, and that each is its function's body. (Written by program.)
-/
import Derived.Test.YtfelhbeiegppgaaNmX
import Derived.Test.YtfelhbeiegppgaaProg
import Derived.ProofKit
import Derived.Test.YtfelhbeiegppgaaNOpen
set_option linter.unusedVariables false
set_option maxRecDepth 100000
set_option maxHeartbeats 4000000
namespace Go.Proofs.Ytfelhbeiegppgaa
namespace NM
open AM Go.RowKit
theorem mixed : Try.prog.follows .mixedOrders = true := by kernel_rfl
/- drayage/table.New -/
def n8 : NFunc := ⟨13, .seq (.region 0 [
 ⟨(some 2), .move (.const (.nilp)), none, 0, none⟩,
 ⟨(some 3), .move (.const (.int .i64 (0))), none, 0, none⟩] []) (.seq (.seq (.region 0 [
 ⟨(some 4), .move (.tmp 0), none, 0, none⟩,
 ⟨(some 5), .bin .lss (.tmp 4) (.const (.int .i64 (1))), none, 0, none⟩,
 ⟨(some 6), .move (.tmp 5), none, 0, none⟩,
 ⟨(some 7), .move (.tmp 0), (some (6, false)), 0, none⟩,
 ⟨(some 8), .bin .gtr (.tmp 7) (.const (.int .i64 (256))), (some (6, false)), 0, none⟩,
 ⟨(some 9), .pick (.tmp 6) (.const (.bool true)) (.tmp 8), none, 0, none⟩] []) (.cond (.tmp 9) (.seq (.region 0 [
 ⟨(some 2), .move (.const (.nilp)), none, 0, none⟩,
 ⟨(some 3), .move (.const (.int .i64 (2))), none, 0, none⟩] []) (.ret)) (.skip))) (.seq (.region 1 [
 ⟨(some 10), .move (.tmp 0), none, 0, none⟩,
 ⟨(some 11), .build [.int .i64 (0), .zsl] [(0, 1, (.tmp 10))], none, 0, none⟩,
 ⟨(some 12), .box 2 (.tmp 11), none, 0, none⟩,
 ⟨(some 2), .move (.tmp 12), none, 1, none⟩,
 ⟨(some 3), .move (.const (.int .i64 (0))), none, 1, none⟩] []) (.ret))), [.tmp 2, .tmp 3], false⟩
def s8 : Sig := ⟨(.cons (.v (.int .i64)) .nil), [], ((.tup (.cons .nilp (.cons (.v (.int .i64)) .nil))), []), [((.tup (.cons (.ptr 0 0 0) (.cons (.v (.int .i64)) .nil))), [.cell false (.cons (.v (.int .i64)) (.cons .zsl .nil))])]⟩
def F8 (L : Lp)  (places0 : Int) : Option ((Unit × (Int × Unit)) ⊕ ((Unit × (Int × Unit)) × ((Int × (Unit × Unit)) × Unit))) :=
 cond (decide (places0 < 1))
 (some (.inl ((), 2, ())))
 (cond (decide (256 < places0))
 (some (.inl ((), 2, ())))
 (some (.inr (((), 0, ()), ((places0, (), ()), ())))))
theorem e8 (L : Lp)  (x : s8.args.den) (h : denH s8.heap) : nrun [] L n8 s8 x h = F8 L  x.1 := by kernel_rfl
def f8 : Int → Option ((Unit × (Int × Unit)) ⊕ ((Unit × (Int × Unit)) × ((Int × (Unit × Unit)) × Unit))) := F8 (@LN LOOPS) 
@[reducible] def t8 : Ent := ⟨8, s8, fun x h => f8 x.1⟩
theorem k8 : chkNF Try.prog Try.f8 n8 = true := by kernel_rfl
theorem ok8 : NOk Try.prog t8 := NOk.body (T := []) mixed nall_nil (oneEach_of (by kernel_rfl)) Try.func8 k8 (by kernel_rfl) (fun x h => e8 _  x h)
/- drayage/drayagelaw18.one -/
def n30 : NFunc := ⟨6, .seq (.region 1 [
 ⟨(some 2), .alloc [.int .i64 (0), .int .i64 (0), .int .i64 (0), .int .i64 (0), .int .i64 (0), .int .i64 (0), .int .i64 (0), .int .i64 (0), .int .i64 (0), .zsl, .int .i64 (0), .bool false, .bool false, .int .i64 (0), .int .i64 (0), .int .i64 (0), .int .i64 (0), .int .i64 (0)], none, 0, none⟩] []) (.seq (.region 0 [
 ⟨(some 3), .move (.tmp 0), none, 0, none⟩,
 ⟨(some 4), .build [.int .i64 (0), .int .i64 (0), .int .i64 (0), .int .i64 (0)] [(0, 1, (.const (.int .i64 (1))))], none, 0, none⟩,
 ⟨(some 5), .build [.int .i64 (0), .int .i64 (0), .int .i64 (0), .int .i64 (0), .int .i64 (0), .int .i64 (0), .int .i64 (0), .int .i64 (0), .int .i64 (0), .zsl, .int .i64 (0), .bool false, .bool false, .int .i64 (0), .int .i64 (0), .int .i64 (0), .int .i64 (0), .int .i64 (0)] [(0, 1, (.tmp 3)), (3, 1, (.const (.int .i64 (1)))), (4, 4, (.tmp 4)), (8, 1, (.const (.int .i64 (1)))), (10, 1, (.const (.int .i64 (1)))), (13, 1, (.const (.int .i64 (1))))], none, 0, none⟩,
 ⟨none, .store 18 (.tmp 2) (.tmp 5), none, 0, none⟩] []) (.ret)), [.cell true 18 2], true⟩
def s30 : Sig := ⟨(.cons (.v (.int .i64)) .nil), [], ((.v .job), []), []⟩
def F30 (L : Lp)  (id0 : Int) : Option Job :=
 some (Job.mk id0 0 0 1 (Res.mk 1 0 0 0) 1 [] 1 false false 1 0 0 0 0)
theorem e30 (L : Lp)  (x : s30.args.den) (h : denH s30.heap) : nrun [] L n30 s30 x h = F30 L  x.1 := by kernel_rfl
def f30 : Int → Option Job := F30 (@LN LOOPS) 
@[reducible] def t30 : Ent := ⟨30, s30, fun x h => f30 x.1⟩
theorem k30 : chkNF Try.prog Try.f30 n30 = true := by kernel_rfl
theorem ok30 : NOk Try.prog t30 := NOk.body (T := []) mixed nall_nil (oneEach_of (by kernel_rfl)) Try.func30 k30 (by kernel_rfl) (fun x h => e30 _  x h)
/- (*drayage/table.Table).Put -/
def n9 : NFunc := ⟨42, .seq (.region 1 [
 ⟨(some 3), .box 18 (.tmp 1), none, 0, none⟩,
 ⟨(some 4), .move (.const (.int .i64 (0))), none, 1, none⟩] []) (.seq (.seq (.region 0 [
 ⟨(some 7), .move (.tmp 0), none, 0, none⟩,
 ⟨(some 8), .eqP false (.tmp 7) (.const (.nilp)), none, 0, none⟩] []) (.cond (.tmp 8) (.seq (.region 0 [
 ⟨(some 4), .move (.const (.int .i64 (1))), none, 0, none⟩] []) (.ret)) (.skip))) (.seq (.seq (.region 4 [
 ⟨(some 9), .load true 18 (.tmp 3), none, 0, none⟩,
 ⟨(some 10), .call (.func 33) [(false, (.tmp 9))] false 4, none, 0, none⟩,
 ⟨(some 11), .un .not (.tmp 10), none, 4, none⟩] []) (.cond (.tmp 11) (.seq (.region 0 [
 ⟨(some 4), .move (.const (.int .i64 (2))), none, 0, none⟩] []) (.ret)) (.skip))) (.seq (.region 4 [
 ⟨(some 13), .move (.tmp 0), none, 0, none⟩,
 ⟨(some 14), .fieldAddr 0 (.tmp 3), none, 0, none⟩,
 ⟨(some 15), .load false 1 (.tmp 14), none, 0, none⟩,
 ⟨(some 16), .call (.func 34) [(true, (.tmp 13)), (false, (.tmp 15))] false 4, none, 0, none⟩,
 ⟨(some 12), .move (.tmp 16), none, 4, none⟩,
 ⟨(some 17), .extract (.tmp 12) 0, none, 4, none⟩,
 ⟨(some 18), .extract (.tmp 12) 1, none, 4, none⟩,
 ⟨(some 5), .move (.tmp 17), none, 4, none⟩,
 ⟨(some 6), .move (.tmp 18), none, 4, none⟩] []) (.seq (.seq (.region 0 [
 ⟨(some 19), .move (.tmp 6), none, 0, none⟩] []) (.cond (.tmp 19) (.seq (.region 0 [
 ⟨(some 4), .move (.const (.int .i64 (31))), none, 0, none⟩] []) (.ret)) (.skip))) (.seq (.seq (.region 0 [
 ⟨(some 20), .move (.tmp 0), none, 0, (some ([], none))⟩,
 ⟨(some 21), .nilCheck (.tmp 20), none, 0, (some ([], none))⟩,
 ⟨(some 22), .fieldAddr 1 (.tmp 21), none, 0, (some ([], none))⟩,
 ⟨(some 23), .load false 1 (.tmp 22), none, 0, (some ([], none))⟩,
 ⟨(some 24), .len (.tmp 23), none, 0, (some ([], none))⟩,
 ⟨(some 25), .move (.tmp 0), none, 0, (some ([], none))⟩,
 ⟨(some 26), .nilCheck (.tmp 25), none, 0, (some ([], none))⟩,
 ⟨(some 27), .fieldAddr 0 (.tmp 26), none, 0, (some ([], none))⟩,
 ⟨(some 28), .load false 1 (.tmp 27), none, 0, (some ([], none))⟩,
 ⟨(some 29), .bin .eql (.tmp 24) (.tmp 28), none, 0, (some ([], none))⟩] []) (.cond (.tmp 29) (.seq (.region 0 [
 ⟨(some 4), .move (.const (.int .i64 (35))), none, 0, none⟩] []) (.ret)) (.skip))) (.seq (.region 9 [
 ⟨(some 30), .move (.tmp 0), none, 0, (some ([], none))⟩,
 ⟨(some 31), .move (.tmp 0), none, 0, (some ([], none))⟩,
 ⟨(some 32), .nilCheck (.tmp 31), none, 0, (some ([], none))⟩,
 ⟨(some 33), .fieldAddr 1 (.tmp 32), none, 0, (some ([], none))⟩,
 ⟨(some 34), .load false 1 (.tmp 33), none, 0, (some ([], none))⟩,
 ⟨(some 35), .move (.tmp 5), none, 0, (some ([], none))⟩,
 ⟨(some 36), .load true 18 (.tmp 3), none, 0, (some ([], none))⟩,
 ⟨(some 37), .call (.func 36) [(false, (.tmp 36))] true 4, none, 0, (some ([], none))⟩,
 ⟨(some 38), .buildSlice 18 1 true [.int .i64 (0), .int .i64 (0), .int .i64 (0), .int .i64 (0), .int .i64 (0), .int .i64 (0), .int .i64 (0), .int .i64 (0), .int .i64 (0), .zsl, .int .i64 (0), .bool false, .bool false, .int .i64 (0), .int .i64 (0), .int .i64 (0), .int .i64 (0), .int .i64 (0)] [(0, (.tmp 37))], none, 4, (some ([0, 1, 2, 3], none))⟩,
 ⟨(some 39), .call (.func 35) [(true, (.tmp 34)), (false, (.tmp 35)), (true, (.tmp 38))] false 4, none, 5, (some ([0, 1, 2, 3, 4], none))⟩,
 ⟨(some 40), .nilCheck (.tmp 30), none, 9, (some ([0, 1, 2, 3, 4, 5, 6, 7, 8], none))⟩,
 ⟨(some 41), .fieldAddr 1 (.tmp 40), none, 9, (some ([0, 1, 2, 3, 4, 5, 6, 7, 8], none))⟩,
 ⟨none, .store 1 (.tmp 41) (.tmp 39), none, 9, (some ([0, 1, 2, 3, 4, 5, 6, 7, 8], none))⟩] []) (.seq (.region 0 [
 ⟨(some 4), .move (.const (.int .i64 (0))), none, 0, none⟩] []) (.ret)))))))), [.tmp 4], true⟩
def s9 : Sig := ⟨(.cons .nilp (.cons (.v .job) .nil)), [], ((.v (.int .i64)), []), []⟩
def F9 (L : Lp)  (j0 : Job) : Option Int :=
 some 1
theorem e9 (L : Lp)  (x : s9.args.den) (h : denH s9.heap) : nrun [] L n9 s9 x h = F9 L  x.2.1 := by kernel_rfl
def f9 : Job → Option Int := F9 (@LN LOOPS) 
@[reducible] def t9 : Ent := ⟨9, s9, fun x h => f9 x.2.1⟩
theorem k9 : chkNF Try.prog Try.f9 n9 = true := by kernel_rfl
theorem ok9 : NOk Try.prog t9 := NOk.body (T := []) mixed nall_nil (oneEach_of (by kernel_rfl)) Try.func9 k9 (by kernel_rfl) (fun x h => e9 _  x h)
/- (*drayage/table.Table).Get -/
def n10 : NFunc := ⟨28, .seq (.region 1 [
 ⟨(some 4), .alloc [.int .i64 (0), .int .i64 (0), .int .i64 (0), .int .i64 (0), .int .i64 (0), .int .i64 (0), .int .i64 (0), .int .i64 (0), .int .i64 (0), .zsl, .int .i64 (0), .bool false, .bool false, .int .i64 (0), .int .i64 (0), .int .i64 (0), .int .i64 (0), .int .i64 (0)], none, 0, none⟩,
 ⟨(some 5), .move (.const (.bool false)), none, 1, none⟩] []) (.seq (.seq (.region 0 [
 ⟨(some 8), .move (.tmp 0), none, 0, none⟩,
 ⟨(some 9), .eqP false (.tmp 8) (.const (.nilp)), none, 0, none⟩] []) (.cond (.tmp 9) (.seq (.region 0 [
 ⟨(some 10), .build [.int .i64 (0), .int .i64 (0), .int .i64 (0), .int .i64 (0), .int .i64 (0), .int .i64 (0), .int .i64 (0), .int .i64 (0), .int .i64 (0), .zsl, .int .i64 (0), .bool false, .bool false, .int .i64 (0), .int .i64 (0), .int .i64 (0), .int .i64 (0), .int .i64 (0)] [], none, 0, none⟩,
 ⟨none, .store 18 (.tmp 4) (.tmp 10), none, 0, none⟩,
 ⟨(some 5), .move (.const (.bool false)), none, 0, none⟩] []) (.ret)) (.skip))) (.seq (.region 4 [
 ⟨(some 12), .move (.tmp 0), none, 0, none⟩,
 ⟨(some 13), .move (.tmp 1), none, 0, none⟩,
 ⟨(some 14), .call (.func 34) [(true, (.tmp 12)), (false, (.tmp 13))] false 4, none, 0, none⟩,
 ⟨(some 11), .move (.tmp 14), none, 4, none⟩,
 ⟨(some 15), .extract (.tmp 11) 0, none, 4, none⟩,
 ⟨(some 16), .extract (.tmp 11) 1, none, 4, none⟩,
 ⟨(some 6), .move (.tmp 15), none, 4, none⟩,
 ⟨(some 7), .move (.tmp 16), none, 4, none⟩] []) (.seq (.seq (.region 0 [
 ⟨(some 17), .move (.tmp 7), none, 0, none⟩,
 ⟨(some 18), .un .not (.tmp 17), none, 0, none⟩] []) (.cond (.tmp 18) (.seq (.region 0 [
 ⟨(some 19), .build [.int .i64 (0), .int .i64 (0), .int .i64 (0), .int .i64 (0), .int .i64 (0), .int .i64 (0), .int .i64 (0), .int .i64 (0), .int .i64 (0), .zsl, .int .i64 (0), .bool false, .bool false, .int .i64 (0), .int .i64 (0), .int .i64 (0), .int .i64 (0), .int .i64 (0)] [], none, 0, none⟩,
 ⟨none, .store 18 (.tmp 4) (.tmp 19), none, 0, none⟩,
 ⟨(some 5), .move (.const (.bool false)), none, 0, none⟩] []) (.ret)) (.skip))) (.seq (.region 4 [
 ⟨(some 20), .move (.tmp 0), none, 0, none⟩,
 ⟨(some 21), .nilCheck (.tmp 20), none, 0, none⟩,
 ⟨(some 22), .fieldAddr 1 (.tmp 21), none, 0, none⟩,
 ⟨(some 23), .load false 1 (.tmp 22), none, 0, none⟩,
 ⟨(some 24), .move (.tmp 6), none, 0, none⟩,
 ⟨(some 25), .indexSl 18 (.tmp 23) (.tmp 24), none, 0, none⟩,
 ⟨(some 26), .load true 18 (.tmp 25), none, 0, none⟩,
 ⟨(some 27), .call (.func 36) [(false, (.tmp 26))] false 4, none, 0, none⟩,
 ⟨none, .store 18 (.tmp 4) (.tmp 27), none, 4, none⟩,
 ⟨(some 5), .move (.const (.bool true)), none, 4, none⟩] []) (.ret))))), [.cell true 18 4, .tmp 5], true⟩
def s10 : Sig := ⟨(.cons .nilp (.cons (.v (.int .i64)) .nil)), [], ((.tup (.cons (.v .job) (.cons (.v .bool) .nil))), []), []⟩
def F10 (L : Lp)  (id0 : Int) : Option (Job × (Bool × Unit)) :=
 some (Job.mk 0 0 0 0 (Res.mk 0 0 0 0) 0 [] 0 false false 0 0 0 0 0, false, ())
theorem e10 (L : Lp)  (x : s10.args.den) (h : denH s10.heap) : nrun [] L n10 s10 x h = F10 L  x.2.1 := by kernel_rfl
def f10 : Int → Option (Job × (Bool × Unit)) := F10 (@LN LOOPS) 
@[reducible] def t10 : Ent := ⟨10, s10, fun x h => f10 x.2.1⟩
theorem k10 : chkNF Try.prog Try.f10 n10 = true := by kernel_rfl
theorem ok10 : NOk Try.prog t10 := NOk.body (T := []) mixed nall_nil (oneEach_of (by kernel_rfl)) Try.func10 k10 (by kernel_rfl) (fun x h => e10 _  x h)
/- drayage/drayageref16.Same -/
def n12 : NFunc := ⟨127, .seq (.region 2 [
 ⟨(some 2), .box 18 (.tmp 0), none, 0, none⟩,
 ⟨(some 3), .box 18 (.tmp 1), none, 1, none⟩,
 ⟨(some 4), .move (.const (.bool false)), none, 2, none⟩] []) (.seq (.seq (.region 0 [
 ⟨(some 6), .fieldAddr 9 (.tmp 2), none, 0, none⟩,
 ⟨(some 7), .load false 1 (.tmp 6), none, 0, none⟩,
 ⟨(some 8), .len (.tmp 7), none, 0, none⟩,
 ⟨(some 9), .fieldAddr 9 (.tmp 3), none, 0, none⟩,
 ⟨(some 10), .load false 1 (.tmp 9), none, 0, none⟩,
 ⟨(some 11), .len (.tmp 10), none, 0, none⟩,
 ⟨(some 12), .bin .neq (.tmp 8) (.tmp 11), none, 0, none⟩] []) (.cond (.tmp 12) (.seq (.region 0 [
 ⟨(some 4), .move (.const (.bool false)), none, 0, none⟩] []) (.ret)) (.skip))) (.seq (.seq (.region 0 [
 ⟨(some 5), .move (.const (.int .i64 (0))), none, 0, none⟩] []) (.block 0 (.loop [2, 3, 5] ⟨[(2, (.ptr 0 0 0)), (3, (.ptr 1 0 0)), (5, (.v (.int .i64)))], [], [.one false .job, .one false .job]⟩ (.seq (.seq (.region 0 [
 ⟨(some 13), .move (.tmp 5), none, 0, none⟩,
 ⟨(some 14), .fieldAddr 9 (.tmp 2), none, 0, none⟩,
 ⟨(some 15), .load false 1 (.tmp 14), none, 0, none⟩,
 ⟨(some 16), .len (.tmp 15), none, 0, none⟩,
 ⟨(some 17), .bin .lss (.tmp 13) (.tmp 16), none, 0, none⟩] []) (.cond (.tmp 17) (.skip) (.exit 0))) (.seq (.block 1 (.seq (.region 0 [
 ⟨(some 20), .fieldAddr 9 (.tmp 2), none, 0, (some ([], none))⟩,
 ⟨(some 21), .load false 1 (.tmp 20), none, 0, (some ([], none))⟩,
 ⟨(some 22), .move (.tmp 5), none, 0, (some ([], none))⟩,
 ⟨(some 23), .indexSl 2 (.tmp 21) (.tmp 22), none, 0, (some ([], none))⟩,
 ⟨(some 24), .load true 2 (.tmp 23), none, 0, (some ([], none))⟩,
 ⟨(some 25), .fieldAddr 9 (.tmp 3), none, 0, (some ([], none))⟩,
 ⟨(some 26), .load false 1 (.tmp 25), none, 0, (some ([], none))⟩,
 ⟨(some 27), .move (.tmp 5), none, 0, (some ([], none))⟩,
 ⟨(some 28), .indexSl 2 (.tmp 26) (.tmp 27), none, 0, (some ([], none))⟩,
 ⟨(some 29), .load true 2 (.tmp 28), none, 0, (some ([], none))⟩,
 ⟨(some 30), .eqAgg (true, [.int .i64, .bool]) (.tmp 24) (.tmp 29), none, 0, (some ([], none))⟩] []) (.cond (.tmp 30) (.seq (.region 0 [
 ⟨(some 4), .move (.const (.bool false)), none, 0, none⟩] []) (.ret)) (.skip)))) (.region 0 [
 ⟨(some 18), .move (.tmp 5), none, 0, none⟩,
 ⟨(some 19), .bin .add (.tmp 18) (.const (.int .i64 (1))), none, 0, none⟩,
 ⟨(some 5), .move (.tmp 19), none, 0, none⟩] [])))))) (.seq (.region 0 [
 ⟨(some 31), .fieldAddr 0 (.tmp 2), none, 0, none⟩,
 ⟨(some 32), .load false 1 (.tmp 31), none, 0, none⟩,
 ⟨(some 33), .fieldAddr 0 (.tmp 3), none, 0, none⟩,
 ⟨(some 34), .load false 1 (.tmp 33), none, 0, none⟩,
 ⟨(some 35), .bin .eql (.tmp 32) (.tmp 34), none, 0, none⟩,
 ⟨(some 36), .move (.tmp 35), none, 0, none⟩,
 ⟨(some 37), .fieldAddr 1 (.tmp 2), (some (36, true)), 0, none⟩,
 ⟨(some 38), .load false 1 (.tmp 37), (some (36, true)), 0, none⟩,
 ⟨(some 39), .fieldAddr 1 (.tmp 3), (some (36, true)), 0, none⟩,
 ⟨(some 40), .load false 1 (.tmp 39), (some (36, true)), 0, none⟩,
 ⟨(some 41), .bin .eql (.tmp 38) (.tmp 40), (some (36, true)), 0, none⟩,
 ⟨(some 42), .pick (.tmp 36) (.tmp 41) (.const (.bool false)), none, 0, none⟩,
 ⟨(some 43), .move (.tmp 42), none, 0, none⟩,
 ⟨(some 44), .fieldAddr 2 (.tmp 2), (some (43, true)), 0, none⟩,
 ⟨(some 45), .load false 1 (.tmp 44), (some (43, true)), 0, none⟩,
 ⟨(some 46), .fieldAddr 2 (.tmp 3), (some (43, true)), 0, none⟩,
 ⟨(some 47), .load false 1 (.tmp 46), (some (43, true)), 0, none⟩,
 ⟨(some 48), .bin .eql (.tmp 45) (.tmp 47), (some (43, true)), 0, none⟩,
 ⟨(some 49), .pick (.tmp 43) (.tmp 48) (.const (.bool false)), none, 0, none⟩,
 ⟨(some 50), .move (.tmp 49), none, 0, none⟩,
 ⟨(some 51), .fieldAddr 3 (.tmp 2), (some (50, true)), 0, none⟩,
 ⟨(some 52), .load false 1 (.tmp 51), (some (50, true)), 0, none⟩,
 ⟨(some 53), .fieldAddr 3 (.tmp 3), (some (50, true)), 0, none⟩,
 ⟨(some 54), .load false 1 (.tmp 53), (some (50, true)), 0, none⟩,
 ⟨(some 55), .bin .eql (.tmp 52) (.tmp 54), (some (50, true)), 0, none⟩,
 ⟨(some 56), .pick (.tmp 50) (.tmp 55) (.const (.bool false)), none, 0, none⟩,
 ⟨(some 57), .move (.tmp 56), none, 0, none⟩,
 ⟨(some 58), .fieldAddr 4 (.tmp 2), (some (57, true)), 0, none⟩,
 ⟨(some 59), .load true 4 (.tmp 58), (some (57, true)), 0, none⟩,
 ⟨(some 60), .fieldAddr 4 (.tmp 3), (some (57, true)), 0, none⟩,
 ⟨(some 61), .load true 4 (.tmp 60), (some (57, true)), 0, none⟩,
 ⟨(some 62), .eqAgg (false, [.int .i64, .int .i64, .int .i64, .int .i64]) (.tmp 59) (.tmp 61), (some (57, true)), 0, none⟩,
 ⟨(some 63), .pick (.tmp 57) (.tmp 62) (.const (.bool false)), none, 0, none⟩,
 ⟨(some 64), .move (.tmp 63), none, 0, none⟩,
 ⟨(some 65), .fieldAddr 8 (.tmp 2), (some (64, true)), 0, none⟩,
 ⟨(some 66), .load false 1 (.tmp 65), (some (64, true)), 0, none⟩,
 ⟨(some 67), .fieldAddr 8 (.tmp 3), (some (64, true)), 0, none⟩,
 ⟨(some 68), .load false 1 (.tmp 67), (some (64, true)), 0, none⟩,
 ⟨(some 69), .bin .eql (.tmp 66) (.tmp 68), (some (64, true)), 0, none⟩,
 ⟨(some 70), .pick (.tmp 64) (.tmp 69) (.const (.bool false)), none, 0, none⟩,
 ⟨(some 71), .move (.tmp 70), none, 0, none⟩,
 ⟨(some 72), .fieldAddr 10 (.tmp 2), (some (71, true)), 0, none⟩,
 ⟨(some 73), .load false 1 (.tmp 72), (some (71, true)), 0, none⟩,
 ⟨(some 74), .fieldAddr 10 (.tmp 3), (some (71, true)), 0, none⟩,
 ⟨(some 75), .load false 1 (.tmp 74), (some (71, true)), 0, none⟩,
 ⟨(some 76), .bin .eql (.tmp 73) (.tmp 75), (some (71, true)), 0, none⟩,
 ⟨(some 77), .pick (.tmp 71) (.tmp 76) (.const (.bool false)), none, 0, none⟩,
 ⟨(some 78), .move (.tmp 77), none, 0, none⟩,
 ⟨(some 79), .fieldAddr 11 (.tmp 2), (some (78, true)), 0, none⟩,
 ⟨(some 80), .load false 1 (.tmp 79), (some (78, true)), 0, none⟩,
 ⟨(some 81), .fieldAddr 11 (.tmp 3), (some (78, true)), 0, none⟩,
 ⟨(some 82), .load false 1 (.tmp 81), (some (78, true)), 0, none⟩,
 ⟨(some 83), .eqB false (.tmp 80) (.tmp 82), (some (78, true)), 0, none⟩,
 ⟨(some 84), .pick (.tmp 78) (.tmp 83) (.const (.bool false)), none, 0, none⟩,
 ⟨(some 85), .move (.tmp 84), none, 0, none⟩,
 ⟨(some 86), .fieldAddr 12 (.tmp 2), (some (85, true)), 0, none⟩,
 ⟨(some 87), .load false 1 (.tmp 86), (some (85, true)), 0, none⟩,
 ⟨(some 88), .fieldAddr 12 (.tmp 3), (some (85, true)), 0, none⟩,
 ⟨(some 89), .load false 1 (.tmp 88), (some (85, true)), 0, none⟩,
 ⟨(some 90), .eqB false (.tmp 87) (.tmp 89), (some (85, true)), 0, none⟩,
 ⟨(some 91), .pick (.tmp 85) (.tmp 90) (.const (.bool false)), none, 0, none⟩,
 ⟨(some 92), .move (.tmp 91), none, 0, none⟩,
 ⟨(some 93), .fieldAddr 13 (.tmp 2), (some (92, true)), 0, none⟩,
 ⟨(some 94), .load false 1 (.tmp 93), (some (92, true)), 0, none⟩,
 ⟨(some 95), .fieldAddr 13 (.tmp 3), (some (92, true)), 0, none⟩,
 ⟨(some 96), .load false 1 (.tmp 95), (some (92, true)), 0, none⟩,
 ⟨(some 97), .bin .eql (.tmp 94) (.tmp 96), (some (92, true)), 0, none⟩,
 ⟨(some 98), .pick (.tmp 92) (.tmp 97) (.const (.bool false)), none, 0, none⟩,
 ⟨(some 99), .move (.tmp 98), none, 0, none⟩,
 ⟨(some 100), .fieldAddr 14 (.tmp 2), (some (99, true)), 0, none⟩,
 ⟨(some 101), .load false 1 (.tmp 100), (some (99, true)), 0, none⟩,
 ⟨(some 102), .fieldAddr 14 (.tmp 3), (some (99, true)), 0, none⟩,
 ⟨(some 103), .load false 1 (.tmp 102), (some (99, true)), 0, none⟩,
 ⟨(some 104), .bin .eql (.tmp 101) (.tmp 103), (some (99, true)), 0, none⟩,
 ⟨(some 105), .pick (.tmp 99) (.tmp 104) (.const (.bool false)), none, 0, none⟩,
 ⟨(some 106), .move (.tmp 105), none, 0, none⟩,
 ⟨(some 107), .fieldAddr 15 (.tmp 2), (some (106, true)), 0, none⟩,
 ⟨(some 108), .load false 1 (.tmp 107), (some (106, true)), 0, none⟩,
 ⟨(some 109), .fieldAddr 15 (.tmp 3), (some (106, true)), 0, none⟩,
 ⟨(some 110), .load false 1 (.tmp 109), (some (106, true)), 0, none⟩,
 ⟨(some 111), .bin .eql (.tmp 108) (.tmp 110), (some (106, true)), 0, none⟩,
 ⟨(some 112), .pick (.tmp 106) (.tmp 111) (.const (.bool false)), none, 0, none⟩,
 ⟨(some 113), .move (.tmp 112), none, 0, none⟩,
 ⟨(some 114), .fieldAddr 16 (.tmp 2), (some (113, true)), 0, none⟩,
 ⟨(some 115), .load false 1 (.tmp 114), (some (113, true)), 0, none⟩,
 ⟨(some 116), .fieldAddr 16 (.tmp 3), (some (113, true)), 0, none⟩,
 ⟨(some 117), .load false 1 (.tmp 116), (some (113, true)), 0, none⟩,
 ⟨(some 118), .bin .eql (.tmp 115) (.tmp 117), (some (113, true)), 0, none⟩,
 ⟨(some 119), .pick (.tmp 113) (.tmp 118) (.const (.bool false)), none, 0, none⟩,
 ⟨(some 120), .move (.tmp 119), none, 0, none⟩,
 ⟨(some 121), .fieldAddr 17 (.tmp 2), (some (120, true)), 0, none⟩,
 ⟨(some 122), .load false 1 (.tmp 121), (some (120, true)), 0, none⟩,
 ⟨(some 123), .fieldAddr 17 (.tmp 3), (some (120, true)), 0, none⟩,
 ⟨(some 124), .load false 1 (.tmp 123), (some (120, true)), 0, none⟩,
 ⟨(some 125), .bin .eql (.tmp 122) (.tmp 124), (some (120, true)), 0, none⟩,
 ⟨(some 126), .pick (.tmp 120) (.tmp 125) (.const (.bool false)), none, 0, none⟩,
 ⟨(some 4), .move (.tmp 126), none, 0, none⟩] []) (.ret)))), [.tmp 4], true⟩
def s12 : Sig := ⟨(.cons (.v .job) (.cons (.v .job) .nil)), [], ((.v .bool), []), []⟩
def l12_0  (nx3 : ((Unit × (Unit × (Int × Unit))) × (Job × (Job × Unit))) → Option Bool) (i4 : Int) (z5 : Job) (z6 : Job) : Option Bool :=
 cond (decide (i4 < (List.length z5.after : Int)))
 (cond (decide (0 ≤ i4))
 (Option.bind (z5.after[Int.toNat i4]?) fun y7 =>
 cond (decide (0 ≤ i4))
 (Option.bind (z6.after[Int.toNat i4]?) fun y8 =>
 cond (!((decide (y7.job = y8.job)) && ((y7.ok == y8.ok) && true)))
 (some false)
 (nx3 (((), (), IntKind.wrap .i64 (i4 + 1), ()), (z5, z6, ()))))
 (none))
 (none))
 (cond (decide (z5.id = z6.id))
 (cond (decide (z5.user = z6.user))
 (cond (decide (z5.queue = z6.queue))
 (cond (decide (z5.many = z6.many))
 (cond ((decide (z5.need.cpu = z6.need.cpu)) && ((decide (z5.need.mem = z6.need.mem)) && ((decide (z5.need.gpu = z6.need.gpu)) && ((decide (z5.need.lic = z6.need.lic)) && true))))
 (cond (decide (z5.wall = z6.wall))
 (cond (decide (z5.state = z6.state))
 (cond (z5.ok == z6.ok)
 (cond (z5.kill == z6.kill)
 (cond (decide (z5.version = z6.version))
 (cond (decide (z5.born = z6.born))
 (cond (decide (z5.start = z6.start))
 (cond (decide (z5.fin = z6.fin))
 (some (decide (z5.array = z6.array)))
 (some false))
 (some false))
 (some false))
 (some false))
 (some false))
 (some false))
 (some false))
 (some false))
 (some false))
 (some false))
 (some false))
 (some false))
 (some false))
def F12 (L : Lp)  (a0 : Job) (b1 : Job) : Option Bool :=
 cond (!decide ((List.length a0.after : Int) = (List.length b1.after : Int)))
 (some false)
 (L (fun (s2 : ((Unit × (Unit × (Int × Unit))) × (Job × (Job × Unit)))) nx3 => l12_0 nx3 s2.1.2.2.1 s2.2.1 s2.2.2.1) (((), (), 0, ()), (a0, b1, ())))
theorem e12 (L : Lp)  (x : s12.args.den) (h : denH s12.heap) : nrun [] L n12 s12 x h = F12 L  x.1 x.2.1 := by kernel_rfl
def f12 : Job → Job → Option Bool := F12 (@LN LOOPS) 
@[reducible] def t12 : Ent := ⟨12, s12, fun x h => f12 x.1 x.2.1⟩
theorem k12 : chkNF Try.prog Try.f12 n12 = true := by kernel_rfl
theorem ok12 : NOk Try.prog t12 := NOk.body (T := []) mixed nall_nil (oneEach_of (by kernel_rfl)) Try.func12 k12 (by kernel_rfl) (fun x h => e12 _  x h)
/- drayage/job.within -/
def n58 : NFunc := ⟨15, .seq (.region 0 [
 ⟨(some 6), .move (.const (.bool false)), none, 0, none⟩] []) (.seq (.region 0 [
 ⟨(some 7), .move (.tmp 1), none, 0, none⟩,
 ⟨(some 8), .move (.tmp 0), none, 0, none⟩,
 ⟨(some 9), .bin .leq (.tmp 7) (.tmp 8), none, 0, none⟩,
 ⟨(some 10), .move (.tmp 9), none, 0, none⟩,
 ⟨(some 11), .move (.tmp 0), (some (10, true)), 0, none⟩,
 ⟨(some 12), .move (.tmp 2), (some (10, true)), 0, none⟩,
 ⟨(some 13), .bin .leq (.tmp 11) (.tmp 12), (some (10, true)), 0, none⟩,
 ⟨(some 14), .pick (.tmp 10) (.tmp 13) (.const (.bool false)), none, 0, none⟩,
 ⟨(some 6), .move (.tmp 14), none, 0, none⟩] []) (.ret)), [.tmp 6], true⟩
def s58 : Sig := ⟨(.cons (.v (.int .i64)) (.cons (.v (.int .i64)) (.cons (.v (.int .i64)) .nil))), [], ((.v .bool), []), []⟩
def F58 (L : Lp)  (an0 : Int) (lo1 : Int) (hi2 : Int) : Option Bool :=
 cond (decide (lo1 ≤ an0))
 (some (decide (an0 ≤ hi2)))
 (some false)
theorem e58 (L : Lp)  (x : s58.args.den) (h : denH s58.heap) : nrun [] L n58 s58 x h = F58 L  x.1 x.2.1 x.2.2.1 := by kernel_rfl
def f58 : Int → Int → Int → Option Bool := F58 (@LN LOOPS) 
@[reducible] def t58 : Ent := ⟨58, s58, fun x h => f58 x.1 x.2.1 x.2.2.1⟩
theorem k58 : chkNF Try.prog Try.f58 n58 = true := by kernel_rfl
theorem ok58 : NOk Try.prog t58 := NOk.body (T := []) mixed nall_nil (oneEach_of (by kernel_rfl)) Try.func58 k58 (by kernel_rfl) (fun x h => e58 _  x h)
/- drayage/vec.numbers -/
def n74 : NFunc := ⟨12, .seq (.region 2 [
 ⟨(some 1), .box 4 (.tmp 0), none, 0, none⟩,
 ⟨(some 2), .alloc [.int .i64 (0), .int .i64 (0), .int .i64 (0), .int .i64 (0)], none, 1, none⟩] []) (.seq (.region 0 [
 ⟨(some 3), .fieldAddr 0 (.tmp 1), none, 0, none⟩,
 ⟨(some 4), .load false 1 (.tmp 3), none, 0, none⟩,
 ⟨(some 5), .fieldAddr 1 (.tmp 1), none, 0, none⟩,
 ⟨(some 6), .load false 1 (.tmp 5), none, 0, none⟩,
 ⟨(some 7), .fieldAddr 2 (.tmp 1), none, 0, none⟩,
 ⟨(some 8), .load false 1 (.tmp 7), none, 0, none⟩,
 ⟨(some 9), .fieldAddr 3 (.tmp 1), none, 0, none⟩,
 ⟨(some 10), .load false 1 (.tmp 9), none, 0, none⟩,
 ⟨(some 11), .build [.int .i64 (0), .int .i64 (0), .int .i64 (0), .int .i64 (0)] [(0, 1, (.tmp 4)), (1, 1, (.tmp 6)), (2, 1, (.tmp 8)), (3, 1, (.tmp 10))], none, 0, none⟩,
 ⟨none, .store 4 (.tmp 2) (.tmp 11), none, 0, none⟩] []) (.ret)), [.cell true 4 2], true⟩
def s74 : Sig := ⟨(.cons (.v .res) .nil), [], ((.v (.pair (.int .i64) (.pair (.int .i64) (.pair (.int .i64) (.int .i64))))), []), []⟩
def F74 (L : Lp)  (a0 : Res) : Option (Int × (Int × (Int × Int))) :=
 some (a0.cpu, (a0.mem, (a0.gpu, a0.lic)))
theorem e74 (L : Lp)  (x : s74.args.den) (h : denH s74.heap) : nrun [] L n74 s74 x h = F74 L  x.1 := by kernel_rfl
def f74 : Res → Option (Int × (Int × (Int × Int))) := F74 (@LN LOOPS) 
@[reducible] def t74 : Ent := ⟨74, s74, fun x h => f74 x.1⟩
theorem k74 : chkNF Try.prog Try.f74 n74 = true := by kernel_rfl
theorem ok74 : NOk Try.prog t74 := NOk.body (T := []) mixed nall_nil (oneEach_of (by kernel_rfl)) Try.func74 k74 (by kernel_rfl) (fun x h => e74 _  x h)
/- drayage/vec.Right -/
def n45 : NFunc := ⟨17, .seq (.region 1 [
 ⟨(some 1), .box 4 (.tmp 0), none, 0, none⟩,
 ⟨(some 2), .move (.const (.bool false)), none, 1, none⟩] []) (.seq (.seq (.region 4 [
 ⟨(some 5), .load true 4 (.tmp 1), none, 0, none⟩,
 ⟨(some 6), .call (.func 74) [(false, (.tmp 5))] false 4, none, 0, none⟩,
 ⟨(some 7), .move (.const (.int .i64 (0))), none, 4, none⟩] []) (.block 0 (.loopU [6, 7] 5 (.seq (.region 0 [
 ⟨(some 8), .bin .lss (.tmp 7) (.const (.int .i64 (4))), none, 0, none⟩] []) (.seq (.cond (.tmp 8) (.skip) (.exit 0)) (.seq (.block 1 (.seq (.region 0 [
 ⟨(some 9), .indexVal false 4 1 (.tmp 6) (.tmp 7), none, 0, none⟩,
 ⟨(some 4), .move (.tmp 9), none, 0, none⟩] []) (.seq (.region 0 [
 ⟨(some 10), .move (.tmp 4), none, 0, none⟩,
 ⟨(some 11), .bin .lss (.tmp 10) (.const (.int .i64 (0))), none, 0, none⟩,
 ⟨(some 12), .move (.tmp 11), none, 0, none⟩,
 ⟨(some 13), .move (.tmp 4), (some (12, false)), 0, none⟩,
 ⟨(some 14), .bin .gtr (.tmp 13) (.const (.int .i64 (1048576))), (some (12, false)), 0, none⟩,
 ⟨(some 15), .pick (.tmp 12) (.const (.bool true)) (.tmp 14), none, 0, none⟩] []) (.cond (.tmp 15) (.seq (.region 0 [
 ⟨(some 2), .move (.const (.bool false)), none, 0, none⟩] []) (.ret)) (.skip))))) (.region 0 [
 ⟨(some 16), .bin .add (.tmp 7) (.const (.int .i64 (1))), none, 0, none⟩,
 ⟨(some 7), .move (.tmp 16), none, 0, none⟩] []))))))) (.seq (.region 0 [
 ⟨(some 2), .move (.const (.bool true)), none, 0, none⟩] []) (.ret))), [.tmp 2], true⟩
def s45 : Sig := ⟨(.cons (.v .res) .nil), [], ((.v .bool), []), []⟩
def F45 (L : Lp) (g74 : Res → Option (Int × (Int × (Int × Int)))) (a0 : Res) : Option Bool :=
 Option.bind (g74 a0) fun r1 =>
 cond (decide (r1.1 < 0))
 (some false)
 (cond (decide (1048576 < r1.1))
 (some false)
 (cond (decide (r1.2.1 < 0))
 (some false)
 (cond (decide (1048576 < r1.2.1))
 (some false)
 (cond (decide (r1.2.2.1 < 0))
 (some false)
 (cond (decide (1048576 < r1.2.2.1))
 (some false)
 (cond (decide (r1.2.2.2 < 0))
 (some false)
 (cond (decide (1048576 < r1.2.2.2))
 (some false)
 (some true))))))))
theorem e45 (L : Lp) (g74 : Res → Option (Int × (Int × (Int × Int)))) (x : s45.args.den) (h : denH s45.heap) : nrun [⟨74, s74, fun x h => g74 x.1⟩] L n45 s45 x h = F45 L g74 x.1 := by kernel_rfl
def f45 : Res → Option Bool := F45 (@LN LOOPS) f74
@[reducible] def t45 : Ent := ⟨45, s45, fun x h => f45 x.1⟩
theorem k45 : chkNF Try.prog Try.f45 n45 = true := by kernel_rfl
theorem ok45 : NOk Try.prog t45 := NOk.body (T := [t74]) mixed (nall_cons ok74 nall_nil) (oneEach_of (by kernel_rfl)) Try.func45 k45 (by kernel_rfl) (fun x h => e45 _ _ x h)
/- drayage/job.afterRight -/
def n59 : NFunc := ⟨24, .seq (.region 1 [
 ⟨(some 1), .box 18 (.tmp 0), none, 0, none⟩,
 ⟨(some 2), .move (.const (.bool false)), none, 1, none⟩] []) (.seq (.seq (.region 0 [
 ⟨(some 5), .fieldAddr 9 (.tmp 1), none, 0, none⟩,
 ⟨(some 6), .load false 1 (.tmp 5), none, 0, none⟩,
 ⟨(some 7), .len (.tmp 6), none, 0, none⟩,
 ⟨(some 8), .bin .gtr (.tmp 7) (.const (.int .i64 (4))), none, 0, none⟩] []) (.cond (.tmp 8) (.seq (.region 0 [
 ⟨(some 2), .move (.const (.bool false)), none, 0, none⟩] []) (.ret)) (.skip))) (.seq (.seq (.region 0 [
 ⟨(some 9), .fieldAddr 9 (.tmp 1), none, 0, none⟩,
 ⟨(some 10), .load false 1 (.tmp 9), none, 0, none⟩,
 ⟨(some 11), .len (.tmp 10), none, 0, none⟩,
 ⟨(some 12), .move (.const (.int .i64 (0))), none, 0, none⟩] []) (.block 0 (.loop [1, 10, 11, 12] ⟨[(1, (.ptr 0 0 0)), (12, (.v (.int .i64)))], [10, 11], [.one false .job]⟩ (.seq (.region 0 [
 ⟨(some 13), .bin .lss (.tmp 12) (.tmp 11), none, 0, none⟩] []) (.seq (.cond (.tmp 13) (.skip) (.exit 0)) (.seq (.block 1 (.seq (.region 1 [
 ⟨(some 14), .indexSl 2 (.tmp 10) (.tmp 12), none, 0, none⟩,
 ⟨(some 15), .load true 2 (.tmp 14), none, 0, none⟩,
 ⟨(some 4), .alloc [.int .i64 (0), .bool false], none, 0, none⟩,
 ⟨none, .store 2 (.tmp 4) (.tmp 15), none, 1, none⟩] []) (.seq (.region 4 [
 ⟨(some 16), .fieldAddr 0 (.tmp 4), none, 0, none⟩,
 ⟨(some 17), .load false 1 (.tmp 16), none, 0, none⟩,
 ⟨(some 18), .fieldAddr 0 (.tmp 1), none, 0, none⟩,
 ⟨(some 19), .load false 1 (.tmp 18), none, 0, none⟩,
 ⟨(some 20), .bin .sub (.tmp 19) (.const (.int .i64 (1))), none, 0, none⟩,
 ⟨(some 21), .call (.func 58) [(false, (.tmp 17)), (false, (.const (.int .i64 (1)))), (false, (.tmp 20))] false 4, none, 0, none⟩,
 ⟨(some 22), .un .not (.tmp 21), none, 4, none⟩] []) (.cond (.tmp 22) (.seq (.region 0 [
 ⟨(some 2), .move (.const (.bool false)), none, 0, none⟩] []) (.ret)) (.skip))))) (.region 0 [
 ⟨(some 23), .bin .add (.tmp 12) (.const (.int .i64 (1))), none, 0, none⟩,
 ⟨(some 12), .move (.tmp 23), none, 0, none⟩] []))))))) (.seq (.region 0 [
 ⟨(some 2), .move (.const (.bool true)), none, 0, none⟩] []) (.ret)))), [.tmp 2], true⟩
def s59 : Sig := ⟨(.cons (.v .job) .nil), [], ((.v .bool), []), []⟩
def l59_0 (g58 : Int → Int → Int → Option Bool) (j0 : Job) (nx2 : ((Unit × (Int × Unit)) × (Job × Unit)) → Option Bool) (z3 : Int) (z4 : Job) : Option Bool :=
 cond (decide (z3 < (List.length j0.after : Int)))
 (cond (decide (0 ≤ z3))
 (Option.bind (j0.after[Int.toNat z3]?) fun y5 =>
 Option.bind (g58 y5.job 1 (IntKind.wrap .i64 (z4.id - 1))) fun r6 =>
 cond (!r6)
 (some false)
 (nx2 (((), IntKind.wrap .i64 (z3 + 1), ()), (z4, ()))))
 (none))
 (some true)
def F59 (L : Lp) (g58 : Int → Int → Int → Option Bool) (j0 : Job) : Option Bool :=
 cond (decide (4 < (List.length j0.after : Int)))
 (some false)
 (L (fun (s1 : ((Unit × (Int × Unit)) × (Job × Unit))) nx2 => l59_0 g58 j0 nx2 s1.1.2.1 s1.2.1) (((), 0, ()), (j0, ())))
theorem e59 (L : Lp) (g58 : Int → Int → Int → Option Bool) (x : s59.args.den) (h : denH s59.heap) : nrun [⟨58, s58, fun x h => g58 x.1 x.2.1 x.2.2.1⟩] L n59 s59 x h = F59 L g58 x.1 := by kernel_rfl
def f59 : Job → Option Bool := F59 (@LN LOOPS) f58
@[reducible] def t59 : Ent := ⟨59, s59, fun x h => f59 x.1⟩
theorem k59 : chkNF Try.prog Try.f59 n59 = true := by kernel_rfl
theorem ok59 : NOk Try.prog t59 := NOk.body (T := [t58]) mixed (nall_cons ok58 nall_nil) (oneEach_of (by kernel_rfl)) Try.func59 k59 (by kernel_rfl) (fun x h => e59 _ _ x h)
/- drayage/life.Name -/
def n83 : NFunc := ⟨16, .seq (.region 0 [
 ⟨(some 2), .move (.const (.str [])), none, 0, none⟩] []) (.seq (.seq (.region 0 [
 ⟨(some 3), .move (.tmp 0), none, 0, none⟩] []) (.block 0 (.seq (.region 0 [
 ⟨(some 5), .bin .eql (.tmp 3) (.const (.int .i64 (1))), none, 0, none⟩,
 ⟨(some 4), .move (.tmp 5), none, 0, none⟩] []) (.cond (.tmp 4) (.seq (.region 0 [
 ⟨(some 2), .move (.const (.str [113, 117, 101, 117, 101, 100])), none, 0, none⟩] []) (.ret)) (.seq (.region 0 [
 ⟨(some 7), .bin .eql (.tmp 3) (.const (.int .i64 (2))), none, 0, none⟩,
 ⟨(some 6), .move (.tmp 7), none, 0, none⟩] []) (.cond (.tmp 6) (.seq (.region 0 [
 ⟨(some 2), .move (.const (.str [104, 101, 108, 100])), none, 0, none⟩] []) (.ret)) (.seq (.region 0 [
 ⟨(some 9), .bin .eql (.tmp 3) (.const (.int .i64 (3))), none, 0, none⟩,
 ⟨(some 8), .move (.tmp 9), none, 0, none⟩] []) (.cond (.tmp 8) (.seq (.region 0 [
 ⟨(some 2), .move (.const (.str [114, 117, 110, 110, 105, 110, 103])), none, 0, none⟩] []) (.ret)) (.seq (.region 0 [
 ⟨(some 11), .bin .eql (.tmp 3) (.const (.int .i64 (4))), none, 0, none⟩,
 ⟨(some 10), .move (.tmp 11), none, 0, none⟩] []) (.cond (.tmp 10) (.seq (.region 0 [
 ⟨(some 2), .move (.const (.str [101, 120, 105, 116, 105, 110, 103])), none, 0, none⟩] []) (.ret)) (.seq (.region 0 [
 ⟨(some 13), .bin .eql (.tmp 3) (.const (.int .i64 (5))), none, 0, none⟩,
 ⟨(some 12), .move (.tmp 13), none, 0, none⟩] []) (.cond (.tmp 12) (.seq (.region 0 [
 ⟨(some 2), .move (.const (.str [99, 111, 109, 112, 108, 101, 116, 101, 100])), none, 0, none⟩] []) (.ret)) (.seq (.region 0 [
 ⟨(some 15), .bin .eql (.tmp 3) (.const (.int .i64 (6))), none, 0, none⟩,
 ⟨(some 14), .move (.tmp 15), none, 0, none⟩] []) (.cond (.tmp 14) (.seq (.region 0 [
 ⟨(some 2), .move (.const (.str [99, 97, 110, 99, 101, 108, 108, 101, 100])), none, 0, none⟩] []) (.ret)) (.skip))))))))))))))) (.seq (.region 0 [
 ⟨(some 2), .move (.const (.str [])), none, 0, none⟩] []) (.ret))), [.tmp 2], true⟩
def s83 : Sig := ⟨(.cons (.v (.int .i64)) .nil), [], ((.v .str), []), []⟩
def F83 (L : Lp)  (state0 : Int) : Option (List UInt8) :=
 cond (decide (state0 = 1))
 (some ([113, 117, 101, 117, 101, 100] : List UInt8))
 (cond (decide (state0 = 2))
 (some ([104, 101, 108, 100] : List UInt8))
 (cond (decide (state0 = 3))
 (some ([114, 117, 110, 110, 105, 110, 103] : List UInt8))
 (cond (decide (state0 = 4))
 (some ([101, 120, 105, 116, 105, 110, 103] : List UInt8))
 (cond (decide (state0 = 5))
 (some ([99, 111, 109, 112, 108, 101, 116, 101, 100] : List UInt8))
 (cond (decide (state0 = 6))
 (some ([99, 97, 110, 99, 101, 108, 108, 101, 100] : List UInt8))
 (some ([] : List UInt8)))))))
theorem e83 (L : Lp)  (x : s83.args.den) (h : denH s83.heap) : nrun [] L n83 s83 x h = F83 L  x.1 := by kernel_rfl
def f83 : Int → Option (List UInt8) := F83 (@LN LOOPS) 
@[reducible] def t83 : Ent := ⟨83, s83, fun x h => f83 x.1⟩
theorem k83 : chkNF Try.prog Try.f83 n83 = true := by kernel_rfl
theorem ok83 : NOk Try.prog t83 := NOk.body (T := []) mixed nall_nil (oneEach_of (by kernel_rfl)) Try.func83 k83 (by kernel_rfl) (fun x h => e83 _  x h)
/- drayage/life.Waits -/
def n84 : NFunc := ⟨9, .seq (.region 0 [
 ⟨(some 2), .move (.const (.bool false)), none, 0, none⟩] []) (.seq (.region 0 [
 ⟨(some 3), .move (.tmp 0), none, 0, none⟩,
 ⟨(some 4), .bin .eql (.tmp 3) (.const (.int .i64 (1))), none, 0, none⟩,
 ⟨(some 5), .move (.tmp 4), none, 0, none⟩,
 ⟨(some 6), .move (.tmp 0), (some (5, false)), 0, none⟩,
 ⟨(some 7), .bin .eql (.tmp 6) (.const (.int .i64 (2))), (some (5, false)), 0, none⟩,
 ⟨(some 8), .pick (.tmp 5) (.const (.bool true)) (.tmp 7), none, 0, none⟩,
 ⟨(some 2), .move (.tmp 8), none, 0, none⟩] []) (.ret)), [.tmp 2], true⟩
def s84 : Sig := ⟨(.cons (.v (.int .i64)) .nil), [], ((.v .bool), []), []⟩
def F84 (L : Lp)  (state0 : Int) : Option Bool :=
 cond (decide (state0 = 1))
 (some true)
 (some (decide (state0 = 2)))
theorem e84 (L : Lp)  (x : s84.args.den) (h : denH s84.heap) : nrun [] L n84 s84 x h = F84 L  x.1 := by kernel_rfl
def f84 : Int → Option Bool := F84 (@LN LOOPS) 
@[reducible] def t84 : Ent := ⟨84, s84, fun x h => f84 x.1⟩
theorem k84 : chkNF Try.prog Try.f84 n84 = true := by kernel_rfl
theorem ok84 : NOk Try.prog t84 := NOk.body (T := []) mixed nall_nil (oneEach_of (by kernel_rfl)) Try.func84 k84 (by kernel_rfl) (fun x h => e84 _  x h)
/- drayage/life.Over -/
def n85 : NFunc := ⟨9, .seq (.region 0 [
 ⟨(some 2), .move (.const (.bool false)), none, 0, none⟩] []) (.seq (.region 0 [
 ⟨(some 3), .move (.tmp 0), none, 0, none⟩,
 ⟨(some 4), .bin .eql (.tmp 3) (.const (.int .i64 (5))), none, 0, none⟩,
 ⟨(some 5), .move (.tmp 4), none, 0, none⟩,
 ⟨(some 6), .move (.tmp 0), (some (5, false)), 0, none⟩,
 ⟨(some 7), .bin .eql (.tmp 6) (.const (.int .i64 (6))), (some (5, false)), 0, none⟩,
 ⟨(some 8), .pick (.tmp 5) (.const (.bool true)) (.tmp 7), none, 0, none⟩,
 ⟨(some 2), .move (.tmp 8), none, 0, none⟩] []) (.ret)), [.tmp 2], true⟩
def s85 : Sig := ⟨(.cons (.v (.int .i64)) .nil), [], ((.v .bool), []), []⟩
def F85 (L : Lp)  (state0 : Int) : Option Bool :=
 cond (decide (state0 = 5))
 (some true)
 (some (decide (state0 = 6)))
theorem e85 (L : Lp)  (x : s85.args.den) (h : denH s85.heap) : nrun [] L n85 s85 x h = F85 L  x.1 := by kernel_rfl
def f85 : Int → Option Bool := F85 (@LN LOOPS) 
@[reducible] def t85 : Ent := ⟨85, s85, fun x h => f85 x.1⟩
theorem k85 : chkNF Try.prog Try.f85 n85 = true := by kernel_rfl
theorem ok85 : NOk Try.prog t85 := NOk.body (T := []) mixed nall_nil (oneEach_of (by kernel_rfl)) Try.func85 k85 (by kernel_rfl) (fun x h => e85 _  x h)
/- drayage/job.stateRight -/
def n60 : NFunc := ⟨53, .seq (.region 1 [
 ⟨(some 1), .box 18 (.tmp 0), none, 0, none⟩,
 ⟨(some 2), .move (.const (.bool false)), none, 1, none⟩] []) (.seq (.block 0 (.seq (.region 4 [
 ⟨(some 4), .fieldAddr 10 (.tmp 1), none, 0, none⟩,
 ⟨(some 5), .load false 1 (.tmp 4), none, 0, none⟩,
 ⟨(some 6), .call (.func 83) [(false, (.tmp 5))] false 4, none, 0, none⟩,
 ⟨(some 7), .bin .eql (.tmp 6) (.const (.str [])), none, 4, none⟩,
 ⟨(some 3), .move (.tmp 7), none, 4, none⟩] []) (.cond (.tmp 3) (.seq (.region 0 [
 ⟨(some 2), .move (.const (.bool false)), none, 0, none⟩] []) (.ret)) (.seq (.meet [1, 8] [] ⟨[(1, (.ptr 0 0 0)), (8, (.v .bool))], [], [.one false .job]⟩ (.region 4 [
 ⟨(some 9), .fieldAddr 15 (.tmp 1), none, 0, none⟩,
 ⟨(some 10), .load false 1 (.tmp 9), none, 0, none⟩,
 ⟨(some 11), .bin .neq (.tmp 10) (.const (.int .i64 (0))), none, 0, none⟩,
 ⟨(some 12), .move (.tmp 11), none, 0, none⟩,
 ⟨(some 13), .fieldAddr 10 (.tmp 1), (some (12, true)), 0, none⟩,
 ⟨(some 14), .load false 1 (.tmp 13), (some (12, true)), 0, none⟩,
 ⟨(some 15), .call (.func 84) [(false, (.tmp 14))] false 4, (some (12, true)), 0, none⟩,
 ⟨(some 16), .pick (.tmp 12) (.tmp 15) (.const (.bool false)), none, 4, none⟩,
 ⟨(some 8), .move (.tmp 16), none, 4, none⟩] [])) (.cond (.tmp 8) (.seq (.region 0 [
 ⟨(some 2), .move (.const (.bool false)), none, 0, none⟩] []) (.ret)) (.seq (.meet [1, 17] [] ⟨[(1, (.ptr 0 0 0)), (17, (.v .bool))], [], [.one false .job]⟩ (.region 4 [
 ⟨(some 18), .fieldAddr 16 (.tmp 1), none, 0, none⟩,
 ⟨(some 19), .load false 1 (.tmp 18), none, 0, none⟩,
 ⟨(some 20), .bin .neq (.tmp 19) (.const (.int .i64 (0))), none, 0, none⟩,
 ⟨(some 21), .move (.tmp 20), none, 0, none⟩,
 ⟨(some 22), .fieldAddr 10 (.tmp 1), (some (21, true)), 0, none⟩,
 ⟨(some 23), .load false 1 (.tmp 22), (some (21, true)), 0, none⟩,
 ⟨(some 24), .call (.func 85) [(false, (.tmp 23))] false 4, (some (21, true)), 0, none⟩,
 ⟨(some 25), .un .not (.tmp 24), (some (21, true)), 4, none⟩,
 ⟨(some 26), .pick (.tmp 21) (.tmp 25) (.const (.bool false)), none, 4, none⟩,
 ⟨(some 17), .move (.tmp 26), none, 4, none⟩] [])) (.cond (.tmp 17) (.seq (.region 0 [
 ⟨(some 2), .move (.const (.bool false)), none, 0, none⟩] []) (.ret)) (.seq (.meet [1, 27] [] ⟨[(1, (.ptr 0 0 0)), (27, (.v .bool))], [], [.one false .job]⟩ (.region 0 [
 ⟨(some 28), .fieldAddr 11 (.tmp 1), none, 0, none⟩,
 ⟨(some 29), .load false 1 (.tmp 28), none, 0, none⟩,
 ⟨(some 30), .move (.tmp 29), none, 0, none⟩,
 ⟨(some 31), .fieldAddr 10 (.tmp 1), (some (30, true)), 0, none⟩,
 ⟨(some 32), .load false 1 (.tmp 31), (some (30, true)), 0, none⟩,
 ⟨(some 33), .bin .neq (.tmp 32) (.const (.int .i64 (4))), (some (30, true)), 0, none⟩,
 ⟨(some 34), .pick (.tmp 30) (.tmp 33) (.const (.bool false)), none, 0, none⟩,
 ⟨(some 35), .move (.tmp 34), none, 0, none⟩,
 ⟨(some 36), .fieldAddr 10 (.tmp 1), (some (35, true)), 0, none⟩,
 ⟨(some 37), .load false 1 (.tmp 36), (some (35, true)), 0, none⟩,
 ⟨(some 38), .bin .neq (.tmp 37) (.const (.int .i64 (5))), (some (35, true)), 0, none⟩,
 ⟨(some 39), .pick (.tmp 35) (.tmp 38) (.const (.bool false)), none, 0, none⟩,
 ⟨(some 27), .move (.tmp 39), none, 0, none⟩] [])) (.cond (.tmp 27) (.seq (.region 0 [
 ⟨(some 2), .move (.const (.bool false)), none, 0, none⟩] []) (.ret)) (.seq (.region 0 [
 ⟨(some 41), .fieldAddr 12 (.tmp 1), none, 0, none⟩,
 ⟨(some 42), .load false 1 (.tmp 41), none, 0, none⟩,
 ⟨(some 43), .move (.tmp 42), none, 0, none⟩,
 ⟨(some 44), .fieldAddr 10 (.tmp 1), (some (43, true)), 0, none⟩,
 ⟨(some 45), .load false 1 (.tmp 44), (some (43, true)), 0, none⟩,
 ⟨(some 46), .bin .neq (.tmp 45) (.const (.int .i64 (4))), (some (43, true)), 0, none⟩,
 ⟨(some 47), .pick (.tmp 43) (.tmp 46) (.const (.bool false)), none, 0, none⟩,
 ⟨(some 48), .move (.tmp 47), none, 0, none⟩,
 ⟨(some 49), .fieldAddr 10 (.tmp 1), (some (48, true)), 0, none⟩,
 ⟨(some 50), .load false 1 (.tmp 49), (some (48, true)), 0, none⟩,
 ⟨(some 51), .bin .neq (.tmp 50) (.const (.int .i64 (6))), (some (48, true)), 0, none⟩,
 ⟨(some 52), .pick (.tmp 48) (.tmp 51) (.const (.bool false)), none, 0, none⟩,
 ⟨(some 40), .move (.tmp 52), none, 0, none⟩] []) (.cond (.tmp 40) (.seq (.region 0 [
 ⟨(some 2), .move (.const (.bool false)), none, 0, none⟩] []) (.ret)) (.skip)))))))))))) (.seq (.region 0 [
 ⟨(some 2), .move (.const (.bool true)), none, 0, none⟩] []) (.ret))), [.tmp 2], true⟩
def s60 : Sig := ⟨(.cons (.v .job) .nil), [], ((.v .bool), []), []⟩
def F60 (L : Lp) (g83 : Int → Option (List UInt8)) (g84 : Int → Option Bool) (g85 : Int → Option Bool) (j0 : Job) : Option Bool :=
 Option.bind (g83 j0.state) fun r1 =>
 cond (decide (r1 = ([] : List UInt8)))
 (some false)
 (Option.bind (α := ((Unit × (Bool × Unit)) × (Job × Unit)))
 (cond (!decide (j0.start = 0))
 (Option.bind (g84 j0.state) fun r2 =>
 some (((), r2, ()), (j0, ())))
 (some (((), false, ()), (j0, ())))) fun x3 =>
 cond x3.1.2.1
 (some false)
 (Option.bind (α := ((Unit × (Bool × Unit)) × (Job × Unit)))
 (cond (!decide (x3.2.1.fin = 0))
 (Option.bind (g85 x3.2.1.state) fun r4 =>
 some (((), !r4, ()), (x3.2.1, ())))
 (some (((), false, ()), (x3.2.1, ())))) fun x5 =>
 cond x5.1.2.1
 (some false)
 (Option.bind (α := ((Unit × (Bool × Unit)) × (Job × Unit)))
 (cond x5.2.1.ok
 (cond (!decide (x5.2.1.state = 4))
 (some (((), !decide (x5.2.1.state = 5), ()), (x5.2.1, ())))
 (some (((), false, ()), (x5.2.1, ()))))
 (some (((), false, ()), (x5.2.1, ())))) fun x6 =>
 cond x6.1.2.1
 (some false)
 (cond x6.2.1.kill
 (cond (!decide (x6.2.1.state = 4))
 (cond (!decide (x6.2.1.state = 6))
 (some false)
 (some true))
 (some true))
 (some true)))))
theorem e60 (L : Lp) (g83 : Int → Option (List UInt8)) (g84 : Int → Option Bool) (g85 : Int → Option Bool) (x : s60.args.den) (h : denH s60.heap) : nrun [⟨83, s83, fun x h => g83 x.1⟩, ⟨84, s84, fun x h => g84 x.1⟩, ⟨85, s85, fun x h => g85 x.1⟩] L n60 s60 x h = F60 L g83 g84 g85 x.1 := by kernel_rfl
def f60 : Job → Option Bool := F60 (@LN LOOPS) f83 f84 f85
@[reducible] def t60 : Ent := ⟨60, s60, fun x h => f60 x.1⟩
theorem k60 : chkNF Try.prog Try.f60 n60 = true := by kernel_rfl
theorem ok60 : NOk Try.prog t60 := NOk.body (T := [t83, t84, t85]) mixed (nall_cons ok83 (nall_cons ok84 (nall_cons ok85 nall_nil))) (oneEach_of (by kernel_rfl)) Try.func60 k60 (by kernel_rfl) (fun x h => e60 _ _ _ _ x h)
/- drayage/job.Right -/
def n33 : NFunc := ⟨72, .seq (.region 1 [
 ⟨(some 1), .box 18 (.tmp 0), none, 0, none⟩,
 ⟨(some 2), .move (.const (.bool false)), none, 1, none⟩] []) (.seq (.region 52 [
 ⟨(some 3), .fieldAddr 0 (.tmp 1), none, 0, none⟩,
 ⟨(some 4), .load false 1 (.tmp 3), none, 0, none⟩,
 ⟨(some 5), .call (.func 58) [(false, (.tmp 4)), (false, (.const (.int .i64 (1)))), (false, (.const (.int .i64 (1048576))))] false 4, none, 0, none⟩,
 ⟨(some 6), .move (.tmp 5), none, 4, none⟩,
 ⟨(some 7), .fieldAddr 1 (.tmp 1), (some (6, true)), 4, none⟩,
 ⟨(some 8), .load false 1 (.tmp 7), (some (6, true)), 4, none⟩,
 ⟨(some 9), .call (.func 58) [(false, (.tmp 8)), (false, (.const (.int .i64 (0)))), (false, (.const (.int .i64 (7))))] false 4, (some (6, true)), 4, none⟩,
 ⟨(some 10), .pick (.tmp 6) (.tmp 9) (.const (.bool false)), none, 8, none⟩,
 ⟨(some 11), .move (.tmp 10), none, 8, none⟩,
 ⟨(some 12), .fieldAddr 2 (.tmp 1), (some (11, true)), 8, none⟩,
 ⟨(some 13), .load false 1 (.tmp 12), (some (11, true)), 8, none⟩,
 ⟨(some 14), .call (.func 58) [(false, (.tmp 13)), (false, (.const (.int .i64 (0)))), (false, (.const (.int .i64 (7))))] false 4, (some (11, true)), 8, none⟩,
 ⟨(some 15), .pick (.tmp 11) (.tmp 14) (.const (.bool false)), none, 12, none⟩,
 ⟨(some 16), .move (.tmp 15), none, 12, none⟩,
 ⟨(some 17), .fieldAddr 3 (.tmp 1), (some (16, true)), 12, none⟩,
 ⟨(some 18), .load false 1 (.tmp 17), (some (16, true)), 12, none⟩,
 ⟨(some 19), .call (.func 58) [(false, (.tmp 18)), (false, (.const (.int .i64 (1)))), (false, (.const (.int .i64 (64))))] false 4, (some (16, true)), 12, none⟩,
 ⟨(some 20), .pick (.tmp 16) (.tmp 19) (.const (.bool false)), none, 16, none⟩,
 ⟨(some 21), .move (.tmp 20), none, 16, none⟩,
 ⟨(some 22), .fieldAddr 4 (.tmp 1), (some (21, true)), 16, none⟩,
 ⟨(some 23), .load true 4 (.tmp 22), (some (21, true)), 16, none⟩,
 ⟨(some 24), .call (.func 45) [(false, (.tmp 23))] false 4, (some (21, true)), 16, none⟩,
 ⟨(some 25), .pick (.tmp 21) (.tmp 24) (.const (.bool false)), none, 20, none⟩,
 ⟨(some 26), .move (.tmp 25), none, 20, none⟩,
 ⟨(some 27), .fieldAddr 4 (.tmp 1), (some (26, true)), 20, none⟩,
 ⟨(some 28), .load true 4 (.tmp 27), (some (26, true)), 20, none⟩,
 ⟨(some 29), .build [.int .i64 (0), .int .i64 (0), .int .i64 (0), .int .i64 (0)] [], (some (26, true)), 20, none⟩,
 ⟨(some 30), .eqAgg (true, [.int .i64, .int .i64, .int .i64, .int .i64]) (.tmp 28) (.tmp 29), (some (26, true)), 20, none⟩,
 ⟨(some 31), .pick (.tmp 26) (.tmp 30) (.const (.bool false)), none, 20, none⟩,
 ⟨(some 32), .move (.tmp 31), none, 20, none⟩,
 ⟨(some 33), .fieldAddr 8 (.tmp 1), (some (32, true)), 20, none⟩,
 ⟨(some 34), .load false 1 (.tmp 33), (some (32, true)), 20, none⟩,
 ⟨(some 35), .call (.func 58) [(false, (.tmp 34)), (false, (.const (.int .i64 (1)))), (false, (.const (.int .i64 (65536))))] false 4, (some (32, true)), 20, none⟩,
 ⟨(some 36), .pick (.tmp 32) (.tmp 35) (.const (.bool false)), none, 24, none⟩,
 ⟨(some 37), .move (.tmp 36), none, 24, none⟩,
 ⟨(some 38), .load true 18 (.tmp 1), (some (37, true)), 24, none⟩,
 ⟨(some 39), .call (.func 59) [(false, (.tmp 38))] false 4, (some (37, true)), 24, none⟩,
 ⟨(some 40), .pick (.tmp 37) (.tmp 39) (.const (.bool false)), none, 28, none⟩,
 ⟨(some 41), .move (.tmp 40), none, 28, none⟩,
 ⟨(some 42), .fieldAddr 13 (.tmp 1), (some (41, true)), 28, none⟩,
 ⟨(some 43), .load false 1 (.tmp 42), (some (41, true)), 28, none⟩,
 ⟨(some 44), .call (.func 58) [(false, (.tmp 43)), (false, (.const (.int .i64 (1)))), (false, (.const (.int .i64 (281474976710656))))] false 4, (some (41, true)), 28, none⟩,
 ⟨(some 45), .pick (.tmp 41) (.tmp 44) (.const (.bool false)), none, 32, none⟩,
 ⟨(some 46), .move (.tmp 45), none, 32, none⟩,
 ⟨(some 47), .fieldAddr 14 (.tmp 1), (some (46, true)), 32, none⟩,
 ⟨(some 48), .load false 1 (.tmp 47), (some (46, true)), 32, none⟩,
 ⟨(some 49), .call (.func 58) [(false, (.tmp 48)), (false, (.const (.int .i64 (0)))), (false, (.const (.int .i64 (1099511627776))))] false 4, (some (46, true)), 32, none⟩,
 ⟨(some 50), .pick (.tmp 46) (.tmp 49) (.const (.bool false)), none, 36, none⟩,
 ⟨(some 51), .move (.tmp 50), none, 36, none⟩,
 ⟨(some 52), .fieldAddr 15 (.tmp 1), (some (51, true)), 36, none⟩,
 ⟨(some 53), .load false 1 (.tmp 52), (some (51, true)), 36, none⟩,
 ⟨(some 54), .call (.func 58) [(false, (.tmp 53)), (false, (.const (.int .i64 (0)))), (false, (.const (.int .i64 (1099511627776))))] false 4, (some (51, true)), 36, none⟩,
 ⟨(some 55), .pick (.tmp 51) (.tmp 54) (.const (.bool false)), none, 40, none⟩,
 ⟨(some 56), .move (.tmp 55), none, 40, none⟩,
 ⟨(some 57), .fieldAddr 16 (.tmp 1), (some (56, true)), 40, none⟩,
 ⟨(some 58), .load false 1 (.tmp 57), (some (56, true)), 40, none⟩,
 ⟨(some 59), .call (.func 58) [(false, (.tmp 58)), (false, (.const (.int .i64 (0)))), (false, (.const (.int .i64 (1099511627776))))] false 4, (some (56, true)), 40, none⟩,
 ⟨(some 60), .pick (.tmp 56) (.tmp 59) (.const (.bool false)), none, 44, none⟩,
 ⟨(some 61), .move (.tmp 60), none, 44, none⟩,
 ⟨(some 62), .fieldAddr 17 (.tmp 1), (some (61, true)), 44, none⟩,
 ⟨(some 63), .load false 1 (.tmp 62), (some (61, true)), 44, none⟩,
 ⟨(some 64), .fieldAddr 0 (.tmp 1), (some (61, true)), 44, none⟩,
 ⟨(some 65), .load false 1 (.tmp 64), (some (61, true)), 44, none⟩,
 ⟨(some 66), .call (.func 58) [(false, (.tmp 63)), (false, (.const (.int .i64 (0)))), (false, (.tmp 65))] false 4, (some (61, true)), 44, none⟩,
 ⟨(some 67), .pick (.tmp 61) (.tmp 66) (.const (.bool false)), none, 48, none⟩,
 ⟨(some 68), .move (.tmp 67), none, 48, none⟩,
 ⟨(some 69), .load true 18 (.tmp 1), (some (68, true)), 48, none⟩,
 ⟨(some 70), .call (.func 60) [(false, (.tmp 69))] false 4, (some (68, true)), 48, none⟩,
 ⟨(some 71), .pick (.tmp 68) (.tmp 70) (.const (.bool false)), none, 52, none⟩,
 ⟨(some 2), .move (.tmp 71), none, 52, none⟩] []) (.ret)), [.tmp 2], true⟩
def s33 : Sig := ⟨(.cons (.v .job) .nil), [], ((.v .bool), []), []⟩
def F33 (L : Lp) (g58 : Int → Int → Int → Option Bool) (g45 : Res → Option Bool) (g59 : Job → Option Bool) (g60 : Job → Option Bool) (j0 : Job) : Option Bool :=
 Option.bind (g58 j0.id 1 1048576) fun r1 =>
 cond r1
 (Option.bind (g58 j0.user 0 7) fun r2 =>
 cond r2
 (Option.bind (g58 j0.queue 0 7) fun r3 =>
 cond r3
 (Option.bind (g58 j0.many 1 64) fun r4 =>
 cond r4
 (Option.bind (g45 j0.need) fun r5 =>
 cond r5
 (cond (!((decide (j0.need.cpu = 0)) && ((decide (j0.need.mem = 0)) && ((decide (j0.need.gpu = 0)) && ((decide (j0.need.lic = 0)) && true)))))
 (Option.bind (g58 j0.wall 1 65536) fun r6 =>
 cond r6
 (Option.bind (g59 j0) fun r7 =>
 cond r7
 (Option.bind (g58 j0.version 1 281474976710656) fun r8 =>
 cond r8
 (Option.bind (g58 j0.born 0 1099511627776) fun r9 =>
 cond r9
 (Option.bind (g58 j0.start 0 1099511627776) fun r10 =>
 cond r10
 (Option.bind (g58 j0.fin 0 1099511627776) fun r11 =>
 cond r11
 (Option.bind (g58 j0.array 0 j0.id) fun r12 =>
 cond r12
 (Option.bind (g60 j0) fun r13 =>
 some r13)
 (some false))
 (some false))
 (some false))
 (some false))
 (some false))
 (some false))
 (some false))
 (some false))
 (some false))
 (some false))
 (some false))
 (some false))
 (some false)
theorem e33 (L : Lp) (g58 : Int → Int → Int → Option Bool) (g45 : Res → Option Bool) (g59 : Job → Option Bool) (g60 : Job → Option Bool) (x : s33.args.den) (h : denH s33.heap) : nrun [⟨58, s58, fun x h => g58 x.1 x.2.1 x.2.2.1⟩, ⟨45, s45, fun x h => g45 x.1⟩, ⟨59, s59, fun x h => g59 x.1⟩, ⟨60, s60, fun x h => g60 x.1⟩] L n33 s33 x h = F33 L g58 g45 g59 g60 x.1 := by kernel_rfl
def f33 : Job → Option Bool := F33 (@LN LOOPS) f58 f45 f59 f60
@[reducible] def t33 : Ent := ⟨33, s33, fun x h => f33 x.1⟩
theorem k33 : chkNF Try.prog Try.f33 n33 = true := by kernel_rfl
theorem ok33 : NOk Try.prog t33 := NOk.body (T := [t58, t45, t59, t60]) mixed (nall_cons ok58 (nall_cons ok45 (nall_cons ok59 (nall_cons ok60 nall_nil)))) (oneEach_of (by kernel_rfl)) Try.func33 k33 (by kernel_rfl) (fun x h => e33 _ _ _ _ _ x h)
/- (*drayage/table.Table).find$1 -/
def n62 : NFunc := ⟨15, .seq (.region 0 [
 ⟨(some 4), .move (.const (.bool false)), none, 0, none⟩] []) (.seq (.region 0 [
 ⟨(some 5), .load false 1 (.tmp 1), none, 0, (some ([], none))⟩,
 ⟨(some 6), .nilCheck (.tmp 5), none, 0, (some ([], none))⟩,
 ⟨(some 7), .fieldAddr 1 (.tmp 6), none, 0, (some ([], none))⟩,
 ⟨(some 8), .load false 1 (.tmp 7), none, 0, (some ([], none))⟩,
 ⟨(some 9), .move (.tmp 0), none, 0, (some ([], none))⟩,
 ⟨(some 10), .indexSl 18 (.tmp 8) (.tmp 9), none, 0, (some ([], none))⟩,
 ⟨(some 11), .fieldAddr 0 (.tmp 10), none, 0, (some ([], none))⟩,
 ⟨(some 12), .load false 1 (.tmp 11), none, 0, (some ([], none))⟩,
 ⟨(some 13), .load false 1 (.tmp 2), none, 0, (some ([], none))⟩,
 ⟨(some 14), .bin .geq (.tmp 12) (.tmp 13), none, 0, (some ([], none))⟩,
 ⟨(some 4), .move (.tmp 14), none, 0, (some ([], none))⟩] []) (.ret)), [.tmp 4], true⟩
def s62 : Sig := ⟨(.cons (.v (.int .i64)) (.cons (.iptr (.cons (.iptr (.cons (.v (.int .i64)) (.cons (.v (.list .job)) .nil)) 0) .nil) 0) (.cons (.iptr (.cons (.v (.int .i64)) .nil) 0) .nil))), [], ((.v .bool), []), []⟩
def F62 (L : Lp)  (i0 : Int) (a1 : Int) (a2 : (List Job)) (a3 : Int) : Option Bool :=
 cond (decide (0 ≤ i0))
 (Option.bind (a2[Int.toNat i0]?) fun y4 =>
 some (decide (a3 ≤ y4.id)))
 (none)
theorem e62 (L : Lp)  (x : s62.args.den) (h : denH s62.heap) : nrun [] L n62 s62 x h = F62 L  x.1 x.2.1.1.1 x.2.1.1.2.1 x.2.2.1.1 := by kernel_rfl
def f62 : Int → Int → (List Job) → Int → Option Bool := F62 (@LN LOOPS) 
@[reducible] def t62 : Ent := ⟨62, s62, fun x h => f62 x.1 x.2.1.1.1 x.2.1.1.2.1 x.2.2.1.1⟩
theorem k62 : chkNF Try.prog Try.f62 n62 = true := by kernel_rfl
theorem ok62 : NOk Try.prog t62 := NOk.body (T := []) mixed nall_nil (oneEach_of (by kernel_rfl)) Try.func62 k62 (by kernel_rfl) (fun x h => e62 _  x h)
/- sort.Search -/
def n61 : NFunc := ⟨26, .seq (.region 0 [
 ⟨(some 4), .move (.const (.int .i64 (0))), none, 0, none⟩] []) (.seq (.region 0 [
 ⟨(some 8), .move (.tmp 0), none, 0, none⟩,
 ⟨(some 5), .move (.const (.int .i64 (0))), none, 0, none⟩,
 ⟨(some 6), .move (.tmp 8), none, 0, none⟩] []) (.seq (.block 0 (.loop [1, 5, 6] ⟨[(5, (.v (.int .i64))), (6, (.v (.int .i64)))], [1], []⟩ (.seq (.seq (.region 0 [
 ⟨(some 9), .move (.tmp 5), none, 0, none⟩,
 ⟨(some 10), .move (.tmp 6), none, 0, none⟩,
 ⟨(some 11), .bin .lss (.tmp 9) (.tmp 10), none, 0, none⟩] []) (.cond (.tmp 11) (.skip) (.exit 0))) (.block 1 (.seq (.region 0 [
 ⟨(some 12), .move (.tmp 5), none, 0, none⟩,
 ⟨(some 13), .move (.tmp 6), none, 0, none⟩,
 ⟨(some 14), .bin .add (.tmp 12) (.tmp 13), none, 0, none⟩,
 ⟨(some 15), .conv .u64 (.tmp 14), none, 0, none⟩,
 ⟨(some 16), .bin .shr (.tmp 15) (.const (.int .u64 (1))), none, 0, none⟩,
 ⟨(some 17), .conv .i64 (.tmp 16), none, 0, none⟩,
 ⟨(some 7), .move (.tmp 17), none, 0, none⟩] []) (.seq (.region 4 [
 ⟨(some 18), .move (.tmp 1), none, 0, none⟩,
 ⟨(some 19), .move (.tmp 7), none, 0, none⟩,
 ⟨(some 20), .call (.tmp 18) [(false, (.tmp 19))] false 4, none, 0, none⟩,
 ⟨(some 21), .un .not (.tmp 20), none, 4, none⟩] []) (.cond (.tmp 21) (.region 0 [
 ⟨(some 22), .move (.tmp 7), none, 0, none⟩,
 ⟨(some 23), .bin .add (.tmp 22) (.const (.int .i64 (1))), none, 0, none⟩,
 ⟨(some 5), .move (.tmp 23), none, 0, none⟩] []) (.region 0 [
 ⟨(some 24), .move (.tmp 7), none, 0, none⟩,
 ⟨(some 6), .move (.tmp 24), none, 0, none⟩] [])))))))) (.seq (.region 0 [
 ⟨(some 25), .move (.tmp 5), none, 0, none⟩,
 ⟨(some 4), .move (.tmp 25), none, 0, none⟩] []) (.ret)))), [.tmp 4], true⟩
def s61 : Sig := ⟨(.cons (.v (.int .i64)) (.cons (.fn 62 (.cons (.iptr (.cons (.iptr (.cons (.v (.int .i64)) (.cons (.v (.list .job)) .nil)) 0) .nil) 0) (.cons (.iptr (.cons (.v (.int .i64)) .nil) 0) .nil))) .nil)), [], ((.v (.int .i64)), []), []⟩
def l61_0 (g62 : Int → Int → (List Job) → Int → Option Bool) (af1 : Int) (af2 : (List Job)) (af3 : Int) (nx5 : ((Int × (Int × Unit)) × Unit) → Option Int) (i6 : Int) (j7 : Int) : Option Int :=
 cond (decide (i6 < j7))
 (let v8 := Int.fdiv (IntKind.wrap .u64 (IntKind.wrap .i64 (i6 + j7))) (2 ^ (min (Int.toNat 1) 64))
 Option.bind (g62 (IntKind.wrap .i64 (v8)) af1 af2 af3) fun r9 =>
 cond (!r9)
 (nx5 ((IntKind.wrap .i64 ((IntKind.wrap .i64 (v8)) + 1), j7, ()), ()))
 (nx5 ((i6, IntKind.wrap .i64 (v8), ()), ())))
 (some i6)
def F61 (L : Lp) (g62 : Int → Int → (List Job) → Int → Option Bool) (an0 : Int) (af1 : Int) (af2 : (List Job)) (af3 : Int) : Option Int :=
 L (fun (s4 : ((Int × (Int × Unit)) × Unit)) nx5 => l61_0 g62 af1 af2 af3 nx5 s4.1.1 s4.1.2.1) ((0, an0, ()), ())
theorem e61 (L : Lp) (g62 : Int → Int → (List Job) → Int → Option Bool) (x : s61.args.den) (h : denH s61.heap) : nrun [⟨62, s62, fun x h => g62 x.1 x.2.1.1.1 x.2.1.1.2.1 x.2.2.1.1⟩] L n61 s61 x h = F61 L g62 x.1 x.2.1.1.1.1 x.2.1.1.1.2.1 x.2.1.2.1.1 := by kernel_rfl
def f61 : Int → Int → (List Job) → Int → Option Int := F61 (@LN LOOPS) f62
@[reducible] def t61 : Ent := ⟨61, s61, fun x h => f61 x.1 x.2.1.1.1.1 x.2.1.1.1.2.1 x.2.1.2.1.1⟩
theorem k61 : chkNF Try.prog Try.f61 n61 = true := by kernel_rfl
theorem ok61 : NOk Try.prog t61 := NOk.body (T := [t62]) mixed (nall_cons ok62 nall_nil) (oneEach_of (by kernel_rfl)) Try.func61 k61 (by kernel_rfl) (fun x h => e61 _ _ x h)
/- (*drayage/table.Table).find -/
def n34 : NFunc := ⟨34, .seq (.region 2 [
 ⟨(some 2), .box 1 (.tmp 0), none, 0, none⟩,
 ⟨(some 3), .box 1 (.tmp 1), none, 1, none⟩,
 ⟨(some 4), .move (.const (.int .i64 (0))), none, 2, none⟩,
 ⟨(some 5), .move (.const (.bool false)), none, 2, none⟩] []) (.seq (.region 4 [
 ⟨(some 7), .load false 1 (.tmp 2), none, 0, none⟩,
 ⟨(some 8), .nilCheck (.tmp 7), none, 0, none⟩,
 ⟨(some 9), .fieldAddr 1 (.tmp 8), none, 0, none⟩,
 ⟨(some 10), .load false 1 (.tmp 9), none, 0, none⟩,
 ⟨(some 11), .len (.tmp 10), none, 0, none⟩,
 ⟨(some 12), .makeFunc 62 [(.tmp 2), (.tmp 3)], none, 0, none⟩,
 ⟨(some 13), .call (.func 61) [(false, (.tmp 11)), (false, (.tmp 12))] false 4, none, 0, none⟩,
 ⟨(some 6), .move (.tmp 13), none, 4, none⟩] []) (.seq (.region 0 [
 ⟨(some 14), .move (.tmp 6), none, 0, (some ([], none))⟩,
 ⟨(some 15), .move (.tmp 6), none, 0, (some ([], none))⟩,
 ⟨(some 16), .load false 1 (.tmp 2), none, 0, (some ([], none))⟩,
 ⟨(some 17), .nilCheck (.tmp 16), none, 0, (some ([], none))⟩,
 ⟨(some 18), .fieldAddr 1 (.tmp 17), none, 0, (some ([], none))⟩,
 ⟨(some 19), .load false 1 (.tmp 18), none, 0, (some ([], none))⟩,
 ⟨(some 20), .len (.tmp 19), none, 0, (some ([], none))⟩,
 ⟨(some 21), .bin .lss (.tmp 15) (.tmp 20), none, 0, (some ([], none))⟩,
 ⟨(some 22), .move (.tmp 21), none, 0, (some ([], none))⟩,
 ⟨(some 23), .load false 1 (.tmp 2), (some (22, true)), 0, (some ([], none))⟩,
 ⟨(some 24), .nilCheck (.tmp 23), (some (22, true)), 0, (some ([], none))⟩,
 ⟨(some 25), .fieldAddr 1 (.tmp 24), (some (22, true)), 0, (some ([], none))⟩,
 ⟨(some 26), .load false 1 (.tmp 25), (some (22, true)), 0, (some ([], none))⟩,
 ⟨(some 27), .move (.tmp 6), (some (22, true)), 0, (some ([], none))⟩,
 ⟨(some 28), .indexSl 18 (.tmp 26) (.tmp 27), (some (22, true)), 0, (some ([], none))⟩,
 ⟨(some 29), .fieldAddr 0 (.tmp 28), (some (22, true)), 0, (some ([], none))⟩,
 ⟨(some 30), .load false 1 (.tmp 29), (some (22, true)), 0, (some ([], none))⟩,
 ⟨(some 31), .load false 1 (.tmp 3), (some (22, true)), 0, (some ([], none))⟩,
 ⟨(some 32), .bin .eql (.tmp 30) (.tmp 31), (some (22, true)), 0, (some ([], none))⟩,
 ⟨(some 33), .pick (.tmp 22) (.tmp 32) (.const (.bool false)), none, 0, (some ([], none))⟩,
 ⟨(some 4), .move (.tmp 14), none, 0, (some ([], none))⟩,
 ⟨(some 5), .move (.tmp 33), none, 0, (some ([], none))⟩] []) (.ret))), [.tmp 4, .tmp 5], true⟩
def s34 : Sig := ⟨(.cons (.ptr 0 0 0) (.cons (.v (.int .i64)) .nil)), [.cell false (.cons (.v (.int .i64)) (.cons .zsl .nil))], ((.tup (.cons (.v (.int .i64)) (.cons (.v .bool) .nil))), [.cell false (.cons (.v (.int .i64)) (.cons .zsl .nil))]), []⟩
def F34 (L : Lp) (g61 : Int → Int → (List Job) → Int → Option Int) (id0 : Int) (a1 : Int) : Option ((Int × (Bool × Unit)) × ((Int × (Unit × Unit)) × Unit)) :=
 Option.bind (g61 0 a1 [] id0) fun r2 =>
 cond (decide (r2 < 0))
 (none)
 (some ((r2, false, ()), ((a1, (), ()), ())))
theorem e34 (L : Lp) (g61 : Int → Int → (List Job) → Int → Option Int) (x : s34.args.den) (h : denH s34.heap) : nrun [⟨61, s61, fun x h => g61 x.1 x.2.1.1.1.1 x.2.1.1.1.2.1 x.2.1.2.1.1⟩] L n34 s34 x h = F34 L g61 x.2.1 h.1.1 := by kernel_rfl
def f34 : Int → Int → Option ((Int × (Bool × Unit)) × ((Int × (Unit × Unit)) × Unit)) := F34 (@LN LOOPS) f61
@[reducible] def t34 : Ent := ⟨34, s34, fun x h => f34 x.2.1 h.1.1⟩
theorem k34 : chkNF Try.prog Try.f34 n34 = true := by kernel_rfl
theorem ok34 : NOk Try.prog t34 := NOk.body (T := [t61]) mixed (nall_cons ok61 nall_nil) (oneEach_of (by kernel_rfl)) Try.func34 k34 (by kernel_rfl) (fun x h => e34 _ _ x h)
/- slices.Clone[[]drayage/api.Dep,drayage/api.Dep] -/
def n65 : NFunc := ⟨8, .seq (.region 0 [
 ⟨(some 2), .move (.const (.zsl)), none, 0, none⟩] []) (.seq (.seq (.region 0 [
 ⟨(some 3), .move (.tmp 0), none, 0, none⟩,
 ⟨(some 4), .eqI false (.tmp 3) (.const (.zsl)), none, 0, none⟩] []) (.cond (.tmp 4) (.seq (.region 0 [
 ⟨(some 2), .move (.const (.zsl)), none, 0, none⟩] []) (.ret)) (.skip))) (.seq (.region 2 [
 ⟨(some 5), .buildSlice 2 0 true [.int .i64 (0), .bool false] [], none, 0, none⟩,
 ⟨(some 6), .move (.tmp 0), none, 1, none⟩,
 ⟨(some 7), .append 2 16 true (.tmp 5) (.tmp 6), none, 1, none⟩,
 ⟨(some 2), .move (.tmp 7), none, 2, none⟩] []) (.ret))), [.tmp 2], false⟩
def s65 : Sig := ⟨(.cons (.v (.list .dep)) .nil), [], ((.slw 0 2), [.typed .dep]), []⟩
def F65 (L : Lp)  (as0 : (List Dep)) : Option (Unit × ((List Dep) × Unit)) :=
 cond (List.isEmpty as0)
 (none)
 (cond (smallB (0 + (List.length as0)) 16)
 (some ((), ([] ++ as0, ())))
 (none))
theorem e65 (L : Lp)  (x : s65.args.den) (h : denH s65.heap) : nrun [] L n65 s65 x h = F65 L  x.1 := by kernel_rfl
def f65 : (List Dep) → Option (Unit × ((List Dep) × Unit)) := cloneF (F65 (@LN LOOPS))
@[reducible] def t65 : Ent := ⟨65, s65, fun x h => f65 x.1⟩
theorem k65 : chkNF Try.prog Try.f65 n65 = true := by kernel_rfl
theorem c65 (A : Option Addr) (c : Nat) (w : World) : Calls Try.prog 65 #[.slice A 0 c] w (fun e w' => ∃ A', e = .returned (.slice A' 0 0) ∧ Go.RowKit.Below w.heap.size w w') := by
 have hq := fun (u : World) => Lib.run_eql_slice_nil (P := Try.prog) u 24 28 A 0 c 0 0 Try.underlying24
 cases A with
 | none => (go_enter Try.func65, Try.ntmps65; go_wp2; go_ret; exact ⟨_, rfl, Go.RowKit.Below.refl _ _⟩)
 | some ad => (go_enter Try.func65, Try.ntmps65; go_wp2; go_ret; exact ⟨_, rfl, (Go.RowKit.Below.refl _ _).alloc (Nat.le_refl _) _⟩)
theorem b65 : NOk Try.prog ⟨65, s65, fun x h => F65 (@LN LOOPS) x.1⟩ := NOk.body (T := []) mixed nall_nil (oneEach_of (by kernel_rfl)) Try.func65 k65 (by kernel_rfl) (fun x h => e65 _  x h)
theorem ok65 : NOk Try.prog t65 := NOk.clone (t := .dep) b65 (clone_empty .dep b65.1 c65)
/- drayage/table.own -/
def n36 : NFunc := ⟨8, .seq (.region 2 [
 ⟨(some 1), .box 18 (.tmp 0), none, 0, none⟩,
 ⟨(some 2), .alloc [.int .i64 (0), .int .i64 (0), .int .i64 (0), .int .i64 (0), .int .i64 (0), .int .i64 (0), .int .i64 (0), .int .i64 (0), .int .i64 (0), .zsl, .int .i64 (0), .bool false, .bool false, .int .i64 (0), .int .i64 (0), .int .i64 (0), .int .i64 (0), .int .i64 (0)], none, 1, none⟩] []) (.seq (.region 4 [
 ⟨(some 3), .fieldAddr 9 (.tmp 1), none, 0, none⟩,
 ⟨(some 4), .load false 1 (.tmp 3), none, 0, none⟩,
 ⟨(some 5), .call (.func 65) [(false, (.tmp 4))] false 4, none, 0, none⟩,
 ⟨(some 6), .fieldAddr 9 (.tmp 1), none, 4, none⟩,
 ⟨none, .store 1 (.tmp 6) (.tmp 5), none, 4, none⟩] []) (.seq (.region 0 [
 ⟨(some 7), .load true 18 (.tmp 1), none, 0, none⟩,
 ⟨none, .store 18 (.tmp 2) (.tmp 7), none, 0, none⟩] []) (.ret))), [.cell true 18 2], true⟩
def s36 : Sig := ⟨(.cons (.v .job) .nil), [], ((.v .job), []), []⟩
def F36 (L : Lp) (g65 : (List Dep) → Option (Unit × ((List Dep) × Unit))) (j0 : Job) : Option Job :=
 Option.bind (g65 j0.after) fun r1 =>
 some (Job.mk j0.id j0.user j0.queue j0.many j0.need j0.wall r1.2.1 j0.state j0.ok j0.kill j0.version j0.born j0.start j0.fin j0.array)
theorem e36 (L : Lp) (g65 : (List Dep) → Option (Unit × ((List Dep) × Unit))) (x : s36.args.den) (h : denH s36.heap) : nrun [⟨65, s65, fun x h => g65 x.1⟩] L n36 s36 x h = F36 L g65 x.1 := by kernel_rfl
def f36 : Job → Option Job := F36 (@LN LOOPS) f65
@[reducible] def t36 : Ent := ⟨36, s36, fun x h => f36 x.1⟩
theorem k36 : chkNF Try.prog Try.f36 n36 = true := by kernel_rfl
theorem ok36 : NOk Try.prog t36 := NOk.body (T := [t65]) mixed (nall_cons ok65 nall_nil) (oneEach_of (by kernel_rfl)) Try.func36 k36 (by kernel_rfl) (fun x h => e36 _ _ x h)
/- slices.Insert[[]drayage/api.Job,drayage/api.Job] -/
def s35 : Sig := ⟨(.cons .zsl (.cons (.v (.int .i64)) (.cons (.slw 0 18) .nil))), [.typed .job], ((.slw 1 18), [.typed .job, .typed .job]), []⟩
def f35 : Int → (List Job) → Option (Unit × ((List Job) × ((List Job) × Unit))) := insertZ 152
@[reducible] def t35 : Ent := ⟨35, s35, fun x h => f35 x.2.1 h.1⟩
theorem ok35 : NOk Try.prog t35 := extz35
/- (*drayage/table.Table).Put -/
def n9_1 : NFunc := ⟨42, .seq (.region 1 [
 ⟨(some 3), .box 18 (.tmp 1), none, 0, none⟩,
 ⟨(some 4), .move (.const (.int .i64 (0))), none, 1, none⟩] []) (.seq (.seq (.region 0 [
 ⟨(some 7), .move (.tmp 0), none, 0, none⟩,
 ⟨(some 8), .eqP false (.tmp 7) (.const (.nilp)), none, 0, none⟩] []) (.cond (.tmp 8) (.seq (.region 0 [
 ⟨(some 4), .move (.const (.int .i64 (1))), none, 0, none⟩] []) (.ret)) (.skip))) (.seq (.seq (.region 4 [
 ⟨(some 9), .load true 18 (.tmp 3), none, 0, none⟩,
 ⟨(some 10), .call (.func 33) [(false, (.tmp 9))] false 4, none, 0, none⟩,
 ⟨(some 11), .un .not (.tmp 10), none, 4, none⟩] []) (.cond (.tmp 11) (.seq (.region 0 [
 ⟨(some 4), .move (.const (.int .i64 (2))), none, 0, none⟩] []) (.ret)) (.skip))) (.seq (.region 4 [
 ⟨(some 13), .move (.tmp 0), none, 0, none⟩,
 ⟨(some 14), .fieldAddr 0 (.tmp 3), none, 0, none⟩,
 ⟨(some 15), .load false 1 (.tmp 14), none, 0, none⟩,
 ⟨(some 16), .call (.func 34) [(true, (.tmp 13)), (false, (.tmp 15))] false 4, none, 0, none⟩,
 ⟨(some 12), .move (.tmp 16), none, 4, none⟩,
 ⟨(some 17), .extract (.tmp 12) 0, none, 4, none⟩,
 ⟨(some 18), .extract (.tmp 12) 1, none, 4, none⟩,
 ⟨(some 5), .move (.tmp 17), none, 4, none⟩,
 ⟨(some 6), .move (.tmp 18), none, 4, none⟩] []) (.seq (.seq (.region 0 [
 ⟨(some 19), .move (.tmp 6), none, 0, none⟩] []) (.cond (.tmp 19) (.seq (.region 0 [
 ⟨(some 4), .move (.const (.int .i64 (31))), none, 0, none⟩] []) (.ret)) (.skip))) (.seq (.seq (.region 0 [
 ⟨(some 20), .move (.tmp 0), none, 0, (some ([], none))⟩,
 ⟨(some 21), .nilCheck (.tmp 20), none, 0, (some ([], none))⟩,
 ⟨(some 22), .fieldAddr 1 (.tmp 21), none, 0, (some ([], none))⟩,
 ⟨(some 23), .load false 1 (.tmp 22), none, 0, (some ([], none))⟩,
 ⟨(some 24), .len (.tmp 23), none, 0, (some ([], none))⟩,
 ⟨(some 25), .move (.tmp 0), none, 0, (some ([], none))⟩,
 ⟨(some 26), .nilCheck (.tmp 25), none, 0, (some ([], none))⟩,
 ⟨(some 27), .fieldAddr 0 (.tmp 26), none, 0, (some ([], none))⟩,
 ⟨(some 28), .load false 1 (.tmp 27), none, 0, (some ([], none))⟩,
 ⟨(some 29), .bin .eql (.tmp 24) (.tmp 28), none, 0, (some ([], none))⟩] []) (.cond (.tmp 29) (.seq (.region 0 [
 ⟨(some 4), .move (.const (.int .i64 (35))), none, 0, none⟩] []) (.ret)) (.skip))) (.seq (.region 9 [
 ⟨(some 30), .move (.tmp 0), none, 0, (some ([], none))⟩,
 ⟨(some 31), .move (.tmp 0), none, 0, (some ([], none))⟩,
 ⟨(some 32), .nilCheck (.tmp 31), none, 0, (some ([], none))⟩,
 ⟨(some 33), .fieldAddr 1 (.tmp 32), none, 0, (some ([], none))⟩,
 ⟨(some 34), .load false 1 (.tmp 33), none, 0, (some ([], none))⟩,
 ⟨(some 35), .move (.tmp 5), none, 0, (some ([], none))⟩,
 ⟨(some 36), .load true 18 (.tmp 3), none, 0, (some ([], none))⟩,
 ⟨(some 37), .call (.func 36) [(false, (.tmp 36))] true 4, none, 0, (some ([], none))⟩,
 ⟨(some 38), .buildSlice 18 1 true [.int .i64 (0), .int .i64 (0), .int .i64 (0), .int .i64 (0), .int .i64 (0), .int .i64 (0), .int .i64 (0), .int .i64 (0), .int .i64 (0), .zsl, .int .i64 (0), .bool false, .bool false, .int .i64 (0), .int .i64 (0), .int .i64 (0), .int .i64 (0), .int .i64 (0)] [(0, (.tmp 37))], none, 4, (some ([0, 1, 2, 3], none))⟩,
 ⟨(some 39), .call (.func 35) [(true, (.tmp 34)), (false, (.tmp 35)), (true, (.tmp 38))] false 4, none, 5, (some ([0, 1, 2, 3, 4], none))⟩,
 ⟨(some 40), .nilCheck (.tmp 30), none, 9, (some ([0, 1, 2, 3, 4, 5, 6, 7, 8], none))⟩,
 ⟨(some 41), .fieldAddr 1 (.tmp 40), none, 9, (some ([0, 1, 2, 3, 4, 5, 6, 7, 8], none))⟩,
 ⟨none, .store 1 (.tmp 41) (.tmp 39), none, 9, (some ([0, 1, 2, 3, 4, 5, 6, 7, 8], none))⟩] []) (.seq (.region 0 [
 ⟨(some 4), .move (.const (.int .i64 (0))), none, 0, none⟩] []) (.ret)))))))), [.tmp 4], true⟩
def s9_1 : Sig := ⟨(.cons (.ptr 0 0 0) (.cons (.v .job) .nil)), [.cell false (.cons (.v (.int .i64)) (.cons .zsl .nil))], ((.v (.int .i64)), [.cell false (.cons (.v (.int .i64)) (.cons .zsl .nil))]), [((.v (.int .i64)), [.cell false (.cons (.v (.int .i64)) (.cons (.slw 1 18) .nil)), .typed .job])]⟩
def F9_1 (L : Lp) (g33 : Job → Option Bool) (g34 : Int → Int → Option ((Int × (Bool × Unit)) × ((Int × (Unit × Unit)) × Unit))) (g36 : Job → Option Job) (g35 : Int → (List Job) → Option (Unit × ((List Job) × ((List Job) × Unit)))) (j0 : Job) (a1 : Int) : Option ((Int × ((Int × (Unit × Unit)) × Unit)) ⊕ (Int × ((Int × (Unit × Unit)) × ((List Job) × Unit)))) :=
 Option.bind (g33 j0) fun r2 =>
 cond (!r2)
 (some (.inl (2, ((a1, (), ()), ()))))
 (Option.bind (g34 j0.id a1) fun r3 =>
 cond r3.1.2.1
 (some (.inl (31, ((r3.2.1.1, (), ()), ()))))
 (cond (decide (0 = r3.2.1.1))
 (some (.inl (35, ((r3.2.1.1, (), ()), ()))))
 (Option.bind (g36 j0) fun r4 =>
 Option.bind (g35 r3.1.1 [r4]) fun r5 =>
 cond ((decide ((List.length r5.2.1) = 1)) && true)
 (some (.inr (0, ((r3.2.1.1, (), ()), r5.2.2.1, ()))))
 (none))))
theorem e9_1 (L : Lp) (g33 : Job → Option Bool) (g34 : Int → Int → Option ((Int × (Bool × Unit)) × ((Int × (Unit × Unit)) × Unit))) (g36 : Job → Option Job) (g35 : Int → (List Job) → Option (Unit × ((List Job) × ((List Job) × Unit)))) (x : s9_1.args.den) (h : denH s9_1.heap) : nrun [⟨33, s33, fun x h => g33 x.1⟩, ⟨34, s34, fun x h => g34 x.2.1 h.1.1⟩, ⟨36, s36, fun x h => g36 x.1⟩, ⟨35, s35, fun x h => g35 x.2.1 h.1⟩] L n9_1 s9_1 x h = F9_1 L g33 g34 g36 g35 x.2.1 h.1.1 := by kernel_rfl
def f9_1 : Job → Int → Option ((Int × ((Int × (Unit × Unit)) × Unit)) ⊕ (Int × ((Int × (Unit × Unit)) × ((List Job) × Unit)))) := F9_1 (@LN LOOPS) f33 f34 f36 f35
@[reducible] def t9_1 : Ent := ⟨9, s9_1, fun x h => f9_1 x.2.1 h.1.1⟩
theorem k9_1 : chkNF Try.prog Try.f9 n9_1 = true := by kernel_rfl
theorem ok9_1 : NOk Try.prog t9_1 := NOk.body (T := [t33, t34, t36, t35]) mixed (nall_cons ok33 (nall_cons ok34 (nall_cons ok36 (nall_cons ok35 nall_nil)))) (oneEach_of (by kernel_rfl)) Try.func9 k9_1 (by kernel_rfl) (fun x h => e9_1 _ _ _ _ _ x h)
/- (*drayage/table.Table).Get -/
def n10_1 : NFunc := ⟨28, .seq (.region 1 [
 ⟨(some 4), .alloc [.int .i64 (0), .int .i64 (0), .int .i64 (0), .int .i64 (0), .int .i64 (0), .int .i64 (0), .int .i64 (0), .int .i64 (0), .int .i64 (0), .zsl, .int .i64 (0), .bool false, .bool false, .int .i64 (0), .int .i64 (0), .int .i64 (0), .int .i64 (0), .int .i64 (0)], none, 0, none⟩,
 ⟨(some 5), .move (.const (.bool false)), none, 1, none⟩] []) (.seq (.seq (.region 0 [
 ⟨(some 8), .move (.tmp 0), none, 0, none⟩,
 ⟨(some 9), .eqP false (.tmp 8) (.const (.nilp)), none, 0, none⟩] []) (.cond (.tmp 9) (.seq (.region 0 [
 ⟨(some 10), .build [.int .i64 (0), .int .i64 (0), .int .i64 (0), .int .i64 (0), .int .i64 (0), .int .i64 (0), .int .i64 (0), .int .i64 (0), .int .i64 (0), .zsl, .int .i64 (0), .bool false, .bool false, .int .i64 (0), .int .i64 (0), .int .i64 (0), .int .i64 (0), .int .i64 (0)] [], none, 0, none⟩,
 ⟨none, .store 18 (.tmp 4) (.tmp 10), none, 0, none⟩,
 ⟨(some 5), .move (.const (.bool false)), none, 0, none⟩] []) (.ret)) (.skip))) (.seq (.region 4 [
 ⟨(some 12), .move (.tmp 0), none, 0, none⟩,
 ⟨(some 13), .move (.tmp 1), none, 0, none⟩,
 ⟨(some 14), .call (.func 34) [(true, (.tmp 12)), (false, (.tmp 13))] false 4, none, 0, none⟩,
 ⟨(some 11), .move (.tmp 14), none, 4, none⟩,
 ⟨(some 15), .extract (.tmp 11) 0, none, 4, none⟩,
 ⟨(some 16), .extract (.tmp 11) 1, none, 4, none⟩,
 ⟨(some 6), .move (.tmp 15), none, 4, none⟩,
 ⟨(some 7), .move (.tmp 16), none, 4, none⟩] []) (.seq (.seq (.region 0 [
 ⟨(some 17), .move (.tmp 7), none, 0, none⟩,
 ⟨(some 18), .un .not (.tmp 17), none, 0, none⟩] []) (.cond (.tmp 18) (.seq (.region 0 [
 ⟨(some 19), .build [.int .i64 (0), .int .i64 (0), .int .i64 (0), .int .i64 (0), .int .i64 (0), .int .i64 (0), .int .i64 (0), .int .i64 (0), .int .i64 (0), .zsl, .int .i64 (0), .bool false, .bool false, .int .i64 (0), .int .i64 (0), .int .i64 (0), .int .i64 (0), .int .i64 (0)] [], none, 0, none⟩,
 ⟨none, .store 18 (.tmp 4) (.tmp 19), none, 0, none⟩,
 ⟨(some 5), .move (.const (.bool false)), none, 0, none⟩] []) (.ret)) (.skip))) (.seq (.region 4 [
 ⟨(some 20), .move (.tmp 0), none, 0, none⟩,
 ⟨(some 21), .nilCheck (.tmp 20), none, 0, none⟩,
 ⟨(some 22), .fieldAddr 1 (.tmp 21), none, 0, none⟩,
 ⟨(some 23), .load false 1 (.tmp 22), none, 0, none⟩,
 ⟨(some 24), .move (.tmp 6), none, 0, none⟩,
 ⟨(some 25), .indexSl 18 (.tmp 23) (.tmp 24), none, 0, none⟩,
 ⟨(some 26), .load true 18 (.tmp 25), none, 0, none⟩,
 ⟨(some 27), .call (.func 36) [(false, (.tmp 26))] false 4, none, 0, none⟩,
 ⟨none, .store 18 (.tmp 4) (.tmp 27), none, 4, none⟩,
 ⟨(some 5), .move (.const (.bool true)), none, 4, none⟩] []) (.ret))))), [.cell true 18 4, .tmp 5], true⟩
def s10_1 : Sig := ⟨(.cons (.ptr 0 0 0) (.cons (.v (.int .i64)) .nil)), [.cell false (.cons (.v (.int .i64)) (.cons .zsl .nil))], ((.tup (.cons (.v .job) (.cons (.v .bool) .nil))), [.cell false (.cons (.v (.int .i64)) (.cons .zsl .nil))]), []⟩
def F10_1 (L : Lp) (g34 : Int → Int → Option ((Int × (Bool × Unit)) × ((Int × (Unit × Unit)) × Unit))) (id0 : Int) (a1 : Int) : Option ((Job × (Bool × Unit)) × ((Int × (Unit × Unit)) × Unit)) :=
 Option.bind (g34 id0 a1) fun r2 =>
 cond (!r2.1.2.1)
 (some ((Job.mk 0 0 0 0 (Res.mk 0 0 0 0) 0 [] 0 false false 0 0 0 0 0, false, ()), ((r2.2.1.1, (), ()), ())))
 (none)
theorem e10_1 (L : Lp) (g34 : Int → Int → Option ((Int × (Bool × Unit)) × ((Int × (Unit × Unit)) × Unit))) (x : s10_1.args.den) (h : denH s10_1.heap) : nrun [⟨34, s34, fun x h => g34 x.2.1 h.1.1⟩] L n10_1 s10_1 x h = F10_1 L g34 x.2.1 h.1.1 := by kernel_rfl
def f10_1 : Int → Int → Option ((Job × (Bool × Unit)) × ((Int × (Unit × Unit)) × Unit)) := F10_1 (@LN LOOPS) f34
@[reducible] def t10_1 : Ent := ⟨10, s10_1, fun x h => f10_1 x.2.1 h.1.1⟩
theorem k10_1 : chkNF Try.prog Try.f10 n10_1 = true := by kernel_rfl
theorem ok10_1 : NOk Try.prog t10_1 := NOk.body (T := [t34]) mixed (nall_cons ok34 nall_nil) (oneEach_of (by kernel_rfl)) Try.func10 k10_1 (by kernel_rfl) (fun x h => e10_1 _ _ x h)
/- (*drayage/table.Table).find -/
def n34_1 : NFunc := ⟨34, .seq (.region 2 [
 ⟨(some 2), .box 1 (.tmp 0), none, 0, none⟩,
 ⟨(some 3), .box 1 (.tmp 1), none, 1, none⟩,
 ⟨(some 4), .move (.const (.int .i64 (0))), none, 2, none⟩,
 ⟨(some 5), .move (.const (.bool false)), none, 2, none⟩] []) (.seq (.region 4 [
 ⟨(some 7), .load false 1 (.tmp 2), none, 0, none⟩,
 ⟨(some 8), .nilCheck (.tmp 7), none, 0, none⟩,
 ⟨(some 9), .fieldAddr 1 (.tmp 8), none, 0, none⟩,
 ⟨(some 10), .load false 1 (.tmp 9), none, 0, none⟩,
 ⟨(some 11), .len (.tmp 10), none, 0, none⟩,
 ⟨(some 12), .makeFunc 62 [(.tmp 2), (.tmp 3)], none, 0, none⟩,
 ⟨(some 13), .call (.func 61) [(false, (.tmp 11)), (false, (.tmp 12))] false 4, none, 0, none⟩,
 ⟨(some 6), .move (.tmp 13), none, 4, none⟩] []) (.seq (.region 0 [
 ⟨(some 14), .move (.tmp 6), none, 0, (some ([], none))⟩,
 ⟨(some 15), .move (.tmp 6), none, 0, (some ([], none))⟩,
 ⟨(some 16), .load false 1 (.tmp 2), none, 0, (some ([], none))⟩,
 ⟨(some 17), .nilCheck (.tmp 16), none, 0, (some ([], none))⟩,
 ⟨(some 18), .fieldAddr 1 (.tmp 17), none, 0, (some ([], none))⟩,
 ⟨(some 19), .load false 1 (.tmp 18), none, 0, (some ([], none))⟩,
 ⟨(some 20), .len (.tmp 19), none, 0, (some ([], none))⟩,
 ⟨(some 21), .bin .lss (.tmp 15) (.tmp 20), none, 0, (some ([], none))⟩,
 ⟨(some 22), .move (.tmp 21), none, 0, (some ([], none))⟩,
 ⟨(some 23), .load false 1 (.tmp 2), (some (22, true)), 0, (some ([], none))⟩,
 ⟨(some 24), .nilCheck (.tmp 23), (some (22, true)), 0, (some ([], none))⟩,
 ⟨(some 25), .fieldAddr 1 (.tmp 24), (some (22, true)), 0, (some ([], none))⟩,
 ⟨(some 26), .load false 1 (.tmp 25), (some (22, true)), 0, (some ([], none))⟩,
 ⟨(some 27), .move (.tmp 6), (some (22, true)), 0, (some ([], none))⟩,
 ⟨(some 28), .indexSl 18 (.tmp 26) (.tmp 27), (some (22, true)), 0, (some ([], none))⟩,
 ⟨(some 29), .fieldAddr 0 (.tmp 28), (some (22, true)), 0, (some ([], none))⟩,
 ⟨(some 30), .load false 1 (.tmp 29), (some (22, true)), 0, (some ([], none))⟩,
 ⟨(some 31), .load false 1 (.tmp 3), (some (22, true)), 0, (some ([], none))⟩,
 ⟨(some 32), .bin .eql (.tmp 30) (.tmp 31), (some (22, true)), 0, (some ([], none))⟩,
 ⟨(some 33), .pick (.tmp 22) (.tmp 32) (.const (.bool false)), none, 0, (some ([], none))⟩,
 ⟨(some 4), .move (.tmp 14), none, 0, (some ([], none))⟩,
 ⟨(some 5), .move (.tmp 33), none, 0, (some ([], none))⟩] []) (.ret))), [.tmp 4, .tmp 5], true⟩
def s34_1 : Sig := ⟨(.cons (.ptr 0 0 0) (.cons (.v (.int .i64)) .nil)), [.cell false (.cons (.v (.int .i64)) (.cons (.slw 1 18) .nil)), .typed .job], ((.tup (.cons (.v (.int .i64)) (.cons (.v .bool) .nil))), [.cell false (.cons (.v (.int .i64)) (.cons (.slw 1 18) .nil)), .typed .job]), []⟩
def F34_1 (L : Lp) (g61 : Int → Int → (List Job) → Int → Option Int) (id0 : Int) (a1 : Int) (a2 : (List Job)) : Option ((Int × (Bool × Unit)) × ((Int × (Unit × Unit)) × ((List Job) × Unit))) :=
 Option.bind (g61 (List.length a2 : Int) a1 a2 id0) fun r3 =>
 cond (decide (r3 < (List.length a2 : Int)))
 (cond (decide (0 ≤ r3))
 (cond (decide ((Int.toNat r3) < (List.length a2)))
 (Option.bind (a2[Int.toNat r3]?) fun y4 =>
 some ((r3, decide (y4.id = id0), ()), ((a1, (), ()), a2, ())))
 (none))
 (none))
 (some ((r3, false, ()), ((a1, (), ()), a2, ())))
theorem e34_1 (L : Lp) (g61 : Int → Int → (List Job) → Int → Option Int) (x : s34_1.args.den) (h : denH s34_1.heap) : nrun [⟨61, s61, fun x h => g61 x.1 x.2.1.1.1.1 x.2.1.1.1.2.1 x.2.1.2.1.1⟩] L n34_1 s34_1 x h = F34_1 L g61 x.2.1 h.1.1 h.2.1 := by kernel_rfl
def f34_1 : Int → Int → (List Job) → Option ((Int × (Bool × Unit)) × ((Int × (Unit × Unit)) × ((List Job) × Unit))) := F34_1 (@LN LOOPS) f61
@[reducible] def t34_1 : Ent := ⟨34, s34_1, fun x h => f34_1 x.2.1 h.1.1 h.2.1⟩
theorem k34_1 : chkNF Try.prog Try.f34 n34_1 = true := by kernel_rfl
theorem ok34_1 : NOk Try.prog t34_1 := NOk.body (T := [t61]) mixed (nall_cons ok61 nall_nil) (oneEach_of (by kernel_rfl)) Try.func34 k34_1 (by kernel_rfl) (fun x h => e34_1 _ _ x h)
/- (*drayage/table.Table).Get -/
def n10_2 : NFunc := ⟨28, .seq (.region 1 [
 ⟨(some 4), .alloc [.int .i64 (0), .int .i64 (0), .int .i64 (0), .int .i64 (0), .int .i64 (0), .int .i64 (0), .int .i64 (0), .int .i64 (0), .int .i64 (0), .zsl, .int .i64 (0), .bool false, .bool false, .int .i64 (0), .int .i64 (0), .int .i64 (0), .int .i64 (0), .int .i64 (0)], none, 0, none⟩,
 ⟨(some 5), .move (.const (.bool false)), none, 1, none⟩] []) (.seq (.seq (.region 0 [
 ⟨(some 8), .move (.tmp 0), none, 0, none⟩,
 ⟨(some 9), .eqP false (.tmp 8) (.const (.nilp)), none, 0, none⟩] []) (.cond (.tmp 9) (.seq (.region 0 [
 ⟨(some 10), .build [.int .i64 (0), .int .i64 (0), .int .i64 (0), .int .i64 (0), .int .i64 (0), .int .i64 (0), .int .i64 (0), .int .i64 (0), .int .i64 (0), .zsl, .int .i64 (0), .bool false, .bool false, .int .i64 (0), .int .i64 (0), .int .i64 (0), .int .i64 (0), .int .i64 (0)] [], none, 0, none⟩,
 ⟨none, .store 18 (.tmp 4) (.tmp 10), none, 0, none⟩,
 ⟨(some 5), .move (.const (.bool false)), none, 0, none⟩] []) (.ret)) (.skip))) (.seq (.region 4 [
 ⟨(some 12), .move (.tmp 0), none, 0, none⟩,
 ⟨(some 13), .move (.tmp 1), none, 0, none⟩,
 ⟨(some 14), .call (.func 34) [(true, (.tmp 12)), (false, (.tmp 13))] false 4, none, 0, none⟩,
 ⟨(some 11), .move (.tmp 14), none, 4, none⟩,
 ⟨(some 15), .extract (.tmp 11) 0, none, 4, none⟩,
 ⟨(some 16), .extract (.tmp 11) 1, none, 4, none⟩,
 ⟨(some 6), .move (.tmp 15), none, 4, none⟩,
 ⟨(some 7), .move (.tmp 16), none, 4, none⟩] []) (.seq (.seq (.region 0 [
 ⟨(some 17), .move (.tmp 7), none, 0, none⟩,
 ⟨(some 18), .un .not (.tmp 17), none, 0, none⟩] []) (.cond (.tmp 18) (.seq (.region 0 [
 ⟨(some 19), .build [.int .i64 (0), .int .i64 (0), .int .i64 (0), .int .i64 (0), .int .i64 (0), .int .i64 (0), .int .i64 (0), .int .i64 (0), .int .i64 (0), .zsl, .int .i64 (0), .bool false, .bool false, .int .i64 (0), .int .i64 (0), .int .i64 (0), .int .i64 (0), .int .i64 (0)] [], none, 0, none⟩,
 ⟨none, .store 18 (.tmp 4) (.tmp 19), none, 0, none⟩,
 ⟨(some 5), .move (.const (.bool false)), none, 0, none⟩] []) (.ret)) (.skip))) (.seq (.region 4 [
 ⟨(some 20), .move (.tmp 0), none, 0, none⟩,
 ⟨(some 21), .nilCheck (.tmp 20), none, 0, none⟩,
 ⟨(some 22), .fieldAddr 1 (.tmp 21), none, 0, none⟩,
 ⟨(some 23), .load false 1 (.tmp 22), none, 0, none⟩,
 ⟨(some 24), .move (.tmp 6), none, 0, none⟩,
 ⟨(some 25), .indexSl 18 (.tmp 23) (.tmp 24), none, 0, none⟩,
 ⟨(some 26), .load true 18 (.tmp 25), none, 0, none⟩,
 ⟨(some 27), .call (.func 36) [(false, (.tmp 26))] false 4, none, 0, none⟩,
 ⟨none, .store 18 (.tmp 4) (.tmp 27), none, 4, none⟩,
 ⟨(some 5), .move (.const (.bool true)), none, 4, none⟩] []) (.ret))))), [.cell true 18 4, .tmp 5], true⟩
def s10_2 : Sig := ⟨(.cons (.ptr 0 0 0) (.cons (.v (.int .i64)) .nil)), [.cell false (.cons (.v (.int .i64)) (.cons (.slw 1 18) .nil)), .typed .job], ((.tup (.cons (.v .job) (.cons (.v .bool) .nil))), [.cell false (.cons (.v (.int .i64)) (.cons (.slw 1 18) .nil)), .typed .job]), []⟩
def F10_2 (L : Lp) (g34_1 : Int → Int → (List Job) → Option ((Int × (Bool × Unit)) × ((Int × (Unit × Unit)) × ((List Job) × Unit)))) (g36 : Job → Option Job) (id0 : Int) (a1 : Int) (a2 : (List Job)) : Option ((Job × (Bool × Unit)) × ((Int × (Unit × Unit)) × ((List Job) × Unit))) :=
 Option.bind (g34_1 id0 a1 a2) fun r3 =>
 cond (true && ((decide ((List.length r3.2.2.1) = (List.length a2))) && true))
 (cond (!r3.1.2.1)
 (some ((Job.mk 0 0 0 0 (Res.mk 0 0 0 0) 0 [] 0 false false 0 0 0 0 0, false, ()), ((r3.2.1.1, (), ()), r3.2.2.1, ())))
 (cond (decide (0 ≤ r3.1.1))
 (cond (decide ((Int.toNat r3.1.1) < (List.length r3.2.2.1)))
 (Option.bind (r3.2.2.1[Int.toNat r3.1.1]?) fun y4 =>
 Option.bind (g36 y4) fun r5 =>
 some ((r5, true, ()), ((r3.2.1.1, (), ()), r3.2.2.1, ())))
 (none))
 (none)))
 (none)
theorem e10_2 (L : Lp) (g34_1 : Int → Int → (List Job) → Option ((Int × (Bool × Unit)) × ((Int × (Unit × Unit)) × ((List Job) × Unit)))) (g36 : Job → Option Job) (x : s10_2.args.den) (h : denH s10_2.heap) : nrun [⟨34, s34_1, fun x h => g34_1 x.2.1 h.1.1 h.2.1⟩, ⟨36, s36, fun x h => g36 x.1⟩] L n10_2 s10_2 x h = F10_2 L g34_1 g36 x.2.1 h.1.1 h.2.1 := by kernel_rfl
def f10_2 : Int → Int → (List Job) → Option ((Job × (Bool × Unit)) × ((Int × (Unit × Unit)) × ((List Job) × Unit))) := F10_2 (@LN LOOPS) f34_1 f36
@[reducible] def t10_2 : Ent := ⟨10, s10_2, fun x h => f10_2 x.2.1 h.1.1 h.2.1⟩
theorem k10_2 : chkNF Try.prog Try.f10 n10_2 = true := by kernel_rfl
theorem ok10_2 : NOk Try.prog t10_2 := NOk.body (T := [t34_1, t36]) mixed (nall_cons ok34_1 (nall_cons ok36 nall_nil)) (oneEach_of (by kernel_rfl)) Try.func10 k10_2 (by kernel_rfl) (fun x h => e10_2 _ _ _ x h)
/- slices.Insert[[]drayage/api.Job,drayage/api.Job] -/
def s35_1 : Sig := ⟨(.cons (.slw 0 18) (.cons (.v (.int .i64)) (.cons (.slw 1 18) .nil))), [.typed .job, .typed .job], ((.slw 2 18), [.dead, .typed .job, .typed .job]), []⟩
def f35_1 : Int → (List Job) → (List Job) → Option (Unit × (Unit × ((List Job) × ((List Job) × Unit)))) := insertG 152
@[reducible] def t35_1 : Ent := ⟨35, s35_1, fun x h => f35_1 x.2.1 h.1 h.2.1⟩
theorem ok35_1 : NOk Try.prog t35_1 := ext35
/- (*drayage/table.Table).Put -/
def n9_2 : NFunc := ⟨42, .seq (.region 1 [
 ⟨(some 3), .box 18 (.tmp 1), none, 0, none⟩,
 ⟨(some 4), .move (.const (.int .i64 (0))), none, 1, none⟩] []) (.seq (.seq (.region 0 [
 ⟨(some 7), .move (.tmp 0), none, 0, none⟩,
 ⟨(some 8), .eqP false (.tmp 7) (.const (.nilp)), none, 0, none⟩] []) (.cond (.tmp 8) (.seq (.region 0 [
 ⟨(some 4), .move (.const (.int .i64 (1))), none, 0, none⟩] []) (.ret)) (.skip))) (.seq (.seq (.region 4 [
 ⟨(some 9), .load true 18 (.tmp 3), none, 0, none⟩,
 ⟨(some 10), .call (.func 33) [(false, (.tmp 9))] false 4, none, 0, none⟩,
 ⟨(some 11), .un .not (.tmp 10), none, 4, none⟩] []) (.cond (.tmp 11) (.seq (.region 0 [
 ⟨(some 4), .move (.const (.int .i64 (2))), none, 0, none⟩] []) (.ret)) (.skip))) (.seq (.region 4 [
 ⟨(some 13), .move (.tmp 0), none, 0, none⟩,
 ⟨(some 14), .fieldAddr 0 (.tmp 3), none, 0, none⟩,
 ⟨(some 15), .load false 1 (.tmp 14), none, 0, none⟩,
 ⟨(some 16), .call (.func 34) [(true, (.tmp 13)), (false, (.tmp 15))] false 4, none, 0, none⟩,
 ⟨(some 12), .move (.tmp 16), none, 4, none⟩,
 ⟨(some 17), .extract (.tmp 12) 0, none, 4, none⟩,
 ⟨(some 18), .extract (.tmp 12) 1, none, 4, none⟩,
 ⟨(some 5), .move (.tmp 17), none, 4, none⟩,
 ⟨(some 6), .move (.tmp 18), none, 4, none⟩] []) (.seq (.seq (.region 0 [
 ⟨(some 19), .move (.tmp 6), none, 0, none⟩] []) (.cond (.tmp 19) (.seq (.region 0 [
 ⟨(some 4), .move (.const (.int .i64 (31))), none, 0, none⟩] []) (.ret)) (.skip))) (.seq (.seq (.region 0 [
 ⟨(some 20), .move (.tmp 0), none, 0, (some ([], none))⟩,
 ⟨(some 21), .nilCheck (.tmp 20), none, 0, (some ([], none))⟩,
 ⟨(some 22), .fieldAddr 1 (.tmp 21), none, 0, (some ([], none))⟩,
 ⟨(some 23), .load false 1 (.tmp 22), none, 0, (some ([], none))⟩,
 ⟨(some 24), .len (.tmp 23), none, 0, (some ([], none))⟩,
 ⟨(some 25), .move (.tmp 0), none, 0, (some ([], none))⟩,
 ⟨(some 26), .nilCheck (.tmp 25), none, 0, (some ([], none))⟩,
 ⟨(some 27), .fieldAddr 0 (.tmp 26), none, 0, (some ([], none))⟩,
 ⟨(some 28), .load false 1 (.tmp 27), none, 0, (some ([], none))⟩,
 ⟨(some 29), .bin .eql (.tmp 24) (.tmp 28), none, 0, (some ([], none))⟩] []) (.cond (.tmp 29) (.seq (.region 0 [
 ⟨(some 4), .move (.const (.int .i64 (35))), none, 0, none⟩] []) (.ret)) (.skip))) (.seq (.region 9 [
 ⟨(some 30), .move (.tmp 0), none, 0, (some ([], none))⟩,
 ⟨(some 31), .move (.tmp 0), none, 0, (some ([], none))⟩,
 ⟨(some 32), .nilCheck (.tmp 31), none, 0, (some ([], none))⟩,
 ⟨(some 33), .fieldAddr 1 (.tmp 32), none, 0, (some ([], none))⟩,
 ⟨(some 34), .load false 1 (.tmp 33), none, 0, (some ([], none))⟩,
 ⟨(some 35), .move (.tmp 5), none, 0, (some ([], none))⟩,
 ⟨(some 36), .load true 18 (.tmp 3), none, 0, (some ([], none))⟩,
 ⟨(some 37), .call (.func 36) [(false, (.tmp 36))] true 4, none, 0, (some ([], none))⟩,
 ⟨(some 38), .buildSlice 18 1 true [.int .i64 (0), .int .i64 (0), .int .i64 (0), .int .i64 (0), .int .i64 (0), .int .i64 (0), .int .i64 (0), .int .i64 (0), .int .i64 (0), .zsl, .int .i64 (0), .bool false, .bool false, .int .i64 (0), .int .i64 (0), .int .i64 (0), .int .i64 (0), .int .i64 (0)] [(0, (.tmp 37))], none, 4, (some ([0, 1, 2, 3], none))⟩,
 ⟨(some 39), .call (.func 35) [(true, (.tmp 34)), (false, (.tmp 35)), (true, (.tmp 38))] false 4, none, 5, (some ([0, 1, 2, 3, 4], none))⟩,
 ⟨(some 40), .nilCheck (.tmp 30), none, 9, (some ([0, 1, 2, 3, 4, 5, 6, 7, 8], none))⟩,
 ⟨(some 41), .fieldAddr 1 (.tmp 40), none, 9, (some ([0, 1, 2, 3, 4, 5, 6, 7, 8], none))⟩,
 ⟨none, .store 1 (.tmp 41) (.tmp 39), none, 9, (some ([0, 1, 2, 3, 4, 5, 6, 7, 8], none))⟩] []) (.seq (.region 0 [
 ⟨(some 4), .move (.const (.int .i64 (0))), none, 0, none⟩] []) (.ret)))))))), [.tmp 4], true⟩
def s9_2 : Sig := ⟨(.cons (.ptr 0 0 0) (.cons (.v .job) .nil)), [.cell false (.cons (.v (.int .i64)) (.cons (.slw 1 18) .nil)), .typed .job], ((.v (.int .i64)), [.cell false (.cons (.v (.int .i64)) (.cons (.slw 1 18) .nil)), .typed .job]), [((.v (.int .i64)), [.cell false (.cons (.v (.int .i64)) (.cons (.slw 2 18) .nil)), .dead, .typed .job])]⟩
def F9_2 (L : Lp) (g33 : Job → Option Bool) (g34_1 : Int → Int → (List Job) → Option ((Int × (Bool × Unit)) × ((Int × (Unit × Unit)) × ((List Job) × Unit)))) (g36 : Job → Option Job) (g35_1 : Int → (List Job) → (List Job) → Option (Unit × (Unit × ((List Job) × ((List Job) × Unit))))) (j0 : Job) (a1 : Int) (a2 : (List Job)) : Option ((Int × ((Int × (Unit × Unit)) × ((List Job) × Unit))) ⊕ (Int × ((Int × (Unit × Unit)) × (Unit × ((List Job) × Unit))))) :=
 Option.bind (g33 j0) fun r3 =>
 cond (!r3)
 (some (.inl (2, ((a1, (), ()), a2, ()))))
 (Option.bind (g34_1 j0.id a1 a2) fun r4 =>
 cond (true && ((decide ((List.length r4.2.2.1) = (List.length a2))) && true))
 (cond r4.1.2.1
 (some (.inl (31, ((r4.2.1.1, (), ()), r4.2.2.1, ()))))
 (cond (decide ((List.length r4.2.2.1 : Int) = r4.2.1.1))
 (some (.inl (35, ((r4.2.1.1, (), ()), r4.2.2.1, ()))))
 (Option.bind (g36 j0) fun r5 =>
 Option.bind (g35_1 r4.1.1 r4.2.2.1 [r5]) fun r6 =>
 cond (true && ((decide ((List.length r6.2.2.1) = 1)) && true))
 (some (.inr (0, ((r4.2.1.1, (), ()), (), r6.2.2.2.1, ()))))
 (none))))
 (none))
theorem e9_2 (L : Lp) (g33 : Job → Option Bool) (g34_1 : Int → Int → (List Job) → Option ((Int × (Bool × Unit)) × ((Int × (Unit × Unit)) × ((List Job) × Unit)))) (g36 : Job → Option Job) (g35_1 : Int → (List Job) → (List Job) → Option (Unit × (Unit × ((List Job) × ((List Job) × Unit))))) (x : s9_2.args.den) (h : denH s9_2.heap) : nrun [⟨33, s33, fun x h => g33 x.1⟩, ⟨34, s34_1, fun x h => g34_1 x.2.1 h.1.1 h.2.1⟩, ⟨36, s36, fun x h => g36 x.1⟩, ⟨35, s35_1, fun x h => g35_1 x.2.1 h.1 h.2.1⟩] L n9_2 s9_2 x h = F9_2 L g33 g34_1 g36 g35_1 x.2.1 h.1.1 h.2.1 := by kernel_rfl
def f9_2 : Job → Int → (List Job) → Option ((Int × ((Int × (Unit × Unit)) × ((List Job) × Unit))) ⊕ (Int × ((Int × (Unit × Unit)) × (Unit × ((List Job) × Unit))))) := F9_2 (@LN LOOPS) f33 f34_1 f36 f35_1
@[reducible] def t9_2 : Ent := ⟨9, s9_2, fun x h => f9_2 x.2.1 h.1.1 h.2.1⟩
theorem k9_2 : chkNF Try.prog Try.f9 n9_2 = true := by kernel_rfl
theorem ok9_2 : NOk Try.prog t9_2 := NOk.body (T := [t33, t34_1, t36, t35_1]) mixed (nall_cons ok33 (nall_cons ok34_1 (nall_cons ok36 (nall_cons ok35_1 nall_nil)))) (oneEach_of (by kernel_rfl)) Try.func9 k9_2 (by kernel_rfl) (fun x h => e9_2 _ _ _ _ _ x h)
/- drayage/drayagelaw18.awake -/
def n6 : NFunc := ⟨40, .seq (.region 0 [
 ⟨(some 0), .move (.const (.bool false)), none, 0, none⟩] []) (.seq (.region 4 [
 ⟨(some 8), .call (.func 8) [(false, (.const (.int .i64 (1))))] false 4, none, 0, none⟩,
 ⟨(some 7), .move (.tmp 8), none, 4, none⟩,
 ⟨(some 9), .extract (.tmp 7) 0, none, 4, none⟩,
 ⟨(some 10), .extract (.tmp 7) 1, none, 4, none⟩,
 ⟨(some 1), .move (.tmp 9), none, 4, none⟩,
 ⟨(some 2), .move (.tmp 10), none, 4, none⟩] []) (.seq (.region 8 [
 ⟨(some 11), .move (.tmp 1), none, 0, none⟩,
 ⟨(some 12), .call (.func 30) [(false, (.const (.int .i64 (3))))] false 4, none, 0, none⟩,
 ⟨(some 13), .call (.func 9) [(true, (.tmp 11)), (false, (.tmp 12))] false 4, none, 4, none⟩,
 ⟨(some 3), .move (.tmp 13), none, 8, none⟩] []) (.seq (.region 8 [
 ⟨(some 14), .move (.tmp 1), none, 0, none⟩,
 ⟨(some 15), .call (.func 30) [(false, (.const (.int .i64 (2))))] false 4, none, 0, none⟩,
 ⟨(some 16), .call (.func 9) [(true, (.tmp 14)), (false, (.tmp 15))] false 4, none, 4, none⟩,
 ⟨(some 4), .move (.tmp 16), none, 8, none⟩] []) (.seq (.region 5 [
 ⟨(some 18), .move (.tmp 1), none, 0, none⟩,
 ⟨(some 19), .call (.func 10) [(true, (.tmp 18)), (false, (.const (.int .i64 (3))))] false 4, none, 0, none⟩,
 ⟨(some 17), .move (.tmp 19), none, 4, none⟩,
 ⟨(some 20), .extract (.tmp 17) 0, none, 4, none⟩,
 ⟨(some 21), .extract (.tmp 17) 1, none, 4, none⟩,
 ⟨(some 5), .alloc [.int .i64 (0), .int .i64 (0), .int .i64 (0), .int .i64 (0), .int .i64 (0), .int .i64 (0), .int .i64 (0), .int .i64 (0), .int .i64 (0), .zsl, .int .i64 (0), .bool false, .bool false, .int .i64 (0), .int .i64 (0), .int .i64 (0), .int .i64 (0), .int .i64 (0)], none, 4, none⟩,
 ⟨none, .store 18 (.tmp 5) (.tmp 20), none, 5, none⟩,
 ⟨(some 6), .move (.tmp 21), none, 5, none⟩] []) (.seq (.region 8 [
 ⟨(some 22), .move (.tmp 2), none, 0, (some ([], none))⟩,
 ⟨(some 23), .bin .eql (.tmp 22) (.const (.int .i64 (0))), none, 0, (some ([], none))⟩,
 ⟨(some 24), .move (.tmp 23), none, 0, (some ([], none))⟩,
 ⟨(some 25), .move (.tmp 3), (some (24, true)), 0, (some ([], none))⟩,
 ⟨(some 26), .bin .eql (.tmp 25) (.const (.int .i64 (0))), (some (24, true)), 0, (some ([], none))⟩,
 ⟨(some 27), .pick (.tmp 24) (.tmp 26) (.const (.bool false)), none, 0, (some ([], none))⟩,
 ⟨(some 28), .move (.tmp 27), none, 0, (some ([], none))⟩,
 ⟨(some 29), .move (.tmp 4), (some (28, true)), 0, (some ([], none))⟩,
 ⟨(some 30), .bin .eql (.tmp 29) (.const (.int .i64 (35))), (some (28, true)), 0, (some ([], none))⟩,
 ⟨(some 31), .pick (.tmp 28) (.tmp 30) (.const (.bool false)), none, 0, (some ([], none))⟩,
 ⟨(some 32), .move (.tmp 31), none, 0, (some ([], none))⟩,
 ⟨(some 33), .move (.tmp 6), (some (32, true)), 0, (some ([], none))⟩,
 ⟨(some 34), .pick (.tmp 32) (.tmp 33) (.const (.bool false)), none, 0, (some ([], none))⟩,
 ⟨(some 35), .move (.tmp 34), none, 0, (some ([], none))⟩,
 ⟨(some 36), .load true 18 (.tmp 5), (some (35, true)), 0, (some ([], none))⟩,
 ⟨(some 37), .call (.func 30) [(false, (.const (.int .i64 (3))))] true 4, (some (35, true)), 0, (some ([], none))⟩,
 ⟨(some 38), .call (.func 12) [(false, (.tmp 36)), (false, (.tmp 37))] false 4, (some (35, true)), 4, (some ([0, 1, 2, 3], none))⟩,
 ⟨(some 39), .pick (.tmp 35) (.tmp 38) (.const (.bool false)), none, 8, (some ([0, 1, 2, 3, 4, 5, 6, 7], none))⟩,
 ⟨(some 0), .move (.tmp 39), none, 8, (some ([0, 1, 2, 3, 4, 5, 6, 7], none))⟩] []) (.ret)))))), [.tmp 0], true⟩
def s6 : Sig := ⟨.nil, [], ((.v .bool), []), []⟩
def F6 (L : Lp) (g8 : Int → Option ((Unit × (Int × Unit)) ⊕ ((Unit × (Int × Unit)) × ((Int × (Unit × Unit)) × Unit)))) (g30 : Int → Option Job) (g9 : Job → Option Int) (g10 : Int → Option (Job × (Bool × Unit))) (g12 : Job → Job → Option Bool) (g9_1 : Job → Int → Option ((Int × ((Int × (Unit × Unit)) × Unit)) ⊕ (Int × ((Int × (Unit × Unit)) × ((List Job) × Unit))))) (g10_1 : Int → Int → Option ((Job × (Bool × Unit)) × ((Int × (Unit × Unit)) × Unit))) (g10_2 : Int → Int → (List Job) → Option ((Job × (Bool × Unit)) × ((Int × (Unit × Unit)) × ((List Job) × Unit)))) (g9_2 : Job → Int → (List Job) → Option ((Int × ((Int × (Unit × Unit)) × ((List Job) × Unit))) ⊕ (Int × ((Int × (Unit × Unit)) × (Unit × ((List Job) × Unit))))))  : Option Bool :=
 Option.bind (g8 1) (Sum.elim (fun r0 =>
 Option.bind (g30 3) fun r1 =>
 Option.bind (g9 r1) fun r2 =>
 Option.bind (g30 2) fun r3 =>
 Option.bind (g9 r3) fun r4 =>
 Option.bind (g10 3) fun r5 =>
 cond (decide (r0.2.1 = 0))
 (cond (decide (r2 = 0))
 (cond (decide (r4 = 35))
 (cond r5.2.1
 (Option.bind (g30 3) fun r6 =>
 Option.bind (g12 r5.1 r6) fun r7 =>
 some r7)
 (some false))
 (some false))
 (some false))
 (some false)) (fun r8 =>
 Option.bind (g30 3) fun r9 =>
 Option.bind (g9_1 r9 r8.2.1.1) (Sum.elim (fun r10 =>
 Option.bind (g30 2) fun r11 =>
 Option.bind (g9_1 r11 r10.2.1.1) (Sum.elim (fun r12 =>
 Option.bind (g10_1 3 r12.2.1.1) fun r13 =>
 cond (decide (r8.1.2.1 = 0))
 (cond (decide (r10.1 = 0))
 (cond (decide (r12.1 = 35))
 (cond r13.1.2.1
 (Option.bind (g30 3) fun r14 =>
 Option.bind (g12 r13.1.1 r14) fun r15 =>
 some r15)
 (some false))
 (some false))
 (some false))
 (some false)) (fun r16 =>
 Option.bind (g10_2 3 r16.2.1.1 r16.2.2.1) fun r17 =>
 cond (true && ((decide ((List.length r17.2.2.1) = (List.length r16.2.2.1))) && true))
 (cond (decide (r8.1.2.1 = 0))
 (cond (decide (r10.1 = 0))
 (cond (decide (r16.1 = 35))
 (cond r17.1.2.1
 (Option.bind (g30 3) fun r18 =>
 Option.bind (g12 r17.1.1 r18) fun r19 =>
 some r19)
 (some false))
 (some false))
 (some false))
 (some false))
 (none)))) (fun r20 =>
 Option.bind (g30 2) fun r21 =>
 Option.bind (g9_2 r21 r20.2.1.1 r20.2.2.1) (Sum.elim (fun r22 =>
 cond (true && ((decide ((List.length r22.2.2.1) = (List.length r20.2.2.1))) && true))
 (Option.bind (g10_2 3 r22.2.1.1 r22.2.2.1) fun r23 =>
 cond (true && ((decide ((List.length r23.2.2.1) = (List.length r22.2.2.1))) && true))
 (cond (decide (r8.1.2.1 = 0))
 (cond (decide (r20.1 = 0))
 (cond (decide (r22.1 = 35))
 (cond r23.1.2.1
 (Option.bind (g30 3) fun r24 =>
 Option.bind (g12 r23.1.1 r24) fun r25 =>
 some r25)
 (some false))
 (some false))
 (some false))
 (some false))
 (none))
 (none)) (fun r26 =>
 Option.bind (g10_2 3 r26.2.1.1 r26.2.2.2.1) fun r27 =>
 cond (true && ((decide ((List.length r27.2.2.1) = (List.length r26.2.2.2.1))) && true))
 (cond (decide (r8.1.2.1 = 0))
 (cond (decide (r20.1 = 0))
 (cond (decide (r26.1 = 35))
 (cond r27.1.2.1
 (Option.bind (g30 3) fun r28 =>
 Option.bind (g12 r27.1.1 r28) fun r29 =>
 some r29)
 (some false))
 (some false))
 (some false))
 (some false))
 (none)))))))
theorem e6 (L : Lp) (g8 : Int → Option ((Unit × (Int × Unit)) ⊕ ((Unit × (Int × Unit)) × ((Int × (Unit × Unit)) × Unit)))) (g30 : Int → Option Job) (g9 : Job → Option Int) (g10 : Int → Option (Job × (Bool × Unit))) (g12 : Job → Job → Option Bool) (g9_1 : Job → Int → Option ((Int × ((Int × (Unit × Unit)) × Unit)) ⊕ (Int × ((Int × (Unit × Unit)) × ((List Job) × Unit))))) (g10_1 : Int → Int → Option ((Job × (Bool × Unit)) × ((Int × (Unit × Unit)) × Unit))) (g10_2 : Int → Int → (List Job) → Option ((Job × (Bool × Unit)) × ((Int × (Unit × Unit)) × ((List Job) × Unit)))) (g9_2 : Job → Int → (List Job) → Option ((Int × ((Int × (Unit × Unit)) × ((List Job) × Unit))) ⊕ (Int × ((Int × (Unit × Unit)) × (Unit × ((List Job) × Unit)))))) (x : s6.args.den) (h : denH s6.heap) : nrun [⟨8, s8, fun x h => g8 x.1⟩, ⟨30, s30, fun x h => g30 x.1⟩, ⟨9, s9, fun x h => g9 x.2.1⟩, ⟨10, s10, fun x h => g10 x.2.1⟩, ⟨12, s12, fun x h => g12 x.1 x.2.1⟩, ⟨9, s9_1, fun x h => g9_1 x.2.1 h.1.1⟩, ⟨10, s10_1, fun x h => g10_1 x.2.1 h.1.1⟩, ⟨10, s10_2, fun x h => g10_2 x.2.1 h.1.1 h.2.1⟩, ⟨9, s9_2, fun x h => g9_2 x.2.1 h.1.1 h.2.1⟩] L n6 s6 x h = F6 L g8 g30 g9 g10 g12 g9_1 g10_1 g10_2 g9_2  := by kernel_rfl
def f6 : Option Bool := F6 (@LN LOOPS) f8 f30 f9 f10 f12 f9_1 f10_1 f10_2 f9_2
@[reducible] def t6 : Ent := ⟨6, s6, fun x h => f6 ⟩
theorem k6 : chkNF Try.prog Try.f6 n6 = true := by kernel_rfl
theorem ok6 : NOk Try.prog t6 := NOk.body (T := [t8, t30, t9, t10, t12, t9_1, t10_1, t10_2, t9_2]) mixed (nall_cons ok8 (nall_cons ok30 (nall_cons ok9 (nall_cons ok10 (nall_cons ok12 (nall_cons ok9_1 (nall_cons ok10_1 (nall_cons ok10_2 (nall_cons ok9_2 nall_nil))))))))) (oneEach_of (by kernel_rfl)) Try.func6 k6 (by kernel_rfl) (fun x h => e6 _ _ _ _ _ _ _ _ _ _ x h)
/- drayage/drayageref16.in -/
def n31 : NFunc := ⟨15, .seq (.region 0 [
 ⟨(some 6), .move (.const (.bool false)), none, 0, none⟩] []) (.seq (.region 0 [
 ⟨(some 7), .move (.tmp 1), none, 0, none⟩,
 ⟨(some 8), .move (.tmp 0), none, 0, none⟩,
 ⟨(some 9), .bin .leq (.tmp 7) (.tmp 8), none, 0, none⟩,
 ⟨(some 10), .move (.tmp 9), none, 0, none⟩,
 ⟨(some 11), .move (.tmp 0), (some (10, true)), 0, none⟩,
 ⟨(some 12), .move (.tmp 2), (some (10, true)), 0, none⟩,
 ⟨(some 13), .bin .leq (.tmp 11) (.tmp 12), (some (10, true)), 0, none⟩,
 ⟨(some 14), .pick (.tmp 10) (.tmp 13) (.const (.bool false)), none, 0, none⟩,
 ⟨(some 6), .move (.tmp 14), none, 0, none⟩] []) (.ret)), [.tmp 6], true⟩
def s31 : Sig := ⟨(.cons (.v (.int .i64)) (.cons (.v (.int .i64)) (.cons (.v (.int .i64)) .nil))), [], ((.v .bool), []), []⟩
def F31 (L : Lp)  (an0 : Int) (lo1 : Int) (hi2 : Int) : Option Bool :=
 cond (decide (lo1 ≤ an0))
 (some (decide (an0 ≤ hi2)))
 (some false)
theorem e31 (L : Lp)  (x : s31.args.den) (h : denH s31.heap) : nrun [] L n31 s31 x h = F31 L  x.1 x.2.1 x.2.2.1 := by kernel_rfl
def f31 : Int → Int → Int → Option Bool := F31 (@LN LOOPS) 
@[reducible] def t31 : Ent := ⟨31, s31, fun x h => f31 x.1 x.2.1 x.2.2.1⟩
theorem k31 : chkNF Try.prog Try.f31 n31 = true := by kernel_rfl
theorem ok31 : NOk Try.prog t31 := NOk.body (T := []) mixed nall_nil (oneEach_of (by kernel_rfl)) Try.func31 k31 (by kernel_rfl) (fun x h => e31 _  x h)
/- drayage/drayageref02.right -/
def n50 : NFunc := ⟨9, .seq (.region 0 [
 ⟨(some 2), .move (.const (.bool false)), none, 0, none⟩] []) (.seq (.region 0 [
 ⟨(some 3), .move (.tmp 0), none, 0, none⟩,
 ⟨(some 4), .bin .geq (.tmp 3) (.const (.int .i64 (0))), none, 0, none⟩,
 ⟨(some 5), .move (.tmp 4), none, 0, none⟩,
 ⟨(some 6), .move (.tmp 0), (some (5, true)), 0, none⟩,
 ⟨(some 7), .bin .leq (.tmp 6) (.const (.int .i64 (1048576))), (some (5, true)), 0, none⟩,
 ⟨(some 8), .pick (.tmp 5) (.tmp 7) (.const (.bool false)), none, 0, none⟩,
 ⟨(some 2), .move (.tmp 8), none, 0, none⟩] []) (.ret)), [.tmp 2], true⟩
def s50 : Sig := ⟨(.cons (.v (.int .i64)) .nil), [], ((.v .bool), []), []⟩
def F50 (L : Lp)  (an0 : Int) : Option Bool :=
 cond (decide (0 ≤ an0))
 (some (decide (an0 ≤ 1048576)))
 (some false)
theorem e50 (L : Lp)  (x : s50.args.den) (h : denH s50.heap) : nrun [] L n50 s50 x h = F50 L  x.1 := by kernel_rfl
def f50 : Int → Option Bool := F50 (@LN LOOPS) 
@[reducible] def t50 : Ent := ⟨50, s50, fun x h => f50 x.1⟩
theorem k50 : chkNF Try.prog Try.f50 n50 = true := by kernel_rfl
theorem ok50 : NOk Try.prog t50 := NOk.body (T := []) mixed nall_nil (oneEach_of (by kernel_rfl)) Try.func50 k50 (by kernel_rfl) (fun x h => e50 _  x h)
/- drayage/drayageref02.Right -/
def n25 : NFunc := ⟨21, .seq (.region 1 [
 ⟨(some 1), .box 4 (.tmp 0), none, 0, none⟩,
 ⟨(some 2), .move (.const (.bool false)), none, 1, none⟩] []) (.seq (.region 16 [
 ⟨(some 3), .fieldAddr 0 (.tmp 1), none, 0, none⟩,
 ⟨(some 4), .load false 1 (.tmp 3), none, 0, none⟩,
 ⟨(some 5), .call (.func 50) [(false, (.tmp 4))] false 4, none, 0, none⟩,
 ⟨(some 6), .move (.tmp 5), none, 4, none⟩,
 ⟨(some 7), .fieldAddr 1 (.tmp 1), (some (6, true)), 4, none⟩,
 ⟨(some 8), .load false 1 (.tmp 7), (some (6, true)), 4, none⟩,
 ⟨(some 9), .call (.func 50) [(false, (.tmp 8))] false 4, (some (6, true)), 4, none⟩,
 ⟨(some 10), .pick (.tmp 6) (.tmp 9) (.const (.bool false)), none, 8, none⟩,
 ⟨(some 11), .move (.tmp 10), none, 8, none⟩,
 ⟨(some 12), .fieldAddr 2 (.tmp 1), (some (11, true)), 8, none⟩,
 ⟨(some 13), .load false 1 (.tmp 12), (some (11, true)), 8, none⟩,
 ⟨(some 14), .call (.func 50) [(false, (.tmp 13))] false 4, (some (11, true)), 8, none⟩,
 ⟨(some 15), .pick (.tmp 11) (.tmp 14) (.const (.bool false)), none, 12, none⟩,
 ⟨(some 16), .move (.tmp 15), none, 12, none⟩,
 ⟨(some 17), .fieldAddr 3 (.tmp 1), (some (16, true)), 12, none⟩,
 ⟨(some 18), .load false 1 (.tmp 17), (some (16, true)), 12, none⟩,
 ⟨(some 19), .call (.func 50) [(false, (.tmp 18))] false 4, (some (16, true)), 12, none⟩,
 ⟨(some 20), .pick (.tmp 16) (.tmp 19) (.const (.bool false)), none, 16, none⟩,
 ⟨(some 2), .move (.tmp 20), none, 16, none⟩] []) (.ret)), [.tmp 2], true⟩
def s25 : Sig := ⟨(.cons (.v .res) .nil), [], ((.v .bool), []), []⟩
def F25 (L : Lp) (g50 : Int → Option Bool) (a0 : Res) : Option Bool :=
 Option.bind (g50 a0.cpu) fun r1 =>
 cond r1
 (Option.bind (g50 a0.mem) fun r2 =>
 cond r2
 (Option.bind (g50 a0.gpu) fun r3 =>
 cond r3
 (Option.bind (g50 a0.lic) fun r4 =>
 some r4)
 (some false))
 (some false))
 (some false)
theorem e25 (L : Lp) (g50 : Int → Option Bool) (x : s25.args.den) (h : denH s25.heap) : nrun [⟨50, s50, fun x h => g50 x.1⟩] L n25 s25 x h = F25 L g50 x.1 := by kernel_rfl
def f25 : Res → Option Bool := F25 (@LN LOOPS) f50
@[reducible] def t25 : Ent := ⟨25, s25, fun x h => f25 x.1⟩
theorem k25 : chkNF Try.prog Try.f25 n25 = true := by kernel_rfl
theorem ok25 : NOk Try.prog t25 := NOk.body (T := [t50]) mixed (nall_cons ok50 nall_nil) (oneEach_of (by kernel_rfl)) Try.func25 k25 (by kernel_rfl) (fun x h => e25 _ _ x h)
/- drayage/drayageref02.Fits -/
def n32 : NFunc := ⟨31, .seq (.region 2 [
 ⟨(some 2), .box 4 (.tmp 0), none, 0, none⟩,
 ⟨(some 3), .box 4 (.tmp 1), none, 1, none⟩,
 ⟨(some 4), .move (.const (.bool false)), none, 2, none⟩] []) (.seq (.region 0 [
 ⟨(some 5), .fieldAddr 0 (.tmp 2), none, 0, none⟩,
 ⟨(some 6), .load false 1 (.tmp 5), none, 0, none⟩,
 ⟨(some 7), .fieldAddr 0 (.tmp 3), none, 0, none⟩,
 ⟨(some 8), .load false 1 (.tmp 7), none, 0, none⟩,
 ⟨(some 9), .bin .leq (.tmp 6) (.tmp 8), none, 0, none⟩,
 ⟨(some 10), .move (.tmp 9), none, 0, none⟩,
 ⟨(some 11), .fieldAddr 1 (.tmp 2), (some (10, true)), 0, none⟩,
 ⟨(some 12), .load false 1 (.tmp 11), (some (10, true)), 0, none⟩,
 ⟨(some 13), .fieldAddr 1 (.tmp 3), (some (10, true)), 0, none⟩,
 ⟨(some 14), .load false 1 (.tmp 13), (some (10, true)), 0, none⟩,
 ⟨(some 15), .bin .leq (.tmp 12) (.tmp 14), (some (10, true)), 0, none⟩,
 ⟨(some 16), .pick (.tmp 10) (.tmp 15) (.const (.bool false)), none, 0, none⟩,
 ⟨(some 17), .move (.tmp 16), none, 0, none⟩,
 ⟨(some 18), .fieldAddr 2 (.tmp 2), (some (17, true)), 0, none⟩,
 ⟨(some 19), .load false 1 (.tmp 18), (some (17, true)), 0, none⟩,
 ⟨(some 20), .fieldAddr 2 (.tmp 3), (some (17, true)), 0, none⟩,
 ⟨(some 21), .load false 1 (.tmp 20), (some (17, true)), 0, none⟩,
 ⟨(some 22), .bin .leq (.tmp 19) (.tmp 21), (some (17, true)), 0, none⟩,
 ⟨(some 23), .pick (.tmp 17) (.tmp 22) (.const (.bool false)), none, 0, none⟩,
 ⟨(some 24), .move (.tmp 23), none, 0, none⟩,
 ⟨(some 25), .fieldAddr 3 (.tmp 2), (some (24, true)), 0, none⟩,
 ⟨(some 26), .load false 1 (.tmp 25), (some (24, true)), 0, none⟩,
 ⟨(some 27), .fieldAddr 3 (.tmp 3), (some (24, true)), 0, none⟩,
 ⟨(some 28), .load false 1 (.tmp 27), (some (24, true)), 0, none⟩,
 ⟨(some 29), .bin .leq (.tmp 26) (.tmp 28), (some (24, true)), 0, none⟩,
 ⟨(some 30), .pick (.tmp 24) (.tmp 29) (.const (.bool false)), none, 0, none⟩,
 ⟨(some 4), .move (.tmp 30), none, 0, none⟩] []) (.ret)), [.tmp 4], true⟩
def s32 : Sig := ⟨(.cons (.v .res) (.cons (.v .res) .nil)), [], ((.v .bool), []), []⟩
def F32 (L : Lp)  (a0 : Res) (b1 : Res) : Option Bool :=
 cond (decide (a0.cpu ≤ b1.cpu))
 (cond (decide (a0.mem ≤ b1.mem))
 (cond (decide (a0.gpu ≤ b1.gpu))
 (some (decide (a0.lic ≤ b1.lic)))
 (some false))
 (some false))
 (some false)
theorem e32 (L : Lp)  (x : s32.args.den) (h : denH s32.heap) : nrun [] L n32 s32 x h = F32 L  x.1 x.2.1 := by kernel_rfl
def f32 : Res → Res → Option Bool := F32 (@LN LOOPS) 
@[reducible] def t32 : Ent := ⟨32, s32, fun x h => f32 x.1 x.2.1⟩
theorem k32 : chkNF Try.prog Try.f32 n32 = true := by kernel_rfl
theorem ok32 : NOk Try.prog t32 := NOk.body (T := []) mixed nall_nil (oneEach_of (by kernel_rfl)) Try.func32 k32 (by kernel_rfl) (fun x h => e32 _  x h)
/- drayage/drayageref16.Right -/
def n7 : NFunc := ⟨148, .seq (.region 1 [
 ⟨(some 1), .box 18 (.tmp 0), none, 0, none⟩,
 ⟨(some 2), .move (.const (.bool false)), none, 1, none⟩] []) (.seq (.seq (.region 0 [
 ⟨(some 3), .move (.const (.int .i64 (0))), none, 0, none⟩] []) (.block 0 (.loop [1, 3] ⟨[(1, (.ptr 0 0 0)), (3, (.v (.int .i64)))], [], [.one false .job]⟩ (.seq (.seq (.region 0 [
 ⟨(some 4), .move (.tmp 3), none, 0, none⟩,
 ⟨(some 5), .fieldAddr 9 (.tmp 1), none, 0, none⟩,
 ⟨(some 6), .load false 1 (.tmp 5), none, 0, none⟩,
 ⟨(some 7), .len (.tmp 6), none, 0, none⟩,
 ⟨(some 8), .bin .lss (.tmp 4) (.tmp 7), none, 0, none⟩] []) (.cond (.tmp 8) (.skip) (.exit 0))) (.seq (.block 1 (.seq (.region 4 [
 ⟨(some 11), .fieldAddr 9 (.tmp 1), none, 0, (some ([], none))⟩,
 ⟨(some 12), .load false 1 (.tmp 11), none, 0, (some ([], none))⟩,
 ⟨(some 13), .move (.tmp 3), none, 0, (some ([], none))⟩,
 ⟨(some 14), .indexSl 2 (.tmp 12) (.tmp 13), none, 0, (some ([], none))⟩,
 ⟨(some 15), .fieldAddr 0 (.tmp 14), none, 0, (some ([], none))⟩,
 ⟨(some 16), .load false 1 (.tmp 15), none, 0, (some ([], none))⟩,
 ⟨(some 17), .fieldAddr 0 (.tmp 1), none, 0, (some ([], none))⟩,
 ⟨(some 18), .load false 1 (.tmp 17), none, 0, (some ([], none))⟩,
 ⟨(some 19), .bin .sub (.tmp 18) (.const (.int .i64 (1))), none, 0, (some ([], none))⟩,
 ⟨(some 20), .call (.func 31) [(false, (.tmp 16)), (false, (.const (.int .i64 (1)))), (false, (.tmp 19))] false 4, none, 0, (some ([], none))⟩,
 ⟨(some 21), .un .not (.tmp 20), none, 4, (some ([0, 1, 2, 3], none))⟩] []) (.cond (.tmp 21) (.seq (.region 0 [
 ⟨(some 2), .move (.const (.bool false)), none, 0, none⟩] []) (.ret)) (.skip)))) (.region 0 [
 ⟨(some 9), .move (.tmp 3), none, 0, none⟩,
 ⟨(some 10), .bin .add (.tmp 9) (.const (.int .i64 (1))), none, 0, none⟩,
 ⟨(some 3), .move (.tmp 10), none, 0, none⟩] [])))))) (.seq (.seq (.region 24 [
 ⟨(some 22), .fieldAddr 9 (.tmp 1), none, 0, none⟩,
 ⟨(some 23), .load false 1 (.tmp 22), none, 0, none⟩,
 ⟨(some 24), .len (.tmp 23), none, 0, none⟩,
 ⟨(some 25), .bin .gtr (.tmp 24) (.const (.int .i64 (4))), none, 0, none⟩,
 ⟨(some 26), .move (.tmp 25), none, 0, none⟩,
 ⟨(some 27), .fieldAddr 0 (.tmp 1), (some (26, false)), 0, none⟩,
 ⟨(some 28), .load false 1 (.tmp 27), (some (26, false)), 0, none⟩,
 ⟨(some 29), .call (.func 31) [(false, (.tmp 28)), (false, (.const (.int .i64 (1)))), (false, (.const (.int .i64 (1048576))))] false 4, (some (26, false)), 0, none⟩,
 ⟨(some 30), .un .not (.tmp 29), (some (26, false)), 4, none⟩,
 ⟨(some 31), .pick (.tmp 26) (.const (.bool true)) (.tmp 30), none, 4, none⟩,
 ⟨(some 32), .move (.tmp 31), none, 4, none⟩,
 ⟨(some 33), .fieldAddr 1 (.tmp 1), (some (32, false)), 4, none⟩,
 ⟨(some 34), .load false 1 (.tmp 33), (some (32, false)), 4, none⟩,
 ⟨(some 35), .call (.func 31) [(false, (.tmp 34)), (false, (.const (.int .i64 (0)))), (false, (.const (.int .i64 (7))))] false 4, (some (32, false)), 4, none⟩,
 ⟨(some 36), .un .not (.tmp 35), (some (32, false)), 8, none⟩,
 ⟨(some 37), .pick (.tmp 32) (.const (.bool true)) (.tmp 36), none, 8, none⟩,
 ⟨(some 38), .move (.tmp 37), none, 8, none⟩,
 ⟨(some 39), .fieldAddr 2 (.tmp 1), (some (38, false)), 8, none⟩,
 ⟨(some 40), .load false 1 (.tmp 39), (some (38, false)), 8, none⟩,
 ⟨(some 41), .call (.func 31) [(false, (.tmp 40)), (false, (.const (.int .i64 (0)))), (false, (.const (.int .i64 (7))))] false 4, (some (38, false)), 8, none⟩,
 ⟨(some 42), .un .not (.tmp 41), (some (38, false)), 12, none⟩,
 ⟨(some 43), .pick (.tmp 38) (.const (.bool true)) (.tmp 42), none, 12, none⟩,
 ⟨(some 44), .move (.tmp 43), none, 12, none⟩,
 ⟨(some 45), .fieldAddr 3 (.tmp 1), (some (44, false)), 12, none⟩,
 ⟨(some 46), .load false 1 (.tmp 45), (some (44, false)), 12, none⟩,
 ⟨(some 47), .call (.func 31) [(false, (.tmp 46)), (false, (.const (.int .i64 (1)))), (false, (.const (.int .i64 (64))))] false 4, (some (44, false)), 12, none⟩,
 ⟨(some 48), .un .not (.tmp 47), (some (44, false)), 16, none⟩,
 ⟨(some 49), .pick (.tmp 44) (.const (.bool true)) (.tmp 48), none, 16, none⟩,
 ⟨(some 50), .move (.tmp 49), none, 16, none⟩,
 ⟨(some 51), .fieldAddr 4 (.tmp 1), (some (50, false)), 16, none⟩,
 ⟨(some 52), .load true 4 (.tmp 51), (some (50, false)), 16, none⟩,
 ⟨(some 53), .call (.func 25) [(false, (.tmp 52))] false 4, (some (50, false)), 16, none⟩,
 ⟨(some 54), .un .not (.tmp 53), (some (50, false)), 20, none⟩,
 ⟨(some 55), .pick (.tmp 50) (.const (.bool true)) (.tmp 54), none, 20, none⟩,
 ⟨(some 56), .move (.tmp 55), none, 20, none⟩,
 ⟨(some 57), .fieldAddr 4 (.tmp 1), (some (56, false)), 20, none⟩,
 ⟨(some 58), .load true 4 (.tmp 57), (some (56, false)), 20, none⟩,
 ⟨(some 59), .build [.int .i64 (0), .int .i64 (0), .int .i64 (0), .int .i64 (0)] [], (some (56, false)), 20, none⟩,
 ⟨(some 60), .call (.func 32) [(false, (.tmp 58)), (false, (.tmp 59))] false 4, (some (56, false)), 20, none⟩,
 ⟨(some 61), .pick (.tmp 56) (.const (.bool true)) (.tmp 60), none, 24, none⟩] []) (.cond (.tmp 61) (.seq (.region 0 [
 ⟨(some 2), .move (.const (.bool false)), none, 0, none⟩] []) (.ret)) (.skip))) (.seq (.seq (.region 16 [
 ⟨(some 62), .fieldAddr 8 (.tmp 1), none, 0, none⟩,
 ⟨(some 63), .load false 1 (.tmp 62), none, 0, none⟩,
 ⟨(some 64), .call (.func 31) [(false, (.tmp 63)), (false, (.const (.int .i64 (1)))), (false, (.const (.int .i64 (65536))))] false 4, none, 0, none⟩,
 ⟨(some 65), .un .not (.tmp 64), none, 4, none⟩,
 ⟨(some 66), .move (.tmp 65), none, 4, none⟩,
 ⟨(some 67), .fieldAddr 10 (.tmp 1), (some (66, false)), 4, none⟩,
 ⟨(some 68), .load false 1 (.tmp 67), (some (66, false)), 4, none⟩,
 ⟨(some 69), .call (.func 31) [(false, (.tmp 68)), (false, (.const (.int .i64 (1)))), (false, (.const (.int .i64 (6))))] false 4, (some (66, false)), 4, none⟩,
 ⟨(some 70), .un .not (.tmp 69), (some (66, false)), 8, none⟩,
 ⟨(some 71), .pick (.tmp 66) (.const (.bool true)) (.tmp 70), none, 8, none⟩,
 ⟨(some 72), .move (.tmp 71), none, 8, none⟩,
 ⟨(some 73), .fieldAddr 13 (.tmp 1), (some (72, false)), 8, none⟩,
 ⟨(some 74), .load false 1 (.tmp 73), (some (72, false)), 8, none⟩,
 ⟨(some 75), .call (.func 31) [(false, (.tmp 74)), (false, (.const (.int .i64 (1)))), (false, (.const (.int .i64 (281474976710656))))] false 4, (some (72, false)), 8, none⟩,
 ⟨(some 76), .un .not (.tmp 75), (some (72, false)), 12, none⟩,
 ⟨(some 77), .pick (.tmp 72) (.const (.bool true)) (.tmp 76), none, 12, none⟩,
 ⟨(some 78), .move (.tmp 77), none, 12, none⟩,
 ⟨(some 79), .fieldAddr 17 (.tmp 1), (some (78, false)), 12, none⟩,
 ⟨(some 80), .load false 1 (.tmp 79), (some (78, false)), 12, none⟩,
 ⟨(some 81), .fieldAddr 0 (.tmp 1), (some (78, false)), 12, none⟩,
 ⟨(some 82), .load false 1 (.tmp 81), (some (78, false)), 12, none⟩,
 ⟨(some 83), .call (.func 31) [(false, (.tmp 80)), (false, (.const (.int .i64 (0)))), (false, (.tmp 82))] false 4, (some (78, false)), 12, none⟩,
 ⟨(some 84), .un .not (.tmp 83), (some (78, false)), 16, none⟩,
 ⟨(some 85), .pick (.tmp 78) (.const (.bool true)) (.tmp 84), none, 16, none⟩] []) (.cond (.tmp 85) (.seq (.region 0 [
 ⟨(some 2), .move (.const (.bool false)), none, 0, none⟩] []) (.ret)) (.skip))) (.seq (.seq (.region 12 [
 ⟨(some 86), .fieldAddr 14 (.tmp 1), none, 0, none⟩,
 ⟨(some 87), .load false 1 (.tmp 86), none, 0, none⟩,
 ⟨(some 88), .call (.func 31) [(false, (.tmp 87)), (false, (.const (.int .i64 (0)))), (false, (.const (.int .i64 (1099511627776))))] false 4, none, 0, none⟩,
 ⟨(some 89), .un .not (.tmp 88), none, 4, none⟩,
 ⟨(some 90), .move (.tmp 89), none, 4, none⟩,
 ⟨(some 91), .fieldAddr 15 (.tmp 1), (some (90, false)), 4, none⟩,
 ⟨(some 92), .load false 1 (.tmp 91), (some (90, false)), 4, none⟩,
 ⟨(some 93), .call (.func 31) [(false, (.tmp 92)), (false, (.const (.int .i64 (0)))), (false, (.const (.int .i64 (1099511627776))))] false 4, (some (90, false)), 4, none⟩,
 ⟨(some 94), .un .not (.tmp 93), (some (90, false)), 8, none⟩,
 ⟨(some 95), .pick (.tmp 90) (.const (.bool true)) (.tmp 94), none, 8, none⟩,
 ⟨(some 96), .move (.tmp 95), none, 8, none⟩,
 ⟨(some 97), .fieldAddr 16 (.tmp 1), (some (96, false)), 8, none⟩,
 ⟨(some 98), .load false 1 (.tmp 97), (some (96, false)), 8, none⟩,
 ⟨(some 99), .call (.func 31) [(false, (.tmp 98)), (false, (.const (.int .i64 (0)))), (false, (.const (.int .i64 (1099511627776))))] false 4, (some (96, false)), 8, none⟩,
 ⟨(some 100), .un .not (.tmp 99), (some (96, false)), 12, none⟩,
 ⟨(some 101), .pick (.tmp 96) (.const (.bool true)) (.tmp 100), none, 12, none⟩] []) (.cond (.tmp 101) (.seq (.region 0 [
 ⟨(some 2), .move (.const (.bool false)), none, 0, none⟩] []) (.ret)) (.skip))) (.seq (.join [1] [] ⟨[(1, (.ptr 0 0 0))], [], [.one false .job]⟩ (.seq (.region 0 [
 ⟨(some 102), .fieldAddr 10 (.tmp 1), none, 0, none⟩,
 ⟨(some 103), .load false 1 (.tmp 102), none, 0, none⟩,
 ⟨(some 104), .bin .leq (.tmp 103) (.const (.int .i64 (2))), none, 0, none⟩,
 ⟨(some 105), .move (.tmp 104), none, 0, none⟩,
 ⟨(some 106), .fieldAddr 15 (.tmp 1), (some (105, true)), 0, none⟩,
 ⟨(some 107), .load false 1 (.tmp 106), (some (105, true)), 0, none⟩,
 ⟨(some 108), .bin .neq (.tmp 107) (.const (.int .i64 (0))), (some (105, true)), 0, none⟩,
 ⟨(some 109), .pick (.tmp 105) (.tmp 108) (.const (.bool false)), none, 0, none⟩,
 ⟨(some 110), .move (.tmp 109), none, 0, none⟩,
 ⟨(some 111), .fieldAddr 10 (.tmp 1), (some (110, false)), 0, none⟩,
 ⟨(some 112), .load false 1 (.tmp 111), (some (110, false)), 0, none⟩,
 ⟨(some 113), .bin .leq (.tmp 112) (.const (.int .i64 (4))), (some (110, false)), 0, none⟩,
 ⟨(some 114), .move (.tmp 113), (some (110, false)), 0, none⟩,
 ⟨(some 115), .fieldAddr 16 (.tmp 1), (some (114, true)), 0, none⟩,
 ⟨(some 116), .load false 1 (.tmp 115), (some (114, true)), 0, none⟩,
 ⟨(some 117), .bin .neq (.tmp 116) (.const (.int .i64 (0))), (some (114, true)), 0, none⟩,
 ⟨(some 118), .pick (.tmp 114) (.tmp 117) (.const (.bool false)), (some (110, false)), 0, none⟩,
 ⟨(some 119), .pick (.tmp 110) (.const (.bool true)) (.tmp 118), none, 0, none⟩] []) (.cond (.tmp 119) (.seq (.region 0 [
 ⟨(some 2), .move (.const (.bool false)), none, 0, none⟩] []) (.ret)) (.skip)))) (.seq (.region 0 [
 ⟨(some 120), .fieldAddr 11 (.tmp 1), none, 0, none⟩,
 ⟨(some 121), .load false 1 (.tmp 120), none, 0, none⟩,
 ⟨(some 122), .un .not (.tmp 121), none, 0, none⟩,
 ⟨(some 123), .move (.tmp 122), none, 0, none⟩,
 ⟨(some 124), .fieldAddr 10 (.tmp 1), (some (123, false)), 0, none⟩,
 ⟨(some 125), .load false 1 (.tmp 124), (some (123, false)), 0, none⟩,
 ⟨(some 126), .bin .eql (.tmp 125) (.const (.int .i64 (4))), (some (123, false)), 0, none⟩,
 ⟨(some 127), .pick (.tmp 123) (.const (.bool true)) (.tmp 126), none, 0, none⟩,
 ⟨(some 128), .move (.tmp 127), none, 0, none⟩,
 ⟨(some 129), .fieldAddr 10 (.tmp 1), (some (128, false)), 0, none⟩,
 ⟨(some 130), .load false 1 (.tmp 129), (some (128, false)), 0, none⟩,
 ⟨(some 131), .bin .eql (.tmp 130) (.const (.int .i64 (5))), (some (128, false)), 0, none⟩,
 ⟨(some 132), .pick (.tmp 128) (.const (.bool true)) (.tmp 131), none, 0, none⟩,
 ⟨(some 133), .move (.tmp 132), none, 0, none⟩,
 ⟨(some 134), .fieldAddr 12 (.tmp 1), (some (133, true)), 0, none⟩,
 ⟨(some 135), .load false 1 (.tmp 134), (some (133, true)), 0, none⟩,
 ⟨(some 136), .un .not (.tmp 135), (some (133, true)), 0, none⟩,
 ⟨(some 137), .move (.tmp 136), (some (133, true)), 0, none⟩,
 ⟨(some 138), .fieldAddr 10 (.tmp 1), (some (137, false)), 0, none⟩,
 ⟨(some 139), .load false 1 (.tmp 138), (some (137, false)), 0, none⟩,
 ⟨(some 140), .bin .eql (.tmp 139) (.const (.int .i64 (4))), (some (137, false)), 0, none⟩,
 ⟨(some 141), .pick (.tmp 137) (.const (.bool true)) (.tmp 140), (some (133, true)), 0, none⟩,
 ⟨(some 142), .move (.tmp 141), (some (133, true)), 0, none⟩,
 ⟨(some 143), .fieldAddr 10 (.tmp 1), (some (142, false)), 0, none⟩,
 ⟨(some 144), .load false 1 (.tmp 143), (some (142, false)), 0, none⟩,
 ⟨(some 145), .bin .eql (.tmp 144) (.const (.int .i64 (6))), (some (142, false)), 0, none⟩,
 ⟨(some 146), .pick (.tmp 142) (.const (.bool true)) (.tmp 145), (some (133, true)), 0, none⟩,
 ⟨(some 147), .pick (.tmp 133) (.tmp 146) (.const (.bool false)), none, 0, none⟩,
 ⟨(some 2), .move (.tmp 147), none, 0, none⟩] []) (.ret))))))), [.tmp 2], true⟩
def s7 : Sig := ⟨(.cons (.v .job) .nil), [], ((.v .bool), []), []⟩
def l7_0 (g31 : Int → Int → Int → Option Bool) (g25 : Res → Option Bool) (g32 : Res → Res → Option Bool) (nx2 : ((Unit × (Int × Unit)) × (Job × Unit)) → Option Bool) (i3 : Int) (z4 : Job) : Option Bool :=
 cond (decide (i3 < (List.length z4.after : Int)))
 (cond (decide (0 ≤ i3))
 (Option.bind (z4.after[Int.toNat i3]?) fun y5 =>
 Option.bind (g31 y5.job 1 (IntKind.wrap .i64 (z4.id - 1))) fun r6 =>
 cond (!r6)
 (some false)
 (nx2 (((), IntKind.wrap .i64 (i3 + 1), ()), (z4, ()))))
 (none))
 (cond (decide (4 < (List.length z4.after : Int)))
 (some false)
 (Option.bind (g31 z4.id 1 1048576) fun r7 =>
 cond (!r7)
 (some false)
 (Option.bind (g31 z4.user 0 7) fun r8 =>
 cond (!r8)
 (some false)
 (Option.bind (g31 z4.queue 0 7) fun r9 =>
 cond (!r9)
 (some false)
 (Option.bind (g31 z4.many 1 64) fun r10 =>
 cond (!r10)
 (some false)
 (Option.bind (g25 z4.need) fun r11 =>
 cond (!r11)
 (some false)
 (Option.bind (g32 z4.need (Res.mk 0 0 0 0)) fun r12 =>
 cond r12
 (some false)
 (Option.bind (g31 z4.wall 1 65536) fun r13 =>
 cond (!r13)
 (some false)
 (Option.bind (g31 z4.state 1 6) fun r14 =>
 cond (!r14)
 (some false)
 (Option.bind (g31 z4.version 1 281474976710656) fun r15 =>
 cond (!r15)
 (some false)
 (Option.bind (g31 z4.array 0 z4.id) fun r16 =>
 cond (!r16)
 (some false)
 (Option.bind (g31 z4.born 0 1099511627776) fun r17 =>
 cond (!r17)
 (some false)
 (Option.bind (g31 z4.start 0 1099511627776) fun r18 =>
 cond (!r18)
 (some false)
 (Option.bind (g31 z4.fin 0 1099511627776) fun r19 =>
 cond (!r19)
 (some false)
 (Option.bind (α := (((Unit × Unit) × (Job × Unit)) ⊕ Bool))
 (cond (decide (z4.state ≤ 2))
 (cond (!decide (z4.start = 0))
 (some (.inr false))
 (cond (decide (z4.state ≤ 4))
 (cond (!decide (z4.fin = 0))
 (some (.inr false))
 (some (.inl (((), ()), (z4, ())))))
 (some (.inl (((), ()), (z4, ()))))))
 (cond (decide (z4.state ≤ 4))
 (cond (!decide (z4.fin = 0))
 (some (.inr false))
 (some (.inl (((), ()), (z4, ())))))
 (some (.inl (((), ()), (z4, ())))))) (Sum.elim (fun x20 =>
 cond (!x20.2.1.ok)
 (cond (!x20.2.1.kill)
 (some true)
 (cond (decide (x20.2.1.state = 4))
 (some true)
 (some (decide (x20.2.1.state = 6)))))
 (cond (decide (x20.2.1.state = 4))
 (cond (!x20.2.1.kill)
 (some true)
 (cond (decide (x20.2.1.state = 4))
 (some true)
 (some (decide (x20.2.1.state = 6)))))
 (cond (decide (x20.2.1.state = 5))
 (cond (!x20.2.1.kill)
 (some true)
 (cond (decide (x20.2.1.state = 4))
 (some true)
 (some (decide (x20.2.1.state = 6)))))
 (some false)))) some))))))))))))))))
def F7 (L : Lp) (g31 : Int → Int → Int → Option Bool) (g25 : Res → Option Bool) (g32 : Res → Res → Option Bool) (j0 : Job) : Option Bool :=
 L (fun (s1 : ((Unit × (Int × Unit)) × (Job × Unit))) nx2 => l7_0 g31 g25 g32 nx2 s1.1.2.1 s1.2.1) (((), 0, ()), (j0, ()))
theorem e7 (L : Lp) (g31 : Int → Int → Int → Option Bool) (g25 : Res → Option Bool) (g32 : Res → Res → Option Bool) (x : s7.args.den) (h : denH s7.heap) : nrun [⟨31, s31, fun x h => g31 x.1 x.2.1 x.2.2.1⟩, ⟨25, s25, fun x h => g25 x.1⟩, ⟨32, s32, fun x h => g32 x.1 x.2.1⟩] L n7 s7 x h = F7 L g31 g25 g32 x.1 := by kernel_rfl
def f7 : Job → Option Bool := F7 (@LN LOOPS) f31 f25 f32
@[reducible] def t7 : Ent := ⟨7, s7, fun x h => f7 x.1⟩
theorem k7 : chkNF Try.prog Try.f7 n7 = true := by kernel_rfl
theorem ok7 : NOk Try.prog t7 := NOk.body (T := [t31, t25, t32]) mixed (nall_cons ok31 (nall_cons ok25 (nall_cons ok32 nall_nil))) (oneEach_of (by kernel_rfl)) Try.func7 k7 (by kernel_rfl) (fun x h => e7 _ _ _ _ x h)
/- slices.Clone[[]drayage/api.Dep,drayage/api.Dep] -/
def n65_1 : NFunc := ⟨8, .seq (.region 0 [
 ⟨(some 2), .move (.const (.zsl)), none, 0, none⟩] []) (.seq (.seq (.region 0 [
 ⟨(some 3), .move (.tmp 0), none, 0, none⟩,
 ⟨(some 4), .eqI false (.tmp 3) (.const (.zsl)), none, 0, none⟩] []) (.cond (.tmp 4) (.seq (.region 0 [
 ⟨(some 2), .move (.const (.zsl)), none, 0, none⟩] []) (.ret)) (.skip))) (.seq (.region 2 [
 ⟨(some 5), .buildSlice 2 0 true [.int .i64 (0), .bool false] [], none, 0, none⟩,
 ⟨(some 6), .move (.tmp 0), none, 1, none⟩,
 ⟨(some 7), .append 2 16 true (.tmp 5) (.tmp 6), none, 1, none⟩,
 ⟨(some 2), .move (.tmp 7), none, 2, none⟩] []) (.ret))), [.tmp 2], false⟩
def s65_1 : Sig := ⟨(.cons (.v (.list .dep)) .nil), [], ((.slw 0 2), [.typed .dep]), []⟩
def F65_1 (L : Lp)  (as0 : (List Dep)) : Option (Unit × ((List Dep) × Unit)) :=
 cond (List.isEmpty as0)
 (none)
 (cond (smallB (0 + (List.length as0)) 16)
 (some ((), ([] ++ as0, ())))
 (none))
theorem e65_1 (L : Lp)  (x : s65_1.args.den) (h : denH s65_1.heap) : nrun [] L n65_1 s65_1 x h = F65_1 L  x.1 := by kernel_rfl
def f65_1 : (List Dep) → Option (Unit × ((List Dep) × Unit)) := F65_1 (@LN LOOPS) 
@[reducible] def t65_1 : Ent := ⟨65, s65_1, fun x h => f65_1 x.1⟩
theorem k65_1 : chkNF Try.prog Try.f65 n65_1 = true := by kernel_rfl
theorem ok65_1 : NOk Try.prog t65_1 := NOk.body (T := []) mixed nall_nil (oneEach_of (by kernel_rfl)) Try.func65 k65_1 (by kernel_rfl) (fun x h => e65_1 _  x h)
/- drayage/table.own -/
def n36_1 : NFunc := ⟨8, .seq (.region 2 [
 ⟨(some 1), .box 18 (.tmp 0), none, 0, none⟩,
 ⟨(some 2), .alloc [.int .i64 (0), .int .i64 (0), .int .i64 (0), .int .i64 (0), .int .i64 (0), .int .i64 (0), .int .i64 (0), .int .i64 (0), .int .i64 (0), .zsl, .int .i64 (0), .bool false, .bool false, .int .i64 (0), .int .i64 (0), .int .i64 (0), .int .i64 (0), .int .i64 (0)], none, 1, none⟩] []) (.seq (.region 4 [
 ⟨(some 3), .fieldAddr 9 (.tmp 1), none, 0, none⟩,
 ⟨(some 4), .load false 1 (.tmp 3), none, 0, none⟩,
 ⟨(some 5), .call (.func 65) [(false, (.tmp 4))] false 4, none, 0, none⟩,
 ⟨(some 6), .fieldAddr 9 (.tmp 1), none, 4, none⟩,
 ⟨none, .store 1 (.tmp 6) (.tmp 5), none, 4, none⟩] []) (.seq (.region 0 [
 ⟨(some 7), .load true 18 (.tmp 1), none, 0, none⟩,
 ⟨none, .store 18 (.tmp 2) (.tmp 7), none, 0, none⟩] []) (.ret))), [.cell true 18 2], false⟩
def s36_1 : Sig := ⟨(.cons (.v .job) .nil), [], ((.agg (.cons (.v (.int .i64)) (.cons (.v (.int .i64)) (.cons (.v (.int .i64)) (.cons (.v (.int .i64)) (.cons (.v (.int .i64)) (.cons (.v (.int .i64)) (.cons (.v (.int .i64)) (.cons (.v (.int .i64)) (.cons (.v (.int .i64)) (.cons (.slw 0 2) (.cons (.v (.int .i64)) (.cons (.v .bool) (.cons (.v .bool) (.cons (.v (.int .i64)) (.cons (.v (.int .i64)) (.cons (.v (.int .i64)) (.cons (.v (.int .i64)) (.cons (.v (.int .i64)) .nil))))))))))))))))))), [.typed .dep]), []⟩
def F36_1 (L : Lp) (g65_1 : (List Dep) → Option (Unit × ((List Dep) × Unit))) (j0 : Job) : Option ((Int × (Int × (Int × (Int × (Int × (Int × (Int × (Int × (Int × (Unit × (Int × (Bool × (Bool × (Int × (Int × (Int × (Int × (Int × Unit)))))))))))))))))) × ((List Dep) × Unit)) :=
 Option.bind (g65_1 j0.after) fun r1 =>
 some ((j0.id, j0.user, j0.queue, j0.many, j0.need.cpu, j0.need.mem, j0.need.gpu, j0.need.lic, j0.wall, (), j0.state, j0.ok, j0.kill, j0.version, j0.born, j0.start, j0.fin, j0.array, ()), (r1.2.1, ()))
theorem e36_1 (L : Lp) (g65_1 : (List Dep) → Option (Unit × ((List Dep) × Unit))) (x : s36_1.args.den) (h : denH s36_1.heap) : nrun [⟨65, s65_1, fun x h => g65_1 x.1⟩] L n36_1 s36_1 x h = F36_1 L g65_1 x.1 := by kernel_rfl
def f36_1 : Job → Option ((Int × (Int × (Int × (Int × (Int × (Int × (Int × (Int × (Int × (Unit × (Int × (Bool × (Bool × (Int × (Int × (Int × (Int × (Int × Unit)))))))))))))))))) × ((List Dep) × Unit)) := F36_1 (@LN LOOPS) f65_1
@[reducible] def t36_1 : Ent := ⟨36, s36_1, fun x h => f36_1 x.1⟩
theorem k36_1 : chkNF Try.prog Try.f36 n36_1 = true := by kernel_rfl
theorem ok36_1 : NOk Try.prog t36_1 := NOk.body (T := [t65_1]) mixed (nall_cons ok65_1 nall_nil) (oneEach_of (by kernel_rfl)) Try.func36 k36_1 (by kernel_rfl) (fun x h => e36_1 _ _ x h)
/- (*drayage/table.Table).Get -/
def n10_3 : NFunc := ⟨28, .seq (.region 1 [
 ⟨(some 4), .alloc [.int .i64 (0), .int .i64 (0), .int .i64 (0), .int .i64 (0), .int .i64 (0), .int .i64 (0), .int .i64 (0), .int .i64 (0), .int .i64 (0), .zsl, .int .i64 (0), .bool false, .bool false, .int .i64 (0), .int .i64 (0), .int .i64 (0), .int .i64 (0), .int .i64 (0)], none, 0, none⟩,
 ⟨(some 5), .move (.const (.bool false)), none, 1, none⟩] []) (.seq (.seq (.region 0 [
 ⟨(some 8), .move (.tmp 0), none, 0, none⟩,
 ⟨(some 9), .eqP false (.tmp 8) (.const (.nilp)), none, 0, none⟩] []) (.cond (.tmp 9) (.seq (.region 0 [
 ⟨(some 10), .build [.int .i64 (0), .int .i64 (0), .int .i64 (0), .int .i64 (0), .int .i64 (0), .int .i64 (0), .int .i64 (0), .int .i64 (0), .int .i64 (0), .zsl, .int .i64 (0), .bool false, .bool false, .int .i64 (0), .int .i64 (0), .int .i64 (0), .int .i64 (0), .int .i64 (0)] [], none, 0, none⟩,
 ⟨none, .store 18 (.tmp 4) (.tmp 10), none, 0, none⟩,
 ⟨(some 5), .move (.const (.bool false)), none, 0, none⟩] []) (.ret)) (.skip))) (.seq (.region 4 [
 ⟨(some 12), .move (.tmp 0), none, 0, none⟩,
 ⟨(some 13), .move (.tmp 1), none, 0, none⟩,
 ⟨(some 14), .call (.func 34) [(true, (.tmp 12)), (false, (.tmp 13))] false 4, none, 0, none⟩,
 ⟨(some 11), .move (.tmp 14), none, 4, none⟩,
 ⟨(some 15), .extract (.tmp 11) 0, none, 4, none⟩,
 ⟨(some 16), .extract (.tmp 11) 1, none, 4, none⟩,
 ⟨(some 6), .move (.tmp 15), none, 4, none⟩,
 ⟨(some 7), .move (.tmp 16), none, 4, none⟩] []) (.seq (.seq (.region 0 [
 ⟨(some 17), .move (.tmp 7), none, 0, none⟩,
 ⟨(some 18), .un .not (.tmp 17), none, 0, none⟩] []) (.cond (.tmp 18) (.seq (.region 0 [
 ⟨(some 19), .build [.int .i64 (0), .int .i64 (0), .int .i64 (0), .int .i64 (0), .int .i64 (0), .int .i64 (0), .int .i64 (0), .int .i64 (0), .int .i64 (0), .zsl, .int .i64 (0), .bool false, .bool false, .int .i64 (0), .int .i64 (0), .int .i64 (0), .int .i64 (0), .int .i64 (0)] [], none, 0, none⟩,
 ⟨none, .store 18 (.tmp 4) (.tmp 19), none, 0, none⟩,
 ⟨(some 5), .move (.const (.bool false)), none, 0, none⟩] []) (.ret)) (.skip))) (.seq (.region 4 [
 ⟨(some 20), .move (.tmp 0), none, 0, none⟩,
 ⟨(some 21), .nilCheck (.tmp 20), none, 0, none⟩,
 ⟨(some 22), .fieldAddr 1 (.tmp 21), none, 0, none⟩,
 ⟨(some 23), .load false 1 (.tmp 22), none, 0, none⟩,
 ⟨(some 24), .move (.tmp 6), none, 0, none⟩,
 ⟨(some 25), .indexSl 18 (.tmp 23) (.tmp 24), none, 0, none⟩,
 ⟨(some 26), .load true 18 (.tmp 25), none, 0, none⟩,
 ⟨(some 27), .call (.func 36) [(false, (.tmp 26))] false 4, none, 0, none⟩,
 ⟨none, .store 18 (.tmp 4) (.tmp 27), none, 4, none⟩,
 ⟨(some 5), .move (.const (.bool true)), none, 4, none⟩] []) (.ret))))), [.cell true 18 4, .tmp 5], false⟩
def s10_3 : Sig := ⟨(.cons (.ptr 0 0 0) (.cons (.v (.int .i64)) .nil)), [.cell false (.cons (.v (.int .i64)) (.cons (.slw 1 18) .nil)), .typed .job], ((.tup (.cons (.v .job) (.cons (.v .bool) .nil))), [.cell false (.cons (.v (.int .i64)) (.cons (.slw 1 18) .nil)), .typed .job]), [((.tup (.cons (.agg (.cons (.v (.int .i64)) (.cons (.v (.int .i64)) (.cons (.v (.int .i64)) (.cons (.v (.int .i64)) (.cons (.v (.int .i64)) (.cons (.v (.int .i64)) (.cons (.v (.int .i64)) (.cons (.v (.int .i64)) (.cons (.v (.int .i64)) (.cons (.slw 2 2) (.cons (.v (.int .i64)) (.cons (.v .bool) (.cons (.v .bool) (.cons (.v (.int .i64)) (.cons (.v (.int .i64)) (.cons (.v (.int .i64)) (.cons (.v (.int .i64)) (.cons (.v (.int .i64)) .nil))))))))))))))))))) (.cons (.v .bool) .nil))), [.cell false (.cons (.v (.int .i64)) (.cons (.slw 1 18) .nil)), .typed .job, .typed .dep])]⟩
@[reducible] def y10_3 : Type := (((Job × (Bool × Unit)) × ((Int × (Unit × Unit)) × ((List Job) × Unit))) ⊕ (((Int × (Int × (Int × (Int × (Int × (Int × (Int × (Int × (Int × (Unit × (Int × (Bool × (Bool × (Int × (Int × (Int × (Int × (Int × Unit)))))))))))))))))) × (Bool × Unit)) × ((Int × (Unit × Unit)) × ((List Job) × ((List Dep) × Unit)))))
def F10_3 (L : Lp) (g34_1 : Int → Int → (List Job) → Option ((Int × (Bool × Unit)) × ((Int × (Unit × Unit)) × ((List Job) × Unit)))) (g36_1 : Job → Option ((Int × (Int × (Int × (Int × (Int × (Int × (Int × (Int × (Int × (Unit × (Int × (Bool × (Bool × (Int × (Int × (Int × (Int × (Int × Unit)))))))))))))))))) × ((List Dep) × Unit))) (id0 : Int) (a1 : Int) (a2 : (List Job)) : Option y10_3 :=
 Option.bind (g34_1 id0 a1 a2) fun r3 =>
 cond (true && ((decide ((List.length r3.2.2.1) = (List.length a2))) && true))
 (cond (!r3.1.2.1)
 (some (.inl ((Job.mk 0 0 0 0 (Res.mk 0 0 0 0) 0 [] 0 false false 0 0 0 0 0, false, ()), ((r3.2.1.1, (), ()), r3.2.2.1, ()))))
 (cond (decide (0 ≤ r3.1.1))
 (cond (decide ((Int.toNat r3.1.1) < (List.length r3.2.2.1)))
 (Option.bind (r3.2.2.1[Int.toNat r3.1.1]?) fun y4 =>
 Option.bind (g36_1 y4) fun r5 =>
 some (.inr (((r5.1.1, r5.1.2.1, r5.1.2.2.1, r5.1.2.2.2.1, r5.1.2.2.2.2.1, r5.1.2.2.2.2.2.1, r5.1.2.2.2.2.2.2.1, r5.1.2.2.2.2.2.2.2.1, r5.1.2.2.2.2.2.2.2.2.1, (), r5.1.2.2.2.2.2.2.2.2.2.2.1, r5.1.2.2.2.2.2.2.2.2.2.2.2.1, r5.1.2.2.2.2.2.2.2.2.2.2.2.2.1, r5.1.2.2.2.2.2.2.2.2.2.2.2.2.2.1, r5.1.2.2.2.2.2.2.2.2.2.2.2.2.2.2.1, r5.1.2.2.2.2.2.2.2.2.2.2.2.2.2.2.2.1, r5.1.2.2.2.2.2.2.2.2.2.2.2.2.2.2.2.2.1, r5.1.2.2.2.2.2.2.2.2.2.2.2.2.2.2.2.2.2.1, ()), true, ()), ((r3.2.1.1, (), ()), r3.2.2.1, r5.2.1, ()))))
 (none))
 (none)))
 (none)
theorem e10_3 (L : Lp) (g34_1 : Int → Int → (List Job) → Option ((Int × (Bool × Unit)) × ((Int × (Unit × Unit)) × ((List Job) × Unit)))) (g36_1 : Job → Option ((Int × (Int × (Int × (Int × (Int × (Int × (Int × (Int × (Int × (Unit × (Int × (Bool × (Bool × (Int × (Int × (Int × (Int × (Int × Unit)))))))))))))))))) × ((List Dep) × Unit))) (x : s10_3.args.den) (h : denH s10_3.heap) : nrun [⟨34, s34_1, fun x h => g34_1 x.2.1 h.1.1 h.2.1⟩, ⟨36, s36_1, fun x h => g36_1 x.1⟩] L n10_3 s10_3 x h = F10_3 L g34_1 g36_1 x.2.1 h.1.1 h.2.1 := by kernel_rfl
def f10_3 : Int → Int → (List Job) → Option y10_3 := F10_3 (@LN LOOPS) f34_1 f36_1
@[reducible] def t10_3 : Ent := ⟨10, s10_3, fun x h => f10_3 x.2.1 h.1.1 h.2.1⟩
theorem k10_3 : chkNF Try.prog Try.f10 n10_3 = true := by kernel_rfl
theorem ok10_3 : NOk Try.prog t10_3 := NOk.body (T := [t34_1, t36_1]) mixed (nall_cons ok34_1 (nall_cons ok36_1 nall_nil)) (oneEach_of (by kernel_rfl)) Try.func10 k10_3 (by kernel_rfl) (fun x h => e10_3 _ _ _ x h)
/- slices.Clone[[]drayage/api.Job,drayage/api.Job] -/
def s37o : Sig := ⟨(.cons (.slw 0 18) .nil), [.typed .job], ((.slw 1 18), [.typed .job, .many 18 (.cons (.cons (.v (.int .i64)) (.cons (.v (.int .i64)) (.cons (.v (.int .i64)) (.cons (.v (.int .i64)) (.cons (.v (.int .i64)) (.cons (.v (.int .i64)) (.cons (.v (.int .i64)) (.cons (.v (.int .i64)) (.cons (.v (.int .i64)) (.cons (.v (.list .dep)) (.cons (.v (.int .i64)) (.cons (.v .bool) (.cons (.v .bool) (.cons (.v (.int .i64)) (.cons (.v (.int .i64)) (.cons (.v (.int .i64)) (.cons (.v (.int .i64)) (.cons (.v (.int .i64)) .nil)))))))))))))))))) .nil)]), []⟩
def f37o : (List Job) → Option ((Unit × ((List Job) × (((Int × (Int × (Int × (Int × (Int × (Int × (Int × (Int × (Int × ((List Dep) × (Int × (Bool × (Bool × (Int × (Int × (Int × (Int × (Int × Unit)))))))))))))))))) × Unit) × Unit)))) := cloneOne
@[reducible] def t37o : Ent := ⟨37, s37o, fun x h => f37o h.1⟩
theorem ok37o : NOk Try.prog t37o := exto37
/- (*drayage/table.Table).All -/
def n11 : NFunc := ⟨27, .seq (.region 0 [
 ⟨(some 2), .move (.const (.zsl)), none, 0, none⟩] []) (.seq (.seq (.region 0 [
 ⟨(some 6), .move (.tmp 0), none, 0, none⟩,
 ⟨(some 7), .eqP false (.tmp 6) (.const (.nilp)), none, 0, none⟩] []) (.cond (.tmp 7) (.seq (.region 0 [
 ⟨(some 2), .move (.const (.zsl)), none, 0, none⟩] []) (.ret)) (.skip))) (.seq (.region 4 [
 ⟨(some 8), .move (.tmp 0), none, 0, none⟩,
 ⟨(some 9), .nilCheck (.tmp 8), none, 0, none⟩,
 ⟨(some 10), .fieldAddr 1 (.tmp 9), none, 0, none⟩,
 ⟨(some 11), .load false 1 (.tmp 10), none, 0, none⟩,
 ⟨(some 12), .call (.func 37) [(true, (.tmp 11))] false 4, none, 0, none⟩,
 ⟨(some 3), .move (.tmp 12), none, 4, none⟩] []) (.seq (.seq (.region 0 [
 ⟨(some 13), .move (.tmp 3), none, 0, none⟩,
 ⟨(some 14), .len (.tmp 13), none, 0, none⟩,
 ⟨(some 15), .move (.const (.int .i64 (0))), none, 0, none⟩] []) (.block 0 (.loopU [3, 13, 14, 15] 2 (.seq (.region 0 [
 ⟨(some 16), .bin .lss (.tmp 15) (.tmp 14), none, 0, none⟩] []) (.seq (.cond (.tmp 16) (.skip) (.exit 0)) (.seq (.block 1 (.seq (.region 1 [
 ⟨(some 17), .move (.tmp 15), none, 0, none⟩,
 ⟨(some 18), .indexSl 18 (.tmp 13) (.tmp 15), none, 0, none⟩,
 ⟨(some 19), .load true 18 (.tmp 18), none, 0, none⟩,
 ⟨(some 5), .alloc [.int .i64 (0), .int .i64 (0), .int .i64 (0), .int .i64 (0), .int .i64 (0), .int .i64 (0), .int .i64 (0), .int .i64 (0), .int .i64 (0), .zsl, .int .i64 (0), .bool false, .bool false, .int .i64 (0), .int .i64 (0), .int .i64 (0), .int .i64 (0), .int .i64 (0)], none, 0, none⟩,
 ⟨(some 4), .move (.tmp 17), none, 1, none⟩,
 ⟨none, .store 18 (.tmp 5) (.tmp 19), none, 1, none⟩] []) (.region 4 [
 ⟨(some 20), .move (.tmp 3), none, 0, none⟩,
 ⟨(some 21), .move (.tmp 4), none, 0, none⟩,
 ⟨(some 22), .load true 18 (.tmp 5), none, 0, none⟩,
 ⟨(some 23), .call (.func 36) [(false, (.tmp 22))] false 4, none, 0, none⟩,
 ⟨(some 24), .indexSl 18 (.tmp 20) (.tmp 21), none, 4, none⟩,
 ⟨none, .store 18 (.tmp 24) (.tmp 23), none, 4, none⟩] []))) (.region 0 [
 ⟨(some 25), .bin .add (.tmp 15) (.const (.int .i64 (1))), none, 0, none⟩,
 ⟨(some 15), .move (.tmp 25), none, 0, none⟩] []))))))) (.seq (.region 0 [
 ⟨(some 26), .move (.tmp 3), none, 0, none⟩,
 ⟨(some 2), .move (.tmp 26), none, 0, none⟩] []) (.ret))))), [.tmp 2], false⟩
def s11 : Sig := ⟨(.cons (.ptr 0 0 0) .nil), [.cell false (.cons (.v (.int .i64)) (.cons (.slw 1 18) .nil)), .typed .job], ((.slw 2 18), [.cell false (.cons (.v (.int .i64)) (.cons (.slw 1 18) .nil)), .typed .job, .cell false (.cons (.v (.int .i64)) (.cons (.v (.int .i64)) (.cons (.v (.int .i64)) (.cons (.v (.int .i64)) (.cons (.v (.int .i64)) (.cons (.v (.int .i64)) (.cons (.v (.int .i64)) (.cons (.v (.int .i64)) (.cons (.v (.int .i64)) (.cons (.slw 3 2) (.cons (.v (.int .i64)) (.cons (.v .bool) (.cons (.v .bool) (.cons (.v (.int .i64)) (.cons (.v (.int .i64)) (.cons (.v (.int .i64)) (.cons (.v (.int .i64)) (.cons (.v (.int .i64)) .nil)))))))))))))))))), .typed .dep]), []⟩
def F11 (L : Lp) (g37o : (List Job) → Option (Unit × ((List Job) × (((Int × (Int × (Int × (Int × (Int × (Int × (Int × (Int × (Int × ((List Dep) × (Int × (Bool × (Bool × (Int × (Int × (Int × (Int × (Int × Unit)))))))))))))))))) × Unit) × Unit)))) (g36_1 : Job → Option ((Int × (Int × (Int × (Int × (Int × (Int × (Int × (Int × (Int × (Unit × (Int × (Bool × (Bool × (Int × (Int × (Int × (Int × (Int × Unit)))))))))))))))))) × ((List Dep) × Unit))) (a0 : Int) (a1 : (List Job)) : Option (Unit × ((Int × (Unit × Unit)) × ((List Job) × ((Int × (Int × (Int × (Int × (Int × (Int × (Int × (Int × (Int × (Unit × (Int × (Bool × (Bool × (Int × (Int × (Int × (Int × (Int × Unit)))))))))))))))))) × ((List Dep) × Unit))))) :=
 Option.bind (g37o a1) fun r2 =>
 cond ((decide ((List.length r2.2.1) = (List.length a1))) && true)
 (Option.bind (g36_1 (Job.mk r2.2.2.1.1.1 r2.2.2.1.1.2.1 r2.2.2.1.1.2.2.1 r2.2.2.1.1.2.2.2.1 (Res.mk r2.2.2.1.1.2.2.2.2.1 r2.2.2.1.1.2.2.2.2.2.1 r2.2.2.1.1.2.2.2.2.2.2.1 r2.2.2.1.1.2.2.2.2.2.2.2.1) r2.2.2.1.1.2.2.2.2.2.2.2.2.1 r2.2.2.1.1.2.2.2.2.2.2.2.2.2.1 r2.2.2.1.1.2.2.2.2.2.2.2.2.2.2.1 r2.2.2.1.1.2.2.2.2.2.2.2.2.2.2.2.1 r2.2.2.1.1.2.2.2.2.2.2.2.2.2.2.2.2.1 r2.2.2.1.1.2.2.2.2.2.2.2.2.2.2.2.2.2.1 r2.2.2.1.1.2.2.2.2.2.2.2.2.2.2.2.2.2.2.1 r2.2.2.1.1.2.2.2.2.2.2.2.2.2.2.2.2.2.2.2.1 r2.2.2.1.1.2.2.2.2.2.2.2.2.2.2.2.2.2.2.2.2.1 r2.2.2.1.1.2.2.2.2.2.2.2.2.2.2.2.2.2.2.2.2.2.1)) fun r3 =>
 some ((), ((a0, (), ()), r2.2.1, (r3.1.1, r3.1.2.1, r3.1.2.2.1, r3.1.2.2.2.1, r3.1.2.2.2.2.1, r3.1.2.2.2.2.2.1, r3.1.2.2.2.2.2.2.1, r3.1.2.2.2.2.2.2.2.1, r3.1.2.2.2.2.2.2.2.2.1, (), r3.1.2.2.2.2.2.2.2.2.2.2.1, r3.1.2.2.2.2.2.2.2.2.2.2.2.1, r3.1.2.2.2.2.2.2.2.2.2.2.2.2.1, r3.1.2.2.2.2.2.2.2.2.2.2.2.2.2.1, r3.1.2.2.2.2.2.2.2.2.2.2.2.2.2.2.1, r3.1.2.2.2.2.2.2.2.2.2.2.2.2.2.2.2.1, r3.1.2.2.2.2.2.2.2.2.2.2.2.2.2.2.2.2.1, r3.1.2.2.2.2.2.2.2.2.2.2.2.2.2.2.2.2.2.1, ()), r3.2.1, ())))
 (none)
theorem e11 (L : Lp) (g37o : (List Job) → Option (Unit × ((List Job) × (((Int × (Int × (Int × (Int × (Int × (Int × (Int × (Int × (Int × ((List Dep) × (Int × (Bool × (Bool × (Int × (Int × (Int × (Int × (Int × Unit)))))))))))))))))) × Unit) × Unit)))) (g36_1 : Job → Option ((Int × (Int × (Int × (Int × (Int × (Int × (Int × (Int × (Int × (Unit × (Int × (Bool × (Bool × (Int × (Int × (Int × (Int × (Int × Unit)))))))))))))))))) × ((List Dep) × Unit))) (x : s11.args.den) (h : denH s11.heap) : nrun [⟨37, s37o, fun x h => g37o h.1⟩, ⟨36, s36_1, fun x h => g36_1 x.1⟩] L n11 s11 x h = F11 L g37o g36_1 h.1.1 h.2.1 := by kernel_rfl
def f11 : Int → (List Job) → Option (Unit × ((Int × (Unit × Unit)) × ((List Job) × ((Int × (Int × (Int × (Int × (Int × (Int × (Int × (Int × (Int × (Unit × (Int × (Bool × (Bool × (Int × (Int × (Int × (Int × (Int × Unit)))))))))))))))))) × ((List Dep) × Unit))))) := F11 (@LN LOOPS) f37o f36_1
@[reducible] def t11 : Ent := ⟨11, s11, fun x h => f11 h.1.1 h.2.1⟩
theorem k11 : chkNF Try.prog Try.f11 n11 = true := by kernel_rfl
theorem ok11 : NOk Try.prog t11 := NOk.body (T := [t37o, t36_1]) mixed (nall_cons ok37o (nall_cons ok36_1 nall_nil)) (oneEach_of (by kernel_rfl)) Try.func11 k11 (by kernel_rfl) (fun x h => e11 _ _ _ x h)
/- drayage/drayagelaw18.TableApart -/
def n3 : NFunc := ⟨94, .seq (.region 2 [
 ⟨(some 2), .box 18 (.tmp 0), none, 0, none⟩,
 ⟨(some 3), .box 2 (.tmp 1), none, 1, none⟩,
 ⟨(some 4), .move (.const (.bool false)), none, 2, none⟩] []) (.seq (.seq (.region 4 [
 ⟨(some 12), .call (.func 6) [] false 4, none, 0, none⟩,
 ⟨(some 13), .un .not (.tmp 12), none, 4, none⟩] []) (.cond (.tmp 13) (.seq (.region 0 [
 ⟨(some 4), .move (.const (.bool false)), none, 0, none⟩] []) (.ret)) (.skip))) (.seq (.seq (.region 4 [
 ⟨(some 14), .load true 18 (.tmp 2), none, 0, none⟩,
 ⟨(some 15), .call (.func 7) [(false, (.tmp 14))] false 4, none, 0, none⟩,
 ⟨(some 16), .un .not (.tmp 15), none, 4, none⟩,
 ⟨(some 17), .move (.tmp 16), none, 4, none⟩,
 ⟨(some 18), .fieldAddr 9 (.tmp 2), (some (17, false)), 4, none⟩,
 ⟨(some 19), .load false 1 (.tmp 18), (some (17, false)), 4, none⟩,
 ⟨(some 20), .len (.tmp 19), (some (17, false)), 4, none⟩,
 ⟨(some 21), .bin .eql (.tmp 20) (.const (.int .i64 (0))), (some (17, false)), 4, none⟩,
 ⟨(some 22), .pick (.tmp 17) (.const (.bool true)) (.tmp 21), none, 4, none⟩] []) (.cond (.tmp 22) (.seq (.region 0 [
 ⟨(some 4), .move (.const (.bool true)), none, 0, none⟩] []) (.ret)) (.skip))) (.seq (.region 4 [
 ⟨(some 24), .call (.func 8) [(false, (.const (.int .i64 (3))))] false 4, none, 0, none⟩,
 ⟨(some 23), .move (.tmp 24), none, 4, none⟩,
 ⟨(some 25), .extract (.tmp 23) 0, none, 4, none⟩,
 ⟨(some 26), .extract (.tmp 23) 1, none, 4, none⟩,
 ⟨(some 5), .move (.tmp 25), none, 4, none⟩,
 ⟨(some 6), .move (.tmp 26), none, 4, none⟩] []) (.seq (.join [2, 5, 3] [] ⟨[(2, (.ptr 0 0 0)), (3, (.ptr 1 0 0)), (5, (.ptr 2 0 0))], [], [.one false .job, .one false .dep, .cell false (.cons (.v (.int .i64)) (.cons (.slw 3 18) .nil)), .typed .job]⟩ (.seq (.region 4 [
 ⟨(some 27), .move (.tmp 6), none, 0, none⟩,
 ⟨(some 28), .bin .neq (.tmp 27) (.const (.int .i64 (0))), none, 0, none⟩,
 ⟨(some 29), .move (.tmp 28), none, 0, none⟩,
 ⟨(some 30), .move (.tmp 5), (some (29, false)), 0, none⟩,
 ⟨(some 31), .load true 18 (.tmp 2), (some (29, false)), 0, none⟩,
 ⟨(some 32), .call (.func 9) [(true, (.tmp 30)), (false, (.tmp 31))] false 4, (some (29, false)), 0, none⟩,
 ⟨(some 33), .bin .neq (.tmp 32) (.const (.int .i64 (0))), (some (29, false)), 4, none⟩,
 ⟨(some 34), .pick (.tmp 29) (.const (.bool true)) (.tmp 33), none, 4, none⟩] []) (.cond (.tmp 34) (.seq (.region 0 [
 ⟨(some 4), .move (.const (.bool false)), none, 0, none⟩] []) (.ret)) (.skip)))) (.seq (.region 5 [
 ⟨(some 36), .move (.tmp 5), none, 0, none⟩,
 ⟨(some 37), .fieldAddr 0 (.tmp 2), none, 0, none⟩,
 ⟨(some 38), .load false 1 (.tmp 37), none, 0, none⟩,
 ⟨(some 39), .call (.func 10) [(true, (.tmp 36)), (false, (.tmp 38))] false 4, none, 0, none⟩,
 ⟨(some 35), .move (.tmp 39), none, 4, none⟩,
 ⟨(some 40), .extract (.tmp 35) 0, none, 4, none⟩,
 ⟨(some 41), .extract (.tmp 35) 1, none, 4, none⟩,
 ⟨(some 7), .alloc [.int .i64 (0), .int .i64 (0), .int .i64 (0), .int .i64 (0), .int .i64 (0), .int .i64 (0), .int .i64 (0), .int .i64 (0), .int .i64 (0), .zsl, .int .i64 (0), .bool false, .bool false, .int .i64 (0), .int .i64 (0), .int .i64 (0), .int .i64 (0), .int .i64 (0)], none, 4, none⟩,
 ⟨none, .store 18 (.tmp 7) (.tmp 40), none, 5, none⟩,
 ⟨(some 8), .move (.tmp 41), none, 5, none⟩] []) (.seq (.region 4 [
 ⟨(some 42), .move (.tmp 5), none, 0, none⟩,
 ⟨(some 43), .call (.func 11) [(true, (.tmp 42))] false 4, none, 0, none⟩,
 ⟨(some 9), .move (.tmp 43), none, 4, none⟩] []) (.seq (.join [2, 5, 3, 9, 7] [] ⟨[(2, (.ptr 0 0 0)), (3, (.ptr 1 0 0)), (5, (.ptr 2 0 0)), (7, (.ptr 3 0 0)), (9, (.slw 4 18))], [], [.one false .job, .one false .dep, .cell false (.cons (.v (.int .i64)) (.cons (.slw 5 18) .nil)), .cell false (.cons (.v (.int .i64)) (.cons (.v (.int .i64)) (.cons (.v (.int .i64)) (.cons (.v (.int .i64)) (.cons (.v (.int .i64)) (.cons (.v (.int .i64)) (.cons (.v (.int .i64)) (.cons (.v (.int .i64)) (.cons (.v (.int .i64)) (.cons (.slw 6 2) (.cons (.v (.int .i64)) (.cons (.v .bool) (.cons (.v .bool) (.cons (.v (.int .i64)) (.cons (.v (.int .i64)) (.cons (.v (.int .i64)) (.cons (.v (.int .i64)) (.cons (.v (.int .i64)) .nil)))))))))))))))))), .cell false (.cons (.v (.int .i64)) (.cons (.v (.int .i64)) (.cons (.v (.int .i64)) (.cons (.v (.int .i64)) (.cons (.v (.int .i64)) (.cons (.v (.int .i64)) (.cons (.v (.int .i64)) (.cons (.v (.int .i64)) (.cons (.v (.int .i64)) (.cons (.slw 7 2) (.cons (.v (.int .i64)) (.cons (.v .bool) (.cons (.v .bool) (.cons (.v (.int .i64)) (.cons (.v (.int .i64)) (.cons (.v (.int .i64)) (.cons (.v (.int .i64)) (.cons (.v (.int .i64)) .nil)))))))))))))))))), .typed .job, .typed .dep, .typed .dep]⟩ (.seq (.region 0 [
 ⟨(some 44), .move (.tmp 8), none, 0, (some ([], none))⟩,
 ⟨(some 45), .un .not (.tmp 44), none, 0, (some ([], none))⟩,
 ⟨(some 46), .move (.tmp 45), none, 0, (some ([], none))⟩,
 ⟨(some 47), .move (.tmp 9), (some (46, false)), 0, (some ([], none))⟩,
 ⟨(some 48), .len (.tmp 47), (some (46, false)), 0, (some ([], none))⟩,
 ⟨(some 49), .bin .neq (.tmp 48) (.const (.int .i64 (1))), (some (46, false)), 0, (some ([], none))⟩,
 ⟨(some 50), .pick (.tmp 46) (.const (.bool true)) (.tmp 49), none, 0, (some ([], none))⟩,
 ⟨(some 51), .move (.tmp 50), none, 0, (some ([], none))⟩,
 ⟨(some 52), .fieldAddr 9 (.tmp 7), (some (51, false)), 0, (some ([], none))⟩,
 ⟨(some 53), .load false 1 (.tmp 52), (some (51, false)), 0, (some ([], none))⟩,
 ⟨(some 54), .len (.tmp 53), (some (51, false)), 0, (some ([], none))⟩,
 ⟨(some 55), .fieldAddr 9 (.tmp 2), (some (51, false)), 0, (some ([], none))⟩,
 ⟨(some 56), .load false 1 (.tmp 55), (some (51, false)), 0, (some ([], none))⟩,
 ⟨(some 57), .len (.tmp 56), (some (51, false)), 0, (some ([], none))⟩,
 ⟨(some 58), .bin .neq (.tmp 54) (.tmp 57), (some (51, false)), 0, (some ([], none))⟩,
 ⟨(some 59), .pick (.tmp 51) (.const (.bool true)) (.tmp 58), none, 0, (some ([], none))⟩,
 ⟨(some 60), .move (.tmp 59), none, 0, (some ([], none))⟩,
 ⟨(some 61), .move (.tmp 9), (some (60, false)), 0, (some ([], none))⟩,
 ⟨(some 62), .indexSl 18 (.tmp 61) (.const (.int .i64 (0))), (some (60, false)), 0, (some ([], none))⟩,
 ⟨(some 63), .fieldAddr 9 (.tmp 62), (some (60, false)), 0, (some ([], none))⟩,
 ⟨(some 64), .load false 1 (.tmp 63), (some (60, false)), 0, (some ([], none))⟩,
 ⟨(some 65), .len (.tmp 64), (some (60, false)), 0, (some ([], none))⟩,
 ⟨(some 66), .fieldAddr 9 (.tmp 2), (some (60, false)), 0, (some ([], none))⟩,
 ⟨(some 67), .load false 1 (.tmp 66), (some (60, false)), 0, (some ([], none))⟩,
 ⟨(some 68), .len (.tmp 67), (some (60, false)), 0, (some ([], none))⟩,
 ⟨(some 69), .bin .neq (.tmp 65) (.tmp 68), (some (60, false)), 0, (some ([], none))⟩,
 ⟨(some 70), .pick (.tmp 60) (.const (.bool true)) (.tmp 69), none, 0, (some ([], none))⟩] []) (.cond (.tmp 70) (.seq (.region 0 [
 ⟨(some 4), .move (.const (.bool false)), none, 0, none⟩] []) (.ret)) (.skip)))) (.seq (.region 0 [
 ⟨(some 71), .fieldAddr 9 (.tmp 7), none, 0, none⟩,
 ⟨(some 72), .load false 1 (.tmp 71), none, 0, none⟩,
 ⟨(some 73), .load true 2 (.tmp 3), none, 0, none⟩,
 ⟨(some 74), .indexSl 2 (.tmp 72) (.const (.int .i64 (0))), none, 0, none⟩,
 ⟨none, .store 2 (.tmp 74) (.tmp 73), none, 0, none⟩] []) (.seq (.region 0 [
 ⟨(some 75), .move (.tmp 9), none, 0, (some ([], none))⟩,
 ⟨(some 76), .indexSl 18 (.tmp 75) (.const (.int .i64 (0))), none, 0, (some ([], none))⟩,
 ⟨(some 77), .fieldAddr 9 (.tmp 76), none, 0, (some ([], none))⟩,
 ⟨(some 78), .load false 1 (.tmp 77), none, 0, (some ([], none))⟩,
 ⟨(some 79), .load true 2 (.tmp 3), none, 0, (some ([], none))⟩,
 ⟨(some 80), .indexSl 2 (.tmp 78) (.const (.int .i64 (0))), none, 0, (some ([], none))⟩,
 ⟨none, .store 2 (.tmp 80) (.tmp 79), none, 0, (some ([], none))⟩] []) (.seq (.region 5 [
 ⟨(some 82), .move (.tmp 5), none, 0, none⟩,
 ⟨(some 83), .fieldAddr 0 (.tmp 2), none, 0, none⟩,
 ⟨(some 84), .load false 1 (.tmp 83), none, 0, none⟩,
 ⟨(some 85), .call (.func 10) [(true, (.tmp 82)), (false, (.tmp 84))] false 4, none, 0, none⟩,
 ⟨(some 81), .move (.tmp 85), none, 4, none⟩,
 ⟨(some 86), .extract (.tmp 81) 0, none, 4, none⟩,
 ⟨(some 87), .extract (.tmp 81) 1, none, 4, none⟩,
 ⟨(some 10), .alloc [.int .i64 (0), .int .i64 (0), .int .i64 (0), .int .i64 (0), .int .i64 (0), .int .i64 (0), .int .i64 (0), .int .i64 (0), .int .i64 (0), .zsl, .int .i64 (0), .bool false, .bool false, .int .i64 (0), .int .i64 (0), .int .i64 (0), .int .i64 (0), .int .i64 (0)], none, 4, none⟩,
 ⟨none, .store 18 (.tmp 10) (.tmp 86), none, 5, none⟩,
 ⟨(some 11), .move (.tmp 87), none, 5, none⟩] []) (.seq (.region 4 [
 ⟨(some 88), .move (.tmp 11), none, 0, none⟩,
 ⟨(some 89), .move (.tmp 88), none, 0, none⟩,
 ⟨(some 90), .load true 18 (.tmp 10), (some (89, true)), 0, none⟩,
 ⟨(some 91), .load true 18 (.tmp 2), (some (89, true)), 0, none⟩,
 ⟨(some 92), .call (.func 12) [(false, (.tmp 90)), (false, (.tmp 91))] false 4, (some (89, true)), 0, none⟩,
 ⟨(some 93), .pick (.tmp 89) (.tmp 92) (.const (.bool false)), none, 4, none⟩,
 ⟨(some 4), .move (.tmp 93), none, 4, none⟩] []) (.ret)))))))))))), [.tmp 4], false⟩
def s3 : Sig := ⟨(.cons (.v .job) (.cons (.v .dep) .nil)), [], ((.v .bool), []), []⟩
def F3 (L : Lp) (g6 : Option Bool) (g7 : Job → Option Bool) (g8 : Int → Option ((Unit × (Int × Unit)) ⊕ ((Unit × (Int × Unit)) × ((Int × (Unit × Unit)) × Unit)))) (g9 : Job → Option Int) (g10_3 : Int → Int → (List Job) → Option y10_3) (g11 : Int → (List Job) → Option (Unit × ((Int × (Unit × Unit)) × ((List Job) × ((Int × (Int × (Int × (Int × (Int × (Int × (Int × (Int × (Int × (Unit × (Int × (Bool × (Bool × (Int × (Int × (Int × (Int × (Int × Unit)))))))))))))))))) × ((List Dep) × Unit)))))) (g12 : Job → Job → Option Bool) (g9_1 : Job → Int → Option ((Int × ((Int × (Unit × Unit)) × Unit)) ⊕ (Int × ((Int × (Unit × Unit)) × ((List Job) × Unit))))) (j0 : Job) (d1 : Dep) : Option Bool :=
 Option.bind (g6) fun r2 =>
 cond (!r2)
 (some false)
 (Option.bind (g7 j0) fun r3 =>
 cond (!r3)
 (some true)
 (cond (decide ((List.length j0.after : Int) = 0))
 (some true)
 (Option.bind (g8 3) (Sum.elim (fun r4 =>
 Option.bind (α := (((Unit × (Unit × (Unit × Unit))) × (Job × (Dep × ((Int × (Unit × Unit)) × ((List Job) × Unit))))) ⊕ Bool))
 (cond (!decide (r4.2.1 = 0))
 (some (.inr false))
 (Option.bind (g9 j0) fun r5 =>
 cond (!decide (r5 = 0))
 (some (.inr false))
 (none))) (Sum.elim (fun x6 =>
 Option.bind (g10_3 x6.2.1.id x6.2.2.2.1.1 x6.2.2.2.2.1) (Sum.elim (fun r7 =>
 cond (true && ((decide ((List.length r7.2.2.1) = (List.length x6.2.2.2.2.1))) && true))
 (Option.bind (g11 r7.2.1.1 r7.2.2.1) fun r8 =>
 cond (true && ((decide ((List.length r8.2.2.1) = (List.length r7.2.2.1))) && true))
 (Option.bind (α := (((Unit × (Unit × (Unit × (Unit × (Unit × Unit))))) × (Job × (Dep × ((Int × (Unit × Unit)) × ((Int × (Int × (Int × (Int × (Int × (Int × (Int × (Int × (Int × (Unit × (Int × (Bool × (Bool × (Int × (Int × (Int × (Int × (Int × Unit)))))))))))))))))) × ((Int × (Int × (Int × (Int × (Int × (Int × (Int × (Int × (Int × (Unit × (Int × (Bool × (Bool × (Int × (Int × (Int × (Int × (Int × Unit)))))))))))))))))) × ((List Job) × ((List Dep) × ((List Dep) × Unit))))))))) ⊕ Bool))
 (cond (!r7.1.2.1)
 (some (.inr false))
 (cond (!decide ((List.length r7.1.1.after : Int) = (List.length x6.2.1.after : Int)))
 (some (.inr false))
 (cond (!decide ((List.length r8.2.2.2.2.1 : Int) = (List.length x6.2.1.after : Int)))
 (some (.inr false))
 (none)))) (Sum.elim (fun x9 =>
 cond (decide (0 < (List.length x9.2.2.2.2.2.2.2.1)))
 (Option.bind (x9.2.2.2.2.2.2.2.1[0]?) fun y10 =>
 cond (decide (0 < (List.length x9.2.2.2.2.2.2.2.2.1)))
 (Option.bind (x9.2.2.2.2.2.2.2.2.1[0]?) fun y11 =>
 Option.bind (g10_3 x9.2.1.id x9.2.2.2.1.1 x9.2.2.2.2.2.2.1) (Sum.elim (fun r12 =>
 cond (true && ((decide ((List.length r12.2.2.1) = (List.length x9.2.2.2.2.2.2.1))) && true))
 (cond r12.1.2.1
 (Option.bind (g12 r12.1.1 x9.2.1) fun r13 =>
 some r13)
 (some false))
 (none)) (fun r14 =>
 cond (true && ((decide ((List.length r14.2.2.1) = (List.length x9.2.2.2.2.2.2.1))) && true))
 (cond r14.1.2.1
 (Option.bind (g12 (Job.mk r14.1.1.1 r14.1.1.2.1 r14.1.1.2.2.1 r14.1.1.2.2.2.1 (Res.mk r14.1.1.2.2.2.2.1 r14.1.1.2.2.2.2.2.1 r14.1.1.2.2.2.2.2.2.1 r14.1.1.2.2.2.2.2.2.2.1) r14.1.1.2.2.2.2.2.2.2.2.1 r14.2.2.2.1 r14.1.1.2.2.2.2.2.2.2.2.2.2.1 r14.1.1.2.2.2.2.2.2.2.2.2.2.2.1 r14.1.1.2.2.2.2.2.2.2.2.2.2.2.2.1 r14.1.1.2.2.2.2.2.2.2.2.2.2.2.2.2.1 r14.1.1.2.2.2.2.2.2.2.2.2.2.2.2.2.2.1 r14.1.1.2.2.2.2.2.2.2.2.2.2.2.2.2.2.2.1 r14.1.1.2.2.2.2.2.2.2.2.2.2.2.2.2.2.2.2.1 r14.1.1.2.2.2.2.2.2.2.2.2.2.2.2.2.2.2.2.2.1) x9.2.1) fun r15 =>
 some r15)
 (some false))
 (none))))
 (none))
 (none)) some))
 (none))
 (none)) (fun r16 =>
 cond (true && ((decide ((List.length r16.2.2.1) = (List.length x6.2.2.2.2.1))) && true))
 (Option.bind (g11 r16.2.1.1 r16.2.2.1) fun r17 =>
 cond (true && ((decide ((List.length r17.2.2.1) = (List.length r16.2.2.1))) && true))
 (Option.bind (α := (((Unit × (Unit × (Unit × (Unit × (Unit × Unit))))) × (Job × (Dep × ((Int × (Unit × Unit)) × ((Int × (Int × (Int × (Int × (Int × (Int × (Int × (Int × (Int × (Unit × (Int × (Bool × (Bool × (Int × (Int × (Int × (Int × (Int × Unit)))))))))))))))))) × ((Int × (Int × (Int × (Int × (Int × (Int × (Int × (Int × (Int × (Unit × (Int × (Bool × (Bool × (Int × (Int × (Int × (Int × (Int × Unit)))))))))))))))))) × ((List Job) × ((List Dep) × ((List Dep) × Unit))))))))) ⊕ Bool))
 (cond (!r16.1.2.1)
 (some (.inr false))
 (cond (!decide ((List.length r16.2.2.2.1 : Int) = (List.length x6.2.1.after : Int)))
 (some (.inr false))
 (cond (!decide ((List.length r17.2.2.2.2.1 : Int) = (List.length x6.2.1.after : Int)))
 (some (.inr false))
 (some (.inl (((), (), (), (), (), ()), (x6.2.1, x6.2.2.1, (r17.2.1.1, (), ()), (r16.1.1.1, r16.1.1.2.1, r16.1.1.2.2.1, r16.1.1.2.2.2.1, r16.1.1.2.2.2.2.1, r16.1.1.2.2.2.2.2.1, r16.1.1.2.2.2.2.2.2.1, r16.1.1.2.2.2.2.2.2.2.1, r16.1.1.2.2.2.2.2.2.2.2.1, (), r16.1.1.2.2.2.2.2.2.2.2.2.2.1, r16.1.1.2.2.2.2.2.2.2.2.2.2.2.1, r16.1.1.2.2.2.2.2.2.2.2.2.2.2.2.1, r16.1.1.2.2.2.2.2.2.2.2.2.2.2.2.2.1, r16.1.1.2.2.2.2.2.2.2.2.2.2.2.2.2.2.1, r16.1.1.2.2.2.2.2.2.2.2.2.2.2.2.2.2.2.1, r16.1.1.2.2.2.2.2.2.2.2.2.2.2.2.2.2.2.2.1, r16.1.1.2.2.2.2.2.2.2.2.2.2.2.2.2.2.2.2.2.1, ()), (r17.2.2.2.1.1, r17.2.2.2.1.2.1, r17.2.2.2.1.2.2.1, r17.2.2.2.1.2.2.2.1, r17.2.2.2.1.2.2.2.2.1, r17.2.2.2.1.2.2.2.2.2.1, r17.2.2.2.1.2.2.2.2.2.2.1, r17.2.2.2.1.2.2.2.2.2.2.2.1, r17.2.2.2.1.2.2.2.2.2.2.2.2.1, (), r17.2.2.2.1.2.2.2.2.2.2.2.2.2.2.1, r17.2.2.2.1.2.2.2.2.2.2.2.2.2.2.2.1, r17.2.2.2.1.2.2.2.2.2.2.2.2.2.2.2.2.1, r17.2.2.2.1.2.2.2.2.2.2.2.2.2.2.2.2.2.1, r17.2.2.2.1.2.2.2.2.2.2.2.2.2.2.2.2.2.2.1, r17.2.2.2.1.2.2.2.2.2.2.2.2.2.2.2.2.2.2.2.1, r17.2.2.2.1.2.2.2.2.2.2.2.2.2.2.2.2.2.2.2.2.1, r17.2.2.2.1.2.2.2.2.2.2.2.2.2.2.2.2.2.2.2.2.2.1, ()), r17.2.2.1, r16.2.2.2.1, r17.2.2.2.2.1, ()))))))) (Sum.elim (fun x18 =>
 cond (decide (0 < (List.length x18.2.2.2.2.2.2.2.1)))
 (Option.bind (x18.2.2.2.2.2.2.2.1[0]?) fun y19 =>
 cond (decide (0 < (List.length x18.2.2.2.2.2.2.2.2.1)))
 (Option.bind (x18.2.2.2.2.2.2.2.2.1[0]?) fun y20 =>
 Option.bind (g10_3 x18.2.1.id x18.2.2.2.1.1 x18.2.2.2.2.2.2.1) (Sum.elim (fun r21 =>
 cond (true && ((decide ((List.length r21.2.2.1) = (List.length x18.2.2.2.2.2.2.1))) && true))
 (cond r21.1.2.1
 (Option.bind (g12 r21.1.1 x18.2.1) fun r22 =>
 some r22)
 (some false))
 (none)) (fun r23 =>
 cond (true && ((decide ((List.length r23.2.2.1) = (List.length x18.2.2.2.2.2.2.1))) && true))
 (cond r23.1.2.1
 (Option.bind (g12 (Job.mk r23.1.1.1 r23.1.1.2.1 r23.1.1.2.2.1 r23.1.1.2.2.2.1 (Res.mk r23.1.1.2.2.2.2.1 r23.1.1.2.2.2.2.2.1 r23.1.1.2.2.2.2.2.2.1 r23.1.1.2.2.2.2.2.2.2.1) r23.1.1.2.2.2.2.2.2.2.2.1 r23.2.2.2.1 r23.1.1.2.2.2.2.2.2.2.2.2.2.1 r23.1.1.2.2.2.2.2.2.2.2.2.2.2.1 r23.1.1.2.2.2.2.2.2.2.2.2.2.2.2.1 r23.1.1.2.2.2.2.2.2.2.2.2.2.2.2.2.1 r23.1.1.2.2.2.2.2.2.2.2.2.2.2.2.2.2.1 r23.1.1.2.2.2.2.2.2.2.2.2.2.2.2.2.2.2.1 r23.1.1.2.2.2.2.2.2.2.2.2.2.2.2.2.2.2.2.1 r23.1.1.2.2.2.2.2.2.2.2.2.2.2.2.2.2.2.2.2.1) x18.2.1) fun r24 =>
 some r24)
 (some false))
 (none))))
 (none))
 (none)) some))
 (none))
 (none)))) some)) (fun r25 =>
 Option.bind (α := (((Unit × (Unit × (Unit × Unit))) × (Job × (Dep × ((Int × (Unit × Unit)) × ((List Job) × Unit))))) ⊕ Bool))
 (cond (!decide (r25.1.2.1 = 0))
 (some (.inr false))
 (Option.bind (g9_1 j0 r25.2.1.1) (Sum.elim (fun r26 =>
 cond (!decide (r26.1 = 0))
 (some (.inr false))
 (none)) (fun r27 =>
 cond (!decide (r27.1 = 0))
 (some (.inr false))
 (some (.inl (((), (), (), ()), (j0, d1, (r27.2.1.1, (), ()), r27.2.2.1, ())))))))) (Sum.elim (fun x28 =>
 Option.bind (g10_3 x28.2.1.id x28.2.2.2.1.1 x28.2.2.2.2.1) (Sum.elim (fun r29 =>
 cond (true && ((decide ((List.length r29.2.2.1) = (List.length x28.2.2.2.2.1))) && true))
 (Option.bind (g11 r29.2.1.1 r29.2.2.1) fun r30 =>
 cond (true && ((decide ((List.length r30.2.2.1) = (List.length r29.2.2.1))) && true))
 (Option.bind (α := (((Unit × (Unit × (Unit × (Unit × (Unit × Unit))))) × (Job × (Dep × ((Int × (Unit × Unit)) × ((Int × (Int × (Int × (Int × (Int × (Int × (Int × (Int × (Int × (Unit × (Int × (Bool × (Bool × (Int × (Int × (Int × (Int × (Int × Unit)))))))))))))))))) × ((Int × (Int × (Int × (Int × (Int × (Int × (Int × (Int × (Int × (Unit × (Int × (Bool × (Bool × (Int × (Int × (Int × (Int × (Int × Unit)))))))))))))))))) × ((List Job) × ((List Dep) × ((List Dep) × Unit))))))))) ⊕ Bool))
 (cond (!r29.1.2.1)
 (some (.inr false))
 (cond (!decide ((List.length r29.1.1.after : Int) = (List.length x28.2.1.after : Int)))
 (some (.inr false))
 (cond (!decide ((List.length r30.2.2.2.2.1 : Int) = (List.length x28.2.1.after : Int)))
 (some (.inr false))
 (none)))) (Sum.elim (fun x31 =>
 cond (decide (0 < (List.length x31.2.2.2.2.2.2.2.1)))
 (Option.bind (x31.2.2.2.2.2.2.2.1[0]?) fun y32 =>
 cond (decide (0 < (List.length x31.2.2.2.2.2.2.2.2.1)))
 (Option.bind (x31.2.2.2.2.2.2.2.2.1[0]?) fun y33 =>
 Option.bind (g10_3 x31.2.1.id x31.2.2.2.1.1 x31.2.2.2.2.2.2.1) (Sum.elim (fun r34 =>
 cond (true && ((decide ((List.length r34.2.2.1) = (List.length x31.2.2.2.2.2.2.1))) && true))
 (cond r34.1.2.1
 (Option.bind (g12 r34.1.1 x31.2.1) fun r35 =>
 some r35)
 (some false))
 (none)) (fun r36 =>
 cond (true && ((decide ((List.length r36.2.2.1) = (List.length x31.2.2.2.2.2.2.1))) && true))
 (cond r36.1.2.1
 (Option.bind (g12 (Job.mk r36.1.1.1 r36.1.1.2.1 r36.1.1.2.2.1 r36.1.1.2.2.2.1 (Res.mk r36.1.1.2.2.2.2.1 r36.1.1.2.2.2.2.2.1 r36.1.1.2.2.2.2.2.2.1 r36.1.1.2.2.2.2.2.2.2.1) r36.1.1.2.2.2.2.2.2.2.2.1 r36.2.2.2.1 r36.1.1.2.2.2.2.2.2.2.2.2.2.1 r36.1.1.2.2.2.2.2.2.2.2.2.2.2.1 r36.1.1.2.2.2.2.2.2.2.2.2.2.2.2.1 r36.1.1.2.2.2.2.2.2.2.2.2.2.2.2.2.1 r36.1.1.2.2.2.2.2.2.2.2.2.2.2.2.2.2.1 r36.1.1.2.2.2.2.2.2.2.2.2.2.2.2.2.2.2.1 r36.1.1.2.2.2.2.2.2.2.2.2.2.2.2.2.2.2.2.1 r36.1.1.2.2.2.2.2.2.2.2.2.2.2.2.2.2.2.2.2.1) x31.2.1) fun r37 =>
 some r37)
 (some false))
 (none))))
 (none))
 (none)) some))
 (none))
 (none)) (fun r38 =>
 cond (true && ((decide ((List.length r38.2.2.1) = (List.length x28.2.2.2.2.1))) && true))
 (Option.bind (g11 r38.2.1.1 r38.2.2.1) fun r39 =>
 cond (true && ((decide ((List.length r39.2.2.1) = (List.length r38.2.2.1))) && true))
 (Option.bind (α := (((Unit × (Unit × (Unit × (Unit × (Unit × Unit))))) × (Job × (Dep × ((Int × (Unit × Unit)) × ((Int × (Int × (Int × (Int × (Int × (Int × (Int × (Int × (Int × (Unit × (Int × (Bool × (Bool × (Int × (Int × (Int × (Int × (Int × Unit)))))))))))))))))) × ((Int × (Int × (Int × (Int × (Int × (Int × (Int × (Int × (Int × (Unit × (Int × (Bool × (Bool × (Int × (Int × (Int × (Int × (Int × Unit)))))))))))))))))) × ((List Job) × ((List Dep) × ((List Dep) × Unit))))))))) ⊕ Bool))
 (cond (!r38.1.2.1)
 (some (.inr false))
 (cond (!decide ((List.length r38.2.2.2.1 : Int) = (List.length x28.2.1.after : Int)))
 (some (.inr false))
 (cond (!decide ((List.length r39.2.2.2.2.1 : Int) = (List.length x28.2.1.after : Int)))
 (some (.inr false))
 (some (.inl (((), (), (), (), (), ()), (x28.2.1, x28.2.2.1, (r39.2.1.1, (), ()), (r38.1.1.1, r38.1.1.2.1, r38.1.1.2.2.1, r38.1.1.2.2.2.1, r38.1.1.2.2.2.2.1, r38.1.1.2.2.2.2.2.1, r38.1.1.2.2.2.2.2.2.1, r38.1.1.2.2.2.2.2.2.2.1, r38.1.1.2.2.2.2.2.2.2.2.1, (), r38.1.1.2.2.2.2.2.2.2.2.2.2.1, r38.1.1.2.2.2.2.2.2.2.2.2.2.2.1, r38.1.1.2.2.2.2.2.2.2.2.2.2.2.2.1, r38.1.1.2.2.2.2.2.2.2.2.2.2.2.2.2.1, r38.1.1.2.2.2.2.2.2.2.2.2.2.2.2.2.2.1, r38.1.1.2.2.2.2.2.2.2.2.2.2.2.2.2.2.2.1, r38.1.1.2.2.2.2.2.2.2.2.2.2.2.2.2.2.2.2.1, r38.1.1.2.2.2.2.2.2.2.2.2.2.2.2.2.2.2.2.2.1, ()), (r39.2.2.2.1.1, r39.2.2.2.1.2.1, r39.2.2.2.1.2.2.1, r39.2.2.2.1.2.2.2.1, r39.2.2.2.1.2.2.2.2.1, r39.2.2.2.1.2.2.2.2.2.1, r39.2.2.2.1.2.2.2.2.2.2.1, r39.2.2.2.1.2.2.2.2.2.2.2.1, r39.2.2.2.1.2.2.2.2.2.2.2.2.1, (), r39.2.2.2.1.2.2.2.2.2.2.2.2.2.2.1, r39.2.2.2.1.2.2.2.2.2.2.2.2.2.2.2.1, r39.2.2.2.1.2.2.2.2.2.2.2.2.2.2.2.2.1, r39.2.2.2.1.2.2.2.2.2.2.2.2.2.2.2.2.2.1, r39.2.2.2.1.2.2.2.2.2.2.2.2.2.2.2.2.2.2.1, r39.2.2.2.1.2.2.2.2.2.2.2.2.2.2.2.2.2.2.2.1, r39.2.2.2.1.2.2.2.2.2.2.2.2.2.2.2.2.2.2.2.2.1, r39.2.2.2.1.2.2.2.2.2.2.2.2.2.2.2.2.2.2.2.2.2.1, ()), r39.2.2.1, r38.2.2.2.1, r39.2.2.2.2.1, ()))))))) (Sum.elim (fun x40 =>
 cond (decide (0 < (List.length x40.2.2.2.2.2.2.2.1)))
 (Option.bind (x40.2.2.2.2.2.2.2.1[0]?) fun y41 =>
 cond (decide (0 < (List.length x40.2.2.2.2.2.2.2.2.1)))
 (Option.bind (x40.2.2.2.2.2.2.2.2.1[0]?) fun y42 =>
 Option.bind (g10_3 x40.2.1.id x40.2.2.2.1.1 x40.2.2.2.2.2.2.1) (Sum.elim (fun r43 =>
 cond (true && ((decide ((List.length r43.2.2.1) = (List.length x40.2.2.2.2.2.2.1))) && true))
 (cond r43.1.2.1
 (Option.bind (g12 r43.1.1 x40.2.1) fun r44 =>
 some r44)
 (some false))
 (none)) (fun r45 =>
 cond (true && ((decide ((List.length r45.2.2.1) = (List.length x40.2.2.2.2.2.2.1))) && true))
 (cond r45.1.2.1
 (Option.bind (g12 (Job.mk r45.1.1.1 r45.1.1.2.1 r45.1.1.2.2.1 r45.1.1.2.2.2.1 (Res.mk r45.1.1.2.2.2.2.1 r45.1.1.2.2.2.2.2.1 r45.1.1.2.2.2.2.2.2.1 r45.1.1.2.2.2.2.2.2.2.1) r45.1.1.2.2.2.2.2.2.2.2.1 r45.2.2.2.1 r45.1.1.2.2.2.2.2.2.2.2.2.2.1 r45.1.1.2.2.2.2.2.2.2.2.2.2.2.1 r45.1.1.2.2.2.2.2.2.2.2.2.2.2.2.1 r45.1.1.2.2.2.2.2.2.2.2.2.2.2.2.2.1 r45.1.1.2.2.2.2.2.2.2.2.2.2.2.2.2.2.1 r45.1.1.2.2.2.2.2.2.2.2.2.2.2.2.2.2.2.1 r45.1.1.2.2.2.2.2.2.2.2.2.2.2.2.2.2.2.2.1 r45.1.1.2.2.2.2.2.2.2.2.2.2.2.2.2.2.2.2.2.1) x40.2.1) fun r46 =>
 some r46)
 (some false))
 (none))))
 (none))
 (none)) some))
 (none))
 (none)))) some))))))
theorem e3 (L : Lp) (g6 : Option Bool) (g7 : Job → Option Bool) (g8 : Int → Option ((Unit × (Int × Unit)) ⊕ ((Unit × (Int × Unit)) × ((Int × (Unit × Unit)) × Unit)))) (g9 : Job → Option Int) (g10_3 : Int → Int → (List Job) → Option y10_3) (g11 : Int → (List Job) → Option (Unit × ((Int × (Unit × Unit)) × ((List Job) × ((Int × (Int × (Int × (Int × (Int × (Int × (Int × (Int × (Int × (Unit × (Int × (Bool × (Bool × (Int × (Int × (Int × (Int × (Int × Unit)))))))))))))))))) × ((List Dep) × Unit)))))) (g12 : Job → Job → Option Bool) (g9_1 : Job → Int → Option ((Int × ((Int × (Unit × Unit)) × Unit)) ⊕ (Int × ((Int × (Unit × Unit)) × ((List Job) × Unit))))) (x : s3.args.den) (h : denH s3.heap) : nrun [⟨6, s6, fun x h => g6 ⟩, ⟨7, s7, fun x h => g7 x.1⟩, ⟨8, s8, fun x h => g8 x.1⟩, ⟨9, s9, fun x h => g9 x.2.1⟩, ⟨10, s10_3, fun x h => g10_3 x.2.1 h.1.1 h.2.1⟩, ⟨11, s11, fun x h => g11 h.1.1 h.2.1⟩, ⟨12, s12, fun x h => g12 x.1 x.2.1⟩, ⟨9, s9_1, fun x h => g9_1 x.2.1 h.1.1⟩] L n3 s3 x h = F3 L g6 g7 g8 g9 g10_3 g11 g12 g9_1 x.1 x.2.1 := by kernel_rfl
def f3 : Job → Dep → Option Bool := F3 (@LN LOOPS) f6 f7 f8 f9 f10_3 f11 f12 f9_1
@[reducible] def t3 : Ent := ⟨3, s3, fun x h => f3 x.1 x.2.1⟩
theorem k3 : chkNF Try.prog Try.f3 n3 = true := by kernel_rfl
theorem ok3 : NOk Try.prog t3 := NOk.body (T := [t6, t7, t8, t9, t10_3, t11, t12, t9_1]) mixed (nall_cons ok6 (nall_cons ok7 (nall_cons ok8 (nall_cons ok9 (nall_cons ok10_3 (nall_cons ok11 (nall_cons ok12 (nall_cons ok9_1 nall_nil)))))))) (oneEach_of (by kernel_rfl)) Try.func3 k3 (by kernel_rfl) (fun x h => e3 _ _ _ _ _ _ _ _ _ x h)
end NM
end Go.Proofs.Ytfelhbeiegppgaa
