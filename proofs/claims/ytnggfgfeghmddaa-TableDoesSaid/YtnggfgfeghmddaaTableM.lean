/-
  The plain forms of the functions that the statement reaches, and that each is its function's body. (Written by program.)
-/
import Derived.Test.YtnggfgfeghmddaaNmX
import Derived.Test.YtnggfgfeghmddaaProg
import Derived.ProofKit
import Derived.Test.YtnggfgfeghmddaaInsJob
import Derived.Test.YtnggfgfeghmddaaDelJob
import Derived.Test.YtnggfgfeghmddaaCloneJob
set_option linter.unusedVariables false
set_option maxRecDepth 100000
set_option maxHeartbeats 4000000
namespace Go.Proofs.Ytnggfgfeghmddaa
namespace NM
open AM Go.RowKit
theorem mixed : Try.prog.follows .mixedOrders = true := by kernel_rfl
/- drayage/table.New -/
def n18 : NFunc := ⟨13, .seq (.region 0 [
    ⟨(some 2), .move (.const (.nilp)), none, 0, none⟩,
    ⟨(some 3), .move (.const (.int .i64 (0))), none, 0, none⟩] []) (.seq (.seq (.region 0 [
    ⟨(some 4), .move (.tmp 0), none, 0, none⟩,
    ⟨(some 5), .bin .lss (.tmp 4) (.const (.int .i64 (1))), none, 0, none⟩,
    ⟨(some 6), .move (.tmp 5), none, 0, none⟩,
    ⟨(some 7), .move (.tmp 0), (some (6, false)), 0, none⟩,
    ⟨(some 8), .bin .gtr (.tmp 7) (.const (.int .i64 (256))), (some (6, false)), 0, none⟩,
    ⟨(some 9), .pick (.tmp 6) (.const (.bool true)) (.tmp 8), none, 0, none⟩] []) (.cond (.tmp 9) (.seq (.region 0 [
    ⟨(some 2), .move (.const (.nilp)), none, 0, none⟩,
    ⟨(some 3), .move (.const (.int .i64 (2))), none, 0, none⟩] []) (.ret)) (.skip))) (.seq (.region 1 [
    ⟨(some 10), .move (.tmp 0), none, 0, none⟩,
    ⟨(some 11), .build [.int .i64 (0), .zsl] [(0, 1, (.tmp 10))], none, 0, none⟩,
    ⟨(some 12), .box 2 (.tmp 11), none, 0, none⟩,
    ⟨(some 2), .move (.tmp 12), none, 1, none⟩,
    ⟨(some 3), .move (.const (.int .i64 (0))), none, 1, none⟩] []) (.ret))), [.tmp 2, .tmp 3], false⟩
def s18 : Sig := ⟨(.cons (.v (.int .i64)) .nil), [], ((.tup (.cons .nilp (.cons (.v (.int .i64)) .nil))), []), [((.tup (.cons (.ptr 0 0 0) (.cons (.v (.int .i64)) .nil))), [.cell false (.cons (.v (.int .i64)) (.cons .zsl .nil))])]⟩
def F18 (L : Lp)  (places0 : Int) : Option ((Unit × (Int × Unit)) ⊕ ((Unit × (Int × Unit)) × ((Int × (Unit × Unit)) × Unit))) :=
  cond (decide (places0 < 1))
  (some (.inl ((), 2, ())))
  (cond (decide (256 < places0))
  (some (.inl ((), 2, ())))
  (some (.inr (((), 0, ()), ((places0, (), ()), ())))))
theorem e18 (L : Lp)  (x : s18.args.den) (h : denH s18.heap) : nrun [] L n18 s18 x h = F18 L  x.1 := by kernel_rfl
def f18 : Int → Option ((Unit × (Int × Unit)) ⊕ ((Unit × (Int × Unit)) × ((Int × (Unit × Unit)) × Unit))) := F18 (@LN LOOPS) 
@[reducible] def t18 : Ent := ⟨18, s18, fun x h => f18 x.1⟩
theorem k18 : chkNF Try.prog Try.f18 n18 = true := by kernel_rfl
theorem ok18 : NOk Try.prog t18 := NOk.body (T := []) mixed nall_nil (oneEach_of (by kernel_rfl)) Try.func18 k18 (by kernel_rfl) (fun x h => e18 _  x h)
/- drayage/drayagelaw18.one -/
def n10 : NFunc := ⟨6, .seq (.region 1 [
    ⟨(some 2), .alloc [.int .i64 (0), .int .i64 (0), .int .i64 (0), .int .i64 (0), .int .i64 (0), .int .i64 (0), .int .i64 (0), .int .i64 (0), .int .i64 (0), .zsl, .int .i64 (0), .bool false, .bool false, .int .i64 (0), .int .i64 (0), .int .i64 (0), .int .i64 (0), .int .i64 (0)], none, 0, none⟩] []) (.seq (.region 0 [
    ⟨(some 3), .move (.tmp 0), none, 0, none⟩,
    ⟨(some 4), .build [.int .i64 (0), .int .i64 (0), .int .i64 (0), .int .i64 (0)] [(0, 1, (.const (.int .i64 (1))))], none, 0, none⟩,
    ⟨(some 5), .build [.int .i64 (0), .int .i64 (0), .int .i64 (0), .int .i64 (0), .int .i64 (0), .int .i64 (0), .int .i64 (0), .int .i64 (0), .int .i64 (0), .zsl, .int .i64 (0), .bool false, .bool false, .int .i64 (0), .int .i64 (0), .int .i64 (0), .int .i64 (0), .int .i64 (0)] [(0, 1, (.tmp 3)), (3, 1, (.const (.int .i64 (1)))), (4, 4, (.tmp 4)), (8, 1, (.const (.int .i64 (1)))), (10, 1, (.const (.int .i64 (1)))), (13, 1, (.const (.int .i64 (1))))], none, 0, none⟩,
    ⟨none, .store 18 (.tmp 2) (.tmp 5), none, 0, none⟩] []) (.ret)), [.cell true 18 2], true⟩
def s10 : Sig := ⟨(.cons (.v (.int .i64)) .nil), [], ((.v .job), []), []⟩
def F10 (L : Lp)  (id0 : Int) : Option Job :=
  some (Job.mk id0 0 0 1 (Res.mk 1 0 0 0) 1 [] 1 false false 1 0 0 0 0)
theorem e10 (L : Lp)  (x : s10.args.den) (h : denH s10.heap) : nrun [] L n10 s10 x h = F10 L  x.1 := by kernel_rfl
def f10 : Int → Option Job := F10 (@LN LOOPS) 
@[reducible] def t10 : Ent := ⟨10, s10, fun x h => f10 x.1⟩
theorem k10 : chkNF Try.prog Try.f10 n10 = true := by kernel_rfl
theorem ok10 : NOk Try.prog t10 := NOk.body (T := []) mixed nall_nil (oneEach_of (by kernel_rfl)) Try.func10 k10 (by kernel_rfl) (fun x h => e10 _  x h)
/- (*drayage/table.Table).Put -/
def n9 : NFunc := ⟨42, .seq (.region 1 [
    ⟨(some 3), .box 18 (.tmp 1), none, 0, none⟩,
    ⟨(some 4), .move (.const (.int .i64 (0))), none, 1, none⟩] []) (.seq (.seq (.region 0 [
    ⟨(some 7), .move (.tmp 0), none, 0, none⟩,
    ⟨(some 8), .eqP false (.tmp 7) (.const (.nilp)), none, 0, none⟩] []) (.cond (.tmp 8) (.seq (.region 0 [
    ⟨(some 4), .move (.const (.int .i64 (1))), none, 0, none⟩] []) (.ret)) (.skip))) (.seq (.seq (.region 4 [
    ⟨(some 9), .load true 18 (.tmp 3), none, 0, none⟩,
    ⟨(some 10), .call (.func 40) [(false, (.tmp 9))] false 4, none, 0, none⟩,
    ⟨(some 11), .un .not (.tmp 10), none, 4, none⟩] []) (.cond (.tmp 11) (.seq (.region 0 [
    ⟨(some 4), .move (.const (.int .i64 (2))), none, 0, none⟩] []) (.ret)) (.skip))) (.seq (.region 4 [
    ⟨(some 13), .move (.tmp 0), none, 0, none⟩,
    ⟨(some 14), .fieldAddr 0 (.tmp 3), none, 0, none⟩,
    ⟨(some 15), .load false 1 (.tmp 14), none, 0, none⟩,
    ⟨(some 16), .call (.func 38) [(true, (.tmp 13)), (false, (.tmp 15))] false 4, none, 0, none⟩,
    ⟨(some 12), .move (.tmp 16), none, 4, none⟩,
    ⟨(some 17), .extract (.tmp 12) 0, none, 4, none⟩,
    ⟨(some 18), .extract (.tmp 12) 1, none, 4, none⟩,
    ⟨(some 5), .move (.tmp 17), none, 4, none⟩,
    ⟨(some 6), .move (.tmp 18), none, 4, none⟩] []) (.seq (.seq (.region 0 [
    ⟨(some 19), .move (.tmp 6), none, 0, none⟩] []) (.cond (.tmp 19) (.seq (.region 0 [
    ⟨(some 4), .move (.const (.int .i64 (31))), none, 0, none⟩] []) (.ret)) (.skip))) (.seq (.seq (.region 0 [
    ⟨(some 20), .move (.tmp 0), none, 0, (some ([], none))⟩,
    ⟨(some 21), .nilCheck (.tmp 20), none, 0, (some ([], none))⟩,
    ⟨(some 22), .fieldAddr 1 (.tmp 21), none, 0, (some ([], none))⟩,
    ⟨(some 23), .load false 1 (.tmp 22), none, 0, (some ([], none))⟩,
    ⟨(some 24), .len (.tmp 23), none, 0, (some ([], none))⟩,
    ⟨(some 25), .move (.tmp 0), none, 0, (some ([], none))⟩,
    ⟨(some 26), .nilCheck (.tmp 25), none, 0, (some ([], none))⟩,
    ⟨(some 27), .fieldAddr 0 (.tmp 26), none, 0, (some ([], none))⟩,
    ⟨(some 28), .load false 1 (.tmp 27), none, 0, (some ([], none))⟩,
    ⟨(some 29), .bin .eql (.tmp 24) (.tmp 28), none, 0, (some ([], none))⟩] []) (.cond (.tmp 29) (.seq (.region 0 [
    ⟨(some 4), .move (.const (.int .i64 (35))), none, 0, none⟩] []) (.ret)) (.skip))) (.seq (.region 9 [
    ⟨(some 30), .move (.tmp 0), none, 0, (some ([], none))⟩,
    ⟨(some 31), .move (.tmp 0), none, 0, (some ([], none))⟩,
    ⟨(some 32), .nilCheck (.tmp 31), none, 0, (some ([], none))⟩,
    ⟨(some 33), .fieldAddr 1 (.tmp 32), none, 0, (some ([], none))⟩,
    ⟨(some 34), .load false 1 (.tmp 33), none, 0, (some ([], none))⟩,
    ⟨(some 35), .move (.tmp 5), none, 0, (some ([], none))⟩,
    ⟨(some 36), .load true 18 (.tmp 3), none, 0, (some ([], none))⟩,
    ⟨(some 37), .call (.func 39) [(false, (.tmp 36))] true 4, none, 0, (some ([], none))⟩,
    ⟨(some 38), .buildSlice 18 1 true [.int .i64 (0), .int .i64 (0), .int .i64 (0), .int .i64 (0), .int .i64 (0), .int .i64 (0), .int .i64 (0), .int .i64 (0), .int .i64 (0), .zsl, .int .i64 (0), .bool false, .bool false, .int .i64 (0), .int .i64 (0), .int .i64 (0), .int .i64 (0), .int .i64 (0)] [(0, (.tmp 37))], none, 4, (some ([0, 1, 2, 3], none))⟩,
    ⟨(some 39), .call (.func 41) [(true, (.tmp 34)), (false, (.tmp 35)), (true, (.tmp 38))] false 4, none, 5, (some ([0, 1, 2, 3, 4], none))⟩,
    ⟨(some 40), .nilCheck (.tmp 30), none, 9, (some ([0, 1, 2, 3, 4, 5, 6, 7, 8], none))⟩,
    ⟨(some 41), .fieldAddr 1 (.tmp 40), none, 9, (some ([0, 1, 2, 3, 4, 5, 6, 7, 8], none))⟩,
    ⟨none, .store 1 (.tmp 41) (.tmp 39), none, 9, (some ([0, 1, 2, 3, 4, 5, 6, 7, 8], none))⟩] []) (.seq (.region 0 [
    ⟨(some 4), .move (.const (.int .i64 (0))), none, 0, none⟩] []) (.ret)))))))), [.tmp 4], true⟩
def s9 : Sig := ⟨(.cons .nilp (.cons (.v .job) .nil)), [], ((.v (.int .i64)), []), []⟩
def F9 (L : Lp)  (j0 : Job) : Option Int :=
  some 1
theorem e9 (L : Lp)  (x : s9.args.den) (h : denH s9.heap) : nrun [] L n9 s9 x h = F9 L  x.2.1 := by kernel_rfl
def f9 : Job → Option Int := F9 (@LN LOOPS) 
@[reducible] def t9 : Ent := ⟨9, s9, fun x h => f9 x.2.1⟩
theorem k9 : chkNF Try.prog Try.f9 n9 = true := by kernel_rfl
theorem ok9 : NOk Try.prog t9 := NOk.body (T := []) mixed nall_nil (oneEach_of (by kernel_rfl)) Try.func9 k9 (by kernel_rfl) (fun x h => e9 _  x h)
/- (*drayage/table.Table).Get -/
def n8 : NFunc := ⟨28, .seq (.region 1 [
    ⟨(some 4), .alloc [.int .i64 (0), .int .i64 (0), .int .i64 (0), .int .i64 (0), .int .i64 (0), .int .i64 (0), .int .i64 (0), .int .i64 (0), .int .i64 (0), .zsl, .int .i64 (0), .bool false, .bool false, .int .i64 (0), .int .i64 (0), .int .i64 (0), .int .i64 (0), .int .i64 (0)], none, 0, none⟩,
    ⟨(some 5), .move (.const (.bool false)), none, 1, none⟩] []) (.seq (.seq (.region 0 [
    ⟨(some 8), .move (.tmp 0), none, 0, none⟩,
    ⟨(some 9), .eqP false (.tmp 8) (.const (.nilp)), none, 0, none⟩] []) (.cond (.tmp 9) (.seq (.region 0 [
    ⟨(some 10), .build [.int .i64 (0), .int .i64 (0), .int .i64 (0), .int .i64 (0), .int .i64 (0), .int .i64 (0), .int .i64 (0), .int .i64 (0), .int .i64 (0), .zsl, .int .i64 (0), .bool false, .bool false, .int .i64 (0), .int .i64 (0), .int .i64 (0), .int .i64 (0), .int .i64 (0)] [], none, 0, none⟩,
    ⟨none, .store 18 (.tmp 4) (.tmp 10), none, 0, none⟩,
    ⟨(some 5), .move (.const (.bool false)), none, 0, none⟩] []) (.ret)) (.skip))) (.seq (.region 4 [
    ⟨(some 12), .move (.tmp 0), none, 0, none⟩,
    ⟨(some 13), .move (.tmp 1), none, 0, none⟩,
    ⟨(some 14), .call (.func 38) [(true, (.tmp 12)), (false, (.tmp 13))] false 4, none, 0, none⟩,
    ⟨(some 11), .move (.tmp 14), none, 4, none⟩,
    ⟨(some 15), .extract (.tmp 11) 0, none, 4, none⟩,
    ⟨(some 16), .extract (.tmp 11) 1, none, 4, none⟩,
    ⟨(some 6), .move (.tmp 15), none, 4, none⟩,
    ⟨(some 7), .move (.tmp 16), none, 4, none⟩] []) (.seq (.seq (.region 0 [
    ⟨(some 17), .move (.tmp 7), none, 0, none⟩,
    ⟨(some 18), .un .not (.tmp 17), none, 0, none⟩] []) (.cond (.tmp 18) (.seq (.region 0 [
    ⟨(some 19), .build [.int .i64 (0), .int .i64 (0), .int .i64 (0), .int .i64 (0), .int .i64 (0), .int .i64 (0), .int .i64 (0), .int .i64 (0), .int .i64 (0), .zsl, .int .i64 (0), .bool false, .bool false, .int .i64 (0), .int .i64 (0), .int .i64 (0), .int .i64 (0), .int .i64 (0)] [], none, 0, none⟩,
    ⟨none, .store 18 (.tmp 4) (.tmp 19), none, 0, none⟩,
    ⟨(some 5), .move (.const (.bool false)), none, 0, none⟩] []) (.ret)) (.skip))) (.seq (.region 4 [
    ⟨(some 20), .move (.tmp 0), none, 0, none⟩,
    ⟨(some 21), .nilCheck (.tmp 20), none, 0, none⟩,
    ⟨(some 22), .fieldAddr 1 (.tmp 21), none, 0, none⟩,
    ⟨(some 23), .load false 1 (.tmp 22), none, 0, none⟩,
    ⟨(some 24), .move (.tmp 6), none, 0, none⟩,
    ⟨(some 25), .indexSl 18 (.tmp 23) (.tmp 24), none, 0, none⟩,
    ⟨(some 26), .load true 18 (.tmp 25), none, 0, none⟩,
    ⟨(some 27), .call (.func 39) [(false, (.tmp 26))] false 4, none, 0, none⟩,
    ⟨none, .store 18 (.tmp 4) (.tmp 27), none, 4, none⟩,
    ⟨(some 5), .move (.const (.bool true)), none, 4, none⟩] []) (.ret))))), [.cell true 18 4, .tmp 5], true⟩
def s8 : Sig := ⟨(.cons .nilp (.cons (.v (.int .i64)) .nil)), [], ((.tup (.cons (.v .job) (.cons (.v .bool) .nil))), []), []⟩
def F8 (L : Lp)  (id0 : Int) : Option (Job × (Bool × Unit)) :=
  some (Job.mk 0 0 0 0 (Res.mk 0 0 0 0) 0 [] 0 false false 0 0 0 0 0, false, ())
theorem e8 (L : Lp)  (x : s8.args.den) (h : denH s8.heap) : nrun [] L n8 s8 x h = F8 L  x.2.1 := by kernel_rfl
def f8 : Int → Option (Job × (Bool × Unit)) := F8 (@LN LOOPS) 
@[reducible] def t8 : Ent := ⟨8, s8, fun x h => f8 x.2.1⟩
theorem k8 : chkNF Try.prog Try.f8 n8 = true := by kernel_rfl
theorem ok8 : NOk Try.prog t8 := NOk.body (T := []) mixed nall_nil (oneEach_of (by kernel_rfl)) Try.func8 k8 (by kernel_rfl) (fun x h => e8 _  x h)
/- drayage/drayageref16.Same -/
def n22 : NFunc := ⟨127, .seq (.region 2 [
    ⟨(some 2), .box 18 (.tmp 0), none, 0, none⟩,
    ⟨(some 3), .box 18 (.tmp 1), none, 1, none⟩,
    ⟨(some 4), .move (.const (.bool false)), none, 2, none⟩] []) (.seq (.seq (.region 0 [
    ⟨(some 6), .fieldAddr 9 (.tmp 2), none, 0, none⟩,
    ⟨(some 7), .load false 1 (.tmp 6), none, 0, none⟩,
    ⟨(some 8), .len (.tmp 7), none, 0, none⟩,
    ⟨(some 9), .fieldAddr 9 (.tmp 3), none, 0, none⟩,
    ⟨(some 10), .load false 1 (.tmp 9), none, 0, none⟩,
    ⟨(some 11), .len (.tmp 10), none, 0, none⟩,
    ⟨(some 12), .bin .neq (.tmp 8) (.tmp 11), none, 0, none⟩] []) (.cond (.tmp 12) (.seq (.region 0 [
    ⟨(some 4), .move (.const (.bool false)), none, 0, none⟩] []) (.ret)) (.skip))) (.seq (.seq (.region 0 [
    ⟨(some 5), .move (.const (.int .i64 (0))), none, 0, none⟩] []) (.block 0 (.loop [2, 3, 5] ⟨[(2, (.ptr 0 0 0)), (3, (.ptr 1 0 0)), (5, (.v (.int .i64)))], [], [.one false .job, .one false .job]⟩ (.seq (.seq (.region 0 [
    ⟨(some 13), .move (.tmp 5), none, 0, none⟩,
    ⟨(some 14), .fieldAddr 9 (.tmp 2), none, 0, none⟩,
    ⟨(some 15), .load false 1 (.tmp 14), none, 0, none⟩,
    ⟨(some 16), .len (.tmp 15), none, 0, none⟩,
    ⟨(some 17), .bin .lss (.tmp 13) (.tmp 16), none, 0, none⟩] []) (.cond (.tmp 17) (.skip) (.exit 0))) (.seq (.block 1 (.seq (.region 0 [
    ⟨(some 20), .fieldAddr 9 (.tmp 2), none, 0, (some ([], none))⟩,
    ⟨(some 21), .load false 1 (.tmp 20), none, 0, (some ([], none))⟩,
    ⟨(some 22), .move (.tmp 5), none, 0, (some ([], none))⟩,
    ⟨(some 23), .indexSl 2 (.tmp 21) (.tmp 22), none, 0, (some ([], none))⟩,
    ⟨(some 24), .load true 2 (.tmp 23), none, 0, (some ([], none))⟩,
    ⟨(some 25), .fieldAddr 9 (.tmp 3), none, 0, (some ([], none))⟩,
    ⟨(some 26), .load false 1 (.tmp 25), none, 0, (some ([], none))⟩,
    ⟨(some 27), .move (.tmp 5), none, 0, (some ([], none))⟩,
    ⟨(some 28), .indexSl 2 (.tmp 26) (.tmp 27), none, 0, (some ([], none))⟩,
    ⟨(some 29), .load true 2 (.tmp 28), none, 0, (some ([], none))⟩,
    ⟨(some 30), .eqAgg (true, [.int .i64, .bool]) (.tmp 24) (.tmp 29), none, 0, (some ([], none))⟩] []) (.cond (.tmp 30) (.seq (.region 0 [
    ⟨(some 4), .move (.const (.bool false)), none, 0, none⟩] []) (.ret)) (.skip)))) (.region 0 [
    ⟨(some 18), .move (.tmp 5), none, 0, none⟩,
    ⟨(some 19), .bin .add (.tmp 18) (.const (.int .i64 (1))), none, 0, none⟩,
    ⟨(some 5), .move (.tmp 19), none, 0, none⟩] [])))))) (.seq (.region 0 [
    ⟨(some 31), .fieldAddr 0 (.tmp 2), none, 0, none⟩,
    ⟨(some 32), .load false 1 (.tmp 31), none, 0, none⟩,
    ⟨(some 33), .fieldAddr 0 (.tmp 3), none, 0, none⟩,
    ⟨(some 34), .load false 1 (.tmp 33), none, 0, none⟩,
    ⟨(some 35), .bin .eql (.tmp 32) (.tmp 34), none, 0, none⟩,
    ⟨(some 36), .move (.tmp 35), none, 0, none⟩,
    ⟨(some 37), .fieldAddr 1 (.tmp 2), (some (36, true)), 0, none⟩,
    ⟨(some 38), .load false 1 (.tmp 37), (some (36, true)), 0, none⟩,
    ⟨(some 39), .fieldAddr 1 (.tmp 3), (some (36, true)), 0, none⟩,
    ⟨(some 40), .load false 1 (.tmp 39), (some (36, true)), 0, none⟩,
    ⟨(some 41), .bin .eql (.tmp 38) (.tmp 40), (some (36, true)), 0, none⟩,
    ⟨(some 42), .pick (.tmp 36) (.tmp 41) (.const (.bool false)), none, 0, none⟩,
    ⟨(some 43), .move (.tmp 42), none, 0, none⟩,
    ⟨(some 44), .fieldAddr 2 (.tmp 2), (some (43, true)), 0, none⟩,
    ⟨(some 45), .load false 1 (.tmp 44), (some (43, true)), 0, none⟩,
    ⟨(some 46), .fieldAddr 2 (.tmp 3), (some (43, true)), 0, none⟩,
    ⟨(some 47), .load false 1 (.tmp 46), (some (43, true)), 0, none⟩,
    ⟨(some 48), .bin .eql (.tmp 45) (.tmp 47), (some (43, true)), 0, none⟩,
    ⟨(some 49), .pick (.tmp 43) (.tmp 48) (.const (.bool false)), none, 0, none⟩,
    ⟨(some 50), .move (.tmp 49), none, 0, none⟩,
    ⟨(some 51), .fieldAddr 3 (.tmp 2), (some (50, true)), 0, none⟩,
    ⟨(some 52), .load false 1 (.tmp 51), (some (50, true)), 0, none⟩,
    ⟨(some 53), .fieldAddr 3 (.tmp 3), (some (50, true)), 0, none⟩,
    ⟨(some 54), .load false 1 (.tmp 53), (some (50, true)), 0, none⟩,
    ⟨(some 55), .bin .eql (.tmp 52) (.tmp 54), (some (50, true)), 0, none⟩,
    ⟨(some 56), .pick (.tmp 50) (.tmp 55) (.const (.bool false)), none, 0, none⟩,
    ⟨(some 57), .move (.tmp 56), none, 0, none⟩,
    ⟨(some 58), .fieldAddr 4 (.tmp 2), (some (57, true)), 0, none⟩,
    ⟨(some 59), .load true 4 (.tmp 58), (some (57, true)), 0, none⟩,
    ⟨(some 60), .fieldAddr 4 (.tmp 3), (some (57, true)), 0, none⟩,
    ⟨(some 61), .load true 4 (.tmp 60), (some (57, true)), 0, none⟩,
    ⟨(some 62), .eqAgg (false, [.int .i64, .int .i64, .int .i64, .int .i64]) (.tmp 59) (.tmp 61), (some (57, true)), 0, none⟩,
    ⟨(some 63), .pick (.tmp 57) (.tmp 62) (.const (.bool false)), none, 0, none⟩,
    ⟨(some 64), .move (.tmp 63), none, 0, none⟩,
    ⟨(some 65), .fieldAddr 8 (.tmp 2), (some (64, true)), 0, none⟩,
    ⟨(some 66), .load false 1 (.tmp 65), (some (64, true)), 0, none⟩,
    ⟨(some 67), .fieldAddr 8 (.tmp 3), (some (64, true)), 0, none⟩,
    ⟨(some 68), .load false 1 (.tmp 67), (some (64, true)), 0, none⟩,
    ⟨(some 69), .bin .eql (.tmp 66) (.tmp 68), (some (64, true)), 0, none⟩,
    ⟨(some 70), .pick (.tmp 64) (.tmp 69) (.const (.bool false)), none, 0, none⟩,
    ⟨(some 71), .move (.tmp 70), none, 0, none⟩,
    ⟨(some 72), .fieldAddr 10 (.tmp 2), (some (71, true)), 0, none⟩,
    ⟨(some 73), .load false 1 (.tmp 72), (some (71, true)), 0, none⟩,
    ⟨(some 74), .fieldAddr 10 (.tmp 3), (some (71, true)), 0, none⟩,
    ⟨(some 75), .load false 1 (.tmp 74), (some (71, true)), 0, none⟩,
    ⟨(some 76), .bin .eql (.tmp 73) (.tmp 75), (some (71, true)), 0, none⟩,
    ⟨(some 77), .pick (.tmp 71) (.tmp 76) (.const (.bool false)), none, 0, none⟩,
    ⟨(some 78), .move (.tmp 77), none, 0, none⟩,
    ⟨(some 79), .fieldAddr 11 (.tmp 2), (some (78, true)), 0, none⟩,
    ⟨(some 80), .load false 1 (.tmp 79), (some (78, true)), 0, none⟩,
    ⟨(some 81), .fieldAddr 11 (.tmp 3), (some (78, true)), 0, none⟩,
    ⟨(some 82), .load false 1 (.tmp 81), (some (78, true)), 0, none⟩,
    ⟨(some 83), .eqB false (.tmp 80) (.tmp 82), (some (78, true)), 0, none⟩,
    ⟨(some 84), .pick (.tmp 78) (.tmp 83) (.const (.bool false)), none, 0, none⟩,
    ⟨(some 85), .move (.tmp 84), none, 0, none⟩,
    ⟨(some 86), .fieldAddr 12 (.tmp 2), (some (85, true)), 0, none⟩,
    ⟨(some 87), .load false 1 (.tmp 86), (some (85, true)), 0, none⟩,
    ⟨(some 88), .fieldAddr 12 (.tmp 3), (some (85, true)), 0, none⟩,
    ⟨(some 89), .load false 1 (.tmp 88), (some (85, true)), 0, none⟩,
    ⟨(some 90), .eqB false (.tmp 87) (.tmp 89), (some (85, true)), 0, none⟩,
    ⟨(some 91), .pick (.tmp 85) (.tmp 90) (.const (.bool false)), none, 0, none⟩,
    ⟨(some 92), .move (.tmp 91), none, 0, none⟩,
    ⟨(some 93), .fieldAddr 13 (.tmp 2), (some (92, true)), 0, none⟩,
    ⟨(some 94), .load false 1 (.tmp 93), (some (92, true)), 0, none⟩,
    ⟨(some 95), .fieldAddr 13 (.tmp 3), (some (92, true)), 0, none⟩,
    ⟨(some 96), .load false 1 (.tmp 95), (some (92, true)), 0, none⟩,
    ⟨(some 97), .bin .eql (.tmp 94) (.tmp 96), (some (92, true)), 0, none⟩,
    ⟨(some 98), .pick (.tmp 92) (.tmp 97) (.const (.bool false)), none, 0, none⟩,
    ⟨(some 99), .move (.tmp 98), none, 0, none⟩,
    ⟨(some 100), .fieldAddr 14 (.tmp 2), (some (99, true)), 0, none⟩,
    ⟨(some 101), .load false 1 (.tmp 100), (some (99, true)), 0, none⟩,
    ⟨(some 102), .fieldAddr 14 (.tmp 3), (some (99, true)), 0, none⟩,
    ⟨(some 103), .load false 1 (.tmp 102), (some (99, true)), 0, none⟩,
    ⟨(some 104), .bin .eql (.tmp 101) (.tmp 103), (some (99, true)), 0, none⟩,
    ⟨(some 105), .pick (.tmp 99) (.tmp 104) (.const (.bool false)), none, 0, none⟩,
    ⟨(some 106), .move (.tmp 105), none, 0, none⟩,
    ⟨(some 107), .fieldAddr 15 (.tmp 2), (some (106, true)), 0, none⟩,
    ⟨(some 108), .load false 1 (.tmp 107), (some (106, true)), 0, none⟩,
    ⟨(some 109), .fieldAddr 15 (.tmp 3), (some (106, true)), 0, none⟩,
    ⟨(some 110), .load false 1 (.tmp 109), (some (106, true)), 0, none⟩,
    ⟨(some 111), .bin .eql (.tmp 108) (.tmp 110), (some (106, true)), 0, none⟩,
    ⟨(some 112), .pick (.tmp 106) (.tmp 111) (.const (.bool false)), none, 0, none⟩,
    ⟨(some 113), .move (.tmp 112), none, 0, none⟩,
    ⟨(some 114), .fieldAddr 16 (.tmp 2), (some (113, true)), 0, none⟩,
    ⟨(some 115), .load false 1 (.tmp 114), (some (113, true)), 0, none⟩,
    ⟨(some 116), .fieldAddr 16 (.tmp 3), (some (113, true)), 0, none⟩,
    ⟨(some 117), .load false 1 (.tmp 116), (some (113, true)), 0, none⟩,
    ⟨(some 118), .bin .eql (.tmp 115) (.tmp 117), (some (113, true)), 0, none⟩,
    ⟨(some 119), .pick (.tmp 113) (.tmp 118) (.const (.bool false)), none, 0, none⟩,
    ⟨(some 120), .move (.tmp 119), none, 0, none⟩,
    ⟨(some 121), .fieldAddr 17 (.tmp 2), (some (120, true)), 0, none⟩,
    ⟨(some 122), .load false 1 (.tmp 121), (some (120, true)), 0, none⟩,
    ⟨(some 123), .fieldAddr 17 (.tmp 3), (some (120, true)), 0, none⟩,
    ⟨(some 124), .load false 1 (.tmp 123), (some (120, true)), 0, none⟩,
    ⟨(some 125), .bin .eql (.tmp 122) (.tmp 124), (some (120, true)), 0, none⟩,
    ⟨(some 126), .pick (.tmp 120) (.tmp 125) (.const (.bool false)), none, 0, none⟩,
    ⟨(some 4), .move (.tmp 126), none, 0, none⟩] []) (.ret)))), [.tmp 4], true⟩
def s22 : Sig := ⟨(.cons (.v .job) (.cons (.v .job) .nil)), [], ((.v .bool), []), []⟩
def l22_0  (nx3 : ((Unit × (Unit × (Int × Unit))) × (Job × (Job × Unit))) → Option Bool) (i4 : Int) (z5 : Job) (z6 : Job) : Option Bool :=
  cond (decide (i4 < (List.length z5.after : Int)))
  (cond (decide (0 ≤ i4))
  (Option.bind (z5.after[Int.toNat i4]?) fun y7 =>
  cond (decide (0 ≤ i4))
  (Option.bind (z6.after[Int.toNat i4]?) fun y8 =>
  cond (!((decide (y7.job = y8.job)) && ((y7.ok == y8.ok) && true)))
  (some false)
  (nx3 (((), (), IntKind.wrap .i64 (i4 + 1), ()), (z5, z6, ()))))
  (none))
  (none))
  (cond (decide (z5.id = z6.id))
  (cond (decide (z5.user = z6.user))
  (cond (decide (z5.queue = z6.queue))
  (cond (decide (z5.many = z6.many))
  (cond ((decide (z5.need.cpu = z6.need.cpu)) && ((decide (z5.need.mem = z6.need.mem)) && ((decide (z5.need.gpu = z6.need.gpu)) && ((decide (z5.need.lic = z6.need.lic)) && true))))
  (cond (decide (z5.wall = z6.wall))
  (cond (decide (z5.state = z6.state))
  (cond (z5.ok == z6.ok)
  (cond (z5.kill == z6.kill)
  (cond (decide (z5.version = z6.version))
  (cond (decide (z5.born = z6.born))
  (cond (decide (z5.start = z6.start))
  (cond (decide (z5.fin = z6.fin))
  (some (decide (z5.array = z6.array)))
  (some false))
  (some false))
  (some false))
  (some false))
  (some false))
  (some false))
  (some false))
  (some false))
  (some false))
  (some false))
  (some false))
  (some false))
  (some false))
def F22 (L : Lp)  (a0 : Job) (b1 : Job) : Option Bool :=
  cond (!decide ((List.length a0.after : Int) = (List.length b1.after : Int)))
  (some false)
  (L (fun (s2 : ((Unit × (Unit × (Int × Unit))) × (Job × (Job × Unit)))) nx3 => l22_0 nx3 s2.1.2.2.1 s2.2.1 s2.2.2.1) (((), (), 0, ()), (a0, b1, ())))
theorem e22 (L : Lp)  (x : s22.args.den) (h : denH s22.heap) : nrun [] L n22 s22 x h = F22 L  x.1 x.2.1 := by kernel_rfl
def f22 : Job → Job → Option Bool := F22 (@LN LOOPS) 
@[reducible] def t22 : Ent := ⟨22, s22, fun x h => f22 x.1 x.2.1⟩
theorem k22 : chkNF Try.prog Try.f22 n22 = true := by kernel_rfl
theorem ok22 : NOk Try.prog t22 := NOk.body (T := []) mixed nall_nil (oneEach_of (by kernel_rfl)) Try.func22 k22 (by kernel_rfl) (fun x h => e22 _  x h)
/- drayage/job.within -/
def n73 : NFunc := ⟨15, .seq (.region 0 [
    ⟨(some 6), .move (.const (.bool false)), none, 0, none⟩] []) (.seq (.region 0 [
    ⟨(some 7), .move (.tmp 1), none, 0, none⟩,
    ⟨(some 8), .move (.tmp 0), none, 0, none⟩,
    ⟨(some 9), .bin .leq (.tmp 7) (.tmp 8), none, 0, none⟩,
    ⟨(some 10), .move (.tmp 9), none, 0, none⟩,
    ⟨(some 11), .move (.tmp 0), (some (10, true)), 0, none⟩,
    ⟨(some 12), .move (.tmp 2), (some (10, true)), 0, none⟩,
    ⟨(some 13), .bin .leq (.tmp 11) (.tmp 12), (some (10, true)), 0, none⟩,
    ⟨(some 14), .pick (.tmp 10) (.tmp 13) (.const (.bool false)), none, 0, none⟩,
    ⟨(some 6), .move (.tmp 14), none, 0, none⟩] []) (.ret)), [.tmp 6], true⟩
def s73 : Sig := ⟨(.cons (.v (.int .i64)) (.cons (.v (.int .i64)) (.cons (.v (.int .i64)) .nil))), [], ((.v .bool), []), []⟩
def F73 (L : Lp)  (an0 : Int) (lo1 : Int) (hi2 : Int) : Option Bool :=
  cond (decide (lo1 ≤ an0))
  (some (decide (an0 ≤ hi2)))
  (some false)
theorem e73 (L : Lp)  (x : s73.args.den) (h : denH s73.heap) : nrun [] L n73 s73 x h = F73 L  x.1 x.2.1 x.2.2.1 := by kernel_rfl
def f73 : Int → Int → Int → Option Bool := F73 (@LN LOOPS) 
@[reducible] def t73 : Ent := ⟨73, s73, fun x h => f73 x.1 x.2.1 x.2.2.1⟩
theorem k73 : chkNF Try.prog Try.f73 n73 = true := by kernel_rfl
theorem ok73 : NOk Try.prog t73 := NOk.body (T := []) mixed nall_nil (oneEach_of (by kernel_rfl)) Try.func73 k73 (by kernel_rfl) (fun x h => e73 _  x h)
/- drayage/vec.numbers -/
def n92 : NFunc := ⟨12, .seq (.region 2 [
    ⟨(some 1), .box 4 (.tmp 0), none, 0, none⟩,
    ⟨(some 2), .alloc [.int .i64 (0), .int .i64 (0), .int .i64 (0), .int .i64 (0)], none, 1, none⟩] []) (.seq (.region 0 [
    ⟨(some 3), .fieldAddr 0 (.tmp 1), none, 0, none⟩,
    ⟨(some 4), .load false 1 (.tmp 3), none, 0, none⟩,
    ⟨(some 5), .fieldAddr 1 (.tmp 1), none, 0, none⟩,
    ⟨(some 6), .load false 1 (.tmp 5), none, 0, none⟩,
    ⟨(some 7), .fieldAddr 2 (.tmp 1), none, 0, none⟩,
    ⟨(some 8), .load false 1 (.tmp 7), none, 0, none⟩,
    ⟨(some 9), .fieldAddr 3 (.tmp 1), none, 0, none⟩,
    ⟨(some 10), .load false 1 (.tmp 9), none, 0, none⟩,
    ⟨(some 11), .build [.int .i64 (0), .int .i64 (0), .int .i64 (0), .int .i64 (0)] [(0, 1, (.tmp 4)), (1, 1, (.tmp 6)), (2, 1, (.tmp 8)), (3, 1, (.tmp 10))], none, 0, none⟩,
    ⟨none, .store 4 (.tmp 2) (.tmp 11), none, 0, none⟩] []) (.ret)), [.cell true 4 2], true⟩
def s92 : Sig := ⟨(.cons (.v .res) .nil), [], ((.v (.pair (.int .i64) (.pair (.int .i64) (.pair (.int .i64) (.int .i64))))), []), []⟩
def F92 (L : Lp)  (a0 : Res) : Option (Int × (Int × (Int × Int))) :=
  some (a0.cpu, (a0.mem, (a0.gpu, a0.lic)))
theorem e92 (L : Lp)  (x : s92.args.den) (h : denH s92.heap) : nrun [] L n92 s92 x h = F92 L  x.1 := by kernel_rfl
def f92 : Res → Option (Int × (Int × (Int × Int))) := F92 (@LN LOOPS) 
@[reducible] def t92 : Ent := ⟨92, s92, fun x h => f92 x.1⟩
theorem k92 : chkNF Try.prog Try.f92 n92 = true := by kernel_rfl
theorem ok92 : NOk Try.prog t92 := NOk.body (T := []) mixed nall_nil (oneEach_of (by kernel_rfl)) Try.func92 k92 (by kernel_rfl) (fun x h => e92 _  x h)
/- drayage/vec.Right -/
def n74 : NFunc := ⟨17, .seq (.region 1 [
    ⟨(some 1), .box 4 (.tmp 0), none, 0, none⟩,
    ⟨(some 2), .move (.const (.bool false)), none, 1, none⟩] []) (.seq (.seq (.region 4 [
    ⟨(some 5), .load true 4 (.tmp 1), none, 0, none⟩,
    ⟨(some 6), .call (.func 92) [(false, (.tmp 5))] false 4, none, 0, none⟩,
    ⟨(some 7), .move (.const (.int .i64 (0))), none, 4, none⟩] []) (.block 0 (.loopU [6, 7] 5 (.seq (.region 0 [
    ⟨(some 8), .bin .lss (.tmp 7) (.const (.int .i64 (4))), none, 0, none⟩] []) (.seq (.cond (.tmp 8) (.skip) (.exit 0)) (.seq (.block 1 (.seq (.region 0 [
    ⟨(some 9), .indexVal false 4 1 (.tmp 6) (.tmp 7), none, 0, none⟩,
    ⟨(some 4), .move (.tmp 9), none, 0, none⟩] []) (.seq (.region 0 [
    ⟨(some 10), .move (.tmp 4), none, 0, none⟩,
    ⟨(some 11), .bin .lss (.tmp 10) (.const (.int .i64 (0))), none, 0, none⟩,
    ⟨(some 12), .move (.tmp 11), none, 0, none⟩,
    ⟨(some 13), .move (.tmp 4), (some (12, false)), 0, none⟩,
    ⟨(some 14), .bin .gtr (.tmp 13) (.const (.int .i64 (1048576))), (some (12, false)), 0, none⟩,
    ⟨(some 15), .pick (.tmp 12) (.const (.bool true)) (.tmp 14), none, 0, none⟩] []) (.cond (.tmp 15) (.seq (.region 0 [
    ⟨(some 2), .move (.const (.bool false)), none, 0, none⟩] []) (.ret)) (.skip))))) (.region 0 [
    ⟨(some 16), .bin .add (.tmp 7) (.const (.int .i64 (1))), none, 0, none⟩,
    ⟨(some 7), .move (.tmp 16), none, 0, none⟩] []))))))) (.seq (.region 0 [
    ⟨(some 2), .move (.const (.bool true)), none, 0, none⟩] []) (.ret))), [.tmp 2], true⟩
def s74 : Sig := ⟨(.cons (.v .res) .nil), [], ((.v .bool), []), []⟩
def F74 (L : Lp) (g92 : Res → Option (Int × (Int × (Int × Int)))) (a0 : Res) : Option Bool :=
  Option.bind (g92 a0) fun r1 =>
  cond (decide (r1.1 < 0))
  (some false)
  (cond (decide (1048576 < r1.1))
  (some false)
  (cond (decide (r1.2.1 < 0))
  (some false)
  (cond (decide (1048576 < r1.2.1))
  (some false)
  (cond (decide (r1.2.2.1 < 0))
  (some false)
  (cond (decide (1048576 < r1.2.2.1))
  (some false)
  (cond (decide (r1.2.2.2 < 0))
  (some false)
  (cond (decide (1048576 < r1.2.2.2))
  (some false)
  (some true))))))))
theorem e74 (L : Lp) (g92 : Res → Option (Int × (Int × (Int × Int)))) (x : s74.args.den) (h : denH s74.heap) : nrun [⟨92, s92, fun x h => g92 x.1⟩] L n74 s74 x h = F74 L g92 x.1 := by kernel_rfl
def f74 : Res → Option Bool := F74 (@LN LOOPS) f92
@[reducible] def t74 : Ent := ⟨74, s74, fun x h => f74 x.1⟩
theorem k74 : chkNF Try.prog Try.f74 n74 = true := by kernel_rfl
theorem ok74 : NOk Try.prog t74 := NOk.body (T := [t92]) mixed (nall_cons ok92 nall_nil) (oneEach_of (by kernel_rfl)) Try.func74 k74 (by kernel_rfl) (fun x h => e74 _ _ x h)
/- drayage/job.afterRight -/
def n75 : NFunc := ⟨24, .seq (.region 1 [
    ⟨(some 1), .box 18 (.tmp 0), none, 0, none⟩,
    ⟨(some 2), .move (.const (.bool false)), none, 1, none⟩] []) (.seq (.seq (.region 0 [
    ⟨(some 5), .fieldAddr 9 (.tmp 1), none, 0, none⟩,
    ⟨(some 6), .load false 1 (.tmp 5), none, 0, none⟩,
    ⟨(some 7), .len (.tmp 6), none, 0, none⟩,
    ⟨(some 8), .bin .gtr (.tmp 7) (.const (.int .i64 (4))), none, 0, none⟩] []) (.cond (.tmp 8) (.seq (.region 0 [
    ⟨(some 2), .move (.const (.bool false)), none, 0, none⟩] []) (.ret)) (.skip))) (.seq (.seq (.region 0 [
    ⟨(some 9), .fieldAddr 9 (.tmp 1), none, 0, none⟩,
    ⟨(some 10), .load false 1 (.tmp 9), none, 0, none⟩,
    ⟨(some 11), .len (.tmp 10), none, 0, none⟩,
    ⟨(some 12), .move (.const (.int .i64 (0))), none, 0, none⟩] []) (.block 0 (.loop [1, 10, 11, 12] ⟨[(1, (.ptr 0 0 0)), (12, (.v (.int .i64)))], [10, 11], [.one false .job]⟩ (.seq (.region 0 [
    ⟨(some 13), .bin .lss (.tmp 12) (.tmp 11), none, 0, none⟩] []) (.seq (.cond (.tmp 13) (.skip) (.exit 0)) (.seq (.block 1 (.seq (.region 1 [
    ⟨(some 14), .indexSl 2 (.tmp 10) (.tmp 12), none, 0, none⟩,
    ⟨(some 15), .load true 2 (.tmp 14), none, 0, none⟩,
    ⟨(some 4), .alloc [.int .i64 (0), .bool false], none, 0, none⟩,
    ⟨none, .store 2 (.tmp 4) (.tmp 15), none, 1, none⟩] []) (.seq (.region 4 [
    ⟨(some 16), .fieldAddr 0 (.tmp 4), none, 0, none⟩,
    ⟨(some 17), .load false 1 (.tmp 16), none, 0, none⟩,
    ⟨(some 18), .fieldAddr 0 (.tmp 1), none, 0, none⟩,
    ⟨(some 19), .load false 1 (.tmp 18), none, 0, none⟩,
    ⟨(some 20), .bin .sub (.tmp 19) (.const (.int .i64 (1))), none, 0, none⟩,
    ⟨(some 21), .call (.func 73) [(false, (.tmp 17)), (false, (.const (.int .i64 (1)))), (false, (.tmp 20))] false 4, none, 0, none⟩,
    ⟨(some 22), .un .not (.tmp 21), none, 4, none⟩] []) (.cond (.tmp 22) (.seq (.region 0 [
    ⟨(some 2), .move (.const (.bool false)), none, 0, none⟩] []) (.ret)) (.skip))))) (.region 0 [
    ⟨(some 23), .bin .add (.tmp 12) (.const (.int .i64 (1))), none, 0, none⟩,
    ⟨(some 12), .move (.tmp 23), none, 0, none⟩] []))))))) (.seq (.region 0 [
    ⟨(some 2), .move (.const (.bool true)), none, 0, none⟩] []) (.ret)))), [.tmp 2], true⟩
def s75 : Sig := ⟨(.cons (.v .job) .nil), [], ((.v .bool), []), []⟩
def l75_0 (g73 : Int → Int → Int → Option Bool) (j0 : Job) (nx2 : ((Unit × (Int × Unit)) × (Job × Unit)) → Option Bool) (z3 : Int) (z4 : Job) : Option Bool :=
  cond (decide (z3 < (List.length j0.after : Int)))
  (cond (decide (0 ≤ z3))
  (Option.bind (j0.after[Int.toNat z3]?) fun y5 =>
  Option.bind (g73 y5.job 1 (IntKind.wrap .i64 (z4.id - 1))) fun r6 =>
  cond (!r6)
  (some false)
  (nx2 (((), IntKind.wrap .i64 (z3 + 1), ()), (z4, ()))))
  (none))
  (some true)
def F75 (L : Lp) (g73 : Int → Int → Int → Option Bool) (j0 : Job) : Option Bool :=
  cond (decide (4 < (List.length j0.after : Int)))
  (some false)
  (L (fun (s1 : ((Unit × (Int × Unit)) × (Job × Unit))) nx2 => l75_0 g73 j0 nx2 s1.1.2.1 s1.2.1) (((), 0, ()), (j0, ())))
theorem e75 (L : Lp) (g73 : Int → Int → Int → Option Bool) (x : s75.args.den) (h : denH s75.heap) : nrun [⟨73, s73, fun x h => g73 x.1 x.2.1 x.2.2.1⟩] L n75 s75 x h = F75 L g73 x.1 := by kernel_rfl
def f75 : Job → Option Bool := F75 (@LN LOOPS) f73
@[reducible] def t75 : Ent := ⟨75, s75, fun x h => f75 x.1⟩
theorem k75 : chkNF Try.prog Try.f75 n75 = true := by kernel_rfl
theorem ok75 : NOk Try.prog t75 := NOk.body (T := [t73]) mixed (nall_cons ok73 nall_nil) (oneEach_of (by kernel_rfl)) Try.func75 k75 (by kernel_rfl) (fun x h => e75 _ _ x h)
/- drayage/life.Name -/
def n93 : NFunc := ⟨16, .seq (.region 0 [
    ⟨(some 2), .move (.const (.str [])), none, 0, none⟩] []) (.seq (.seq (.region 0 [
    ⟨(some 3), .move (.tmp 0), none, 0, none⟩] []) (.block 0 (.seq (.region 0 [
    ⟨(some 5), .bin .eql (.tmp 3) (.const (.int .i64 (1))), none, 0, none⟩,
    ⟨(some 4), .move (.tmp 5), none, 0, none⟩] []) (.cond (.tmp 4) (.seq (.region 0 [
    ⟨(some 2), .move (.const (.str [113, 117, 101, 117, 101, 100])), none, 0, none⟩] []) (.ret)) (.seq (.region 0 [
    ⟨(some 7), .bin .eql (.tmp 3) (.const (.int .i64 (2))), none, 0, none⟩,
    ⟨(some 6), .move (.tmp 7), none, 0, none⟩] []) (.cond (.tmp 6) (.seq (.region 0 [
    ⟨(some 2), .move (.const (.str [104, 101, 108, 100])), none, 0, none⟩] []) (.ret)) (.seq (.region 0 [
    ⟨(some 9), .bin .eql (.tmp 3) (.const (.int .i64 (3))), none, 0, none⟩,
    ⟨(some 8), .move (.tmp 9), none, 0, none⟩] []) (.cond (.tmp 8) (.seq (.region 0 [
    ⟨(some 2), .move (.const (.str [114, 117, 110, 110, 105, 110, 103])), none, 0, none⟩] []) (.ret)) (.seq (.region 0 [
    ⟨(some 11), .bin .eql (.tmp 3) (.const (.int .i64 (4))), none, 0, none⟩,
    ⟨(some 10), .move (.tmp 11), none, 0, none⟩] []) (.cond (.tmp 10) (.seq (.region 0 [
    ⟨(some 2), .move (.const (.str [101, 120, 105, 116, 105, 110, 103])), none, 0, none⟩] []) (.ret)) (.seq (.region 0 [
    ⟨(some 13), .bin .eql (.tmp 3) (.const (.int .i64 (5))), none, 0, none⟩,
    ⟨(some 12), .move (.tmp 13), none, 0, none⟩] []) (.cond (.tmp 12) (.seq (.region 0 [
    ⟨(some 2), .move (.const (.str [99, 111, 109, 112, 108, 101, 116, 101, 100])), none, 0, none⟩] []) (.ret)) (.seq (.region 0 [
    ⟨(some 15), .bin .eql (.tmp 3) (.const (.int .i64 (6))), none, 0, none⟩,
    ⟨(some 14), .move (.tmp 15), none, 0, none⟩] []) (.cond (.tmp 14) (.seq (.region 0 [
    ⟨(some 2), .move (.const (.str [99, 97, 110, 99, 101, 108, 108, 101, 100])), none, 0, none⟩] []) (.ret)) (.skip))))))))))))))) (.seq (.region 0 [
    ⟨(some 2), .move (.const (.str [])), none, 0, none⟩] []) (.ret))), [.tmp 2], true⟩
def s93 : Sig := ⟨(.cons (.v (.int .i64)) .nil), [], ((.v .str), []), []⟩
def F93 (L : Lp)  (state0 : Int) : Option (List UInt8) :=
  cond (decide (state0 = 1))
  (some ([113, 117, 101, 117, 101, 100] : List UInt8))
  (cond (decide (state0 = 2))
  (some ([104, 101, 108, 100] : List UInt8))
  (cond (decide (state0 = 3))
  (some ([114, 117, 110, 110, 105, 110, 103] : List UInt8))
  (cond (decide (state0 = 4))
  (some ([101, 120, 105, 116, 105, 110, 103] : List UInt8))
  (cond (decide (state0 = 5))
  (some ([99, 111, 109, 112, 108, 101, 116, 101, 100] : List UInt8))
  (cond (decide (state0 = 6))
  (some ([99, 97, 110, 99, 101, 108, 108, 101, 100] : List UInt8))
  (some ([] : List UInt8)))))))
theorem e93 (L : Lp)  (x : s93.args.den) (h : denH s93.heap) : nrun [] L n93 s93 x h = F93 L  x.1 := by kernel_rfl
def f93 : Int → Option (List UInt8) := F93 (@LN LOOPS) 
@[reducible] def t93 : Ent := ⟨93, s93, fun x h => f93 x.1⟩
theorem k93 : chkNF Try.prog Try.f93 n93 = true := by kernel_rfl
theorem ok93 : NOk Try.prog t93 := NOk.body (T := []) mixed nall_nil (oneEach_of (by kernel_rfl)) Try.func93 k93 (by kernel_rfl) (fun x h => e93 _  x h)
/- drayage/life.Waits -/
def n94 : NFunc := ⟨9, .seq (.region 0 [
    ⟨(some 2), .move (.const (.bool false)), none, 0, none⟩] []) (.seq (.region 0 [
    ⟨(some 3), .move (.tmp 0), none, 0, none⟩,
    ⟨(some 4), .bin .eql (.tmp 3) (.const (.int .i64 (1))), none, 0, none⟩,
    ⟨(some 5), .move (.tmp 4), none, 0, none⟩,
    ⟨(some 6), .move (.tmp 0), (some (5, false)), 0, none⟩,
    ⟨(some 7), .bin .eql (.tmp 6) (.const (.int .i64 (2))), (some (5, false)), 0, none⟩,
    ⟨(some 8), .pick (.tmp 5) (.const (.bool true)) (.tmp 7), none, 0, none⟩,
    ⟨(some 2), .move (.tmp 8), none, 0, none⟩] []) (.ret)), [.tmp 2], true⟩
def s94 : Sig := ⟨(.cons (.v (.int .i64)) .nil), [], ((.v .bool), []), []⟩
def F94 (L : Lp)  (state0 : Int) : Option Bool :=
  cond (decide (state0 = 1))
  (some true)
  (some (decide (state0 = 2)))
theorem e94 (L : Lp)  (x : s94.args.den) (h : denH s94.heap) : nrun [] L n94 s94 x h = F94 L  x.1 := by kernel_rfl
def f94 : Int → Option Bool := F94 (@LN LOOPS) 
@[reducible] def t94 : Ent := ⟨94, s94, fun x h => f94 x.1⟩
theorem k94 : chkNF Try.prog Try.f94 n94 = true := by kernel_rfl
theorem ok94 : NOk Try.prog t94 := NOk.body (T := []) mixed nall_nil (oneEach_of (by kernel_rfl)) Try.func94 k94 (by kernel_rfl) (fun x h => e94 _  x h)
/- drayage/life.Over -/
def n69 : NFunc := ⟨9, .seq (.region 0 [
    ⟨(some 2), .move (.const (.bool false)), none, 0, none⟩] []) (.seq (.region 0 [
    ⟨(some 3), .move (.tmp 0), none, 0, none⟩,
    ⟨(some 4), .bin .eql (.tmp 3) (.const (.int .i64 (5))), none, 0, none⟩,
    ⟨(some 5), .move (.tmp 4), none, 0, none⟩,
    ⟨(some 6), .move (.tmp 0), (some (5, false)), 0, none⟩,
    ⟨(some 7), .bin .eql (.tmp 6) (.const (.int .i64 (6))), (some (5, false)), 0, none⟩,
    ⟨(some 8), .pick (.tmp 5) (.const (.bool true)) (.tmp 7), none, 0, none⟩,
    ⟨(some 2), .move (.tmp 8), none, 0, none⟩] []) (.ret)), [.tmp 2], true⟩
def s69 : Sig := ⟨(.cons (.v (.int .i64)) .nil), [], ((.v .bool), []), []⟩
def F69 (L : Lp)  (state0 : Int) : Option Bool :=
  cond (decide (state0 = 5))
  (some true)
  (some (decide (state0 = 6)))
theorem e69 (L : Lp)  (x : s69.args.den) (h : denH s69.heap) : nrun [] L n69 s69 x h = F69 L  x.1 := by kernel_rfl
def f69 : Int → Option Bool := F69 (@LN LOOPS) 
@[reducible] def t69 : Ent := ⟨69, s69, fun x h => f69 x.1⟩
theorem k69 : chkNF Try.prog Try.f69 n69 = true := by kernel_rfl
theorem ok69 : NOk Try.prog t69 := NOk.body (T := []) mixed nall_nil (oneEach_of (by kernel_rfl)) Try.func69 k69 (by kernel_rfl) (fun x h => e69 _  x h)
/- drayage/job.stateRight -/
def n76 : NFunc := ⟨53, .seq (.region 1 [
    ⟨(some 1), .box 18 (.tmp 0), none, 0, none⟩,
    ⟨(some 2), .move (.const (.bool false)), none, 1, none⟩] []) (.seq (.block 0 (.seq (.region 4 [
    ⟨(some 4), .fieldAddr 10 (.tmp 1), none, 0, none⟩,
    ⟨(some 5), .load false 1 (.tmp 4), none, 0, none⟩,
    ⟨(some 6), .call (.func 93) [(false, (.tmp 5))] false 4, none, 0, none⟩,
    ⟨(some 7), .bin .eql (.tmp 6) (.const (.str [])), none, 4, none⟩,
    ⟨(some 3), .move (.tmp 7), none, 4, none⟩] []) (.cond (.tmp 3) (.seq (.region 0 [
    ⟨(some 2), .move (.const (.bool false)), none, 0, none⟩] []) (.ret)) (.seq (.meet [1, 8] [] ⟨[(1, (.ptr 0 0 0)), (8, (.v .bool))], [], [.one false .job]⟩ (.region 4 [
    ⟨(some 9), .fieldAddr 15 (.tmp 1), none, 0, none⟩,
    ⟨(some 10), .load false 1 (.tmp 9), none, 0, none⟩,
    ⟨(some 11), .bin .neq (.tmp 10) (.const (.int .i64 (0))), none, 0, none⟩,
    ⟨(some 12), .move (.tmp 11), none, 0, none⟩,
    ⟨(some 13), .fieldAddr 10 (.tmp 1), (some (12, true)), 0, none⟩,
    ⟨(some 14), .load false 1 (.tmp 13), (some (12, true)), 0, none⟩,
    ⟨(some 15), .call (.func 94) [(false, (.tmp 14))] false 4, (some (12, true)), 0, none⟩,
    ⟨(some 16), .pick (.tmp 12) (.tmp 15) (.const (.bool false)), none, 4, none⟩,
    ⟨(some 8), .move (.tmp 16), none, 4, none⟩] [])) (.cond (.tmp 8) (.seq (.region 0 [
    ⟨(some 2), .move (.const (.bool false)), none, 0, none⟩] []) (.ret)) (.seq (.meet [1, 17] [] ⟨[(1, (.ptr 0 0 0)), (17, (.v .bool))], [], [.one false .job]⟩ (.region 4 [
    ⟨(some 18), .fieldAddr 16 (.tmp 1), none, 0, none⟩,
    ⟨(some 19), .load false 1 (.tmp 18), none, 0, none⟩,
    ⟨(some 20), .bin .neq (.tmp 19) (.const (.int .i64 (0))), none, 0, none⟩,
    ⟨(some 21), .move (.tmp 20), none, 0, none⟩,
    ⟨(some 22), .fieldAddr 10 (.tmp 1), (some (21, true)), 0, none⟩,
    ⟨(some 23), .load false 1 (.tmp 22), (some (21, true)), 0, none⟩,
    ⟨(some 24), .call (.func 69) [(false, (.tmp 23))] false 4, (some (21, true)), 0, none⟩,
    ⟨(some 25), .un .not (.tmp 24), (some (21, true)), 4, none⟩,
    ⟨(some 26), .pick (.tmp 21) (.tmp 25) (.const (.bool false)), none, 4, none⟩,
    ⟨(some 17), .move (.tmp 26), none, 4, none⟩] [])) (.cond (.tmp 17) (.seq (.region 0 [
    ⟨(some 2), .move (.const (.bool false)), none, 0, none⟩] []) (.ret)) (.seq (.meet [1, 27] [] ⟨[(1, (.ptr 0 0 0)), (27, (.v .bool))], [], [.one false .job]⟩ (.region 0 [
    ⟨(some 28), .fieldAddr 11 (.tmp 1), none, 0, none⟩,
    ⟨(some 29), .load false 1 (.tmp 28), none, 0, none⟩,
    ⟨(some 30), .move (.tmp 29), none, 0, none⟩,
    ⟨(some 31), .fieldAddr 10 (.tmp 1), (some (30, true)), 0, none⟩,
    ⟨(some 32), .load false 1 (.tmp 31), (some (30, true)), 0, none⟩,
    ⟨(some 33), .bin .neq (.tmp 32) (.const (.int .i64 (4))), (some (30, true)), 0, none⟩,
    ⟨(some 34), .pick (.tmp 30) (.tmp 33) (.const (.bool false)), none, 0, none⟩,
    ⟨(some 35), .move (.tmp 34), none, 0, none⟩,
    ⟨(some 36), .fieldAddr 10 (.tmp 1), (some (35, true)), 0, none⟩,
    ⟨(some 37), .load false 1 (.tmp 36), (some (35, true)), 0, none⟩,
    ⟨(some 38), .bin .neq (.tmp 37) (.const (.int .i64 (5))), (some (35, true)), 0, none⟩,
    ⟨(some 39), .pick (.tmp 35) (.tmp 38) (.const (.bool false)), none, 0, none⟩,
    ⟨(some 27), .move (.tmp 39), none, 0, none⟩] [])) (.cond (.tmp 27) (.seq (.region 0 [
    ⟨(some 2), .move (.const (.bool false)), none, 0, none⟩] []) (.ret)) (.seq (.region 0 [
    ⟨(some 41), .fieldAddr 12 (.tmp 1), none, 0, none⟩,
    ⟨(some 42), .load false 1 (.tmp 41), none, 0, none⟩,
    ⟨(some 43), .move (.tmp 42), none, 0, none⟩,
    ⟨(some 44), .fieldAddr 10 (.tmp 1), (some (43, true)), 0, none⟩,
    ⟨(some 45), .load false 1 (.tmp 44), (some (43, true)), 0, none⟩,
    ⟨(some 46), .bin .neq (.tmp 45) (.const (.int .i64 (4))), (some (43, true)), 0, none⟩,
    ⟨(some 47), .pick (.tmp 43) (.tmp 46) (.const (.bool false)), none, 0, none⟩,
    ⟨(some 48), .move (.tmp 47), none, 0, none⟩,
    ⟨(some 49), .fieldAddr 10 (.tmp 1), (some (48, true)), 0, none⟩,
    ⟨(some 50), .load false 1 (.tmp 49), (some (48, true)), 0, none⟩,
    ⟨(some 51), .bin .neq (.tmp 50) (.const (.int .i64 (6))), (some (48, true)), 0, none⟩,
    ⟨(some 52), .pick (.tmp 48) (.tmp 51) (.const (.bool false)), none, 0, none⟩,
    ⟨(some 40), .move (.tmp 52), none, 0, none⟩] []) (.cond (.tmp 40) (.seq (.region 0 [
    ⟨(some 2), .move (.const (.bool false)), none, 0, none⟩] []) (.ret)) (.skip)))))))))))) (.seq (.region 0 [
    ⟨(some 2), .move (.const (.bool true)), none, 0, none⟩] []) (.ret))), [.tmp 2], true⟩
def s76 : Sig := ⟨(.cons (.v .job) .nil), [], ((.v .bool), []), []⟩
def F76 (L : Lp) (g93 : Int → Option (List UInt8)) (g94 : Int → Option Bool) (g69 : Int → Option Bool) (j0 : Job) : Option Bool :=
  Option.bind (g93 j0.state) fun r1 =>
  cond (decide (r1 = ([] : List UInt8)))
  (some false)
  (Option.bind (α := ((Unit × (Bool × Unit)) × (Job × Unit)))
  (cond (!decide (j0.start = 0))
  (Option.bind (g94 j0.state) fun r2 =>
  some (((), r2, ()), (j0, ())))
  (some (((), false, ()), (j0, ())))) fun x3 =>
  cond x3.1.2.1
  (some false)
  (Option.bind (α := ((Unit × (Bool × Unit)) × (Job × Unit)))
  (cond (!decide (x3.2.1.fin = 0))
  (Option.bind (g69 x3.2.1.state) fun r4 =>
  some (((), !r4, ()), (x3.2.1, ())))
  (some (((), false, ()), (x3.2.1, ())))) fun x5 =>
  cond x5.1.2.1
  (some false)
  (Option.bind (α := ((Unit × (Bool × Unit)) × (Job × Unit)))
  (cond x5.2.1.ok
  (cond (!decide (x5.2.1.state = 4))
  (some (((), !decide (x5.2.1.state = 5), ()), (x5.2.1, ())))
  (some (((), false, ()), (x5.2.1, ()))))
  (some (((), false, ()), (x5.2.1, ())))) fun x6 =>
  cond x6.1.2.1
  (some false)
  (cond x6.2.1.kill
  (cond (!decide (x6.2.1.state = 4))
  (cond (!decide (x6.2.1.state = 6))
  (some false)
  (some true))
  (some true))
  (some true)))))
theorem e76 (L : Lp) (g93 : Int → Option (List UInt8)) (g94 : Int → Option Bool) (g69 : Int → Option Bool) (x : s76.args.den) (h : denH s76.heap) : nrun [⟨93, s93, fun x h => g93 x.1⟩, ⟨94, s94, fun x h => g94 x.1⟩, ⟨69, s69, fun x h => g69 x.1⟩] L n76 s76 x h = F76 L g93 g94 g69 x.1 := by kernel_rfl
def f76 : Job → Option Bool := F76 (@LN LOOPS) f93 f94 f69
@[reducible] def t76 : Ent := ⟨76, s76, fun x h => f76 x.1⟩
theorem k76 : chkNF Try.prog Try.f76 n76 = true := by kernel_rfl
theorem ok76 : NOk Try.prog t76 := NOk.body (T := [t93, t94, t69]) mixed (nall_cons ok93 (nall_cons ok94 (nall_cons ok69 nall_nil))) (oneEach_of (by kernel_rfl)) Try.func76 k76 (by kernel_rfl) (fun x h => e76 _ _ _ _ x h)
/- drayage/job.Right -/
def n40 : NFunc := ⟨72, .seq (.region 1 [
    ⟨(some 1), .box 18 (.tmp 0), none, 0, none⟩,
    ⟨(some 2), .move (.const (.bool false)), none, 1, none⟩] []) (.seq (.region 52 [
    ⟨(some 3), .fieldAddr 0 (.tmp 1), none, 0, none⟩,
    ⟨(some 4), .load false 1 (.tmp 3), none, 0, none⟩,
    ⟨(some 5), .call (.func 73) [(false, (.tmp 4)), (false, (.const (.int .i64 (1)))), (false, (.const (.int .i64 (1048576))))] false 4, none, 0, none⟩,
    ⟨(some 6), .move (.tmp 5), none, 4, none⟩,
    ⟨(some 7), .fieldAddr 1 (.tmp 1), (some (6, true)), 4, none⟩,
    ⟨(some 8), .load false 1 (.tmp 7), (some (6, true)), 4, none⟩,
    ⟨(some 9), .call (.func 73) [(false, (.tmp 8)), (false, (.const (.int .i64 (0)))), (false, (.const (.int .i64 (7))))] false 4, (some (6, true)), 4, none⟩,
    ⟨(some 10), .pick (.tmp 6) (.tmp 9) (.const (.bool false)), none, 8, none⟩,
    ⟨(some 11), .move (.tmp 10), none, 8, none⟩,
    ⟨(some 12), .fieldAddr 2 (.tmp 1), (some (11, true)), 8, none⟩,
    ⟨(some 13), .load false 1 (.tmp 12), (some (11, true)), 8, none⟩,
    ⟨(some 14), .call (.func 73) [(false, (.tmp 13)), (false, (.const (.int .i64 (0)))), (false, (.const (.int .i64 (7))))] false 4, (some (11, true)), 8, none⟩,
    ⟨(some 15), .pick (.tmp 11) (.tmp 14) (.const (.bool false)), none, 12, none⟩,
    ⟨(some 16), .move (.tmp 15), none, 12, none⟩,
    ⟨(some 17), .fieldAddr 3 (.tmp 1), (some (16, true)), 12, none⟩,
    ⟨(some 18), .load false 1 (.tmp 17), (some (16, true)), 12, none⟩,
    ⟨(some 19), .call (.func 73) [(false, (.tmp 18)), (false, (.const (.int .i64 (1)))), (false, (.const (.int .i64 (64))))] false 4, (some (16, true)), 12, none⟩,
    ⟨(some 20), .pick (.tmp 16) (.tmp 19) (.const (.bool false)), none, 16, none⟩,
    ⟨(some 21), .move (.tmp 20), none, 16, none⟩,
    ⟨(some 22), .fieldAddr 4 (.tmp 1), (some (21, true)), 16, none⟩,
    ⟨(some 23), .load true 4 (.tmp 22), (some (21, true)), 16, none⟩,
    ⟨(some 24), .call (.func 74) [(false, (.tmp 23))] false 4, (some (21, true)), 16, none⟩,
    ⟨(some 25), .pick (.tmp 21) (.tmp 24) (.const (.bool false)), none, 20, none⟩,
    ⟨(some 26), .move (.tmp 25), none, 20, none⟩,
    ⟨(some 27), .fieldAddr 4 (.tmp 1), (some (26, true)), 20, none⟩,
    ⟨(some 28), .load true 4 (.tmp 27), (some (26, true)), 20, none⟩,
    ⟨(some 29), .build [.int .i64 (0), .int .i64 (0), .int .i64 (0), .int .i64 (0)] [], (some (26, true)), 20, none⟩,
    ⟨(some 30), .eqAgg (true, [.int .i64, .int .i64, .int .i64, .int .i64]) (.tmp 28) (.tmp 29), (some (26, true)), 20, none⟩,
    ⟨(some 31), .pick (.tmp 26) (.tmp 30) (.const (.bool false)), none, 20, none⟩,
    ⟨(some 32), .move (.tmp 31), none, 20, none⟩,
    ⟨(some 33), .fieldAddr 8 (.tmp 1), (some (32, true)), 20, none⟩,
    ⟨(some 34), .load false 1 (.tmp 33), (some (32, true)), 20, none⟩,
    ⟨(some 35), .call (.func 73) [(false, (.tmp 34)), (false, (.const (.int .i64 (1)))), (false, (.const (.int .i64 (65536))))] false 4, (some (32, true)), 20, none⟩,
    ⟨(some 36), .pick (.tmp 32) (.tmp 35) (.const (.bool false)), none, 24, none⟩,
    ⟨(some 37), .move (.tmp 36), none, 24, none⟩,
    ⟨(some 38), .load true 18 (.tmp 1), (some (37, true)), 24, none⟩,
    ⟨(some 39), .call (.func 75) [(false, (.tmp 38))] false 4, (some (37, true)), 24, none⟩,
    ⟨(some 40), .pick (.tmp 37) (.tmp 39) (.const (.bool false)), none, 28, none⟩,
    ⟨(some 41), .move (.tmp 40), none, 28, none⟩,
    ⟨(some 42), .fieldAddr 13 (.tmp 1), (some (41, true)), 28, none⟩,
    ⟨(some 43), .load false 1 (.tmp 42), (some (41, true)), 28, none⟩,
    ⟨(some 44), .call (.func 73) [(false, (.tmp 43)), (false, (.const (.int .i64 (1)))), (false, (.const (.int .i64 (281474976710656))))] false 4, (some (41, true)), 28, none⟩,
    ⟨(some 45), .pick (.tmp 41) (.tmp 44) (.const (.bool false)), none, 32, none⟩,
    ⟨(some 46), .move (.tmp 45), none, 32, none⟩,
    ⟨(some 47), .fieldAddr 14 (.tmp 1), (some (46, true)), 32, none⟩,
    ⟨(some 48), .load false 1 (.tmp 47), (some (46, true)), 32, none⟩,
    ⟨(some 49), .call (.func 73) [(false, (.tmp 48)), (false, (.const (.int .i64 (0)))), (false, (.const (.int .i64 (1099511627776))))] false 4, (some (46, true)), 32, none⟩,
    ⟨(some 50), .pick (.tmp 46) (.tmp 49) (.const (.bool false)), none, 36, none⟩,
    ⟨(some 51), .move (.tmp 50), none, 36, none⟩,
    ⟨(some 52), .fieldAddr 15 (.tmp 1), (some (51, true)), 36, none⟩,
    ⟨(some 53), .load false 1 (.tmp 52), (some (51, true)), 36, none⟩,
    ⟨(some 54), .call (.func 73) [(false, (.tmp 53)), (false, (.const (.int .i64 (0)))), (false, (.const (.int .i64 (1099511627776))))] false 4, (some (51, true)), 36, none⟩,
    ⟨(some 55), .pick (.tmp 51) (.tmp 54) (.const (.bool false)), none, 40, none⟩,
    ⟨(some 56), .move (.tmp 55), none, 40, none⟩,
    ⟨(some 57), .fieldAddr 16 (.tmp 1), (some (56, true)), 40, none⟩,
    ⟨(some 58), .load false 1 (.tmp 57), (some (56, true)), 40, none⟩,
    ⟨(some 59), .call (.func 73) [(false, (.tmp 58)), (false, (.const (.int .i64 (0)))), (false, (.const (.int .i64 (1099511627776))))] false 4, (some (56, true)), 40, none⟩,
    ⟨(some 60), .pick (.tmp 56) (.tmp 59) (.const (.bool false)), none, 44, none⟩,
    ⟨(some 61), .move (.tmp 60), none, 44, none⟩,
    ⟨(some 62), .fieldAddr 17 (.tmp 1), (some (61, true)), 44, none⟩,
    ⟨(some 63), .load false 1 (.tmp 62), (some (61, true)), 44, none⟩,
    ⟨(some 64), .fieldAddr 0 (.tmp 1), (some (61, true)), 44, none⟩,
    ⟨(some 65), .load false 1 (.tmp 64), (some (61, true)), 44, none⟩,
    ⟨(some 66), .call (.func 73) [(false, (.tmp 63)), (false, (.const (.int .i64 (0)))), (false, (.tmp 65))] false 4, (some (61, true)), 44, none⟩,
    ⟨(some 67), .pick (.tmp 61) (.tmp 66) (.const (.bool false)), none, 48, none⟩,
    ⟨(some 68), .move (.tmp 67), none, 48, none⟩,
    ⟨(some 69), .load true 18 (.tmp 1), (some (68, true)), 48, none⟩,
    ⟨(some 70), .call (.func 76) [(false, (.tmp 69))] false 4, (some (68, true)), 48, none⟩,
    ⟨(some 71), .pick (.tmp 68) (.tmp 70) (.const (.bool false)), none, 52, none⟩,
    ⟨(some 2), .move (.tmp 71), none, 52, none⟩] []) (.ret)), [.tmp 2], true⟩
def s40 : Sig := ⟨(.cons (.v .job) .nil), [], ((.v .bool), []), []⟩
def F40 (L : Lp) (g73 : Int → Int → Int → Option Bool) (g74 : Res → Option Bool) (g75 : Job → Option Bool) (g76 : Job → Option Bool) (j0 : Job) : Option Bool :=
  Option.bind (g73 j0.id 1 1048576) fun r1 =>
  cond r1
  (Option.bind (g73 j0.user 0 7) fun r2 =>
  cond r2
  (Option.bind (g73 j0.queue 0 7) fun r3 =>
  cond r3
  (Option.bind (g73 j0.many 1 64) fun r4 =>
  cond r4
  (Option.bind (g74 j0.need) fun r5 =>
  cond r5
  (cond (!((decide (j0.need.cpu = 0)) && ((decide (j0.need.mem = 0)) && ((decide (j0.need.gpu = 0)) && ((decide (j0.need.lic = 0)) && true)))))
  (Option.bind (g73 j0.wall 1 65536) fun r6 =>
  cond r6
  (Option.bind (g75 j0) fun r7 =>
  cond r7
  (Option.bind (g73 j0.version 1 281474976710656) fun r8 =>
  cond r8
  (Option.bind (g73 j0.born 0 1099511627776) fun r9 =>
  cond r9
  (Option.bind (g73 j0.start 0 1099511627776) fun r10 =>
  cond r10
  (Option.bind (g73 j0.fin 0 1099511627776) fun r11 =>
  cond r11
  (Option.bind (g73 j0.array 0 j0.id) fun r12 =>
  cond r12
  (Option.bind (g76 j0) fun r13 =>
  some r13)
  (some false))
  (some false))
  (some false))
  (some false))
  (some false))
  (some false))
  (some false))
  (some false))
  (some false))
  (some false))
  (some false))
  (some false))
  (some false)
theorem e40 (L : Lp) (g73 : Int → Int → Int → Option Bool) (g74 : Res → Option Bool) (g75 : Job → Option Bool) (g76 : Job → Option Bool) (x : s40.args.den) (h : denH s40.heap) : nrun [⟨73, s73, fun x h => g73 x.1 x.2.1 x.2.2.1⟩, ⟨74, s74, fun x h => g74 x.1⟩, ⟨75, s75, fun x h => g75 x.1⟩, ⟨76, s76, fun x h => g76 x.1⟩] L n40 s40 x h = F40 L g73 g74 g75 g76 x.1 := by kernel_rfl
def f40 : Job → Option Bool := F40 (@LN LOOPS) f73 f74 f75 f76
@[reducible] def t40 : Ent := ⟨40, s40, fun x h => f40 x.1⟩
theorem k40 : chkNF Try.prog Try.f40 n40 = true := by kernel_rfl
theorem ok40 : NOk Try.prog t40 := NOk.body (T := [t73, t74, t75, t76]) mixed (nall_cons ok73 (nall_cons ok74 (nall_cons ok75 (nall_cons ok76 nall_nil)))) (oneEach_of (by kernel_rfl)) Try.func40 k40 (by kernel_rfl) (fun x h => e40 _ _ _ _ _ x h)
/- (*drayage/table.Table).find$1 -/
def n71 : NFunc := ⟨15, .seq (.region 0 [
    ⟨(some 4), .move (.const (.bool false)), none, 0, none⟩] []) (.seq (.region 0 [
    ⟨(some 5), .load false 1 (.tmp 1), none, 0, (some ([], none))⟩,
    ⟨(some 6), .nilCheck (.tmp 5), none, 0, (some ([], none))⟩,
    ⟨(some 7), .fieldAddr 1 (.tmp 6), none, 0, (some ([], none))⟩,
    ⟨(some 8), .load false 1 (.tmp 7), none, 0, (some ([], none))⟩,
    ⟨(some 9), .move (.tmp 0), none, 0, (some ([], none))⟩,
    ⟨(some 10), .indexSl 18 (.tmp 8) (.tmp 9), none, 0, (some ([], none))⟩,
    ⟨(some 11), .fieldAddr 0 (.tmp 10), none, 0, (some ([], none))⟩,
    ⟨(some 12), .load false 1 (.tmp 11), none, 0, (some ([], none))⟩,
    ⟨(some 13), .load false 1 (.tmp 2), none, 0, (some ([], none))⟩,
    ⟨(some 14), .bin .geq (.tmp 12) (.tmp 13), none, 0, (some ([], none))⟩,
    ⟨(some 4), .move (.tmp 14), none, 0, (some ([], none))⟩] []) (.ret)), [.tmp 4], true⟩
def s71 : Sig := ⟨(.cons (.v (.int .i64)) (.cons (.iptr (.cons (.iptr (.cons (.v (.int .i64)) (.cons (.v (.list .job)) .nil)) 0) .nil) 0) (.cons (.iptr (.cons (.v (.int .i64)) .nil) 0) .nil))), [], ((.v .bool), []), []⟩
def F71 (L : Lp)  (i0 : Int) (a1 : Int) (a2 : (List Job)) (a3 : Int) : Option Bool :=
  cond (decide (0 ≤ i0))
  (Option.bind (a2[Int.toNat i0]?) fun y4 =>
  some (decide (a3 ≤ y4.id)))
  (none)
theorem e71 (L : Lp)  (x : s71.args.den) (h : denH s71.heap) : nrun [] L n71 s71 x h = F71 L  x.1 x.2.1.1.1 x.2.1.1.2.1 x.2.2.1.1 := by kernel_rfl
def f71 : Int → Int → (List Job) → Int → Option Bool := F71 (@LN LOOPS) 
@[reducible] def t71 : Ent := ⟨71, s71, fun x h => f71 x.1 x.2.1.1.1 x.2.1.1.2.1 x.2.2.1.1⟩
theorem k71 : chkNF Try.prog Try.f71 n71 = true := by kernel_rfl
theorem ok71 : NOk Try.prog t71 := NOk.body (T := []) mixed nall_nil (oneEach_of (by kernel_rfl)) Try.func71 k71 (by kernel_rfl) (fun x h => e71 _  x h)
/- sort.Search -/
def n70 : NFunc := ⟨26, .seq (.region 0 [
    ⟨(some 4), .move (.const (.int .i64 (0))), none, 0, none⟩] []) (.seq (.region 0 [
    ⟨(some 8), .move (.tmp 0), none, 0, none⟩,
    ⟨(some 5), .move (.const (.int .i64 (0))), none, 0, none⟩,
    ⟨(some 6), .move (.tmp 8), none, 0, none⟩] []) (.seq (.block 0 (.loop [1, 5, 6] ⟨[(5, (.v (.int .i64))), (6, (.v (.int .i64)))], [1], []⟩ (.seq (.seq (.region 0 [
    ⟨(some 9), .move (.tmp 5), none, 0, none⟩,
    ⟨(some 10), .move (.tmp 6), none, 0, none⟩,
    ⟨(some 11), .bin .lss (.tmp 9) (.tmp 10), none, 0, none⟩] []) (.cond (.tmp 11) (.skip) (.exit 0))) (.block 1 (.seq (.region 0 [
    ⟨(some 12), .move (.tmp 5), none, 0, none⟩,
    ⟨(some 13), .move (.tmp 6), none, 0, none⟩,
    ⟨(some 14), .bin .add (.tmp 12) (.tmp 13), none, 0, none⟩,
    ⟨(some 15), .conv .u64 (.tmp 14), none, 0, none⟩,
    ⟨(some 16), .bin .shr (.tmp 15) (.const (.int .u64 (1))), none, 0, none⟩,
    ⟨(some 17), .conv .i64 (.tmp 16), none, 0, none⟩,
    ⟨(some 7), .move (.tmp 17), none, 0, none⟩] []) (.seq (.region 4 [
    ⟨(some 18), .move (.tmp 1), none, 0, none⟩,
    ⟨(some 19), .move (.tmp 7), none, 0, none⟩,
    ⟨(some 20), .call (.tmp 18) [(false, (.tmp 19))] false 4, none, 0, none⟩,
    ⟨(some 21), .un .not (.tmp 20), none, 4, none⟩] []) (.cond (.tmp 21) (.region 0 [
    ⟨(some 22), .move (.tmp 7), none, 0, none⟩,
    ⟨(some 23), .bin .add (.tmp 22) (.const (.int .i64 (1))), none, 0, none⟩,
    ⟨(some 5), .move (.tmp 23), none, 0, none⟩] []) (.region 0 [
    ⟨(some 24), .move (.tmp 7), none, 0, none⟩,
    ⟨(some 6), .move (.tmp 24), none, 0, none⟩] [])))))))) (.seq (.region 0 [
    ⟨(some 25), .move (.tmp 5), none, 0, none⟩,
    ⟨(some 4), .move (.tmp 25), none, 0, none⟩] []) (.ret)))), [.tmp 4], true⟩
def s70 : Sig := ⟨(.cons (.v (.int .i64)) (.cons (.fn 71 (.cons (.iptr (.cons (.iptr (.cons (.v (.int .i64)) (.cons (.v (.list .job)) .nil)) 0) .nil) 0) (.cons (.iptr (.cons (.v (.int .i64)) .nil) 0) .nil))) .nil)), [], ((.v (.int .i64)), []), []⟩
def l70_0 (g71 : Int → Int → (List Job) → Int → Option Bool) (af1 : Int) (af2 : (List Job)) (af3 : Int) (nx5 : ((Int × (Int × Unit)) × Unit) → Option Int) (i6 : Int) (j7 : Int) : Option Int :=
  cond (decide (i6 < j7))
  (let v8 := Int.fdiv (IntKind.wrap .u64 (IntKind.wrap .i64 (i6 + j7))) (2 ^ (min (Int.toNat 1) 64))
  Option.bind (g71 (IntKind.wrap .i64 (v8)) af1 af2 af3) fun r9 =>
  cond (!r9)
  (nx5 ((IntKind.wrap .i64 ((IntKind.wrap .i64 (v8)) + 1), j7, ()), ()))
  (nx5 ((i6, IntKind.wrap .i64 (v8), ()), ())))
  (some i6)
def F70 (L : Lp) (g71 : Int → Int → (List Job) → Int → Option Bool) (an0 : Int) (af1 : Int) (af2 : (List Job)) (af3 : Int) : Option Int :=
  L (fun (s4 : ((Int × (Int × Unit)) × Unit)) nx5 => l70_0 g71 af1 af2 af3 nx5 s4.1.1 s4.1.2.1) ((0, an0, ()), ())
theorem e70 (L : Lp) (g71 : Int → Int → (List Job) → Int → Option Bool) (x : s70.args.den) (h : denH s70.heap) : nrun [⟨71, s71, fun x h => g71 x.1 x.2.1.1.1 x.2.1.1.2.1 x.2.2.1.1⟩] L n70 s70 x h = F70 L g71 x.1 x.2.1.1.1.1 x.2.1.1.1.2.1 x.2.1.2.1.1 := by kernel_rfl
def f70 : Int → Int → (List Job) → Int → Option Int := F70 (@LN LOOPS) f71
@[reducible] def t70 : Ent := ⟨70, s70, fun x h => f70 x.1 x.2.1.1.1.1 x.2.1.1.1.2.1 x.2.1.2.1.1⟩
theorem k70 : chkNF Try.prog Try.f70 n70 = true := by kernel_rfl
theorem ok70 : NOk Try.prog t70 := NOk.body (T := [t71]) mixed (nall_cons ok71 nall_nil) (oneEach_of (by kernel_rfl)) Try.func70 k70 (by kernel_rfl) (fun x h => e70 _ _ x h)
/- (*drayage/table.Table).find -/
def n38 : NFunc := ⟨34, .seq (.region 2 [
    ⟨(some 2), .box 1 (.tmp 0), none, 0, none⟩,
    ⟨(some 3), .box 1 (.tmp 1), none, 1, none⟩,
    ⟨(some 4), .move (.const (.int .i64 (0))), none, 2, none⟩,
    ⟨(some 5), .move (.const (.bool false)), none, 2, none⟩] []) (.seq (.region 4 [
    ⟨(some 7), .load false 1 (.tmp 2), none, 0, none⟩,
    ⟨(some 8), .nilCheck (.tmp 7), none, 0, none⟩,
    ⟨(some 9), .fieldAddr 1 (.tmp 8), none, 0, none⟩,
    ⟨(some 10), .load false 1 (.tmp 9), none, 0, none⟩,
    ⟨(some 11), .len (.tmp 10), none, 0, none⟩,
    ⟨(some 12), .makeFunc 71 [(.tmp 2), (.tmp 3)], none, 0, none⟩,
    ⟨(some 13), .call (.func 70) [(false, (.tmp 11)), (false, (.tmp 12))] false 4, none, 0, none⟩,
    ⟨(some 6), .move (.tmp 13), none, 4, none⟩] []) (.seq (.region 0 [
    ⟨(some 14), .move (.tmp 6), none, 0, (some ([], none))⟩,
    ⟨(some 15), .move (.tmp 6), none, 0, (some ([], none))⟩,
    ⟨(some 16), .load false 1 (.tmp 2), none, 0, (some ([], none))⟩,
    ⟨(some 17), .nilCheck (.tmp 16), none, 0, (some ([], none))⟩,
    ⟨(some 18), .fieldAddr 1 (.tmp 17), none, 0, (some ([], none))⟩,
    ⟨(some 19), .load false 1 (.tmp 18), none, 0, (some ([], none))⟩,
    ⟨(some 20), .len (.tmp 19), none, 0, (some ([], none))⟩,
    ⟨(some 21), .bin .lss (.tmp 15) (.tmp 20), none, 0, (some ([], none))⟩,
    ⟨(some 22), .move (.tmp 21), none, 0, (some ([], none))⟩,
    ⟨(some 23), .load false 1 (.tmp 2), (some (22, true)), 0, (some ([], none))⟩,
    ⟨(some 24), .nilCheck (.tmp 23), (some (22, true)), 0, (some ([], none))⟩,
    ⟨(some 25), .fieldAddr 1 (.tmp 24), (some (22, true)), 0, (some ([], none))⟩,
    ⟨(some 26), .load false 1 (.tmp 25), (some (22, true)), 0, (some ([], none))⟩,
    ⟨(some 27), .move (.tmp 6), (some (22, true)), 0, (some ([], none))⟩,
    ⟨(some 28), .indexSl 18 (.tmp 26) (.tmp 27), (some (22, true)), 0, (some ([], none))⟩,
    ⟨(some 29), .fieldAddr 0 (.tmp 28), (some (22, true)), 0, (some ([], none))⟩,
    ⟨(some 30), .load false 1 (.tmp 29), (some (22, true)), 0, (some ([], none))⟩,
    ⟨(some 31), .load false 1 (.tmp 3), (some (22, true)), 0, (some ([], none))⟩,
    ⟨(some 32), .bin .eql (.tmp 30) (.tmp 31), (some (22, true)), 0, (some ([], none))⟩,
    ⟨(some 33), .pick (.tmp 22) (.tmp 32) (.const (.bool false)), none, 0, (some ([], none))⟩,
    ⟨(some 4), .move (.tmp 14), none, 0, (some ([], none))⟩,
    ⟨(some 5), .move (.tmp 33), none, 0, (some ([], none))⟩] []) (.ret))), [.tmp 4, .tmp 5], true⟩
def s38 : Sig := ⟨(.cons (.ptr 0 0 0) (.cons (.v (.int .i64)) .nil)), [.cell false (.cons (.v (.int .i64)) (.cons .zsl .nil))], ((.tup (.cons (.v (.int .i64)) (.cons (.v .bool) .nil))), [.cell false (.cons (.v (.int .i64)) (.cons .zsl .nil))]), []⟩
def F38 (L : Lp) (g70 : Int → Int → (List Job) → Int → Option Int) (id0 : Int) (a1 : Int) : Option ((Int × (Bool × Unit)) × ((Int × (Unit × Unit)) × Unit)) :=
  Option.bind (g70 0 a1 [] id0) fun r2 =>
  cond (decide (r2 < 0))
  (none)
  (some ((r2, false, ()), ((a1, (), ()), ())))
theorem e38 (L : Lp) (g70 : Int → Int → (List Job) → Int → Option Int) (x : s38.args.den) (h : denH s38.heap) : nrun [⟨70, s70, fun x h => g70 x.1 x.2.1.1.1.1 x.2.1.1.1.2.1 x.2.1.2.1.1⟩] L n38 s38 x h = F38 L g70 x.2.1 h.1.1 := by kernel_rfl
def f38 : Int → Int → Option ((Int × (Bool × Unit)) × ((Int × (Unit × Unit)) × Unit)) := F38 (@LN LOOPS) f70
@[reducible] def t38 : Ent := ⟨38, s38, fun x h => f38 x.2.1 h.1.1⟩
theorem k38 : chkNF Try.prog Try.f38 n38 = true := by kernel_rfl
theorem ok38 : NOk Try.prog t38 := NOk.body (T := [t70]) mixed (nall_cons ok70 nall_nil) (oneEach_of (by kernel_rfl)) Try.func38 k38 (by kernel_rfl) (fun x h => e38 _ _ x h)
/- slices.Clone[[]drayage/api.Dep,drayage/api.Dep] -/
def n72 : NFunc := ⟨8, .seq (.region 0 [
    ⟨(some 2), .move (.const (.zsl)), none, 0, none⟩] []) (.seq (.seq (.region 0 [
    ⟨(some 3), .move (.tmp 0), none, 0, none⟩,
    ⟨(some 4), .eqI false (.tmp 3) (.const (.zsl)), none, 0, none⟩] []) (.cond (.tmp 4) (.seq (.region 0 [
    ⟨(some 2), .move (.const (.zsl)), none, 0, none⟩] []) (.ret)) (.skip))) (.seq (.region 2 [
    ⟨(some 5), .buildSlice 2 0 true [.int .i64 (0), .bool false] [], none, 0, none⟩,
    ⟨(some 6), .move (.tmp 0), none, 1, none⟩,
    ⟨(some 7), .append 2 16 true (.tmp 5) (.tmp 6), none, 1, none⟩,
    ⟨(some 2), .move (.tmp 7), none, 2, none⟩] []) (.ret))), [.tmp 2], false⟩
def s72 : Sig := ⟨(.cons (.v (.list .dep)) .nil), [], ((.slw 0 2), [.typed .dep]), []⟩
def F72 (L : Lp)  (as0 : (List Dep)) : Option (Unit × ((List Dep) × Unit)) :=
  cond (List.isEmpty as0)
  (none)
  (cond (smallB (0 + (List.length as0)) 16)
  (some ((), ([] ++ as0, ())))
  (none))
theorem e72 (L : Lp)  (x : s72.args.den) (h : denH s72.heap) : nrun [] L n72 s72 x h = F72 L  x.1 := by kernel_rfl
def f72 : (List Dep) → Option (Unit × ((List Dep) × Unit)) := cloneF (F72 (@LN LOOPS))
@[reducible] def t72 : Ent := ⟨72, s72, fun x h => f72 x.1⟩
theorem k72 : chkNF Try.prog Try.f72 n72 = true := by kernel_rfl
theorem c72 (A : Option Addr) (c : Nat) (w : World) : Calls Try.prog 72 #[.slice A 0 c] w (fun e w' => ∃ A', e = .returned (.slice A' 0 0) ∧ Go.RowKit.Below w.heap.size w w') := by
  have hq := fun (u : World) => Lib.run_eql_slice_nil (P := Try.prog) u 27 48 A 0 c 0 0 Try.underlying27
  cases A with
  | none => (go_enter Try.func72, Try.ntmps72; go_wp2; go_ret; exact ⟨_, rfl, Go.RowKit.Below.refl _ _⟩)
  | some ad => (go_enter Try.func72, Try.ntmps72; go_wp2; go_ret; exact ⟨_, rfl, (Go.RowKit.Below.refl _ _).alloc (Nat.le_refl _) _⟩)
theorem b72 : NOk Try.prog ⟨72, s72, fun x h => F72 (@LN LOOPS) x.1⟩ := NOk.body (T := []) mixed nall_nil (oneEach_of (by kernel_rfl)) Try.func72 k72 (by kernel_rfl) (fun x h => e72 _  x h)
theorem ok72 : NOk Try.prog t72 := NOk.clone (t := .dep) b72 (clone_empty .dep b72.1 c72)
/- drayage/table.own -/
def n39 : NFunc := ⟨8, .seq (.region 2 [
    ⟨(some 1), .box 18 (.tmp 0), none, 0, none⟩,
    ⟨(some 2), .alloc [.int .i64 (0), .int .i64 (0), .int .i64 (0), .int .i64 (0), .int .i64 (0), .int .i64 (0), .int .i64 (0), .int .i64 (0), .int .i64 (0), .zsl, .int .i64 (0), .bool false, .bool false, .int .i64 (0), .int .i64 (0), .int .i64 (0), .int .i64 (0), .int .i64 (0)], none, 1, none⟩] []) (.seq (.region 4 [
    ⟨(some 3), .fieldAddr 9 (.tmp 1), none, 0, none⟩,
    ⟨(some 4), .load false 1 (.tmp 3), none, 0, none⟩,
    ⟨(some 5), .call (.func 72) [(false, (.tmp 4))] false 4, none, 0, none⟩,
    ⟨(some 6), .fieldAddr 9 (.tmp 1), none, 4, none⟩,
    ⟨none, .store 1 (.tmp 6) (.tmp 5), none, 4, none⟩] []) (.seq (.region 0 [
    ⟨(some 7), .load true 18 (.tmp 1), none, 0, none⟩,
    ⟨none, .store 18 (.tmp 2) (.tmp 7), none, 0, none⟩] []) (.ret))), [.cell true 18 2], true⟩
def s39 : Sig := ⟨(.cons (.v .job) .nil), [], ((.v .job), []), []⟩
def F39 (L : Lp) (g72 : (List Dep) → Option (Unit × ((List Dep) × Unit))) (j0 : Job) : Option Job :=
  Option.bind (g72 j0.after) fun r1 =>
  some (Job.mk j0.id j0.user j0.queue j0.many j0.need j0.wall r1.2.1 j0.state j0.ok j0.kill j0.version j0.born j0.start j0.fin j0.array)
theorem e39 (L : Lp) (g72 : (List Dep) → Option (Unit × ((List Dep) × Unit))) (x : s39.args.den) (h : denH s39.heap) : nrun [⟨72, s72, fun x h => g72 x.1⟩] L n39 s39 x h = F39 L g72 x.1 := by kernel_rfl
def f39 : Job → Option Job := F39 (@LN LOOPS) f72
@[reducible] def t39 : Ent := ⟨39, s39, fun x h => f39 x.1⟩
theorem k39 : chkNF Try.prog Try.f39 n39 = true := by kernel_rfl
theorem ok39 : NOk Try.prog t39 := NOk.body (T := [t72]) mixed (nall_cons ok72 nall_nil) (oneEach_of (by kernel_rfl)) Try.func39 k39 (by kernel_rfl) (fun x h => e39 _ _ x h)
/- slices.Insert[[]drayage/api.Job,drayage/api.Job] -/
def s41 : Sig := ⟨(.cons .zsl (.cons (.v (.int .i64)) (.cons (.slw 0 18) .nil))), [.typed .job], ((.slw 1 18), [.typed .job, .typed .job]), []⟩
def f41 : Int → (List Job) → Option (Unit × ((List Job) × ((List Job) × Unit))) := insertZ 152
@[reducible] def t41 : Ent := ⟨41, s41, fun x h => f41 x.2.1 h.1⟩
theorem ok41 : NOk Try.prog t41 := extz41
/- (*drayage/table.Table).Put -/
def n9_1 : NFunc := ⟨42, .seq (.region 1 [
    ⟨(some 3), .box 18 (.tmp 1), none, 0, none⟩,
    ⟨(some 4), .move (.const (.int .i64 (0))), none, 1, none⟩] []) (.seq (.seq (.region 0 [
    ⟨(some 7), .move (.tmp 0), none, 0, none⟩,
    ⟨(some 8), .eqP false (.tmp 7) (.const (.nilp)), none, 0, none⟩] []) (.cond (.tmp 8) (.seq (.region 0 [
    ⟨(some 4), .move (.const (.int .i64 (1))), none, 0, none⟩] []) (.ret)) (.skip))) (.seq (.seq (.region 4 [
    ⟨(some 9), .load true 18 (.tmp 3), none, 0, none⟩,
    ⟨(some 10), .call (.func 40) [(false, (.tmp 9))] false 4, none, 0, none⟩,
    ⟨(some 11), .un .not (.tmp 10), none, 4, none⟩] []) (.cond (.tmp 11) (.seq (.region 0 [
    ⟨(some 4), .move (.const (.int .i64 (2))), none, 0, none⟩] []) (.ret)) (.skip))) (.seq (.region 4 [
    ⟨(some 13), .move (.tmp 0), none, 0, none⟩,
    ⟨(some 14), .fieldAddr 0 (.tmp 3), none, 0, none⟩,
    ⟨(some 15), .load false 1 (.tmp 14), none, 0, none⟩,
    ⟨(some 16), .call (.func 38) [(true, (.tmp 13)), (false, (.tmp 15))] false 4, none, 0, none⟩,
    ⟨(some 12), .move (.tmp 16), none, 4, none⟩,
    ⟨(some 17), .extract (.tmp 12) 0, none, 4, none⟩,
    ⟨(some 18), .extract (.tmp 12) 1, none, 4, none⟩,
    ⟨(some 5), .move (.tmp 17), none, 4, none⟩,
    ⟨(some 6), .move (.tmp 18), none, 4, none⟩] []) (.seq (.seq (.region 0 [
    ⟨(some 19), .move (.tmp 6), none, 0, none⟩] []) (.cond (.tmp 19) (.seq (.region 0 [
    ⟨(some 4), .move (.const (.int .i64 (31))), none, 0, none⟩] []) (.ret)) (.skip))) (.seq (.seq (.region 0 [
    ⟨(some 20), .move (.tmp 0), none, 0, (some ([], none))⟩,
    ⟨(some 21), .nilCheck (.tmp 20), none, 0, (some ([], none))⟩,
    ⟨(some 22), .fieldAddr 1 (.tmp 21), none, 0, (some ([], none))⟩,
    ⟨(some 23), .load false 1 (.tmp 22), none, 0, (some ([], none))⟩,
    ⟨(some 24), .len (.tmp 23), none, 0, (some ([], none))⟩,
    ⟨(some 25), .move (.tmp 0), none, 0, (some ([], none))⟩,
    ⟨(some 26), .nilCheck (.tmp 25), none, 0, (some ([], none))⟩,
    ⟨(some 27), .fieldAddr 0 (.tmp 26), none, 0, (some ([], none))⟩,
    ⟨(some 28), .load false 1 (.tmp 27), none, 0, (some ([], none))⟩,
    ⟨(some 29), .bin .eql (.tmp 24) (.tmp 28), none, 0, (some ([], none))⟩] []) (.cond (.tmp 29) (.seq (.region 0 [
    ⟨(some 4), .move (.const (.int .i64 (35))), none, 0, none⟩] []) (.ret)) (.skip))) (.seq (.region 9 [
    ⟨(some 30), .move (.tmp 0), none, 0, (some ([], none))⟩,
    ⟨(some 31), .move (.tmp 0), none, 0, (some ([], none))⟩,
    ⟨(some 32), .nilCheck (.tmp 31), none, 0, (some ([], none))⟩,
    ⟨(some 33), .fieldAddr 1 (.tmp 32), none, 0, (some ([], none))⟩,
    ⟨(some 34), .load false 1 (.tmp 33), none, 0, (some ([], none))⟩,
    ⟨(some 35), .move (.tmp 5), none, 0, (some ([], none))⟩,
    ⟨(some 36), .load true 18 (.tmp 3), none, 0, (some ([], none))⟩,
    ⟨(some 37), .call (.func 39) [(false, (.tmp 36))] true 4, none, 0, (some ([], none))⟩,
    ⟨(some 38), .buildSlice 18 1 true [.int .i64 (0), .int .i64 (0), .int .i64 (0), .int .i64 (0), .int .i64 (0), .int .i64 (0), .int .i64 (0), .int .i64 (0), .int .i64 (0), .zsl, .int .i64 (0), .bool false, .bool false, .int .i64 (0), .int .i64 (0), .int .i64 (0), .int .i64 (0), .int .i64 (0)] [(0, (.tmp 37))], none, 4, (some ([0, 1, 2, 3], none))⟩,
    ⟨(some 39), .call (.func 41) [(true, (.tmp 34)), (false, (.tmp 35)), (true, (.tmp 38))] false 4, none, 5, (some ([0, 1, 2, 3, 4], none))⟩,
    ⟨(some 40), .nilCheck (.tmp 30), none, 9, (some ([0, 1, 2, 3, 4, 5, 6, 7, 8], none))⟩,
    ⟨(some 41), .fieldAddr 1 (.tmp 40), none, 9, (some ([0, 1, 2, 3, 4, 5, 6, 7, 8], none))⟩,
    ⟨none, .store 1 (.tmp 41) (.tmp 39), none, 9, (some ([0, 1, 2, 3, 4, 5, 6, 7, 8], none))⟩] []) (.seq (.region 0 [
    ⟨(some 4), .move (.const (.int .i64 (0))), none, 0, none⟩] []) (.ret)))))))), [.tmp 4], true⟩
def s9_1 : Sig := ⟨(.cons (.ptr 0 0 0) (.cons (.v .job) .nil)), [.cell false (.cons (.v (.int .i64)) (.cons .zsl .nil))], ((.v (.int .i64)), [.cell false (.cons (.v (.int .i64)) (.cons .zsl .nil))]), [((.v (.int .i64)), [.cell false (.cons (.v (.int .i64)) (.cons (.slw 1 18) .nil)), .typed .job])]⟩
def F9_1 (L : Lp) (g40 : Job → Option Bool) (g38 : Int → Int → Option ((Int × (Bool × Unit)) × ((Int × (Unit × Unit)) × Unit))) (g39 : Job → Option Job) (g41 : Int → (List Job) → Option (Unit × ((List Job) × ((List Job) × Unit)))) (j0 : Job) (a1 : Int) : Option ((Int × ((Int × (Unit × Unit)) × Unit)) ⊕ (Int × ((Int × (Unit × Unit)) × ((List Job) × Unit)))) :=
  Option.bind (g40 j0) fun r2 =>
  cond (!r2)
  (some (.inl (2, ((a1, (), ()), ()))))
  (Option.bind (g38 j0.id a1) fun r3 =>
  cond r3.1.2.1
  (some (.inl (31, ((r3.2.1.1, (), ()), ()))))
  (cond (decide (0 = r3.2.1.1))
  (some (.inl (35, ((r3.2.1.1, (), ()), ()))))
  (Option.bind (g39 j0) fun r4 =>
  Option.bind (g41 r3.1.1 [r4]) fun r5 =>
  cond ((decide ((List.length r5.2.1) = 1)) && true)
  (some (.inr (0, ((r3.2.1.1, (), ()), r5.2.2.1, ()))))
  (none))))
theorem e9_1 (L : Lp) (g40 : Job → Option Bool) (g38 : Int → Int → Option ((Int × (Bool × Unit)) × ((Int × (Unit × Unit)) × Unit))) (g39 : Job → Option Job) (g41 : Int → (List Job) → Option (Unit × ((List Job) × ((List Job) × Unit)))) (x : s9_1.args.den) (h : denH s9_1.heap) : nrun [⟨40, s40, fun x h => g40 x.1⟩, ⟨38, s38, fun x h => g38 x.2.1 h.1.1⟩, ⟨39, s39, fun x h => g39 x.1⟩, ⟨41, s41, fun x h => g41 x.2.1 h.1⟩] L n9_1 s9_1 x h = F9_1 L g40 g38 g39 g41 x.2.1 h.1.1 := by kernel_rfl
def f9_1 : Job → Int → Option ((Int × ((Int × (Unit × Unit)) × Unit)) ⊕ (Int × ((Int × (Unit × Unit)) × ((List Job) × Unit)))) := F9_1 (@LN LOOPS) f40 f38 f39 f41
@[reducible] def t9_1 : Ent := ⟨9, s9_1, fun x h => f9_1 x.2.1 h.1.1⟩
theorem k9_1 : chkNF Try.prog Try.f9 n9_1 = true := by kernel_rfl
theorem ok9_1 : NOk Try.prog t9_1 := NOk.body (T := [t40, t38, t39, t41]) mixed (nall_cons ok40 (nall_cons ok38 (nall_cons ok39 (nall_cons ok41 nall_nil)))) (oneEach_of (by kernel_rfl)) Try.func9 k9_1 (by kernel_rfl) (fun x h => e9_1 _ _ _ _ _ x h)
/- (*drayage/table.Table).Get -/
def n8_1 : NFunc := ⟨28, .seq (.region 1 [
    ⟨(some 4), .alloc [.int .i64 (0), .int .i64 (0), .int .i64 (0), .int .i64 (0), .int .i64 (0), .int .i64 (0), .int .i64 (0), .int .i64 (0), .int .i64 (0), .zsl, .int .i64 (0), .bool false, .bool false, .int .i64 (0), .int .i64 (0), .int .i64 (0), .int .i64 (0), .int .i64 (0)], none, 0, none⟩,
    ⟨(some 5), .move (.const (.bool false)), none, 1, none⟩] []) (.seq (.seq (.region 0 [
    ⟨(some 8), .move (.tmp 0), none, 0, none⟩,
    ⟨(some 9), .eqP false (.tmp 8) (.const (.nilp)), none, 0, none⟩] []) (.cond (.tmp 9) (.seq (.region 0 [
    ⟨(some 10), .build [.int .i64 (0), .int .i64 (0), .int .i64 (0), .int .i64 (0), .int .i64 (0), .int .i64 (0), .int .i64 (0), .int .i64 (0), .int .i64 (0), .zsl, .int .i64 (0), .bool false, .bool false, .int .i64 (0), .int .i64 (0), .int .i64 (0), .int .i64 (0), .int .i64 (0)] [], none, 0, none⟩,
    ⟨none, .store 18 (.tmp 4) (.tmp 10), none, 0, none⟩,
    ⟨(some 5), .move (.const (.bool false)), none, 0, none⟩] []) (.ret)) (.skip))) (.seq (.region 4 [
    ⟨(some 12), .move (.tmp 0), none, 0, none⟩,
    ⟨(some 13), .move (.tmp 1), none, 0, none⟩,
    ⟨(some 14), .call (.func 38) [(true, (.tmp 12)), (false, (.tmp 13))] false 4, none, 0, none⟩,
    ⟨(some 11), .move (.tmp 14), none, 4, none⟩,
    ⟨(some 15), .extract (.tmp 11) 0, none, 4, none⟩,
    ⟨(some 16), .extract (.tmp 11) 1, none, 4, none⟩,
    ⟨(some 6), .move (.tmp 15), none, 4, none⟩,
    ⟨(some 7), .move (.tmp 16), none, 4, none⟩] []) (.seq (.seq (.region 0 [
    ⟨(some 17), .move (.tmp 7), none, 0, none⟩,
    ⟨(some 18), .un .not (.tmp 17), none, 0, none⟩] []) (.cond (.tmp 18) (.seq (.region 0 [
    ⟨(some 19), .build [.int .i64 (0), .int .i64 (0), .int .i64 (0), .int .i64 (0), .int .i64 (0), .int .i64 (0), .int .i64 (0), .int .i64 (0), .int .i64 (0), .zsl, .int .i64 (0), .bool false, .bool false, .int .i64 (0), .int .i64 (0), .int .i64 (0), .int .i64 (0), .int .i64 (0)] [], none, 0, none⟩,
    ⟨none, .store 18 (.tmp 4) (.tmp 19), none, 0, none⟩,
    ⟨(some 5), .move (.const (.bool false)), none, 0, none⟩] []) (.ret)) (.skip))) (.seq (.region 4 [
    ⟨(some 20), .move (.tmp 0), none, 0, none⟩,
    ⟨(some 21), .nilCheck (.tmp 20), none, 0, none⟩,
    ⟨(some 22), .fieldAddr 1 (.tmp 21), none, 0, none⟩,
    ⟨(some 23), .load false 1 (.tmp 22), none, 0, none⟩,
    ⟨(some 24), .move (.tmp 6), none, 0, none⟩,
    ⟨(some 25), .indexSl 18 (.tmp 23) (.tmp 24), none, 0, none⟩,
    ⟨(some 26), .load true 18 (.tmp 25), none, 0, none⟩,
    ⟨(some 27), .call (.func 39) [(false, (.tmp 26))] false 4, none, 0, none⟩,
    ⟨none, .store 18 (.tmp 4) (.tmp 27), none, 4, none⟩,
    ⟨(some 5), .move (.const (.bool true)), none, 4, none⟩] []) (.ret))))), [.cell true 18 4, .tmp 5], true⟩
def s8_1 : Sig := ⟨(.cons (.ptr 0 0 0) (.cons (.v (.int .i64)) .nil)), [.cell false (.cons (.v (.int .i64)) (.cons .zsl .nil))], ((.tup (.cons (.v .job) (.cons (.v .bool) .nil))), [.cell false (.cons (.v (.int .i64)) (.cons .zsl .nil))]), []⟩
def F8_1 (L : Lp) (g38 : Int → Int → Option ((Int × (Bool × Unit)) × ((Int × (Unit × Unit)) × Unit))) (id0 : Int) (a1 : Int) : Option ((Job × (Bool × Unit)) × ((Int × (Unit × Unit)) × Unit)) :=
  Option.bind (g38 id0 a1) fun r2 =>
  cond (!r2.1.2.1)
  (some ((Job.mk 0 0 0 0 (Res.mk 0 0 0 0) 0 [] 0 false false 0 0 0 0 0, false, ()), ((r2.2.1.1, (), ()), ())))
  (none)
theorem e8_1 (L : Lp) (g38 : Int → Int → Option ((Int × (Bool × Unit)) × ((Int × (Unit × Unit)) × Unit))) (x : s8_1.args.den) (h : denH s8_1.heap) : nrun [⟨38, s38, fun x h => g38 x.2.1 h.1.1⟩] L n8_1 s8_1 x h = F8_1 L g38 x.2.1 h.1.1 := by kernel_rfl
def f8_1 : Int → Int → Option ((Job × (Bool × Unit)) × ((Int × (Unit × Unit)) × Unit)) := F8_1 (@LN LOOPS) f38
@[reducible] def t8_1 : Ent := ⟨8, s8_1, fun x h => f8_1 x.2.1 h.1.1⟩
theorem k8_1 : chkNF Try.prog Try.f8 n8_1 = true := by kernel_rfl
theorem ok8_1 : NOk Try.prog t8_1 := NOk.body (T := [t38]) mixed (nall_cons ok38 nall_nil) (oneEach_of (by kernel_rfl)) Try.func8 k8_1 (by kernel_rfl) (fun x h => e8_1 _ _ x h)
/- (*drayage/table.Table).find -/
def n38_1 : NFunc := ⟨34, .seq (.region 2 [
    ⟨(some 2), .box 1 (.tmp 0), none, 0, none⟩,
    ⟨(some 3), .box 1 (.tmp 1), none, 1, none⟩,
    ⟨(some 4), .move (.const (.int .i64 (0))), none, 2, none⟩,
    ⟨(some 5), .move (.const (.bool false)), none, 2, none⟩] []) (.seq (.region 4 [
    ⟨(some 7), .load false 1 (.tmp 2), none, 0, none⟩,
    ⟨(some 8), .nilCheck (.tmp 7), none, 0, none⟩,
    ⟨(some 9), .fieldAddr 1 (.tmp 8), none, 0, none⟩,
    ⟨(some 10), .load false 1 (.tmp 9), none, 0, none⟩,
    ⟨(some 11), .len (.tmp 10), none, 0, none⟩,
    ⟨(some 12), .makeFunc 71 [(.tmp 2), (.tmp 3)], none, 0, none⟩,
    ⟨(some 13), .call (.func 70) [(false, (.tmp 11)), (false, (.tmp 12))] false 4, none, 0, none⟩,
    ⟨(some 6), .move (.tmp 13), none, 4, none⟩] []) (.seq (.region 0 [
    ⟨(some 14), .move (.tmp 6), none, 0, (some ([], none))⟩,
    ⟨(some 15), .move (.tmp 6), none, 0, (some ([], none))⟩,
    ⟨(some 16), .load false 1 (.tmp 2), none, 0, (some ([], none))⟩,
    ⟨(some 17), .nilCheck (.tmp 16), none, 0, (some ([], none))⟩,
    ⟨(some 18), .fieldAddr 1 (.tmp 17), none, 0, (some ([], none))⟩,
    ⟨(some 19), .load false 1 (.tmp 18), none, 0, (some ([], none))⟩,
    ⟨(some 20), .len (.tmp 19), none, 0, (some ([], none))⟩,
    ⟨(some 21), .bin .lss (.tmp 15) (.tmp 20), none, 0, (some ([], none))⟩,
    ⟨(some 22), .move (.tmp 21), none, 0, (some ([], none))⟩,
    ⟨(some 23), .load false 1 (.tmp 2), (some (22, true)), 0, (some ([], none))⟩,
    ⟨(some 24), .nilCheck (.tmp 23), (some (22, true)), 0, (some ([], none))⟩,
    ⟨(some 25), .fieldAddr 1 (.tmp 24), (some (22, true)), 0, (some ([], none))⟩,
    ⟨(some 26), .load false 1 (.tmp 25), (some (22, true)), 0, (some ([], none))⟩,
    ⟨(some 27), .move (.tmp 6), (some (22, true)), 0, (some ([], none))⟩,
    ⟨(some 28), .indexSl 18 (.tmp 26) (.tmp 27), (some (22, true)), 0, (some ([], none))⟩,
    ⟨(some 29), .fieldAddr 0 (.tmp 28), (some (22, true)), 0, (some ([], none))⟩,
    ⟨(some 30), .load false 1 (.tmp 29), (some (22, true)), 0, (some ([], none))⟩,
    ⟨(some 31), .load false 1 (.tmp 3), (some (22, true)), 0, (some ([], none))⟩,
    ⟨(some 32), .bin .eql (.tmp 30) (.tmp 31), (some (22, true)), 0, (some ([], none))⟩,
    ⟨(some 33), .pick (.tmp 22) (.tmp 32) (.const (.bool false)), none, 0, (some ([], none))⟩,
    ⟨(some 4), .move (.tmp 14), none, 0, (some ([], none))⟩,
    ⟨(some 5), .move (.tmp 33), none, 0, (some ([], none))⟩] []) (.ret))), [.tmp 4, .tmp 5], true⟩
def s38_1 : Sig := ⟨(.cons (.ptr 0 0 0) (.cons (.v (.int .i64)) .nil)), [.cell false (.cons (.v (.int .i64)) (.cons (.slw 1 18) .nil)), .typed .job], ((.tup (.cons (.v (.int .i64)) (.cons (.v .bool) .nil))), [.cell false (.cons (.v (.int .i64)) (.cons (.slw 1 18) .nil)), .typed .job]), []⟩
def F38_1 (L : Lp) (g70 : Int → Int → (List Job) → Int → Option Int) (id0 : Int) (a1 : Int) (a2 : (List Job)) : Option ((Int × (Bool × Unit)) × ((Int × (Unit × Unit)) × ((List Job) × Unit))) :=
  Option.bind (g70 (List.length a2 : Int) a1 a2 id0) fun r3 =>
  cond (decide (r3 < (List.length a2 : Int)))
  (cond (decide (0 ≤ r3))
  (cond (decide ((Int.toNat r3) < (List.length a2)))
  (Option.bind (a2[Int.toNat r3]?) fun y4 =>
  some ((r3, decide (y4.id = id0), ()), ((a1, (), ()), a2, ())))
  (none))
  (none))
  (some ((r3, false, ()), ((a1, (), ()), a2, ())))
theorem e38_1 (L : Lp) (g70 : Int → Int → (List Job) → Int → Option Int) (x : s38_1.args.den) (h : denH s38_1.heap) : nrun [⟨70, s70, fun x h => g70 x.1 x.2.1.1.1.1 x.2.1.1.1.2.1 x.2.1.2.1.1⟩] L n38_1 s38_1 x h = F38_1 L g70 x.2.1 h.1.1 h.2.1 := by kernel_rfl
def f38_1 : Int → Int → (List Job) → Option ((Int × (Bool × Unit)) × ((Int × (Unit × Unit)) × ((List Job) × Unit))) := F38_1 (@LN LOOPS) f70
@[reducible] def t38_1 : Ent := ⟨38, s38_1, fun x h => f38_1 x.2.1 h.1.1 h.2.1⟩
theorem k38_1 : chkNF Try.prog Try.f38 n38_1 = true := by kernel_rfl
theorem ok38_1 : NOk Try.prog t38_1 := NOk.body (T := [t70]) mixed (nall_cons ok70 nall_nil) (oneEach_of (by kernel_rfl)) Try.func38 k38_1 (by kernel_rfl) (fun x h => e38_1 _ _ x h)
/- (*drayage/table.Table).Get -/
def n8_2 : NFunc := ⟨28, .seq (.region 1 [
    ⟨(some 4), .alloc [.int .i64 (0), .int .i64 (0), .int .i64 (0), .int .i64 (0), .int .i64 (0), .int .i64 (0), .int .i64 (0), .int .i64 (0), .int .i64 (0), .zsl, .int .i64 (0), .bool false, .bool false, .int .i64 (0), .int .i64 (0), .int .i64 (0), .int .i64 (0), .int .i64 (0)], none, 0, none⟩,
    ⟨(some 5), .move (.const (.bool false)), none, 1, none⟩] []) (.seq (.seq (.region 0 [
    ⟨(some 8), .move (.tmp 0), none, 0, none⟩,
    ⟨(some 9), .eqP false (.tmp 8) (.const (.nilp)), none, 0, none⟩] []) (.cond (.tmp 9) (.seq (.region 0 [
    ⟨(some 10), .build [.int .i64 (0), .int .i64 (0), .int .i64 (0), .int .i64 (0), .int .i64 (0), .int .i64 (0), .int .i64 (0), .int .i64 (0), .int .i64 (0), .zsl, .int .i64 (0), .bool false, .bool false, .int .i64 (0), .int .i64 (0), .int .i64 (0), .int .i64 (0), .int .i64 (0)] [], none, 0, none⟩,
    ⟨none, .store 18 (.tmp 4) (.tmp 10), none, 0, none⟩,
    ⟨(some 5), .move (.const (.bool false)), none, 0, none⟩] []) (.ret)) (.skip))) (.seq (.region 4 [
    ⟨(some 12), .move (.tmp 0), none, 0, none⟩,
    ⟨(some 13), .move (.tmp 1), none, 0, none⟩,
    ⟨(some 14), .call (.func 38) [(true, (.tmp 12)), (false, (.tmp 13))] false 4, none, 0, none⟩,
    ⟨(some 11), .move (.tmp 14), none, 4, none⟩,
    ⟨(some 15), .extract (.tmp 11) 0, none, 4, none⟩,
    ⟨(some 16), .extract (.tmp 11) 1, none, 4, none⟩,
    ⟨(some 6), .move (.tmp 15), none, 4, none⟩,
    ⟨(some 7), .move (.tmp 16), none, 4, none⟩] []) (.seq (.seq (.region 0 [
    ⟨(some 17), .move (.tmp 7), none, 0, none⟩,
    ⟨(some 18), .un .not (.tmp 17), none, 0, none⟩] []) (.cond (.tmp 18) (.seq (.region 0 [
    ⟨(some 19), .build [.int .i64 (0), .int .i64 (0), .int .i64 (0), .int .i64 (0), .int .i64 (0), .int .i64 (0), .int .i64 (0), .int .i64 (0), .int .i64 (0), .zsl, .int .i64 (0), .bool false, .bool false, .int .i64 (0), .int .i64 (0), .int .i64 (0), .int .i64 (0), .int .i64 (0)] [], none, 0, none⟩,
    ⟨none, .store 18 (.tmp 4) (.tmp 19), none, 0, none⟩,
    ⟨(some 5), .move (.const (.bool false)), none, 0, none⟩] []) (.ret)) (.skip))) (.seq (.region 4 [
    ⟨(some 20), .move (.tmp 0), none, 0, none⟩,
    ⟨(some 21), .nilCheck (.tmp 20), none, 0, none⟩,
    ⟨(some 22), .fieldAddr 1 (.tmp 21), none, 0, none⟩,
    ⟨(some 23), .load false 1 (.tmp 22), none, 0, none⟩,
    ⟨(some 24), .move (.tmp 6), none, 0, none⟩,
    ⟨(some 25), .indexSl 18 (.tmp 23) (.tmp 24), none, 0, none⟩,
    ⟨(some 26), .load true 18 (.tmp 25), none, 0, none⟩,
    ⟨(some 27), .call (.func 39) [(false, (.tmp 26))] false 4, none, 0, none⟩,
    ⟨none, .store 18 (.tmp 4) (.tmp 27), none, 4, none⟩,
    ⟨(some 5), .move (.const (.bool true)), none, 4, none⟩] []) (.ret))))), [.cell true 18 4, .tmp 5], true⟩
def s8_2 : Sig := ⟨(.cons (.ptr 0 0 0) (.cons (.v (.int .i64)) .nil)), [.cell false (.cons (.v (.int .i64)) (.cons (.slw 1 18) .nil)), .typed .job], ((.tup (.cons (.v .job) (.cons (.v .bool) .nil))), [.cell false (.cons (.v (.int .i64)) (.cons (.slw 1 18) .nil)), .typed .job]), []⟩
def F8_2 (L : Lp) (g38_1 : Int → Int → (List Job) → Option ((Int × (Bool × Unit)) × ((Int × (Unit × Unit)) × ((List Job) × Unit)))) (g39 : Job → Option Job) (id0 : Int) (a1 : Int) (a2 : (List Job)) : Option ((Job × (Bool × Unit)) × ((Int × (Unit × Unit)) × ((List Job) × Unit))) :=
  Option.bind (g38_1 id0 a1 a2) fun r3 =>
  cond (true && ((decide ((List.length r3.2.2.1) = (List.length a2))) && true))
  (cond (!r3.1.2.1)
  (some ((Job.mk 0 0 0 0 (Res.mk 0 0 0 0) 0 [] 0 false false 0 0 0 0 0, false, ()), ((r3.2.1.1, (), ()), r3.2.2.1, ())))
  (cond (decide (0 ≤ r3.1.1))
  (cond (decide ((Int.toNat r3.1.1) < (List.length r3.2.2.1)))
  (Option.bind (r3.2.2.1[Int.toNat r3.1.1]?) fun y4 =>
  Option.bind (g39 y4) fun r5 =>
  some ((r5, true, ()), ((r3.2.1.1, (), ()), r3.2.2.1, ())))
  (none))
  (none)))
  (none)
theorem e8_2 (L : Lp) (g38_1 : Int → Int → (List Job) → Option ((Int × (Bool × Unit)) × ((Int × (Unit × Unit)) × ((List Job) × Unit)))) (g39 : Job → Option Job) (x : s8_2.args.den) (h : denH s8_2.heap) : nrun [⟨38, s38_1, fun x h => g38_1 x.2.1 h.1.1 h.2.1⟩, ⟨39, s39, fun x h => g39 x.1⟩] L n8_2 s8_2 x h = F8_2 L g38_1 g39 x.2.1 h.1.1 h.2.1 := by kernel_rfl
def f8_2 : Int → Int → (List Job) → Option ((Job × (Bool × Unit)) × ((Int × (Unit × Unit)) × ((List Job) × Unit))) := F8_2 (@LN LOOPS) f38_1 f39
@[reducible] def t8_2 : Ent := ⟨8, s8_2, fun x h => f8_2 x.2.1 h.1.1 h.2.1⟩
theorem k8_2 : chkNF Try.prog Try.f8 n8_2 = true := by kernel_rfl
theorem ok8_2 : NOk Try.prog t8_2 := NOk.body (T := [t38_1, t39]) mixed (nall_cons ok38_1 (nall_cons ok39 nall_nil)) (oneEach_of (by kernel_rfl)) Try.func8 k8_2 (by kernel_rfl) (fun x h => e8_2 _ _ _ x h)
/- slices.Insert[[]drayage/api.Job,drayage/api.Job] -/
def s41_1 : Sig := ⟨(.cons (.slw 0 18) (.cons (.v (.int .i64)) (.cons (.slw 1 18) .nil))), [.typed .job, .typed .job], ((.slw 2 18), [.dead, .typed .job, .typed .job]), []⟩
def f41_1 : Int → (List Job) → (List Job) → Option (Unit × (Unit × ((List Job) × ((List Job) × Unit)))) := insertG 152
@[reducible] def t41_1 : Ent := ⟨41, s41_1, fun x h => f41_1 x.2.1 h.1 h.2.1⟩
theorem ok41_1 : NOk Try.prog t41_1 := ext41
/- (*drayage/table.Table).Put -/
def n9_2 : NFunc := ⟨42, .seq (.region 1 [
    ⟨(some 3), .box 18 (.tmp 1), none, 0, none⟩,
    ⟨(some 4), .move (.const (.int .i64 (0))), none, 1, none⟩] []) (.seq (.seq (.region 0 [
    ⟨(some 7), .move (.tmp 0), none, 0, none⟩,
    ⟨(some 8), .eqP false (.tmp 7) (.const (.nilp)), none, 0, none⟩] []) (.cond (.tmp 8) (.seq (.region 0 [
    ⟨(some 4), .move (.const (.int .i64 (1))), none, 0, none⟩] []) (.ret)) (.skip))) (.seq (.seq (.region 4 [
    ⟨(some 9), .load true 18 (.tmp 3), none, 0, none⟩,
    ⟨(some 10), .call (.func 40) [(false, (.tmp 9))] false 4, none, 0, none⟩,
    ⟨(some 11), .un .not (.tmp 10), none, 4, none⟩] []) (.cond (.tmp 11) (.seq (.region 0 [
    ⟨(some 4), .move (.const (.int .i64 (2))), none, 0, none⟩] []) (.ret)) (.skip))) (.seq (.region 4 [
    ⟨(some 13), .move (.tmp 0), none, 0, none⟩,
    ⟨(some 14), .fieldAddr 0 (.tmp 3), none, 0, none⟩,
    ⟨(some 15), .load false 1 (.tmp 14), none, 0, none⟩,
    ⟨(some 16), .call (.func 38) [(true, (.tmp 13)), (false, (.tmp 15))] false 4, none, 0, none⟩,
    ⟨(some 12), .move (.tmp 16), none, 4, none⟩,
    ⟨(some 17), .extract (.tmp 12) 0, none, 4, none⟩,
    ⟨(some 18), .extract (.tmp 12) 1, none, 4, none⟩,
    ⟨(some 5), .move (.tmp 17), none, 4, none⟩,
    ⟨(some 6), .move (.tmp 18), none, 4, none⟩] []) (.seq (.seq (.region 0 [
    ⟨(some 19), .move (.tmp 6), none, 0, none⟩] []) (.cond (.tmp 19) (.seq (.region 0 [
    ⟨(some 4), .move (.const (.int .i64 (31))), none, 0, none⟩] []) (.ret)) (.skip))) (.seq (.seq (.region 0 [
    ⟨(some 20), .move (.tmp 0), none, 0, (some ([], none))⟩,
    ⟨(some 21), .nilCheck (.tmp 20), none, 0, (some ([], none))⟩,
    ⟨(some 22), .fieldAddr 1 (.tmp 21), none, 0, (some ([], none))⟩,
    ⟨(some 23), .load false 1 (.tmp 22), none, 0, (some ([], none))⟩,
    ⟨(some 24), .len (.tmp 23), none, 0, (some ([], none))⟩,
    ⟨(some 25), .move (.tmp 0), none, 0, (some ([], none))⟩,
    ⟨(some 26), .nilCheck (.tmp 25), none, 0, (some ([], none))⟩,
    ⟨(some 27), .fieldAddr 0 (.tmp 26), none, 0, (some ([], none))⟩,
    ⟨(some 28), .load false 1 (.tmp 27), none, 0, (some ([], none))⟩,
    ⟨(some 29), .bin .eql (.tmp 24) (.tmp 28), none, 0, (some ([], none))⟩] []) (.cond (.tmp 29) (.seq (.region 0 [
    ⟨(some 4), .move (.const (.int .i64 (35))), none, 0, none⟩] []) (.ret)) (.skip))) (.seq (.region 9 [
    ⟨(some 30), .move (.tmp 0), none, 0, (some ([], none))⟩,
    ⟨(some 31), .move (.tmp 0), none, 0, (some ([], none))⟩,
    ⟨(some 32), .nilCheck (.tmp 31), none, 0, (some ([], none))⟩,
    ⟨(some 33), .fieldAddr 1 (.tmp 32), none, 0, (some ([], none))⟩,
    ⟨(some 34), .load false 1 (.tmp 33), none, 0, (some ([], none))⟩,
    ⟨(some 35), .move (.tmp 5), none, 0, (some ([], none))⟩,
    ⟨(some 36), .load true 18 (.tmp 3), none, 0, (some ([], none))⟩,
    ⟨(some 37), .call (.func 39) [(false, (.tmp 36))] true 4, none, 0, (some ([], none))⟩,
    ⟨(some 38), .buildSlice 18 1 true [.int .i64 (0), .int .i64 (0), .int .i64 (0), .int .i64 (0), .int .i64 (0), .int .i64 (0), .int .i64 (0), .int .i64 (0), .int .i64 (0), .zsl, .int .i64 (0), .bool false, .bool false, .int .i64 (0), .int .i64 (0), .int .i64 (0), .int .i64 (0), .int .i64 (0)] [(0, (.tmp 37))], none, 4, (some ([0, 1, 2, 3], none))⟩,
    ⟨(some 39), .call (.func 41) [(true, (.tmp 34)), (false, (.tmp 35)), (true, (.tmp 38))] false 4, none, 5, (some ([0, 1, 2, 3, 4], none))⟩,
    ⟨(some 40), .nilCheck (.tmp 30), none, 9, (some ([0, 1, 2, 3, 4, 5, 6, 7, 8], none))⟩,
    ⟨(some 41), .fieldAddr 1 (.tmp 40), none, 9, (some ([0, 1, 2, 3, 4, 5, 6, 7, 8], none))⟩,
    ⟨none, .store 1 (.tmp 41) (.tmp 39), none, 9, (some ([0, 1, 2, 3, 4, 5, 6, 7, 8], none))⟩] []) (.seq (.region 0 [
    ⟨(some 4), .move (.const (.int .i64 (0))), none, 0, none⟩] []) (.ret)))))))), [.tmp 4], true⟩
def s9_2 : Sig := ⟨(.cons (.ptr 0 0 0) (.cons (.v .job) .nil)), [.cell false (.cons (.v (.int .i64)) (.cons (.slw 1 18) .nil)), .typed .job], ((.v (.int .i64)), [.cell false (.cons (.v (.int .i64)) (.cons (.slw 1 18) .nil)), .typed .job]), [((.v (.int .i64)), [.cell false (.cons (.v (.int .i64)) (.cons (.slw 2 18) .nil)), .dead, .typed .job])]⟩
def F9_2 (L : Lp) (g40 : Job → Option Bool) (g38_1 : Int → Int → (List Job) → Option ((Int × (Bool × Unit)) × ((Int × (Unit × Unit)) × ((List Job) × Unit)))) (g39 : Job → Option Job) (g41_1 : Int → (List Job) → (List Job) → Option (Unit × (Unit × ((List Job) × ((List Job) × Unit))))) (j0 : Job) (a1 : Int) (a2 : (List Job)) : Option ((Int × ((Int × (Unit × Unit)) × ((List Job) × Unit))) ⊕ (Int × ((Int × (Unit × Unit)) × (Unit × ((List Job) × Unit))))) :=
  Option.bind (g40 j0) fun r3 =>
  cond (!r3)
  (some (.inl (2, ((a1, (), ()), a2, ()))))
  (Option.bind (g38_1 j0.id a1 a2) fun r4 =>
  cond (true && ((decide ((List.length r4.2.2.1) = (List.length a2))) && true))
  (cond r4.1.2.1
  (some (.inl (31, ((r4.2.1.1, (), ()), r4.2.2.1, ()))))
  (cond (decide ((List.length r4.2.2.1 : Int) = r4.2.1.1))
  (some (.inl (35, ((r4.2.1.1, (), ()), r4.2.2.1, ()))))
  (Option.bind (g39 j0) fun r5 =>
  Option.bind (g41_1 r4.1.1 r4.2.2.1 [r5]) fun r6 =>
  cond (true && ((decide ((List.length r6.2.2.1) = 1)) && true))
  (some (.inr (0, ((r4.2.1.1, (), ()), (), r6.2.2.2.1, ()))))
  (none))))
  (none))
theorem e9_2 (L : Lp) (g40 : Job → Option Bool) (g38_1 : Int → Int → (List Job) → Option ((Int × (Bool × Unit)) × ((Int × (Unit × Unit)) × ((List Job) × Unit)))) (g39 : Job → Option Job) (g41_1 : Int → (List Job) → (List Job) → Option (Unit × (Unit × ((List Job) × ((List Job) × Unit))))) (x : s9_2.args.den) (h : denH s9_2.heap) : nrun [⟨40, s40, fun x h => g40 x.1⟩, ⟨38, s38_1, fun x h => g38_1 x.2.1 h.1.1 h.2.1⟩, ⟨39, s39, fun x h => g39 x.1⟩, ⟨41, s41_1, fun x h => g41_1 x.2.1 h.1 h.2.1⟩] L n9_2 s9_2 x h = F9_2 L g40 g38_1 g39 g41_1 x.2.1 h.1.1 h.2.1 := by kernel_rfl
def f9_2 : Job → Int → (List Job) → Option ((Int × ((Int × (Unit × Unit)) × ((List Job) × Unit))) ⊕ (Int × ((Int × (Unit × Unit)) × (Unit × ((List Job) × Unit))))) := F9_2 (@LN LOOPS) f40 f38_1 f39 f41_1
@[reducible] def t9_2 : Ent := ⟨9, s9_2, fun x h => f9_2 x.2.1 h.1.1 h.2.1⟩
theorem k9_2 : chkNF Try.prog Try.f9 n9_2 = true := by kernel_rfl
theorem ok9_2 : NOk Try.prog t9_2 := NOk.body (T := [t40, t38_1, t39, t41_1]) mixed (nall_cons ok40 (nall_cons ok38_1 (nall_cons ok39 (nall_cons ok41_1 nall_nil)))) (oneEach_of (by kernel_rfl)) Try.func9 k9_2 (by kernel_rfl) (fun x h => e9_2 _ _ _ _ _ x h)
/- drayage/drayagelaw18.awake -/
def n7 : NFunc := ⟨40, .seq (.region 0 [
    ⟨(some 0), .move (.const (.bool false)), none, 0, none⟩] []) (.seq (.region 4 [
    ⟨(some 8), .call (.func 18) [(false, (.const (.int .i64 (1))))] false 4, none, 0, none⟩,
    ⟨(some 7), .move (.tmp 8), none, 4, none⟩,
    ⟨(some 9), .extract (.tmp 7) 0, none, 4, none⟩,
    ⟨(some 10), .extract (.tmp 7) 1, none, 4, none⟩,
    ⟨(some 1), .move (.tmp 9), none, 4, none⟩,
    ⟨(some 2), .move (.tmp 10), none, 4, none⟩] []) (.seq (.region 8 [
    ⟨(some 11), .move (.tmp 1), none, 0, none⟩,
    ⟨(some 12), .call (.func 10) [(false, (.const (.int .i64 (3))))] false 4, none, 0, none⟩,
    ⟨(some 13), .call (.func 9) [(true, (.tmp 11)), (false, (.tmp 12))] false 4, none, 4, none⟩,
    ⟨(some 3), .move (.tmp 13), none, 8, none⟩] []) (.seq (.region 8 [
    ⟨(some 14), .move (.tmp 1), none, 0, none⟩,
    ⟨(some 15), .call (.func 10) [(false, (.const (.int .i64 (2))))] false 4, none, 0, none⟩,
    ⟨(some 16), .call (.func 9) [(true, (.tmp 14)), (false, (.tmp 15))] false 4, none, 4, none⟩,
    ⟨(some 4), .move (.tmp 16), none, 8, none⟩] []) (.seq (.region 5 [
    ⟨(some 18), .move (.tmp 1), none, 0, none⟩,
    ⟨(some 19), .call (.func 8) [(true, (.tmp 18)), (false, (.const (.int .i64 (3))))] false 4, none, 0, none⟩,
    ⟨(some 17), .move (.tmp 19), none, 4, none⟩,
    ⟨(some 20), .extract (.tmp 17) 0, none, 4, none⟩,
    ⟨(some 21), .extract (.tmp 17) 1, none, 4, none⟩,
    ⟨(some 5), .alloc [.int .i64 (0), .int .i64 (0), .int .i64 (0), .int .i64 (0), .int .i64 (0), .int .i64 (0), .int .i64 (0), .int .i64 (0), .int .i64 (0), .zsl, .int .i64 (0), .bool false, .bool false, .int .i64 (0), .int .i64 (0), .int .i64 (0), .int .i64 (0), .int .i64 (0)], none, 4, none⟩,
    ⟨none, .store 18 (.tmp 5) (.tmp 20), none, 5, none⟩,
    ⟨(some 6), .move (.tmp 21), none, 5, none⟩] []) (.seq (.region 8 [
    ⟨(some 22), .move (.tmp 2), none, 0, (some ([], none))⟩,
    ⟨(some 23), .bin .eql (.tmp 22) (.const (.int .i64 (0))), none, 0, (some ([], none))⟩,
    ⟨(some 24), .move (.tmp 23), none, 0, (some ([], none))⟩,
    ⟨(some 25), .move (.tmp 3), (some (24, true)), 0, (some ([], none))⟩,
    ⟨(some 26), .bin .eql (.tmp 25) (.const (.int .i64 (0))), (some (24, true)), 0, (some ([], none))⟩,
    ⟨(some 27), .pick (.tmp 24) (.tmp 26) (.const (.bool false)), none, 0, (some ([], none))⟩,
    ⟨(some 28), .move (.tmp 27), none, 0, (some ([], none))⟩,
    ⟨(some 29), .move (.tmp 4), (some (28, true)), 0, (some ([], none))⟩,
    ⟨(some 30), .bin .eql (.tmp 29) (.const (.int .i64 (35))), (some (28, true)), 0, (some ([], none))⟩,
    ⟨(some 31), .pick (.tmp 28) (.tmp 30) (.const (.bool false)), none, 0, (some ([], none))⟩,
    ⟨(some 32), .move (.tmp 31), none, 0, (some ([], none))⟩,
    ⟨(some 33), .move (.tmp 6), (some (32, true)), 0, (some ([], none))⟩,
    ⟨(some 34), .pick (.tmp 32) (.tmp 33) (.const (.bool false)), none, 0, (some ([], none))⟩,
    ⟨(some 35), .move (.tmp 34), none, 0, (some ([], none))⟩,
    ⟨(some 36), .load true 18 (.tmp 5), (some (35, true)), 0, (some ([], none))⟩,
    ⟨(some 37), .call (.func 10) [(false, (.const (.int .i64 (3))))] true 4, (some (35, true)), 0, (some ([], none))⟩,
    ⟨(some 38), .call (.func 22) [(false, (.tmp 36)), (false, (.tmp 37))] false 4, (some (35, true)), 4, (some ([0, 1, 2, 3], none))⟩,
    ⟨(some 39), .pick (.tmp 35) (.tmp 38) (.const (.bool false)), none, 8, (some ([0, 1, 2, 3, 4, 5, 6, 7], none))⟩,
    ⟨(some 0), .move (.tmp 39), none, 8, (some ([0, 1, 2, 3, 4, 5, 6, 7], none))⟩] []) (.ret)))))), [.tmp 0], true⟩
def s7 : Sig := ⟨.nil, [], ((.v .bool), []), []⟩
def F7 (L : Lp) (g18 : Int → Option ((Unit × (Int × Unit)) ⊕ ((Unit × (Int × Unit)) × ((Int × (Unit × Unit)) × Unit)))) (g10 : Int → Option Job) (g9 : Job → Option Int) (g8 : Int → Option (Job × (Bool × Unit))) (g22 : Job → Job → Option Bool) (g9_1 : Job → Int → Option ((Int × ((Int × (Unit × Unit)) × Unit)) ⊕ (Int × ((Int × (Unit × Unit)) × ((List Job) × Unit))))) (g8_1 : Int → Int → Option ((Job × (Bool × Unit)) × ((Int × (Unit × Unit)) × Unit))) (g8_2 : Int → Int → (List Job) → Option ((Job × (Bool × Unit)) × ((Int × (Unit × Unit)) × ((List Job) × Unit)))) (g9_2 : Job → Int → (List Job) → Option ((Int × ((Int × (Unit × Unit)) × ((List Job) × Unit))) ⊕ (Int × ((Int × (Unit × Unit)) × (Unit × ((List Job) × Unit))))))  : Option Bool :=
  Option.bind (g18 1) (Sum.elim (fun r0 =>
  Option.bind (g10 3) fun r1 =>
  Option.bind (g9 r1) fun r2 =>
  Option.bind (g10 2) fun r3 =>
  Option.bind (g9 r3) fun r4 =>
  Option.bind (g8 3) fun r5 =>
  cond (decide (r0.2.1 = 0))
  (cond (decide (r2 = 0))
  (cond (decide (r4 = 35))
  (cond r5.2.1
  (Option.bind (g10 3) fun r6 =>
  Option.bind (g22 r5.1 r6) fun r7 =>
  some r7)
  (some false))
  (some false))
  (some false))
  (some false)) (fun r8 =>
  Option.bind (g10 3) fun r9 =>
  Option.bind (g9_1 r9 r8.2.1.1) (Sum.elim (fun r10 =>
  Option.bind (g10 2) fun r11 =>
  Option.bind (g9_1 r11 r10.2.1.1) (Sum.elim (fun r12 =>
  Option.bind (g8_1 3 r12.2.1.1) fun r13 =>
  cond (decide (r8.1.2.1 = 0))
  (cond (decide (r10.1 = 0))
  (cond (decide (r12.1 = 35))
  (cond r13.1.2.1
  (Option.bind (g10 3) fun r14 =>
  Option.bind (g22 r13.1.1 r14) fun r15 =>
  some r15)
  (some false))
  (some false))
  (some false))
  (some false)) (fun r16 =>
  Option.bind (g8_2 3 r16.2.1.1 r16.2.2.1) fun r17 =>
  cond (true && ((decide ((List.length r17.2.2.1) = (List.length r16.2.2.1))) && true))
  (cond (decide (r8.1.2.1 = 0))
  (cond (decide (r10.1 = 0))
  (cond (decide (r16.1 = 35))
  (cond r17.1.2.1
  (Option.bind (g10 3) fun r18 =>
  Option.bind (g22 r17.1.1 r18) fun r19 =>
  some r19)
  (some false))
  (some false))
  (some false))
  (some false))
  (none)))) (fun r20 =>
  Option.bind (g10 2) fun r21 =>
  Option.bind (g9_2 r21 r20.2.1.1 r20.2.2.1) (Sum.elim (fun r22 =>
  cond (true && ((decide ((List.length r22.2.2.1) = (List.length r20.2.2.1))) && true))
  (Option.bind (g8_2 3 r22.2.1.1 r22.2.2.1) fun r23 =>
  cond (true && ((decide ((List.length r23.2.2.1) = (List.length r22.2.2.1))) && true))
  (cond (decide (r8.1.2.1 = 0))
  (cond (decide (r20.1 = 0))
  (cond (decide (r22.1 = 35))
  (cond r23.1.2.1
  (Option.bind (g10 3) fun r24 =>
  Option.bind (g22 r23.1.1 r24) fun r25 =>
  some r25)
  (some false))
  (some false))
  (some false))
  (some false))
  (none))
  (none)) (fun r26 =>
  Option.bind (g8_2 3 r26.2.1.1 r26.2.2.2.1) fun r27 =>
  cond (true && ((decide ((List.length r27.2.2.1) = (List.length r26.2.2.2.1))) && true))
  (cond (decide (r8.1.2.1 = 0))
  (cond (decide (r20.1 = 0))
  (cond (decide (r26.1 = 35))
  (cond r27.1.2.1
  (Option.bind (g10 3) fun r28 =>
  Option.bind (g22 r27.1.1 r28) fun r29 =>
  some r29)
  (some false))
  (some false))
  (some false))
  (some false))
  (none)))))))
theorem e7 (L : Lp) (g18 : Int → Option ((Unit × (Int × Unit)) ⊕ ((Unit × (Int × Unit)) × ((Int × (Unit × Unit)) × Unit)))) (g10 : Int → Option Job) (g9 : Job → Option Int) (g8 : Int → Option (Job × (Bool × Unit))) (g22 : Job → Job → Option Bool) (g9_1 : Job → Int → Option ((Int × ((Int × (Unit × Unit)) × Unit)) ⊕ (Int × ((Int × (Unit × Unit)) × ((List Job) × Unit))))) (g8_1 : Int → Int → Option ((Job × (Bool × Unit)) × ((Int × (Unit × Unit)) × Unit))) (g8_2 : Int → Int → (List Job) → Option ((Job × (Bool × Unit)) × ((Int × (Unit × Unit)) × ((List Job) × Unit)))) (g9_2 : Job → Int → (List Job) → Option ((Int × ((Int × (Unit × Unit)) × ((List Job) × Unit))) ⊕ (Int × ((Int × (Unit × Unit)) × (Unit × ((List Job) × Unit)))))) (x : s7.args.den) (h : denH s7.heap) : nrun [⟨18, s18, fun x h => g18 x.1⟩, ⟨10, s10, fun x h => g10 x.1⟩, ⟨9, s9, fun x h => g9 x.2.1⟩, ⟨8, s8, fun x h => g8 x.2.1⟩, ⟨22, s22, fun x h => g22 x.1 x.2.1⟩, ⟨9, s9_1, fun x h => g9_1 x.2.1 h.1.1⟩, ⟨8, s8_1, fun x h => g8_1 x.2.1 h.1.1⟩, ⟨8, s8_2, fun x h => g8_2 x.2.1 h.1.1 h.2.1⟩, ⟨9, s9_2, fun x h => g9_2 x.2.1 h.1.1 h.2.1⟩] L n7 s7 x h = F7 L g18 g10 g9 g8 g22 g9_1 g8_1 g8_2 g9_2  := by kernel_rfl
def f7 : Option Bool := F7 (@LN LOOPS) f18 f10 f9 f8 f22 f9_1 f8_1 f8_2 f9_2
@[reducible] def t7 : Ent := ⟨7, s7, fun x h => f7 ⟩
theorem k7 : chkNF Try.prog Try.f7 n7 = true := by kernel_rfl
theorem ok7 : NOk Try.prog t7 := NOk.body (T := [t18, t10, t9, t8, t22, t9_1, t8_1, t8_2, t9_2]) mixed (nall_cons ok18 (nall_cons ok10 (nall_cons ok9 (nall_cons ok8 (nall_cons ok22 (nall_cons ok9_1 (nall_cons ok8_1 (nall_cons ok8_2 (nall_cons ok9_2 nall_nil))))))))) (oneEach_of (by kernel_rfl)) Try.func7 k7 (by kernel_rfl) (fun x h => e7 _ _ _ _ _ _ _ _ _ _ x h)
/- (*drayage/table.Table).Set -/
def n11 : NFunc := ⟨29, .seq (.region 1 [
    ⟨(some 3), .box 18 (.tmp 1), none, 0, none⟩,
    ⟨(some 4), .move (.const (.int .i64 (0))), none, 1, none⟩] []) (.seq (.seq (.region 0 [
    ⟨(some 7), .move (.tmp 0), none, 0, none⟩,
    ⟨(some 8), .eqP false (.tmp 7) (.const (.nilp)), none, 0, none⟩] []) (.cond (.tmp 8) (.seq (.region 0 [
    ⟨(some 4), .move (.const (.int .i64 (1))), none, 0, none⟩] []) (.ret)) (.skip))) (.seq (.seq (.region 4 [
    ⟨(some 9), .load true 18 (.tmp 3), none, 0, none⟩,
    ⟨(some 10), .call (.func 40) [(false, (.tmp 9))] false 4, none, 0, none⟩,
    ⟨(some 11), .un .not (.tmp 10), none, 4, none⟩] []) (.cond (.tmp 11) (.seq (.region 0 [
    ⟨(some 4), .move (.const (.int .i64 (2))), none, 0, none⟩] []) (.ret)) (.skip))) (.seq (.region 4 [
    ⟨(some 13), .move (.tmp 0), none, 0, none⟩,
    ⟨(some 14), .fieldAddr 0 (.tmp 3), none, 0, none⟩,
    ⟨(some 15), .load false 1 (.tmp 14), none, 0, none⟩,
    ⟨(some 16), .call (.func 38) [(true, (.tmp 13)), (false, (.tmp 15))] false 4, none, 0, none⟩,
    ⟨(some 12), .move (.tmp 16), none, 4, none⟩,
    ⟨(some 17), .extract (.tmp 12) 0, none, 4, none⟩,
    ⟨(some 18), .extract (.tmp 12) 1, none, 4, none⟩,
    ⟨(some 5), .move (.tmp 17), none, 4, none⟩,
    ⟨(some 6), .move (.tmp 18), none, 4, none⟩] []) (.seq (.seq (.region 0 [
    ⟨(some 19), .move (.tmp 6), none, 0, none⟩,
    ⟨(some 20), .un .not (.tmp 19), none, 0, none⟩] []) (.cond (.tmp 20) (.seq (.region 0 [
    ⟨(some 4), .move (.const (.int .i64 (30))), none, 0, none⟩] []) (.ret)) (.skip))) (.seq (.region 4 [
    ⟨(some 21), .move (.tmp 0), none, 0, (some ([], none))⟩,
    ⟨(some 22), .nilCheck (.tmp 21), none, 0, (some ([], none))⟩,
    ⟨(some 23), .fieldAddr 1 (.tmp 22), none, 0, (some ([], none))⟩,
    ⟨(some 24), .load false 1 (.tmp 23), none, 0, (some ([], none))⟩,
    ⟨(some 25), .move (.tmp 5), none, 0, (some ([], none))⟩,
    ⟨(some 26), .load true 18 (.tmp 3), none, 0, (some ([], none))⟩,
    ⟨(some 27), .call (.func 39) [(false, (.tmp 26))] true 4, none, 0, (some ([], none))⟩,
    ⟨(some 28), .indexSl 18 (.tmp 24) (.tmp 25), none, 4, (some ([0, 1, 2, 3], none))⟩,
    ⟨none, .store 18 (.tmp 28) (.tmp 27), none, 4, (some ([0, 1, 2, 3], none))⟩] []) (.seq (.region 0 [
    ⟨(some 4), .move (.const (.int .i64 (0))), none, 0, none⟩] []) (.ret))))))), [.tmp 4], true⟩
def s11 : Sig := ⟨(.cons .nilp (.cons (.v .job) .nil)), [], ((.v (.int .i64)), []), []⟩
def F11 (L : Lp)  (j0 : Job) : Option Int :=
  some 1
theorem e11 (L : Lp)  (x : s11.args.den) (h : denH s11.heap) : nrun [] L n11 s11 x h = F11 L  x.2.1 := by kernel_rfl
def f11 : Job → Option Int := F11 (@LN LOOPS) 
@[reducible] def t11 : Ent := ⟨11, s11, fun x h => f11 x.2.1⟩
theorem k11 : chkNF Try.prog Try.f11 n11 = true := by kernel_rfl
theorem ok11 : NOk Try.prog t11 := NOk.body (T := []) mixed nall_nil (oneEach_of (by kernel_rfl)) Try.func11 k11 (by kernel_rfl) (fun x h => e11 _  x h)
/- (*drayage/table.Table).Drop -/
def n12 : NFunc := ⟨28, .seq (.region 0 [
    ⟨(some 4), .move (.const (.int .i64 (0))), none, 0, none⟩] []) (.seq (.seq (.region 0 [
    ⟨(some 7), .move (.tmp 0), none, 0, none⟩,
    ⟨(some 8), .eqP false (.tmp 7) (.const (.nilp)), none, 0, none⟩] []) (.cond (.tmp 8) (.seq (.region 0 [
    ⟨(some 4), .move (.const (.int .i64 (1))), none, 0, none⟩] []) (.ret)) (.skip))) (.seq (.region 4 [
    ⟨(some 10), .move (.tmp 0), none, 0, none⟩,
    ⟨(some 11), .move (.tmp 1), none, 0, none⟩,
    ⟨(some 12), .call (.func 38) [(true, (.tmp 10)), (false, (.tmp 11))] false 4, none, 0, none⟩,
    ⟨(some 9), .move (.tmp 12), none, 4, none⟩,
    ⟨(some 13), .extract (.tmp 9) 0, none, 4, none⟩,
    ⟨(some 14), .extract (.tmp 9) 1, none, 4, none⟩,
    ⟨(some 5), .move (.tmp 13), none, 4, none⟩,
    ⟨(some 6), .move (.tmp 14), none, 4, none⟩] []) (.seq (.seq (.region 0 [
    ⟨(some 15), .move (.tmp 6), none, 0, none⟩,
    ⟨(some 16), .un .not (.tmp 15), none, 0, none⟩] []) (.cond (.tmp 16) (.seq (.region 0 [
    ⟨(some 4), .move (.const (.int .i64 (30))), none, 0, none⟩] []) (.ret)) (.skip))) (.seq (.region 4 [
    ⟨(some 17), .move (.tmp 0), none, 0, none⟩,
    ⟨(some 18), .move (.tmp 0), none, 0, none⟩,
    ⟨(some 19), .nilCheck (.tmp 18), none, 0, none⟩,
    ⟨(some 20), .fieldAddr 1 (.tmp 19), none, 0, none⟩,
    ⟨(some 21), .load false 1 (.tmp 20), none, 0, none⟩,
    ⟨(some 22), .move (.tmp 5), none, 0, none⟩,
    ⟨(some 23), .move (.tmp 5), none, 0, none⟩,
    ⟨(some 24), .bin .add (.tmp 23) (.const (.int .i64 (1))), none, 0, none⟩,
    ⟨(some 25), .call (.func 42) [(true, (.tmp 21)), (false, (.tmp 22)), (false, (.tmp 24))] false 4, none, 0, none⟩,
    ⟨(some 26), .nilCheck (.tmp 17), none, 4, none⟩,
    ⟨(some 27), .fieldAddr 1 (.tmp 26), none, 4, none⟩,
    ⟨none, .store 1 (.tmp 27) (.tmp 25), none, 4, none⟩] []) (.seq (.region 0 [
    ⟨(some 4), .move (.const (.int .i64 (0))), none, 0, none⟩] []) (.ret)))))), [.tmp 4], true⟩
def s12 : Sig := ⟨(.cons .nilp (.cons (.v (.int .i64)) .nil)), [], ((.v (.int .i64)), []), []⟩
def F12 (L : Lp)  (id0 : Int) : Option Int :=
  some 1
theorem e12 (L : Lp)  (x : s12.args.den) (h : denH s12.heap) : nrun [] L n12 s12 x h = F12 L  x.2.1 := by kernel_rfl
def f12 : Int → Option Int := F12 (@LN LOOPS) 
@[reducible] def t12 : Ent := ⟨12, s12, fun x h => f12 x.2.1⟩
theorem k12 : chkNF Try.prog Try.f12 n12 = true := by kernel_rfl
theorem ok12 : NOk Try.prog t12 := NOk.body (T := []) mixed nall_nil (oneEach_of (by kernel_rfl)) Try.func12 k12 (by kernel_rfl) (fun x h => e12 _  x h)
/- (*drayage/table.Table).All -/
def n13 : NFunc := ⟨27, .seq (.region 0 [
    ⟨(some 2), .move (.const (.zsl)), none, 0, none⟩] []) (.seq (.seq (.region 0 [
    ⟨(some 6), .move (.tmp 0), none, 0, none⟩,
    ⟨(some 7), .eqP false (.tmp 6) (.const (.nilp)), none, 0, none⟩] []) (.cond (.tmp 7) (.seq (.region 0 [
    ⟨(some 2), .move (.const (.zsl)), none, 0, none⟩] []) (.ret)) (.skip))) (.seq (.region 4 [
    ⟨(some 8), .move (.tmp 0), none, 0, none⟩,
    ⟨(some 9), .nilCheck (.tmp 8), none, 0, none⟩,
    ⟨(some 10), .fieldAddr 1 (.tmp 9), none, 0, none⟩,
    ⟨(some 11), .load false 1 (.tmp 10), none, 0, none⟩,
    ⟨(some 12), .call (.func 43) [(true, (.tmp 11))] false 4, none, 0, none⟩,
    ⟨(some 3), .move (.tmp 12), none, 4, none⟩] []) (.seq (.seq (.region 0 [
    ⟨(some 13), .move (.tmp 3), none, 0, none⟩,
    ⟨(some 14), .len (.tmp 13), none, 0, none⟩,
    ⟨(some 15), .move (.const (.int .i64 (0))), none, 0, none⟩] []) (.block 0 (.loopU [3, 13, 14, 15] 0 (.seq (.region 0 [
    ⟨(some 16), .bin .lss (.tmp 15) (.tmp 14), none, 0, none⟩] []) (.seq (.cond (.tmp 16) (.skip) (.exit 0)) (.seq (.block 1 (.seq (.region 1 [
    ⟨(some 17), .move (.tmp 15), none, 0, none⟩,
    ⟨(some 18), .indexSl 18 (.tmp 13) (.tmp 15), none, 0, none⟩,
    ⟨(some 19), .load true 18 (.tmp 18), none, 0, none⟩,
    ⟨(some 5), .alloc [.int .i64 (0), .int .i64 (0), .int .i64 (0), .int .i64 (0), .int .i64 (0), .int .i64 (0), .int .i64 (0), .int .i64 (0), .int .i64 (0), .zsl, .int .i64 (0), .bool false, .bool false, .int .i64 (0), .int .i64 (0), .int .i64 (0), .int .i64 (0), .int .i64 (0)], none, 0, none⟩,
    ⟨(some 4), .move (.tmp 17), none, 1, none⟩,
    ⟨none, .store 18 (.tmp 5) (.tmp 19), none, 1, none⟩] []) (.region 4 [
    ⟨(some 20), .move (.tmp 3), none, 0, none⟩,
    ⟨(some 21), .move (.tmp 4), none, 0, none⟩,
    ⟨(some 22), .load true 18 (.tmp 5), none, 0, none⟩,
    ⟨(some 23), .call (.func 39) [(false, (.tmp 22))] false 4, none, 0, none⟩,
    ⟨(some 24), .indexSl 18 (.tmp 20) (.tmp 21), none, 4, none⟩,
    ⟨none, .store 18 (.tmp 24) (.tmp 23), none, 4, none⟩] []))) (.region 0 [
    ⟨(some 25), .bin .add (.tmp 15) (.const (.int .i64 (1))), none, 0, none⟩,
    ⟨(some 15), .move (.tmp 25), none, 0, none⟩] []))))))) (.seq (.region 0 [
    ⟨(some 26), .move (.tmp 3), none, 0, none⟩,
    ⟨(some 2), .move (.tmp 26), none, 0, none⟩] []) (.ret))))), [.tmp 2], true⟩
def s13 : Sig := ⟨(.cons .nilp .nil), [], ((.v (.list .job)), []), []⟩
def F13 (L : Lp)   : Option (List Job) :=
  some []
theorem e13 (L : Lp)  (x : s13.args.den) (h : denH s13.heap) : nrun [] L n13 s13 x h = F13 L   := by kernel_rfl
def f13 : Option (List Job) := F13 (@LN LOOPS) 
@[reducible] def t13 : Ent := ⟨13, s13, fun x h => f13 ⟩
theorem k13 : chkNF Try.prog Try.f13 n13 = true := by kernel_rfl
theorem ok13 : NOk Try.prog t13 := NOk.body (T := []) mixed nall_nil (oneEach_of (by kernel_rfl)) Try.func13 k13 (by kernel_rfl) (fun x h => e13 _  x h)
/- (*drayage/table.Table).Len -/
def n14 : NFunc := ⟨10, .seq (.region 0 [
    ⟨(some 2), .move (.const (.int .i64 (0))), none, 0, none⟩] []) (.seq (.seq (.region 0 [
    ⟨(some 3), .move (.tmp 0), none, 0, none⟩,
    ⟨(some 4), .eqP false (.tmp 3) (.const (.nilp)), none, 0, none⟩] []) (.cond (.tmp 4) (.seq (.region 0 [
    ⟨(some 2), .move (.const (.int .i64 (0))), none, 0, none⟩] []) (.ret)) (.skip))) (.seq (.region 0 [
    ⟨(some 5), .move (.tmp 0), none, 0, none⟩,
    ⟨(some 6), .nilCheck (.tmp 5), none, 0, none⟩,
    ⟨(some 7), .fieldAddr 1 (.tmp 6), none, 0, none⟩,
    ⟨(some 8), .load false 1 (.tmp 7), none, 0, none⟩,
    ⟨(some 9), .len (.tmp 8), none, 0, none⟩,
    ⟨(some 2), .move (.tmp 9), none, 0, none⟩] []) (.ret))), [.tmp 2], true⟩
def s14 : Sig := ⟨(.cons .nilp .nil), [], ((.v (.int .i64)), []), []⟩
def F14 (L : Lp)   : Option Int :=
  some 0
theorem e14 (L : Lp)  (x : s14.args.den) (h : denH s14.heap) : nrun [] L n14 s14 x h = F14 L   := by kernel_rfl
def f14 : Option Int := F14 (@LN LOOPS) 
@[reducible] def t14 : Ent := ⟨14, s14, fun x h => f14 ⟩
theorem k14 : chkNF Try.prog Try.f14 n14 = true := by kernel_rfl
theorem ok14 : NOk Try.prog t14 := NOk.body (T := []) mixed nall_nil (oneEach_of (by kernel_rfl)) Try.func14 k14 (by kernel_rfl) (fun x h => e14 _  x h)
/- (*drayage/table.Table).Places -/
def n15 : NFunc := ⟨9, .seq (.region 0 [
    ⟨(some 2), .move (.const (.int .i64 (0))), none, 0, none⟩] []) (.seq (.seq (.region 0 [
    ⟨(some 3), .move (.tmp 0), none, 0, none⟩,
    ⟨(some 4), .eqP false (.tmp 3) (.const (.nilp)), none, 0, none⟩] []) (.cond (.tmp 4) (.seq (.region 0 [
    ⟨(some 2), .move (.const (.int .i64 (0))), none, 0, none⟩] []) (.ret)) (.skip))) (.seq (.region 0 [
    ⟨(some 5), .move (.tmp 0), none, 0, none⟩,
    ⟨(some 6), .nilCheck (.tmp 5), none, 0, none⟩,
    ⟨(some 7), .fieldAddr 0 (.tmp 6), none, 0, none⟩,
    ⟨(some 8), .load false 1 (.tmp 7), none, 0, none⟩,
    ⟨(some 2), .move (.tmp 8), none, 0, none⟩] []) (.ret))), [.tmp 2], true⟩
def s15 : Sig := ⟨(.cons .nilp .nil), [], ((.v (.int .i64)), []), []⟩
def F15 (L : Lp)   : Option Int :=
  some 0
theorem e15 (L : Lp)  (x : s15.args.den) (h : denH s15.heap) : nrun [] L n15 s15 x h = F15 L   := by kernel_rfl
def f15 : Option Int := F15 (@LN LOOPS) 
@[reducible] def t15 : Ent := ⟨15, s15, fun x h => f15 ⟩
theorem k15 : chkNF Try.prog Try.f15 n15 = true := by kernel_rfl
theorem ok15 : NOk Try.prog t15 := NOk.body (T := []) mixed nall_nil (oneEach_of (by kernel_rfl)) Try.func15 k15 (by kernel_rfl) (fun x h => e15 _  x h)
/- (*drayage/table.Table).Clone -/
def n16 : NFunc := ⟨16, .seq (.region 0 [
    ⟨(some 2), .move (.const (.nilp)), none, 0, none⟩] []) (.seq (.seq (.region 0 [
    ⟨(some 3), .move (.tmp 0), none, 0, none⟩,
    ⟨(some 4), .eqP false (.tmp 3) (.const (.nilp)), none, 0, none⟩] []) (.cond (.tmp 4) (.seq (.region 0 [
    ⟨(some 2), .move (.const (.nilp)), none, 0, none⟩] []) (.ret)) (.skip))) (.seq (.region 5 [
    ⟨(some 5), .move (.tmp 0), none, 0, (some ([], none))⟩,
    ⟨(some 6), .nilCheck (.tmp 5), none, 0, (some ([], none))⟩,
    ⟨(some 7), .fieldAddr 0 (.tmp 6), none, 0, (some ([], none))⟩,
    ⟨(some 8), .load false 1 (.tmp 7), none, 0, (some ([], none))⟩,
    ⟨(some 9), .move (.tmp 0), none, 0, (some ([], none))⟩,
    ⟨(some 10), .nilCheck (.tmp 9), none, 0, (some ([], none))⟩,
    ⟨(some 11), .fieldAddr 1 (.tmp 10), none, 0, (some ([], none))⟩,
    ⟨(some 12), .load false 1 (.tmp 11), none, 0, (some ([], none))⟩,
    ⟨(some 13), .call (.func 43) [(true, (.tmp 12))] true 4, none, 0, (some ([], none))⟩,
    ⟨(some 14), .build [.int .i64 (0), .zsl] [(0, 1, (.tmp 8)), (1, 1, (.tmp 13))], none, 4, (some ([0, 1, 2, 3], none))⟩,
    ⟨(some 15), .box 2 (.tmp 14), none, 4, (some ([0, 1, 2, 3], none))⟩,
    ⟨(some 2), .move (.tmp 15), none, 5, (some ([0, 1, 2, 3, 4], none))⟩] []) (.ret))), [.tmp 2], false⟩
def s16 : Sig := ⟨(.cons .nilp .nil), [], (.nilp, []), []⟩
def F16 (L : Lp)   : Option Unit :=
  some ()
theorem e16 (L : Lp)  (x : s16.args.den) (h : denH s16.heap) : nrun [] L n16 s16 x h = F16 L   := by kernel_rfl
def f16 : Option Unit := F16 (@LN LOOPS) 
@[reducible] def t16 : Ent := ⟨16, s16, fun x h => f16 ⟩
theorem k16 : chkNF Try.prog Try.f16 n16 = true := by kernel_rfl
theorem ok16 : NOk Try.prog t16 := NOk.body (T := []) mixed nall_nil (oneEach_of (by kernel_rfl)) Try.func16 k16 (by kernel_rfl) (fun x h => e16 _  x h)
/- drayage/drayagelaw18.Few -/
def n17 : NFunc := ⟨20, .seq (.region 0 [
    ⟨(some 2), .move (.const (.bool false)), none, 0, none⟩] []) (.seq (.seq (.region 0 [
    ⟨(some 5), .move (.tmp 0), none, 0, none⟩,
    ⟨(some 6), .len (.tmp 5), none, 0, none⟩,
    ⟨(some 7), .bin .gtr (.tmp 6) (.const (.int .i64 (40))), none, 0, none⟩] []) (.cond (.tmp 7) (.seq (.region 0 [
    ⟨(some 2), .move (.const (.bool false)), none, 0, none⟩] []) (.ret)) (.skip))) (.seq (.seq (.region 0 [
    ⟨(some 8), .move (.tmp 0), none, 0, none⟩,
    ⟨(some 9), .len (.tmp 8), none, 0, none⟩,
    ⟨(some 10), .move (.const (.int .i64 (0))), none, 0, none⟩] []) (.block 0 (.loop [8, 9, 10] ⟨[(10, (.v (.int .i64)))], [8, 9], []⟩ (.seq (.region 0 [
    ⟨(some 11), .bin .lss (.tmp 10) (.tmp 9), none, 0, none⟩] []) (.seq (.cond (.tmp 11) (.skip) (.exit 0)) (.seq (.block 1 (.seq (.region 1 [
    ⟨(some 12), .indexSl 19 (.tmp 8) (.tmp 10), none, 0, none⟩,
    ⟨(some 13), .load true 19 (.tmp 12), none, 0, none⟩,
    ⟨(some 4), .alloc [.int .i64 (0), .int .i64 (0), .int .i64 (0), .int .i64 (0), .int .i64 (0), .int .i64 (0), .int .i64 (0), .int .i64 (0), .int .i64 (0), .int .i64 (0), .zsl, .int .i64 (0), .bool false, .bool false, .int .i64 (0), .int .i64 (0), .int .i64 (0), .int .i64 (0), .int .i64 (0)], none, 0, none⟩,
    ⟨none, .store 19 (.tmp 4) (.tmp 13), none, 1, none⟩] []) (.seq (.region 0 [
    ⟨(some 14), .fieldAddr 1 (.tmp 4), none, 0, none⟩,
    ⟨(some 15), .fieldAddr 9 (.tmp 14), none, 0, none⟩,
    ⟨(some 16), .load false 1 (.tmp 15), none, 0, none⟩,
    ⟨(some 17), .len (.tmp 16), none, 0, none⟩,
    ⟨(some 18), .bin .gtr (.tmp 17) (.const (.int .i64 (10))), none, 0, none⟩] []) (.cond (.tmp 18) (.seq (.region 0 [
    ⟨(some 2), .move (.const (.bool false)), none, 0, none⟩] []) (.ret)) (.skip))))) (.region 0 [
    ⟨(some 19), .bin .add (.tmp 10) (.const (.int .i64 (1))), none, 0, none⟩,
    ⟨(some 10), .move (.tmp 19), none, 0, none⟩] []))))))) (.seq (.region 0 [
    ⟨(some 2), .move (.const (.bool true)), none, 0, none⟩] []) (.ret)))), [.tmp 2], true⟩
def s17 : Sig := ⟨(.cons (.v (.list (.pair (.int .i64) .job))) .nil), [], ((.v .bool), []), []⟩
def l17_0 (al0 : (List (Int × Job))) (nx2 : ((Int × Unit) × Unit) → Option Bool) (z3 : Int) : Option Bool :=
  cond (decide (z3 < (List.length al0 : Int)))
  (cond (decide (0 ≤ z3))
  (Option.bind (al0[Int.toNat z3]?) fun y4 =>
  cond (decide (10 < (List.length y4.2.after : Int)))
  (some false)
  (nx2 ((IntKind.wrap .i64 (z3 + 1), ()), ())))
  (none))
  (some true)
def F17 (L : Lp)  (al0 : (List (Int × Job))) : Option Bool :=
  cond (decide (40 < (List.length al0 : Int)))
  (some false)
  (L (fun (s1 : ((Int × Unit) × Unit)) nx2 => l17_0 al0 nx2 s1.1.1) ((0, ()), ()))
theorem e17 (L : Lp)  (x : s17.args.den) (h : denH s17.heap) : nrun [] L n17 s17 x h = F17 L  x.1 := by kernel_rfl
def f17 : (List (Int × Job)) → Option Bool := F17 (@LN LOOPS) 
@[reducible] def t17 : Ent := ⟨17, s17, fun x h => f17 x.1⟩
theorem k17 : chkNF Try.prog Try.f17 n17 = true := by kernel_rfl
theorem ok17 : NOk Try.prog t17 := NOk.body (T := []) mixed nall_nil (oneEach_of (by kernel_rfl)) Try.func17 k17 (by kernel_rfl) (fun x h => e17 _  x h)
/- (*drayage/table.Table).Places -/
def n15_1 : NFunc := ⟨9, .seq (.region 0 [
    ⟨(some 2), .move (.const (.int .i64 (0))), none, 0, none⟩] []) (.seq (.seq (.region 0 [
    ⟨(some 3), .move (.tmp 0), none, 0, none⟩,
    ⟨(some 4), .eqP false (.tmp 3) (.const (.nilp)), none, 0, none⟩] []) (.cond (.tmp 4) (.seq (.region 0 [
    ⟨(some 2), .move (.const (.int .i64 (0))), none, 0, none⟩] []) (.ret)) (.skip))) (.seq (.region 0 [
    ⟨(some 5), .move (.tmp 0), none, 0, none⟩,
    ⟨(some 6), .nilCheck (.tmp 5), none, 0, none⟩,
    ⟨(some 7), .fieldAddr 0 (.tmp 6), none, 0, none⟩,
    ⟨(some 8), .load false 1 (.tmp 7), none, 0, none⟩,
    ⟨(some 2), .move (.tmp 8), none, 0, none⟩] []) (.ret))), [.tmp 2], true⟩
def s15_1 : Sig := ⟨(.cons (.ptr 0 0 0) .nil), [.cell false (.cons (.v (.int .i64)) (.cons .zsl .nil))], ((.v (.int .i64)), [.cell false (.cons (.v (.int .i64)) (.cons .zsl .nil))]), []⟩
def F15_1 (L : Lp)  (a0 : Int) : Option (Int × ((Int × (Unit × Unit)) × Unit)) :=
  some (a0, ((a0, (), ()), ()))
theorem e15_1 (L : Lp)  (x : s15_1.args.den) (h : denH s15_1.heap) : nrun [] L n15_1 s15_1 x h = F15_1 L  h.1.1 := by kernel_rfl
def f15_1 : Int → Option (Int × ((Int × (Unit × Unit)) × Unit)) := F15_1 (@LN LOOPS) 
@[reducible] def t15_1 : Ent := ⟨15, s15_1, fun x h => f15_1 h.1.1⟩
theorem k15_1 : chkNF Try.prog Try.f15 n15_1 = true := by kernel_rfl
theorem ok15_1 : NOk Try.prog t15_1 := NOk.body (T := []) mixed nall_nil (oneEach_of (by kernel_rfl)) Try.func15 k15_1 (by kernel_rfl) (fun x h => e15_1 _  x h)
/- drayage/drayageref16.in -/
def n49 : NFunc := ⟨15, .seq (.region 0 [
    ⟨(some 6), .move (.const (.bool false)), none, 0, none⟩] []) (.seq (.region 0 [
    ⟨(some 7), .move (.tmp 1), none, 0, none⟩,
    ⟨(some 8), .move (.tmp 0), none, 0, none⟩,
    ⟨(some 9), .bin .leq (.tmp 7) (.tmp 8), none, 0, none⟩,
    ⟨(some 10), .move (.tmp 9), none, 0, none⟩,
    ⟨(some 11), .move (.tmp 0), (some (10, true)), 0, none⟩,
    ⟨(some 12), .move (.tmp 2), (some (10, true)), 0, none⟩,
    ⟨(some 13), .bin .leq (.tmp 11) (.tmp 12), (some (10, true)), 0, none⟩,
    ⟨(some 14), .pick (.tmp 10) (.tmp 13) (.const (.bool false)), none, 0, none⟩,
    ⟨(some 6), .move (.tmp 14), none, 0, none⟩] []) (.ret)), [.tmp 6], true⟩
def s49 : Sig := ⟨(.cons (.v (.int .i64)) (.cons (.v (.int .i64)) (.cons (.v (.int .i64)) .nil))), [], ((.v .bool), []), []⟩
def F49 (L : Lp)  (an0 : Int) (lo1 : Int) (hi2 : Int) : Option Bool :=
  cond (decide (lo1 ≤ an0))
  (some (decide (an0 ≤ hi2)))
  (some false)
theorem e49 (L : Lp)  (x : s49.args.den) (h : denH s49.heap) : nrun [] L n49 s49 x h = F49 L  x.1 x.2.1 x.2.2.1 := by kernel_rfl
def f49 : Int → Int → Int → Option Bool := F49 (@LN LOOPS) 
@[reducible] def t49 : Ent := ⟨49, s49, fun x h => f49 x.1 x.2.1 x.2.2.1⟩
theorem k49 : chkNF Try.prog Try.f49 n49 = true := by kernel_rfl
theorem ok49 : NOk Try.prog t49 := NOk.body (T := []) mixed nall_nil (oneEach_of (by kernel_rfl)) Try.func49 k49 (by kernel_rfl) (fun x h => e49 _  x h)
/- drayage/drayageref02.right -/
def n79 : NFunc := ⟨9, .seq (.region 0 [
    ⟨(some 2), .move (.const (.bool false)), none, 0, none⟩] []) (.seq (.region 0 [
    ⟨(some 3), .move (.tmp 0), none, 0, none⟩,
    ⟨(some 4), .bin .geq (.tmp 3) (.const (.int .i64 (0))), none, 0, none⟩,
    ⟨(some 5), .move (.tmp 4), none, 0, none⟩,
    ⟨(some 6), .move (.tmp 0), (some (5, true)), 0, none⟩,
    ⟨(some 7), .bin .leq (.tmp 6) (.const (.int .i64 (1048576))), (some (5, true)), 0, none⟩,
    ⟨(some 8), .pick (.tmp 5) (.tmp 7) (.const (.bool false)), none, 0, none⟩,
    ⟨(some 2), .move (.tmp 8), none, 0, none⟩] []) (.ret)), [.tmp 2], true⟩
def s79 : Sig := ⟨(.cons (.v (.int .i64)) .nil), [], ((.v .bool), []), []⟩
def F79 (L : Lp)  (an0 : Int) : Option Bool :=
  cond (decide (0 ≤ an0))
  (some (decide (an0 ≤ 1048576)))
  (some false)
theorem e79 (L : Lp)  (x : s79.args.den) (h : denH s79.heap) : nrun [] L n79 s79 x h = F79 L  x.1 := by kernel_rfl
def f79 : Int → Option Bool := F79 (@LN LOOPS) 
@[reducible] def t79 : Ent := ⟨79, s79, fun x h => f79 x.1⟩
theorem k79 : chkNF Try.prog Try.f79 n79 = true := by kernel_rfl
theorem ok79 : NOk Try.prog t79 := NOk.body (T := []) mixed nall_nil (oneEach_of (by kernel_rfl)) Try.func79 k79 (by kernel_rfl) (fun x h => e79 _  x h)
/- drayage/drayageref02.Right -/
def n50 : NFunc := ⟨21, .seq (.region 1 [
    ⟨(some 1), .box 4 (.tmp 0), none, 0, none⟩,
    ⟨(some 2), .move (.const (.bool false)), none, 1, none⟩] []) (.seq (.region 16 [
    ⟨(some 3), .fieldAddr 0 (.tmp 1), none, 0, none⟩,
    ⟨(some 4), .load false 1 (.tmp 3), none, 0, none⟩,
    ⟨(some 5), .call (.func 79) [(false, (.tmp 4))] false 4, none, 0, none⟩,
    ⟨(some 6), .move (.tmp 5), none, 4, none⟩,
    ⟨(some 7), .fieldAddr 1 (.tmp 1), (some (6, true)), 4, none⟩,
    ⟨(some 8), .load false 1 (.tmp 7), (some (6, true)), 4, none⟩,
    ⟨(some 9), .call (.func 79) [(false, (.tmp 8))] false 4, (some (6, true)), 4, none⟩,
    ⟨(some 10), .pick (.tmp 6) (.tmp 9) (.const (.bool false)), none, 8, none⟩,
    ⟨(some 11), .move (.tmp 10), none, 8, none⟩,
    ⟨(some 12), .fieldAddr 2 (.tmp 1), (some (11, true)), 8, none⟩,
    ⟨(some 13), .load false 1 (.tmp 12), (some (11, true)), 8, none⟩,
    ⟨(some 14), .call (.func 79) [(false, (.tmp 13))] false 4, (some (11, true)), 8, none⟩,
    ⟨(some 15), .pick (.tmp 11) (.tmp 14) (.const (.bool false)), none, 12, none⟩,
    ⟨(some 16), .move (.tmp 15), none, 12, none⟩,
    ⟨(some 17), .fieldAddr 3 (.tmp 1), (some (16, true)), 12, none⟩,
    ⟨(some 18), .load false 1 (.tmp 17), (some (16, true)), 12, none⟩,
    ⟨(some 19), .call (.func 79) [(false, (.tmp 18))] false 4, (some (16, true)), 12, none⟩,
    ⟨(some 20), .pick (.tmp 16) (.tmp 19) (.const (.bool false)), none, 16, none⟩,
    ⟨(some 2), .move (.tmp 20), none, 16, none⟩] []) (.ret)), [.tmp 2], true⟩
def s50 : Sig := ⟨(.cons (.v .res) .nil), [], ((.v .bool), []), []⟩
def F50 (L : Lp) (g79 : Int → Option Bool) (a0 : Res) : Option Bool :=
  Option.bind (g79 a0.cpu) fun r1 =>
  cond r1
  (Option.bind (g79 a0.mem) fun r2 =>
  cond r2
  (Option.bind (g79 a0.gpu) fun r3 =>
  cond r3
  (Option.bind (g79 a0.lic) fun r4 =>
  some r4)
  (some false))
  (some false))
  (some false)
theorem e50 (L : Lp) (g79 : Int → Option Bool) (x : s50.args.den) (h : denH s50.heap) : nrun [⟨79, s79, fun x h => g79 x.1⟩] L n50 s50 x h = F50 L g79 x.1 := by kernel_rfl
def f50 : Res → Option Bool := F50 (@LN LOOPS) f79
@[reducible] def t50 : Ent := ⟨50, s50, fun x h => f50 x.1⟩
theorem k50 : chkNF Try.prog Try.f50 n50 = true := by kernel_rfl
theorem ok50 : NOk Try.prog t50 := NOk.body (T := [t79]) mixed (nall_cons ok79 nall_nil) (oneEach_of (by kernel_rfl)) Try.func50 k50 (by kernel_rfl) (fun x h => e50 _ _ x h)
/- drayage/drayageref02.Fits -/
def n51 : NFunc := ⟨31, .seq (.region 2 [
    ⟨(some 2), .box 4 (.tmp 0), none, 0, none⟩,
    ⟨(some 3), .box 4 (.tmp 1), none, 1, none⟩,
    ⟨(some 4), .move (.const (.bool false)), none, 2, none⟩] []) (.seq (.region 0 [
    ⟨(some 5), .fieldAddr 0 (.tmp 2), none, 0, none⟩,
    ⟨(some 6), .load false 1 (.tmp 5), none, 0, none⟩,
    ⟨(some 7), .fieldAddr 0 (.tmp 3), none, 0, none⟩,
    ⟨(some 8), .load false 1 (.tmp 7), none, 0, none⟩,
    ⟨(some 9), .bin .leq (.tmp 6) (.tmp 8), none, 0, none⟩,
    ⟨(some 10), .move (.tmp 9), none, 0, none⟩,
    ⟨(some 11), .fieldAddr 1 (.tmp 2), (some (10, true)), 0, none⟩,
    ⟨(some 12), .load false 1 (.tmp 11), (some (10, true)), 0, none⟩,
    ⟨(some 13), .fieldAddr 1 (.tmp 3), (some (10, true)), 0, none⟩,
    ⟨(some 14), .load false 1 (.tmp 13), (some (10, true)), 0, none⟩,
    ⟨(some 15), .bin .leq (.tmp 12) (.tmp 14), (some (10, true)), 0, none⟩,
    ⟨(some 16), .pick (.tmp 10) (.tmp 15) (.const (.bool false)), none, 0, none⟩,
    ⟨(some 17), .move (.tmp 16), none, 0, none⟩,
    ⟨(some 18), .fieldAddr 2 (.tmp 2), (some (17, true)), 0, none⟩,
    ⟨(some 19), .load false 1 (.tmp 18), (some (17, true)), 0, none⟩,
    ⟨(some 20), .fieldAddr 2 (.tmp 3), (some (17, true)), 0, none⟩,
    ⟨(some 21), .load false 1 (.tmp 20), (some (17, true)), 0, none⟩,
    ⟨(some 22), .bin .leq (.tmp 19) (.tmp 21), (some (17, true)), 0, none⟩,
    ⟨(some 23), .pick (.tmp 17) (.tmp 22) (.const (.bool false)), none, 0, none⟩,
    ⟨(some 24), .move (.tmp 23), none, 0, none⟩,
    ⟨(some 25), .fieldAddr 3 (.tmp 2), (some (24, true)), 0, none⟩,
    ⟨(some 26), .load false 1 (.tmp 25), (some (24, true)), 0, none⟩,
    ⟨(some 27), .fieldAddr 3 (.tmp 3), (some (24, true)), 0, none⟩,
    ⟨(some 28), .load false 1 (.tmp 27), (some (24, true)), 0, none⟩,
    ⟨(some 29), .bin .leq (.tmp 26) (.tmp 28), (some (24, true)), 0, none⟩,
    ⟨(some 30), .pick (.tmp 24) (.tmp 29) (.const (.bool false)), none, 0, none⟩,
    ⟨(some 4), .move (.tmp 30), none, 0, none⟩] []) (.ret)), [.tmp 4], true⟩
def s51 : Sig := ⟨(.cons (.v .res) (.cons (.v .res) .nil)), [], ((.v .bool), []), []⟩
def F51 (L : Lp)  (a0 : Res) (b1 : Res) : Option Bool :=
  cond (decide (a0.cpu ≤ b1.cpu))
  (cond (decide (a0.mem ≤ b1.mem))
  (cond (decide (a0.gpu ≤ b1.gpu))
  (some (decide (a0.lic ≤ b1.lic)))
  (some false))
  (some false))
  (some false)
theorem e51 (L : Lp)  (x : s51.args.den) (h : denH s51.heap) : nrun [] L n51 s51 x h = F51 L  x.1 x.2.1 := by kernel_rfl
def f51 : Res → Res → Option Bool := F51 (@LN LOOPS) 
@[reducible] def t51 : Ent := ⟨51, s51, fun x h => f51 x.1 x.2.1⟩
theorem k51 : chkNF Try.prog Try.f51 n51 = true := by kernel_rfl
theorem ok51 : NOk Try.prog t51 := NOk.body (T := []) mixed nall_nil (oneEach_of (by kernel_rfl)) Try.func51 k51 (by kernel_rfl) (fun x h => e51 _  x h)
/- drayage/drayageref16.Right -/
def n21 : NFunc := ⟨148, .seq (.region 1 [
    ⟨(some 1), .box 18 (.tmp 0), none, 0, none⟩,
    ⟨(some 2), .move (.const (.bool false)), none, 1, none⟩] []) (.seq (.seq (.region 0 [
    ⟨(some 3), .move (.const (.int .i64 (0))), none, 0, none⟩] []) (.block 0 (.loop [1, 3] ⟨[(1, (.ptr 0 0 0)), (3, (.v (.int .i64)))], [], [.one false .job]⟩ (.seq (.seq (.region 0 [
    ⟨(some 4), .move (.tmp 3), none, 0, none⟩,
    ⟨(some 5), .fieldAddr 9 (.tmp 1), none, 0, none⟩,
    ⟨(some 6), .load false 1 (.tmp 5), none, 0, none⟩,
    ⟨(some 7), .len (.tmp 6), none, 0, none⟩,
    ⟨(some 8), .bin .lss (.tmp 4) (.tmp 7), none, 0, none⟩] []) (.cond (.tmp 8) (.skip) (.exit 0))) (.seq (.block 1 (.seq (.region 4 [
    ⟨(some 11), .fieldAddr 9 (.tmp 1), none, 0, (some ([], none))⟩,
    ⟨(some 12), .load false 1 (.tmp 11), none, 0, (some ([], none))⟩,
    ⟨(some 13), .move (.tmp 3), none, 0, (some ([], none))⟩,
    ⟨(some 14), .indexSl 2 (.tmp 12) (.tmp 13), none, 0, (some ([], none))⟩,
    ⟨(some 15), .fieldAddr 0 (.tmp 14), none, 0, (some ([], none))⟩,
    ⟨(some 16), .load false 1 (.tmp 15), none, 0, (some ([], none))⟩,
    ⟨(some 17), .fieldAddr 0 (.tmp 1), none, 0, (some ([], none))⟩,
    ⟨(some 18), .load false 1 (.tmp 17), none, 0, (some ([], none))⟩,
    ⟨(some 19), .bin .sub (.tmp 18) (.const (.int .i64 (1))), none, 0, (some ([], none))⟩,
    ⟨(some 20), .call (.func 49) [(false, (.tmp 16)), (false, (.const (.int .i64 (1)))), (false, (.tmp 19))] false 4, none, 0, (some ([], none))⟩,
    ⟨(some 21), .un .not (.tmp 20), none, 4, (some ([0, 1, 2, 3], none))⟩] []) (.cond (.tmp 21) (.seq (.region 0 [
    ⟨(some 2), .move (.const (.bool false)), none, 0, none⟩] []) (.ret)) (.skip)))) (.region 0 [
    ⟨(some 9), .move (.tmp 3), none, 0, none⟩,
    ⟨(some 10), .bin .add (.tmp 9) (.const (.int .i64 (1))), none, 0, none⟩,
    ⟨(some 3), .move (.tmp 10), none, 0, none⟩] [])))))) (.seq (.seq (.region 24 [
    ⟨(some 22), .fieldAddr 9 (.tmp 1), none, 0, none⟩,
    ⟨(some 23), .load false 1 (.tmp 22), none, 0, none⟩,
    ⟨(some 24), .len (.tmp 23), none, 0, none⟩,
    ⟨(some 25), .bin .gtr (.tmp 24) (.const (.int .i64 (4))), none, 0, none⟩,
    ⟨(some 26), .move (.tmp 25), none, 0, none⟩,
    ⟨(some 27), .fieldAddr 0 (.tmp 1), (some (26, false)), 0, none⟩,
    ⟨(some 28), .load false 1 (.tmp 27), (some (26, false)), 0, none⟩,
    ⟨(some 29), .call (.func 49) [(false, (.tmp 28)), (false, (.const (.int .i64 (1)))), (false, (.const (.int .i64 (1048576))))] false 4, (some (26, false)), 0, none⟩,
    ⟨(some 30), .un .not (.tmp 29), (some (26, false)), 4, none⟩,
    ⟨(some 31), .pick (.tmp 26) (.const (.bool true)) (.tmp 30), none, 4, none⟩,
    ⟨(some 32), .move (.tmp 31), none, 4, none⟩,
    ⟨(some 33), .fieldAddr 1 (.tmp 1), (some (32, false)), 4, none⟩,
    ⟨(some 34), .load false 1 (.tmp 33), (some (32, false)), 4, none⟩,
    ⟨(some 35), .call (.func 49) [(false, (.tmp 34)), (false, (.const (.int .i64 (0)))), (false, (.const (.int .i64 (7))))] false 4, (some (32, false)), 4, none⟩,
    ⟨(some 36), .un .not (.tmp 35), (some (32, false)), 8, none⟩,
    ⟨(some 37), .pick (.tmp 32) (.const (.bool true)) (.tmp 36), none, 8, none⟩,
    ⟨(some 38), .move (.tmp 37), none, 8, none⟩,
    ⟨(some 39), .fieldAddr 2 (.tmp 1), (some (38, false)), 8, none⟩,
    ⟨(some 40), .load false 1 (.tmp 39), (some (38, false)), 8, none⟩,
    ⟨(some 41), .call (.func 49) [(false, (.tmp 40)), (false, (.const (.int .i64 (0)))), (false, (.const (.int .i64 (7))))] false 4, (some (38, false)), 8, none⟩,
    ⟨(some 42), .un .not (.tmp 41), (some (38, false)), 12, none⟩,
    ⟨(some 43), .pick (.tmp 38) (.const (.bool true)) (.tmp 42), none, 12, none⟩,
    ⟨(some 44), .move (.tmp 43), none, 12, none⟩,
    ⟨(some 45), .fieldAddr 3 (.tmp 1), (some (44, false)), 12, none⟩,
    ⟨(some 46), .load false 1 (.tmp 45), (some (44, false)), 12, none⟩,
    ⟨(some 47), .call (.func 49) [(false, (.tmp 46)), (false, (.const (.int .i64 (1)))), (false, (.const (.int .i64 (64))))] false 4, (some (44, false)), 12, none⟩,
    ⟨(some 48), .un .not (.tmp 47), (some (44, false)), 16, none⟩,
    ⟨(some 49), .pick (.tmp 44) (.const (.bool true)) (.tmp 48), none, 16, none⟩,
    ⟨(some 50), .move (.tmp 49), none, 16, none⟩,
    ⟨(some 51), .fieldAddr 4 (.tmp 1), (some (50, false)), 16, none⟩,
    ⟨(some 52), .load true 4 (.tmp 51), (some (50, false)), 16, none⟩,
    ⟨(some 53), .call (.func 50) [(false, (.tmp 52))] false 4, (some (50, false)), 16, none⟩,
    ⟨(some 54), .un .not (.tmp 53), (some (50, false)), 20, none⟩,
    ⟨(some 55), .pick (.tmp 50) (.const (.bool true)) (.tmp 54), none, 20, none⟩,
    ⟨(some 56), .move (.tmp 55), none, 20, none⟩,
    ⟨(some 57), .fieldAddr 4 (.tmp 1), (some (56, false)), 20, none⟩,
    ⟨(some 58), .load true 4 (.tmp 57), (some (56, false)), 20, none⟩,
    ⟨(some 59), .build [.int .i64 (0), .int .i64 (0), .int .i64 (0), .int .i64 (0)] [], (some (56, false)), 20, none⟩,
    ⟨(some 60), .call (.func 51) [(false, (.tmp 58)), (false, (.tmp 59))] false 4, (some (56, false)), 20, none⟩,
    ⟨(some 61), .pick (.tmp 56) (.const (.bool true)) (.tmp 60), none, 24, none⟩] []) (.cond (.tmp 61) (.seq (.region 0 [
    ⟨(some 2), .move (.const (.bool false)), none, 0, none⟩] []) (.ret)) (.skip))) (.seq (.seq (.region 16 [
    ⟨(some 62), .fieldAddr 8 (.tmp 1), none, 0, none⟩,
    ⟨(some 63), .load false 1 (.tmp 62), none, 0, none⟩,
    ⟨(some 64), .call (.func 49) [(false, (.tmp 63)), (false, (.const (.int .i64 (1)))), (false, (.const (.int .i64 (65536))))] false 4, none, 0, none⟩,
    ⟨(some 65), .un .not (.tmp 64), none, 4, none⟩,
    ⟨(some 66), .move (.tmp 65), none, 4, none⟩,
    ⟨(some 67), .fieldAddr 10 (.tmp 1), (some (66, false)), 4, none⟩,
    ⟨(some 68), .load false 1 (.tmp 67), (some (66, false)), 4, none⟩,
    ⟨(some 69), .call (.func 49) [(false, (.tmp 68)), (false, (.const (.int .i64 (1)))), (false, (.const (.int .i64 (6))))] false 4, (some (66, false)), 4, none⟩,
    ⟨(some 70), .un .not (.tmp 69), (some (66, false)), 8, none⟩,
    ⟨(some 71), .pick (.tmp 66) (.const (.bool true)) (.tmp 70), none, 8, none⟩,
    ⟨(some 72), .move (.tmp 71), none, 8, none⟩,
    ⟨(some 73), .fieldAddr 13 (.tmp 1), (some (72, false)), 8, none⟩,
    ⟨(some 74), .load false 1 (.tmp 73), (some (72, false)), 8, none⟩,
    ⟨(some 75), .call (.func 49) [(false, (.tmp 74)), (false, (.const (.int .i64 (1)))), (false, (.const (.int .i64 (281474976710656))))] false 4, (some (72, false)), 8, none⟩,
    ⟨(some 76), .un .not (.tmp 75), (some (72, false)), 12, none⟩,
    ⟨(some 77), .pick (.tmp 72) (.const (.bool true)) (.tmp 76), none, 12, none⟩,
    ⟨(some 78), .move (.tmp 77), none, 12, none⟩,
    ⟨(some 79), .fieldAddr 17 (.tmp 1), (some (78, false)), 12, none⟩,
    ⟨(some 80), .load false 1 (.tmp 79), (some (78, false)), 12, none⟩,
    ⟨(some 81), .fieldAddr 0 (.tmp 1), (some (78, false)), 12, none⟩,
    ⟨(some 82), .load false 1 (.tmp 81), (some (78, false)), 12, none⟩,
    ⟨(some 83), .call (.func 49) [(false, (.tmp 80)), (false, (.const (.int .i64 (0)))), (false, (.tmp 82))] false 4, (some (78, false)), 12, none⟩,
    ⟨(some 84), .un .not (.tmp 83), (some (78, false)), 16, none⟩,
    ⟨(some 85), .pick (.tmp 78) (.const (.bool true)) (.tmp 84), none, 16, none⟩] []) (.cond (.tmp 85) (.seq (.region 0 [
    ⟨(some 2), .move (.const (.bool false)), none, 0, none⟩] []) (.ret)) (.skip))) (.seq (.seq (.region 12 [
    ⟨(some 86), .fieldAddr 14 (.tmp 1), none, 0, none⟩,
    ⟨(some 87), .load false 1 (.tmp 86), none, 0, none⟩,
    ⟨(some 88), .call (.func 49) [(false, (.tmp 87)), (false, (.const (.int .i64 (0)))), (false, (.const (.int .i64 (1099511627776))))] false 4, none, 0, none⟩,
    ⟨(some 89), .un .not (.tmp 88), none, 4, none⟩,
    ⟨(some 90), .move (.tmp 89), none, 4, none⟩,
    ⟨(some 91), .fieldAddr 15 (.tmp 1), (some (90, false)), 4, none⟩,
    ⟨(some 92), .load false 1 (.tmp 91), (some (90, false)), 4, none⟩,
    ⟨(some 93), .call (.func 49) [(false, (.tmp 92)), (false, (.const (.int .i64 (0)))), (false, (.const (.int .i64 (1099511627776))))] false 4, (some (90, false)), 4, none⟩,
    ⟨(some 94), .un .not (.tmp 93), (some (90, false)), 8, none⟩,
    ⟨(some 95), .pick (.tmp 90) (.const (.bool true)) (.tmp 94), none, 8, none⟩,
    ⟨(some 96), .move (.tmp 95), none, 8, none⟩,
    ⟨(some 97), .fieldAddr 16 (.tmp 1), (some (96, false)), 8, none⟩,
    ⟨(some 98), .load false 1 (.tmp 97), (some (96, false)), 8, none⟩,
    ⟨(some 99), .call (.func 49) [(false, (.tmp 98)), (false, (.const (.int .i64 (0)))), (false, (.const (.int .i64 (1099511627776))))] false 4, (some (96, false)), 8, none⟩,
    ⟨(some 100), .un .not (.tmp 99), (some (96, false)), 12, none⟩,
    ⟨(some 101), .pick (.tmp 96) (.const (.bool true)) (.tmp 100), none, 12, none⟩] []) (.cond (.tmp 101) (.seq (.region 0 [
    ⟨(some 2), .move (.const (.bool false)), none, 0, none⟩] []) (.ret)) (.skip))) (.seq (.join [1] [] ⟨[(1, (.ptr 0 0 0))], [], [.one false .job]⟩ (.seq (.region 0 [
    ⟨(some 102), .fieldAddr 10 (.tmp 1), none, 0, none⟩,
    ⟨(some 103), .load false 1 (.tmp 102), none, 0, none⟩,
    ⟨(some 104), .bin .leq (.tmp 103) (.const (.int .i64 (2))), none, 0, none⟩,
    ⟨(some 105), .move (.tmp 104), none, 0, none⟩,
    ⟨(some 106), .fieldAddr 15 (.tmp 1), (some (105, true)), 0, none⟩,
    ⟨(some 107), .load false 1 (.tmp 106), (some (105, true)), 0, none⟩,
    ⟨(some 108), .bin .neq (.tmp 107) (.const (.int .i64 (0))), (some (105, true)), 0, none⟩,
    ⟨(some 109), .pick (.tmp 105) (.tmp 108) (.const (.bool false)), none, 0, none⟩,
    ⟨(some 110), .move (.tmp 109), none, 0, none⟩,
    ⟨(some 111), .fieldAddr 10 (.tmp 1), (some (110, false)), 0, none⟩,
    ⟨(some 112), .load false 1 (.tmp 111), (some (110, false)), 0, none⟩,
    ⟨(some 113), .bin .leq (.tmp 112) (.const (.int .i64 (4))), (some (110, false)), 0, none⟩,
    ⟨(some 114), .move (.tmp 113), (some (110, false)), 0, none⟩,
    ⟨(some 115), .fieldAddr 16 (.tmp 1), (some (114, true)), 0, none⟩,
    ⟨(some 116), .load false 1 (.tmp 115), (some (114, true)), 0, none⟩,
    ⟨(some 117), .bin .neq (.tmp 116) (.const (.int .i64 (0))), (some (114, true)), 0, none⟩,
    ⟨(some 118), .pick (.tmp 114) (.tmp 117) (.const (.bool false)), (some (110, false)), 0, none⟩,
    ⟨(some 119), .pick (.tmp 110) (.const (.bool true)) (.tmp 118), none, 0, none⟩] []) (.cond (.tmp 119) (.seq (.region 0 [
    ⟨(some 2), .move (.const (.bool false)), none, 0, none⟩] []) (.ret)) (.skip)))) (.seq (.region 0 [
    ⟨(some 120), .fieldAddr 11 (.tmp 1), none, 0, none⟩,
    ⟨(some 121), .load false 1 (.tmp 120), none, 0, none⟩,
    ⟨(some 122), .un .not (.tmp 121), none, 0, none⟩,
    ⟨(some 123), .move (.tmp 122), none, 0, none⟩,
    ⟨(some 124), .fieldAddr 10 (.tmp 1), (some (123, false)), 0, none⟩,
    ⟨(some 125), .load false 1 (.tmp 124), (some (123, false)), 0, none⟩,
    ⟨(some 126), .bin .eql (.tmp 125) (.const (.int .i64 (4))), (some (123, false)), 0, none⟩,
    ⟨(some 127), .pick (.tmp 123) (.const (.bool true)) (.tmp 126), none, 0, none⟩,
    ⟨(some 128), .move (.tmp 127), none, 0, none⟩,
    ⟨(some 129), .fieldAddr 10 (.tmp 1), (some (128, false)), 0, none⟩,
    ⟨(some 130), .load false 1 (.tmp 129), (some (128, false)), 0, none⟩,
    ⟨(some 131), .bin .eql (.tmp 130) (.const (.int .i64 (5))), (some (128, false)), 0, none⟩,
    ⟨(some 132), .pick (.tmp 128) (.const (.bool true)) (.tmp 131), none, 0, none⟩,
    ⟨(some 133), .move (.tmp 132), none, 0, none⟩,
    ⟨(some 134), .fieldAddr 12 (.tmp 1), (some (133, true)), 0, none⟩,
    ⟨(some 135), .load false 1 (.tmp 134), (some (133, true)), 0, none⟩,
    ⟨(some 136), .un .not (.tmp 135), (some (133, true)), 0, none⟩,
    ⟨(some 137), .move (.tmp 136), (some (133, true)), 0, none⟩,
    ⟨(some 138), .fieldAddr 10 (.tmp 1), (some (137, false)), 0, none⟩,
    ⟨(some 139), .load false 1 (.tmp 138), (some (137, false)), 0, none⟩,
    ⟨(some 140), .bin .eql (.tmp 139) (.const (.int .i64 (4))), (some (137, false)), 0, none⟩,
    ⟨(some 141), .pick (.tmp 137) (.const (.bool true)) (.tmp 140), (some (133, true)), 0, none⟩,
    ⟨(some 142), .move (.tmp 141), (some (133, true)), 0, none⟩,
    ⟨(some 143), .fieldAddr 10 (.tmp 1), (some (142, false)), 0, none⟩,
    ⟨(some 144), .load false 1 (.tmp 143), (some (142, false)), 0, none⟩,
    ⟨(some 145), .bin .eql (.tmp 144) (.const (.int .i64 (6))), (some (142, false)), 0, none⟩,
    ⟨(some 146), .pick (.tmp 142) (.const (.bool true)) (.tmp 145), (some (133, true)), 0, none⟩,
    ⟨(some 147), .pick (.tmp 133) (.tmp 146) (.const (.bool false)), none, 0, none⟩,
    ⟨(some 2), .move (.tmp 147), none, 0, none⟩] []) (.ret))))))), [.tmp 2], true⟩
def s21 : Sig := ⟨(.cons (.v .job) .nil), [], ((.v .bool), []), []⟩
def l21_0 (g49 : Int → Int → Int → Option Bool) (g50 : Res → Option Bool) (g51 : Res → Res → Option Bool) (nx2 : ((Unit × (Int × Unit)) × (Job × Unit)) → Option Bool) (i3 : Int) (z4 : Job) : Option Bool :=
  cond (decide (i3 < (List.length z4.after : Int)))
  (cond (decide (0 ≤ i3))
  (Option.bind (z4.after[Int.toNat i3]?) fun y5 =>
  Option.bind (g49 y5.job 1 (IntKind.wrap .i64 (z4.id - 1))) fun r6 =>
  cond (!r6)
  (some false)
  (nx2 (((), IntKind.wrap .i64 (i3 + 1), ()), (z4, ()))))
  (none))
  (cond (decide (4 < (List.length z4.after : Int)))
  (some false)
  (Option.bind (g49 z4.id 1 1048576) fun r7 =>
  cond (!r7)
  (some false)
  (Option.bind (g49 z4.user 0 7) fun r8 =>
  cond (!r8)
  (some false)
  (Option.bind (g49 z4.queue 0 7) fun r9 =>
  cond (!r9)
  (some false)
  (Option.bind (g49 z4.many 1 64) fun r10 =>
  cond (!r10)
  (some false)
  (Option.bind (g50 z4.need) fun r11 =>
  cond (!r11)
  (some false)
  (Option.bind (g51 z4.need (Res.mk 0 0 0 0)) fun r12 =>
  cond r12
  (some false)
  (Option.bind (g49 z4.wall 1 65536) fun r13 =>
  cond (!r13)
  (some false)
  (Option.bind (g49 z4.state 1 6) fun r14 =>
  cond (!r14)
  (some false)
  (Option.bind (g49 z4.version 1 281474976710656) fun r15 =>
  cond (!r15)
  (some false)
  (Option.bind (g49 z4.array 0 z4.id) fun r16 =>
  cond (!r16)
  (some false)
  (Option.bind (g49 z4.born 0 1099511627776) fun r17 =>
  cond (!r17)
  (some false)
  (Option.bind (g49 z4.start 0 1099511627776) fun r18 =>
  cond (!r18)
  (some false)
  (Option.bind (g49 z4.fin 0 1099511627776) fun r19 =>
  cond (!r19)
  (some false)
  (Option.bind (α := (((Unit × Unit) × (Job × Unit)) ⊕ Bool))
  (cond (decide (z4.state ≤ 2))
  (cond (!decide (z4.start = 0))
  (some (.inr false))
  (cond (decide (z4.state ≤ 4))
  (cond (!decide (z4.fin = 0))
  (some (.inr false))
  (some (.inl (((), ()), (z4, ())))))
  (some (.inl (((), ()), (z4, ()))))))
  (cond (decide (z4.state ≤ 4))
  (cond (!decide (z4.fin = 0))
  (some (.inr false))
  (some (.inl (((), ()), (z4, ())))))
  (some (.inl (((), ()), (z4, ())))))) (Sum.elim (fun x20 =>
  cond (!x20.2.1.ok)
  (cond (!x20.2.1.kill)
  (some true)
  (cond (decide (x20.2.1.state = 4))
  (some true)
  (some (decide (x20.2.1.state = 6)))))
  (cond (decide (x20.2.1.state = 4))
  (cond (!x20.2.1.kill)
  (some true)
  (cond (decide (x20.2.1.state = 4))
  (some true)
  (some (decide (x20.2.1.state = 6)))))
  (cond (decide (x20.2.1.state = 5))
  (cond (!x20.2.1.kill)
  (some true)
  (cond (decide (x20.2.1.state = 4))
  (some true)
  (some (decide (x20.2.1.state = 6)))))
  (some false)))) some))))))))))))))))
def F21 (L : Lp) (g49 : Int → Int → Int → Option Bool) (g50 : Res → Option Bool) (g51 : Res → Res → Option Bool) (j0 : Job) : Option Bool :=
  L (fun (s1 : ((Unit × (Int × Unit)) × (Job × Unit))) nx2 => l21_0 g49 g50 g51 nx2 s1.1.2.1 s1.2.1) (((), 0, ()), (j0, ()))
theorem e21 (L : Lp) (g49 : Int → Int → Int → Option Bool) (g50 : Res → Option Bool) (g51 : Res → Res → Option Bool) (x : s21.args.den) (h : denH s21.heap) : nrun [⟨49, s49, fun x h => g49 x.1 x.2.1 x.2.2.1⟩, ⟨50, s50, fun x h => g50 x.1⟩, ⟨51, s51, fun x h => g51 x.1 x.2.1⟩] L n21 s21 x h = F21 L g49 g50 g51 x.1 := by kernel_rfl
def f21 : Job → Option Bool := F21 (@LN LOOPS) f49 f50 f51
@[reducible] def t21 : Ent := ⟨21, s21, fun x h => f21 x.1⟩
theorem k21 : chkNF Try.prog Try.f21 n21 = true := by kernel_rfl
theorem ok21 : NOk Try.prog t21 := NOk.body (T := [t49, t50, t51]) mixed (nall_cons ok49 (nall_cons ok50 (nall_cons ok51 nall_nil))) (oneEach_of (by kernel_rfl)) Try.func21 k21 (by kernel_rfl) (fun x h => e21 _ _ _ _ x h)
/- drayage/drayageref17.Find -/
def n47 : NFunc := ⟨20, .seq (.region 0 [
    ⟨(some 4), .move (.const (.int .i64 (0))), none, 0, none⟩] []) (.seq (.seq (.region 0 [
    ⟨(some 5), .move (.const (.int .i64 (0))), none, 0, none⟩] []) (.block 0 (.loop [0, 1, 5] ⟨[(5, (.v (.int .i64)))], [0, 1], []⟩ (.seq (.seq (.region 0 [
    ⟨(some 6), .move (.tmp 5), none, 0, none⟩,
    ⟨(some 7), .move (.tmp 0), none, 0, none⟩,
    ⟨(some 8), .len (.tmp 7), none, 0, none⟩,
    ⟨(some 9), .bin .lss (.tmp 6) (.tmp 8), none, 0, none⟩] []) (.cond (.tmp 9) (.skip) (.exit 0))) (.seq (.block 1 (.seq (.region 0 [
    ⟨(some 12), .move (.tmp 0), none, 0, none⟩,
    ⟨(some 13), .move (.tmp 5), none, 0, none⟩,
    ⟨(some 14), .indexSl 18 (.tmp 12) (.tmp 13), none, 0, none⟩,
    ⟨(some 15), .fieldAddr 0 (.tmp 14), none, 0, none⟩,
    ⟨(some 16), .load false 1 (.tmp 15), none, 0, none⟩,
    ⟨(some 17), .move (.tmp 1), none, 0, none⟩,
    ⟨(some 18), .bin .eql (.tmp 16) (.tmp 17), none, 0, none⟩] []) (.cond (.tmp 18) (.seq (.region 0 [
    ⟨(some 19), .move (.tmp 5), none, 0, none⟩,
    ⟨(some 4), .move (.tmp 19), none, 0, none⟩] []) (.ret)) (.skip)))) (.region 0 [
    ⟨(some 10), .move (.tmp 5), none, 0, none⟩,
    ⟨(some 11), .bin .add (.tmp 10) (.const (.int .i64 (1))), none, 0, none⟩,
    ⟨(some 5), .move (.tmp 11), none, 0, none⟩] [])))))) (.seq (.region 0 [
    ⟨(some 4), .move (.const (.int .i64 (-1))), none, 0, none⟩] []) (.ret))), [.tmp 4], true⟩
def s47 : Sig := ⟨(.cons (.v (.list .job)) (.cons (.v (.int .i64)) .nil)), [], ((.v (.int .i64)), []), []⟩
def l47_0 (all0 : (List Job)) (id1 : Int) (nx3 : ((Int × Unit) × Unit) → Option Int) (i4 : Int) : Option Int :=
  cond (decide (i4 < (List.length all0 : Int)))
  (cond (decide (0 ≤ i4))
  (Option.bind (all0[Int.toNat i4]?) fun y5 =>
  cond (decide (y5.id = id1))
  (some i4)
  (nx3 ((IntKind.wrap .i64 (i4 + 1), ()), ())))
  (none))
  (some (-1))
def F47 (L : Lp)  (all0 : (List Job)) (id1 : Int) : Option Int :=
  L (fun (s2 : ((Int × Unit) × Unit)) nx3 => l47_0 all0 id1 nx3 s2.1.1) ((0, ()), ())
theorem e47 (L : Lp)  (x : s47.args.den) (h : denH s47.heap) : nrun [] L n47 s47 x h = F47 L  x.1 x.2.1 := by kernel_rfl
def f47 : (List Job) → Int → Option Int := F47 (@LN LOOPS) 
@[reducible] def t47 : Ent := ⟨47, s47, fun x h => f47 x.1 x.2.1⟩
theorem k47 : chkNF Try.prog Try.f47 n47 = true := by kernel_rfl
theorem ok47 : NOk Try.prog t47 := NOk.body (T := []) mixed nall_nil (oneEach_of (by kernel_rfl)) Try.func47 k47 (by kernel_rfl) (fun x h => e47 _  x h)
/- drayage/drayageref18.Put -/
def n44 : NFunc := ⟨55, .seq (.region 1 [
    ⟨(some 5), .box 18 (.tmp 2), none, 0, none⟩,
    ⟨(some 6), .move (.const (.zsl)), none, 1, none⟩,
    ⟨(some 7), .move (.const (.int .i64 (0))), none, 1, none⟩] []) (.seq (.seq (.region 4 [
    ⟨(some 10), .load true 18 (.tmp 5), none, 0, none⟩,
    ⟨(some 11), .call (.func 21) [(false, (.tmp 10))] false 4, none, 0, none⟩,
    ⟨(some 12), .un .not (.tmp 11), none, 4, none⟩] []) (.cond (.tmp 12) (.seq (.region 0 [
    ⟨(some 13), .move (.tmp 0), none, 0, none⟩,
    ⟨(some 6), .move (.tmp 13), none, 0, none⟩,
    ⟨(some 7), .move (.const (.int .i64 (2))), none, 0, none⟩] []) (.ret)) (.skip))) (.seq (.seq (.region 4 [
    ⟨(some 14), .move (.tmp 0), none, 0, none⟩,
    ⟨(some 15), .fieldAddr 0 (.tmp 5), none, 0, none⟩,
    ⟨(some 16), .load false 1 (.tmp 15), none, 0, none⟩,
    ⟨(some 17), .call (.func 47) [(false, (.tmp 14)), (false, (.tmp 16))] false 4, none, 0, none⟩,
    ⟨(some 18), .bin .geq (.tmp 17) (.const (.int .i64 (0))), none, 4, none⟩] []) (.cond (.tmp 18) (.seq (.region 0 [
    ⟨(some 19), .move (.tmp 0), none, 0, none⟩,
    ⟨(some 6), .move (.tmp 19), none, 0, none⟩,
    ⟨(some 7), .move (.const (.int .i64 (31))), none, 0, none⟩] []) (.ret)) (.skip))) (.seq (.seq (.region 0 [
    ⟨(some 20), .move (.tmp 0), none, 0, none⟩,
    ⟨(some 21), .len (.tmp 20), none, 0, none⟩,
    ⟨(some 22), .move (.tmp 1), none, 0, none⟩,
    ⟨(some 23), .bin .geq (.tmp 21) (.tmp 22), none, 0, none⟩] []) (.cond (.tmp 23) (.seq (.region 0 [
    ⟨(some 24), .move (.tmp 0), none, 0, none⟩,
    ⟨(some 6), .move (.tmp 24), none, 0, none⟩,
    ⟨(some 7), .move (.const (.int .i64 (35))), none, 0, none⟩] []) (.ret)) (.skip))) (.seq (.region 0 [
    ⟨(some 8), .move (.const (.int .i64 (0))), none, 0, none⟩] []) (.seq (.block 0 (.loop [0, 5, 8] ⟨[(5, (.ptr 0 0 0)), (8, (.v (.int .i64)))], [0], [.one false .job]⟩ (.seq (.seq (.region 0 [
    ⟨(some 25), .move (.tmp 8), none, 0, (some ([], none))⟩,
    ⟨(some 26), .move (.tmp 0), none, 0, (some ([], none))⟩,
    ⟨(some 27), .len (.tmp 26), none, 0, (some ([], none))⟩,
    ⟨(some 28), .bin .lss (.tmp 25) (.tmp 27), none, 0, (some ([], none))⟩,
    ⟨(some 29), .move (.tmp 28), none, 0, (some ([], none))⟩,
    ⟨(some 30), .move (.tmp 0), (some (29, true)), 0, (some ([], none))⟩,
    ⟨(some 31), .move (.tmp 8), (some (29, true)), 0, (some ([], none))⟩,
    ⟨(some 32), .indexSl 18 (.tmp 30) (.tmp 31), (some (29, true)), 0, (some ([], none))⟩,
    ⟨(some 33), .fieldAddr 0 (.tmp 32), (some (29, true)), 0, (some ([], none))⟩,
    ⟨(some 34), .load false 1 (.tmp 33), (some (29, true)), 0, (some ([], none))⟩,
    ⟨(some 35), .fieldAddr 0 (.tmp 5), (some (29, true)), 0, (some ([], none))⟩,
    ⟨(some 36), .load false 1 (.tmp 35), (some (29, true)), 0, (some ([], none))⟩,
    ⟨(some 37), .bin .lss (.tmp 34) (.tmp 36), (some (29, true)), 0, (some ([], none))⟩,
    ⟨(some 38), .pick (.tmp 29) (.tmp 37) (.const (.bool false)), none, 0, (some ([], none))⟩] []) (.cond (.tmp 38) (.skip) (.exit 0))) (.block 1 (.region 0 [
    ⟨(some 39), .move (.tmp 8), none, 0, none⟩,
    ⟨(some 40), .bin .add (.tmp 39) (.const (.int .i64 (1))), none, 0, none⟩,
    ⟨(some 8), .move (.tmp 40), none, 0, none⟩] []))))) (.seq (.region 0 [
    ⟨(some 9), .move (.const (.zsl)), none, 0, none⟩] []) (.seq (.region 1 [
    ⟨(some 41), .move (.tmp 9), none, 0, none⟩,
    ⟨(some 42), .move (.tmp 0), none, 0, none⟩,
    ⟨(some 43), .move (.tmp 8), none, 0, none⟩,
    ⟨(some 44), .slice 18 (.tmp 42) none (some (.tmp 43)) none, none, 0, none⟩,
    ⟨(some 45), .append 18 152 true (.tmp 41) (.tmp 44), none, 0, none⟩,
    ⟨(some 9), .move (.tmp 45), none, 1, none⟩] []) (.seq (.region 2 [
    ⟨(some 46), .move (.tmp 9), none, 0, none⟩,
    ⟨(some 47), .load true 18 (.tmp 5), none, 0, none⟩,
    ⟨(some 48), .buildSlice 18 1 true [.int .i64 (0), .int .i64 (0), .int .i64 (0), .int .i64 (0), .int .i64 (0), .int .i64 (0), .int .i64 (0), .int .i64 (0), .int .i64 (0), .zsl, .int .i64 (0), .bool false, .bool false, .int .i64 (0), .int .i64 (0), .int .i64 (0), .int .i64 (0), .int .i64 (0)] [(0, (.tmp 47))], none, 0, none⟩,
    ⟨(some 49), .append 18 152 true (.tmp 46) (.tmp 48), none, 1, none⟩,
    ⟨(some 9), .move (.tmp 49), none, 2, none⟩] []) (.seq (.region 1 [
    ⟨(some 50), .move (.tmp 9), none, 0, none⟩,
    ⟨(some 51), .move (.tmp 0), none, 0, none⟩,
    ⟨(some 52), .move (.tmp 8), none, 0, none⟩,
    ⟨(some 53), .slice 18 (.tmp 51) (some (.tmp 52)) none none, none, 0, none⟩,
    ⟨(some 54), .append 18 152 true (.tmp 50) (.tmp 53), none, 0, none⟩,
    ⟨(some 6), .move (.tmp 54), none, 1, none⟩,
    ⟨(some 7), .move (.const (.int .i64 (0))), none, 1, none⟩] []) (.ret)))))))))), [.tmp 6, .tmp 7], true⟩
def s44 : Sig := ⟨(.cons (.v (.list .job)) (.cons (.v (.int .i64)) (.cons (.v .job) .nil))), [], ((.tup (.cons (.v (.list .job)) (.cons (.v (.int .i64)) .nil))), []), []⟩
def l44_0 (al0 : (List Job)) (nx6 : ((Unit × (Int × Unit)) × (Job × Unit)) → Option ((List Job) × (Int × Unit))) (zk7 : Int) (z8 : Job) : Option ((List Job) × (Int × Unit)) :=
  cond (decide (zk7 < (List.length al0 : Int)))
  (cond (decide (0 ≤ zk7))
  (Option.bind (al0[Int.toNat zk7]?) fun y9 =>
  cond (decide (y9.id < z8.id))
  (nx6 (((), IntKind.wrap .i64 (zk7 + 1), ()), (z8, ())))
  (cond (decide (0 ≤ zk7))
  (cond (decide ((Int.toNat zk7) ≤ (List.length al0)))
  (cond (smallB (List.length (List.take (Int.toNat zk7) al0)) 152)
  (cond (smallB ((List.length ([] ++ (List.take (Int.toNat zk7) al0))) + 1) 152)
  (cond (decide (0 ≤ zk7))
  (cond (decide ((Int.toNat zk7) ≤ (List.length al0)))
  (cond (smallB ((List.length (([] ++ (List.take (Int.toNat zk7) al0)) ++ [z8])) + (List.length (List.drop (Int.toNat zk7) al0))) 152)
  (some ((([] ++ (List.take (Int.toNat zk7) al0)) ++ [z8]) ++ (List.drop (Int.toNat zk7) al0), 0, ()))
  (none))
  (none))
  (none))
  (none))
  (none))
  (none))
  (none)))
  (none))
  (cond (decide (0 ≤ zk7))
  (cond (decide ((Int.toNat zk7) ≤ (List.length al0)))
  (cond (smallB (List.length (List.take (Int.toNat zk7) al0)) 152)
  (cond (smallB ((List.length ([] ++ (List.take (Int.toNat zk7) al0))) + 1) 152)
  (cond (decide (0 ≤ zk7))
  (cond (decide ((Int.toNat zk7) ≤ (List.length al0)))
  (cond (smallB ((List.length (([] ++ (List.take (Int.toNat zk7) al0)) ++ [z8])) + (List.length (List.drop (Int.toNat zk7) al0))) 152)
  (some ((([] ++ (List.take (Int.toNat zk7) al0)) ++ [z8]) ++ (List.drop (Int.toNat zk7) al0), 0, ()))
  (none))
  (none))
  (none))
  (none))
  (none))
  (none))
  (none))
def F44 (L : Lp) (g21 : Job → Option Bool) (g47 : (List Job) → Int → Option Int) (al0 : (List Job)) (places1 : Int) (j2 : Job) : Option ((List Job) × (Int × Unit)) :=
  Option.bind (g21 j2) fun r3 =>
  cond (!r3)
  (some (al0, 2, ()))
  (Option.bind (g47 al0 j2.id) fun r4 =>
  cond (decide (0 ≤ r4))
  (some (al0, 31, ()))
  (cond (decide (places1 ≤ (List.length al0 : Int)))
  (some (al0, 35, ()))
  (L (fun (s5 : ((Unit × (Int × Unit)) × (Job × Unit))) nx6 => l44_0 al0 nx6 s5.1.2.1 s5.2.1) (((), 0, ()), (j2, ())))))
theorem e44 (L : Lp) (g21 : Job → Option Bool) (g47 : (List Job) → Int → Option Int) (x : s44.args.den) (h : denH s44.heap) : nrun [⟨21, s21, fun x h => g21 x.1⟩, ⟨47, s47, fun x h => g47 x.1 x.2.1⟩] L n44 s44 x h = F44 L g21 g47 x.1 x.2.1 x.2.2.1 := by kernel_rfl
def f44 : (List Job) → Int → Job → Option ((List Job) × (Int × Unit)) := F44 (@LN LOOPS) f21 f47
@[reducible] def t44 : Ent := ⟨44, s44, fun x h => f44 x.1 x.2.1 x.2.2.1⟩
theorem k44 : chkNF Try.prog Try.f44 n44 = true := by kernel_rfl
theorem ok44 : NOk Try.prog t44 := NOk.body (T := [t21, t47]) mixed (nall_cons ok21 (nall_cons ok47 nall_nil)) (oneEach_of (by kernel_rfl)) Try.func44 k44 (by kernel_rfl) (fun x h => e44 _ _ _ x h)
/- (*drayage/table.Table).Set -/
def n11_1 : NFunc := ⟨29, .seq (.region 1 [
    ⟨(some 3), .box 18 (.tmp 1), none, 0, none⟩,
    ⟨(some 4), .move (.const (.int .i64 (0))), none, 1, none⟩] []) (.seq (.seq (.region 0 [
    ⟨(some 7), .move (.tmp 0), none, 0, none⟩,
    ⟨(some 8), .eqP false (.tmp 7) (.const (.nilp)), none, 0, none⟩] []) (.cond (.tmp 8) (.seq (.region 0 [
    ⟨(some 4), .move (.const (.int .i64 (1))), none, 0, none⟩] []) (.ret)) (.skip))) (.seq (.seq (.region 4 [
    ⟨(some 9), .load true 18 (.tmp 3), none, 0, none⟩,
    ⟨(some 10), .call (.func 40) [(false, (.tmp 9))] false 4, none, 0, none⟩,
    ⟨(some 11), .un .not (.tmp 10), none, 4, none⟩] []) (.cond (.tmp 11) (.seq (.region 0 [
    ⟨(some 4), .move (.const (.int .i64 (2))), none, 0, none⟩] []) (.ret)) (.skip))) (.seq (.region 4 [
    ⟨(some 13), .move (.tmp 0), none, 0, none⟩,
    ⟨(some 14), .fieldAddr 0 (.tmp 3), none, 0, none⟩,
    ⟨(some 15), .load false 1 (.tmp 14), none, 0, none⟩,
    ⟨(some 16), .call (.func 38) [(true, (.tmp 13)), (false, (.tmp 15))] false 4, none, 0, none⟩,
    ⟨(some 12), .move (.tmp 16), none, 4, none⟩,
    ⟨(some 17), .extract (.tmp 12) 0, none, 4, none⟩,
    ⟨(some 18), .extract (.tmp 12) 1, none, 4, none⟩,
    ⟨(some 5), .move (.tmp 17), none, 4, none⟩,
    ⟨(some 6), .move (.tmp 18), none, 4, none⟩] []) (.seq (.seq (.region 0 [
    ⟨(some 19), .move (.tmp 6), none, 0, none⟩,
    ⟨(some 20), .un .not (.tmp 19), none, 0, none⟩] []) (.cond (.tmp 20) (.seq (.region 0 [
    ⟨(some 4), .move (.const (.int .i64 (30))), none, 0, none⟩] []) (.ret)) (.skip))) (.seq (.region 4 [
    ⟨(some 21), .move (.tmp 0), none, 0, (some ([], none))⟩,
    ⟨(some 22), .nilCheck (.tmp 21), none, 0, (some ([], none))⟩,
    ⟨(some 23), .fieldAddr 1 (.tmp 22), none, 0, (some ([], none))⟩,
    ⟨(some 24), .load false 1 (.tmp 23), none, 0, (some ([], none))⟩,
    ⟨(some 25), .move (.tmp 5), none, 0, (some ([], none))⟩,
    ⟨(some 26), .load true 18 (.tmp 3), none, 0, (some ([], none))⟩,
    ⟨(some 27), .call (.func 39) [(false, (.tmp 26))] true 4, none, 0, (some ([], none))⟩,
    ⟨(some 28), .indexSl 18 (.tmp 24) (.tmp 25), none, 4, (some ([0, 1, 2, 3], none))⟩,
    ⟨none, .store 18 (.tmp 28) (.tmp 27), none, 4, (some ([0, 1, 2, 3], none))⟩] []) (.seq (.region 0 [
    ⟨(some 4), .move (.const (.int .i64 (0))), none, 0, none⟩] []) (.ret))))))), [.tmp 4], true⟩
def s11_1 : Sig := ⟨(.cons (.ptr 0 0 0) (.cons (.v .job) .nil)), [.cell false (.cons (.v (.int .i64)) (.cons .zsl .nil))], ((.v (.int .i64)), [.cell false (.cons (.v (.int .i64)) (.cons .zsl .nil))]), []⟩
def F11_1 (L : Lp) (g40 : Job → Option Bool) (g38 : Int → Int → Option ((Int × (Bool × Unit)) × ((Int × (Unit × Unit)) × Unit))) (g39 : Job → Option Job) (j0 : Job) (a1 : Int) : Option (Int × ((Int × (Unit × Unit)) × Unit)) :=
  Option.bind (g40 j0) fun r2 =>
  cond (!r2)
  (some (2, ((a1, (), ()), ())))
  (Option.bind (g38 j0.id a1) fun r3 =>
  cond (!r3.1.2.1)
  (some (30, ((r3.2.1.1, (), ()), ())))
  (Option.bind (g39 j0) fun r4 =>
  none))
theorem e11_1 (L : Lp) (g40 : Job → Option Bool) (g38 : Int → Int → Option ((Int × (Bool × Unit)) × ((Int × (Unit × Unit)) × Unit))) (g39 : Job → Option Job) (x : s11_1.args.den) (h : denH s11_1.heap) : nrun [⟨40, s40, fun x h => g40 x.1⟩, ⟨38, s38, fun x h => g38 x.2.1 h.1.1⟩, ⟨39, s39, fun x h => g39 x.1⟩] L n11_1 s11_1 x h = F11_1 L g40 g38 g39 x.2.1 h.1.1 := by kernel_rfl
def f11_1 : Job → Int → Option (Int × ((Int × (Unit × Unit)) × Unit)) := F11_1 (@LN LOOPS) f40 f38 f39
@[reducible] def t11_1 : Ent := ⟨11, s11_1, fun x h => f11_1 x.2.1 h.1.1⟩
theorem k11_1 : chkNF Try.prog Try.f11 n11_1 = true := by kernel_rfl
theorem ok11_1 : NOk Try.prog t11_1 := NOk.body (T := [t40, t38, t39]) mixed (nall_cons ok40 (nall_cons ok38 (nall_cons ok39 nall_nil))) (oneEach_of (by kernel_rfl)) Try.func11 k11_1 (by kernel_rfl) (fun x h => e11_1 _ _ _ _ x h)
/- drayage/drayageref18.Set -/
def n45 : NFunc := ⟨34, .seq (.region 1 [
    ⟨(some 3), .box 18 (.tmp 1), none, 0, none⟩,
    ⟨(some 4), .move (.const (.zsl)), none, 1, none⟩,
    ⟨(some 5), .move (.const (.int .i64 (0))), none, 1, none⟩] []) (.seq (.seq (.region 4 [
    ⟨(some 8), .load true 18 (.tmp 3), none, 0, none⟩,
    ⟨(some 9), .call (.func 21) [(false, (.tmp 8))] false 4, none, 0, none⟩,
    ⟨(some 10), .un .not (.tmp 9), none, 4, none⟩] []) (.cond (.tmp 10) (.seq (.region 0 [
    ⟨(some 11), .move (.tmp 0), none, 0, none⟩,
    ⟨(some 4), .move (.tmp 11), none, 0, none⟩,
    ⟨(some 5), .move (.const (.int .i64 (2))), none, 0, none⟩] []) (.ret)) (.skip))) (.seq (.region 4 [
    ⟨(some 12), .move (.tmp 0), none, 0, none⟩,
    ⟨(some 13), .fieldAddr 0 (.tmp 3), none, 0, none⟩,
    ⟨(some 14), .load false 1 (.tmp 13), none, 0, none⟩,
    ⟨(some 15), .call (.func 47) [(false, (.tmp 12)), (false, (.tmp 14))] false 4, none, 0, none⟩,
    ⟨(some 6), .move (.tmp 15), none, 4, none⟩] []) (.seq (.seq (.region 0 [
    ⟨(some 16), .move (.tmp 6), none, 0, none⟩,
    ⟨(some 17), .bin .lss (.tmp 16) (.const (.int .i64 (0))), none, 0, none⟩] []) (.cond (.tmp 17) (.seq (.region 0 [
    ⟨(some 18), .move (.tmp 0), none, 0, none⟩,
    ⟨(some 4), .move (.tmp 18), none, 0, none⟩,
    ⟨(some 5), .move (.const (.int .i64 (30))), none, 0, none⟩] []) (.ret)) (.skip))) (.seq (.region 0 [
    ⟨(some 7), .move (.const (.zsl)), none, 0, none⟩] []) (.seq (.region 1 [
    ⟨(some 19), .move (.tmp 7), none, 0, none⟩,
    ⟨(some 20), .move (.tmp 0), none, 0, none⟩,
    ⟨(some 21), .move (.tmp 6), none, 0, none⟩,
    ⟨(some 22), .slice 18 (.tmp 20) none (some (.tmp 21)) none, none, 0, none⟩,
    ⟨(some 23), .append 18 152 true (.tmp 19) (.tmp 22), none, 0, none⟩,
    ⟨(some 7), .move (.tmp 23), none, 1, none⟩] []) (.seq (.region 2 [
    ⟨(some 24), .move (.tmp 7), none, 0, none⟩,
    ⟨(some 25), .load true 18 (.tmp 3), none, 0, none⟩,
    ⟨(some 26), .buildSlice 18 1 true [.int .i64 (0), .int .i64 (0), .int .i64 (0), .int .i64 (0), .int .i64 (0), .int .i64 (0), .int .i64 (0), .int .i64 (0), .int .i64 (0), .zsl, .int .i64 (0), .bool false, .bool false, .int .i64 (0), .int .i64 (0), .int .i64 (0), .int .i64 (0), .int .i64 (0)] [(0, (.tmp 25))], none, 0, none⟩,
    ⟨(some 27), .append 18 152 true (.tmp 24) (.tmp 26), none, 1, none⟩,
    ⟨(some 7), .move (.tmp 27), none, 2, none⟩] []) (.seq (.region 1 [
    ⟨(some 28), .move (.tmp 7), none, 0, none⟩,
    ⟨(some 29), .move (.tmp 0), none, 0, none⟩,
    ⟨(some 30), .move (.tmp 6), none, 0, none⟩,
    ⟨(some 31), .bin .add (.tmp 30) (.const (.int .i64 (1))), none, 0, none⟩,
    ⟨(some 32), .slice 18 (.tmp 29) (some (.tmp 31)) none none, none, 0, none⟩,
    ⟨(some 33), .append 18 152 true (.tmp 28) (.tmp 32), none, 0, none⟩,
    ⟨(some 4), .move (.tmp 33), none, 1, none⟩,
    ⟨(some 5), .move (.const (.int .i64 (0))), none, 1, none⟩] []) (.ret)))))))), [.tmp 4, .tmp 5], true⟩
def s45 : Sig := ⟨(.cons (.v (.list .job)) (.cons (.v .job) .nil)), [], ((.tup (.cons (.v (.list .job)) (.cons (.v (.int .i64)) .nil))), []), []⟩
def F45 (L : Lp) (g21 : Job → Option Bool) (g47 : (List Job) → Int → Option Int) (al0 : (List Job)) (j1 : Job) : Option ((List Job) × (Int × Unit)) :=
  Option.bind (g21 j1) fun r2 =>
  cond (!r2)
  (some (al0, 2, ()))
  (Option.bind (g47 al0 j1.id) fun r3 =>
  cond (decide (r3 < 0))
  (some (al0, 30, ()))
  (cond (decide (0 ≤ r3))
  (cond (decide ((Int.toNat r3) ≤ (List.length al0)))
  (cond (smallB (List.length (List.take (Int.toNat r3) al0)) 152)
  (cond (smallB ((List.length ([] ++ (List.take (Int.toNat r3) al0))) + 1) 152)
  (cond (decide (0 ≤ (IntKind.wrap .i64 (r3 + 1))))
  (cond (decide ((Int.toNat (IntKind.wrap .i64 (r3 + 1))) ≤ (List.length al0)))
  (cond (smallB ((List.length (([] ++ (List.take (Int.toNat r3) al0)) ++ [j1])) + (List.length (List.drop (Int.toNat (IntKind.wrap .i64 (r3 + 1))) al0))) 152)
  (some ((([] ++ (List.take (Int.toNat r3) al0)) ++ [j1]) ++ (List.drop (Int.toNat (IntKind.wrap .i64 (r3 + 1))) al0), 0, ()))
  (none))
  (none))
  (none))
  (none))
  (none))
  (none))
  (none)))
theorem e45 (L : Lp) (g21 : Job → Option Bool) (g47 : (List Job) → Int → Option Int) (x : s45.args.den) (h : denH s45.heap) : nrun [⟨21, s21, fun x h => g21 x.1⟩, ⟨47, s47, fun x h => g47 x.1 x.2.1⟩] L n45 s45 x h = F45 L g21 g47 x.1 x.2.1 := by kernel_rfl
def f45 : (List Job) → Job → Option ((List Job) × (Int × Unit)) := F45 (@LN LOOPS) f21 f47
@[reducible] def t45 : Ent := ⟨45, s45, fun x h => f45 x.1 x.2.1⟩
theorem k45 : chkNF Try.prog Try.f45 n45 = true := by kernel_rfl
theorem ok45 : NOk Try.prog t45 := NOk.body (T := [t21, t47]) mixed (nall_cons ok21 (nall_cons ok47 nall_nil)) (oneEach_of (by kernel_rfl)) Try.func45 k45 (by kernel_rfl) (fun x h => e45 _ _ _ x h)
/- slices.Delete[[]drayage/api.Job,drayage/api.Job] -/
def s42 : Sig := ⟨(.cons .zsl (.cons (.v (.int .i64)) (.cons (.v (.int .i64)) .nil))), [], (.zsl, []), []⟩
def f42 : Int → Int → Option Unit := fun _ _ => none
@[reducible] def t42 : Ent := ⟨42, s42, fun x h => f42 x.2.1 x.2.2.1⟩
theorem ok42 : NOk Try.prog t42 := extn42
/- (*drayage/table.Table).Drop -/
def n12_1 : NFunc := ⟨28, .seq (.region 0 [
    ⟨(some 4), .move (.const (.int .i64 (0))), none, 0, none⟩] []) (.seq (.seq (.region 0 [
    ⟨(some 7), .move (.tmp 0), none, 0, none⟩,
    ⟨(some 8), .eqP false (.tmp 7) (.const (.nilp)), none, 0, none⟩] []) (.cond (.tmp 8) (.seq (.region 0 [
    ⟨(some 4), .move (.const (.int .i64 (1))), none, 0, none⟩] []) (.ret)) (.skip))) (.seq (.region 4 [
    ⟨(some 10), .move (.tmp 0), none, 0, none⟩,
    ⟨(some 11), .move (.tmp 1), none, 0, none⟩,
    ⟨(some 12), .call (.func 38) [(true, (.tmp 10)), (false, (.tmp 11))] false 4, none, 0, none⟩,
    ⟨(some 9), .move (.tmp 12), none, 4, none⟩,
    ⟨(some 13), .extract (.tmp 9) 0, none, 4, none⟩,
    ⟨(some 14), .extract (.tmp 9) 1, none, 4, none⟩,
    ⟨(some 5), .move (.tmp 13), none, 4, none⟩,
    ⟨(some 6), .move (.tmp 14), none, 4, none⟩] []) (.seq (.seq (.region 0 [
    ⟨(some 15), .move (.tmp 6), none, 0, none⟩,
    ⟨(some 16), .un .not (.tmp 15), none, 0, none⟩] []) (.cond (.tmp 16) (.seq (.region 0 [
    ⟨(some 4), .move (.const (.int .i64 (30))), none, 0, none⟩] []) (.ret)) (.skip))) (.seq (.region 4 [
    ⟨(some 17), .move (.tmp 0), none, 0, none⟩,
    ⟨(some 18), .move (.tmp 0), none, 0, none⟩,
    ⟨(some 19), .nilCheck (.tmp 18), none, 0, none⟩,
    ⟨(some 20), .fieldAddr 1 (.tmp 19), none, 0, none⟩,
    ⟨(some 21), .load false 1 (.tmp 20), none, 0, none⟩,
    ⟨(some 22), .move (.tmp 5), none, 0, none⟩,
    ⟨(some 23), .move (.tmp 5), none, 0, none⟩,
    ⟨(some 24), .bin .add (.tmp 23) (.const (.int .i64 (1))), none, 0, none⟩,
    ⟨(some 25), .call (.func 42) [(true, (.tmp 21)), (false, (.tmp 22)), (false, (.tmp 24))] false 4, none, 0, none⟩,
    ⟨(some 26), .nilCheck (.tmp 17), none, 4, none⟩,
    ⟨(some 27), .fieldAddr 1 (.tmp 26), none, 4, none⟩,
    ⟨none, .store 1 (.tmp 27) (.tmp 25), none, 4, none⟩] []) (.seq (.region 0 [
    ⟨(some 4), .move (.const (.int .i64 (0))), none, 0, none⟩] []) (.ret)))))), [.tmp 4], true⟩
def s12_1 : Sig := ⟨(.cons (.ptr 0 0 0) (.cons (.v (.int .i64)) .nil)), [.cell false (.cons (.v (.int .i64)) (.cons .zsl .nil))], ((.v (.int .i64)), [.cell false (.cons (.v (.int .i64)) (.cons .zsl .nil))]), []⟩
def F12_1 (L : Lp) (g38 : Int → Int → Option ((Int × (Bool × Unit)) × ((Int × (Unit × Unit)) × Unit))) (g42 : Int → Int → Option Unit) (id0 : Int) (a1 : Int) : Option (Int × ((Int × (Unit × Unit)) × Unit)) :=
  Option.bind (g38 id0 a1) fun r2 =>
  cond (!r2.1.2.1)
  (some (30, ((r2.2.1.1, (), ()), ())))
  (Option.bind (g42 r2.1.1 (IntKind.wrap .i64 (r2.1.1 + 1))) fun r3 =>
  some (0, ((r2.2.1.1, (), ()), ())))
theorem e12_1 (L : Lp) (g38 : Int → Int → Option ((Int × (Bool × Unit)) × ((Int × (Unit × Unit)) × Unit))) (g42 : Int → Int → Option Unit) (x : s12_1.args.den) (h : denH s12_1.heap) : nrun [⟨38, s38, fun x h => g38 x.2.1 h.1.1⟩, ⟨42, s42, fun x h => g42 x.2.1 x.2.2.1⟩] L n12_1 s12_1 x h = F12_1 L g38 g42 x.2.1 h.1.1 := by kernel_rfl
def f12_1 : Int → Int → Option (Int × ((Int × (Unit × Unit)) × Unit)) := F12_1 (@LN LOOPS) f38 f42
@[reducible] def t12_1 : Ent := ⟨12, s12_1, fun x h => f12_1 x.2.1 h.1.1⟩
theorem k12_1 : chkNF Try.prog Try.f12 n12_1 = true := by kernel_rfl
theorem ok12_1 : NOk Try.prog t12_1 := NOk.body (T := [t38, t42]) mixed (nall_cons ok38 (nall_cons ok42 nall_nil)) (oneEach_of (by kernel_rfl)) Try.func12 k12_1 (by kernel_rfl) (fun x h => e12_1 _ _ _ x h)
/- drayage/drayageref18.Drop -/
def n46 : NFunc := ⟨25, .seq (.region 0 [
    ⟨(some 4), .move (.const (.zsl)), none, 0, none⟩,
    ⟨(some 5), .move (.const (.int .i64 (0))), none, 0, none⟩] []) (.seq (.region 4 [
    ⟨(some 8), .move (.tmp 0), none, 0, none⟩,
    ⟨(some 9), .move (.tmp 1), none, 0, none⟩,
    ⟨(some 10), .call (.func 47) [(false, (.tmp 8)), (false, (.tmp 9))] false 4, none, 0, none⟩,
    ⟨(some 6), .move (.tmp 10), none, 4, none⟩] []) (.seq (.seq (.region 0 [
    ⟨(some 11), .move (.tmp 6), none, 0, none⟩,
    ⟨(some 12), .bin .lss (.tmp 11) (.const (.int .i64 (0))), none, 0, none⟩] []) (.cond (.tmp 12) (.seq (.region 0 [
    ⟨(some 13), .move (.tmp 0), none, 0, none⟩,
    ⟨(some 4), .move (.tmp 13), none, 0, none⟩,
    ⟨(some 5), .move (.const (.int .i64 (30))), none, 0, none⟩] []) (.ret)) (.skip))) (.seq (.region 0 [
    ⟨(some 7), .move (.const (.zsl)), none, 0, none⟩] []) (.seq (.region 1 [
    ⟨(some 14), .move (.tmp 7), none, 0, none⟩,
    ⟨(some 15), .move (.tmp 0), none, 0, none⟩,
    ⟨(some 16), .move (.tmp 6), none, 0, none⟩,
    ⟨(some 17), .slice 18 (.tmp 15) none (some (.tmp 16)) none, none, 0, none⟩,
    ⟨(some 18), .append 18 152 true (.tmp 14) (.tmp 17), none, 0, none⟩,
    ⟨(some 7), .move (.tmp 18), none, 1, none⟩] []) (.seq (.region 1 [
    ⟨(some 19), .move (.tmp 7), none, 0, none⟩,
    ⟨(some 20), .move (.tmp 0), none, 0, none⟩,
    ⟨(some 21), .move (.tmp 6), none, 0, none⟩,
    ⟨(some 22), .bin .add (.tmp 21) (.const (.int .i64 (1))), none, 0, none⟩,
    ⟨(some 23), .slice 18 (.tmp 20) (some (.tmp 22)) none none, none, 0, none⟩,
    ⟨(some 24), .append 18 152 true (.tmp 19) (.tmp 23), none, 0, none⟩,
    ⟨(some 4), .move (.tmp 24), none, 1, none⟩,
    ⟨(some 5), .move (.const (.int .i64 (0))), none, 1, none⟩] []) (.ret)))))), [.tmp 4, .tmp 5], true⟩
def s46 : Sig := ⟨(.cons (.v (.list .job)) (.cons (.v (.int .i64)) .nil)), [], ((.tup (.cons (.v (.list .job)) (.cons (.v (.int .i64)) .nil))), []), []⟩
def F46 (L : Lp) (g47 : (List Job) → Int → Option Int) (al0 : (List Job)) (id1 : Int) : Option ((List Job) × (Int × Unit)) :=
  Option.bind (g47 al0 id1) fun r2 =>
  cond (decide (r2 < 0))
  (some (al0, 30, ()))
  (cond (decide (0 ≤ r2))
  (cond (decide ((Int.toNat r2) ≤ (List.length al0)))
  (cond (smallB (List.length (List.take (Int.toNat r2) al0)) 152)
  (cond (decide (0 ≤ (IntKind.wrap .i64 (r2 + 1))))
  (cond (decide ((Int.toNat (IntKind.wrap .i64 (r2 + 1))) ≤ (List.length al0)))
  (cond (smallB ((List.length ([] ++ (List.take (Int.toNat r2) al0))) + (List.length (List.drop (Int.toNat (IntKind.wrap .i64 (r2 + 1))) al0))) 152)
  (some (([] ++ (List.take (Int.toNat r2) al0)) ++ (List.drop (Int.toNat (IntKind.wrap .i64 (r2 + 1))) al0), 0, ()))
  (none))
  (none))
  (none))
  (none))
  (none))
  (none))
theorem e46 (L : Lp) (g47 : (List Job) → Int → Option Int) (x : s46.args.den) (h : denH s46.heap) : nrun [⟨47, s47, fun x h => g47 x.1 x.2.1⟩] L n46 s46 x h = F46 L g47 x.1 x.2.1 := by kernel_rfl
def f46 : (List Job) → Int → Option ((List Job) × (Int × Unit)) := F46 (@LN LOOPS) f47
@[reducible] def t46 : Ent := ⟨46, s46, fun x h => f46 x.1 x.2.1⟩
theorem k46 : chkNF Try.prog Try.f46 n46 = true := by kernel_rfl
theorem ok46 : NOk Try.prog t46 := NOk.body (T := [t47]) mixed (nall_cons ok47 nall_nil) (oneEach_of (by kernel_rfl)) Try.func46 k46 (by kernel_rfl) (fun x h => e46 _ _ x h)
/- slices.Clone[[]drayage/api.Job,drayage/api.Job] -/
def s43 : Sig := ⟨(.cons (.slw 0 18) .nil), [.typed .job], ((.slw 1 18), [.typed .job, .typed .job]), []⟩
def f43 : (List Job) → Option (Unit × ((List Job) × ((List Job) × Unit))) := cloneE 152
@[reducible] def t43 : Ent := ⟨43, s43, fun x h => f43 h.1⟩
theorem ok43 : NOk Try.prog t43 := ext43
/- (*drayage/table.Table).All -/
def n13_1 : NFunc := ⟨27, .seq (.region 0 [
    ⟨(some 2), .move (.const (.zsl)), none, 0, none⟩] []) (.seq (.seq (.region 0 [
    ⟨(some 6), .move (.tmp 0), none, 0, none⟩,
    ⟨(some 7), .eqP false (.tmp 6) (.const (.nilp)), none, 0, none⟩] []) (.cond (.tmp 7) (.seq (.region 0 [
    ⟨(some 2), .move (.const (.zsl)), none, 0, none⟩] []) (.ret)) (.skip))) (.seq (.region 4 [
    ⟨(some 8), .move (.tmp 0), none, 0, none⟩,
    ⟨(some 9), .nilCheck (.tmp 8), none, 0, none⟩,
    ⟨(some 10), .fieldAddr 1 (.tmp 9), none, 0, none⟩,
    ⟨(some 11), .load false 1 (.tmp 10), none, 0, none⟩,
    ⟨(some 12), .call (.func 43) [(true, (.tmp 11))] false 4, none, 0, none⟩,
    ⟨(some 3), .move (.tmp 12), none, 4, none⟩] []) (.seq (.seq (.region 0 [
    ⟨(some 13), .move (.tmp 3), none, 0, none⟩,
    ⟨(some 14), .len (.tmp 13), none, 0, none⟩,
    ⟨(some 15), .move (.const (.int .i64 (0))), none, 0, none⟩] []) (.block 0 (.loop [3, 13, 14, 15] ⟨[(3, (.slw 2 18)), (13, (.slw 2 18)), (15, (.v (.int .i64)))], [14], [.cell false (.cons (.v (.int .i64)) (.cons (.slw 1 18) .nil)), .typed .job, .typed .job]⟩ (.seq (.region 0 [
    ⟨(some 16), .bin .lss (.tmp 15) (.tmp 14), none, 0, none⟩] []) (.seq (.cond (.tmp 16) (.skip) (.exit 0)) (.seq (.block 1 (.seq (.region 1 [
    ⟨(some 17), .move (.tmp 15), none, 0, none⟩,
    ⟨(some 18), .indexSl 18 (.tmp 13) (.tmp 15), none, 0, none⟩,
    ⟨(some 19), .load true 18 (.tmp 18), none, 0, none⟩,
    ⟨(some 5), .alloc [.int .i64 (0), .int .i64 (0), .int .i64 (0), .int .i64 (0), .int .i64 (0), .int .i64 (0), .int .i64 (0), .int .i64 (0), .int .i64 (0), .zsl, .int .i64 (0), .bool false, .bool false, .int .i64 (0), .int .i64 (0), .int .i64 (0), .int .i64 (0), .int .i64 (0)], none, 0, none⟩,
    ⟨(some 4), .move (.tmp 17), none, 1, none⟩,
    ⟨none, .store 18 (.tmp 5) (.tmp 19), none, 1, none⟩] []) (.region 4 [
    ⟨(some 20), .move (.tmp 3), none, 0, none⟩,
    ⟨(some 21), .move (.tmp 4), none, 0, none⟩,
    ⟨(some 22), .load true 18 (.tmp 5), none, 0, none⟩,
    ⟨(some 23), .call (.func 39) [(false, (.tmp 22))] false 4, none, 0, none⟩,
    ⟨(some 24), .indexSl 18 (.tmp 20) (.tmp 21), none, 4, none⟩,
    ⟨none, .store 18 (.tmp 24) (.tmp 23), none, 4, none⟩] []))) (.region 0 [
    ⟨(some 25), .bin .add (.tmp 15) (.const (.int .i64 (1))), none, 0, none⟩,
    ⟨(some 15), .move (.tmp 25), none, 0, none⟩] []))))))) (.seq (.region 0 [
    ⟨(some 26), .move (.tmp 3), none, 0, none⟩,
    ⟨(some 2), .move (.tmp 26), none, 0, none⟩] []) (.ret))))), [.tmp 2], true⟩
def s13_1 : Sig := ⟨(.cons (.ptr 0 0 0) .nil), [.cell false (.cons (.v (.int .i64)) (.cons (.slw 1 18) .nil)), .typed .job], ((.v (.list .job)), [.cell false (.cons (.v (.int .i64)) (.cons (.slw 1 18) .nil)), .typed .job]), []⟩
def l13_1_0 (g39 : Job → Option Job) (r2 : (Unit × ((List Job) × ((List Job) × Unit)))) (nx4 : ((Unit × (Unit × (Int × Unit))) × ((Int × (Unit × Unit)) × ((List Job) × ((List Job) × Unit)))) → Option ((List Job) × ((Int × (Unit × Unit)) × ((List Job) × Unit)))) (z5 : Int) (z6 : Int) (z7 : (List Job)) (z8 : (List Job)) : Option ((List Job) × ((Int × (Unit × Unit)) × ((List Job) × Unit))) :=
  cond (decide (z5 < (List.length r2.2.2.1 : Int)))
  (cond (decide (0 ≤ z5))
  (cond (decide ((Int.toNat z5) < (List.length z8)))
  (Option.bind (z8[Int.toNat z5]?) fun y9 =>
  Option.bind (g39 y9) fun r10 =>
  cond (decide (0 ≤ z5))
  (cond (decide ((Int.toNat z5) < (List.length z8)))
  (Option.bind (z8[Int.toNat z5]?) fun y11 =>
  nx4 (((), (), IntKind.wrap .i64 (z5 + 1), ()), ((z6, (), ()), z7, List.set z8 (Int.toNat z5) r10, ())))
  (none))
  (none))
  (none))
  (none))
  (some (z8, ((z6, (), ()), z7, ())))
def F13_1 (L : Lp) (g43 : (List Job) → Option (Unit × ((List Job) × ((List Job) × Unit)))) (g39 : Job → Option Job) (a0 : Int) (a1 : (List Job)) : Option ((List Job) × ((Int × (Unit × Unit)) × ((List Job) × Unit))) :=
  Option.bind (g43 a1) fun r2 =>
  cond ((decide ((List.length r2.2.1) = (List.length a1))) && true)
  (L (fun (s3 : ((Unit × (Unit × (Int × Unit))) × ((Int × (Unit × Unit)) × ((List Job) × ((List Job) × Unit))))) nx4 => l13_1_0 g39 r2 nx4 s3.1.2.2.1 s3.2.1.1 s3.2.2.1 s3.2.2.2.1) (((), (), 0, ()), ((a0, (), ()), r2.2.1, r2.2.2.1, ())))
  (none)
theorem e13_1 (L : Lp) (g43 : (List Job) → Option (Unit × ((List Job) × ((List Job) × Unit)))) (g39 : Job → Option Job) (x : s13_1.args.den) (h : denH s13_1.heap) : nrun [⟨43, s43, fun x h => g43 h.1⟩, ⟨39, s39, fun x h => g39 x.1⟩] L n13_1 s13_1 x h = F13_1 L g43 g39 h.1.1 h.2.1 := by kernel_rfl
def f13_1 : Int → (List Job) → Option ((List Job) × ((Int × (Unit × Unit)) × ((List Job) × Unit))) := F13_1 (@LN LOOPS) f43 f39
@[reducible] def t13_1 : Ent := ⟨13, s13_1, fun x h => f13_1 h.1.1 h.2.1⟩
theorem k13_1 : chkNF Try.prog Try.f13 n13_1 = true := by kernel_rfl
theorem ok13_1 : NOk Try.prog t13_1 := NOk.body (T := [t43, t39]) mixed (nall_cons ok43 (nall_cons ok39 nall_nil)) (oneEach_of (by kernel_rfl)) Try.func13 k13_1 (by kernel_rfl) (fun x h => e13_1 _ _ _ x h)
/- drayage/drayageref18.Same -/
def n48 : NFunc := ⟨27, .seq (.region 0 [
    ⟨(some 4), .move (.const (.bool false)), none, 0, none⟩] []) (.seq (.seq (.region 0 [
    ⟨(some 6), .move (.tmp 0), none, 0, none⟩,
    ⟨(some 7), .len (.tmp 6), none, 0, none⟩,
    ⟨(some 8), .move (.tmp 1), none, 0, none⟩,
    ⟨(some 9), .len (.tmp 8), none, 0, none⟩,
    ⟨(some 10), .bin .neq (.tmp 7) (.tmp 9), none, 0, none⟩] []) (.cond (.tmp 10) (.seq (.region 0 [
    ⟨(some 4), .move (.const (.bool false)), none, 0, none⟩] []) (.ret)) (.skip))) (.seq (.seq (.region 0 [
    ⟨(some 5), .move (.const (.int .i64 (0))), none, 0, none⟩] []) (.block 0 (.loop [0, 1, 5] ⟨[(5, (.v (.int .i64)))], [0, 1], []⟩ (.seq (.seq (.region 0 [
    ⟨(some 11), .move (.tmp 5), none, 0, none⟩,
    ⟨(some 12), .move (.tmp 0), none, 0, none⟩,
    ⟨(some 13), .len (.tmp 12), none, 0, none⟩,
    ⟨(some 14), .bin .lss (.tmp 11) (.tmp 13), none, 0, none⟩] []) (.cond (.tmp 14) (.skip) (.exit 0))) (.seq (.block 1 (.seq (.region 4 [
    ⟨(some 17), .move (.tmp 0), none, 0, (some ([], none))⟩,
    ⟨(some 18), .move (.tmp 5), none, 0, (some ([], none))⟩,
    ⟨(some 19), .indexSl 18 (.tmp 17) (.tmp 18), none, 0, (some ([], none))⟩,
    ⟨(some 20), .load true 18 (.tmp 19), none, 0, (some ([], none))⟩,
    ⟨(some 21), .move (.tmp 1), none, 0, (some ([], none))⟩,
    ⟨(some 22), .move (.tmp 5), none, 0, (some ([], none))⟩,
    ⟨(some 23), .indexSl 18 (.tmp 21) (.tmp 22), none, 0, (some ([], none))⟩,
    ⟨(some 24), .load true 18 (.tmp 23), none, 0, (some ([], none))⟩,
    ⟨(some 25), .call (.func 22) [(false, (.tmp 20)), (false, (.tmp 24))] false 4, none, 0, (some ([], none))⟩,
    ⟨(some 26), .un .not (.tmp 25), none, 4, (some ([0, 1, 2, 3], none))⟩] []) (.cond (.tmp 26) (.seq (.region 0 [
    ⟨(some 4), .move (.const (.bool false)), none, 0, none⟩] []) (.ret)) (.skip)))) (.region 0 [
    ⟨(some 15), .move (.tmp 5), none, 0, none⟩,
    ⟨(some 16), .bin .add (.tmp 15) (.const (.int .i64 (1))), none, 0, none⟩,
    ⟨(some 5), .move (.tmp 16), none, 0, none⟩] [])))))) (.seq (.region 0 [
    ⟨(some 4), .move (.const (.bool true)), none, 0, none⟩] []) (.ret)))), [.tmp 4], true⟩
def s48 : Sig := ⟨(.cons (.v (.list .job)) (.cons (.v (.list .job)) .nil)), [], ((.v .bool), []), []⟩
def l48_0 (g22 : Job → Job → Option Bool) (a0 : (List Job)) (b1 : (List Job)) (nx3 : ((Int × Unit) × Unit) → Option Bool) (i4 : Int) : Option Bool :=
  cond (decide (i4 < (List.length a0 : Int)))
  (cond (decide (0 ≤ i4))
  (Option.bind (a0[Int.toNat i4]?) fun y5 =>
  cond (decide (0 ≤ i4))
  (Option.bind (b1[Int.toNat i4]?) fun y6 =>
  Option.bind (g22 y5 y6) fun r7 =>
  cond (!r7)
  (some false)
  (nx3 ((IntKind.wrap .i64 (i4 + 1), ()), ())))
  (none))
  (none))
  (some true)
def F48 (L : Lp) (g22 : Job → Job → Option Bool) (a0 : (List Job)) (b1 : (List Job)) : Option Bool :=
  cond (!decide ((List.length a0 : Int) = (List.length b1 : Int)))
  (some false)
  (L (fun (s2 : ((Int × Unit) × Unit)) nx3 => l48_0 g22 a0 b1 nx3 s2.1.1) ((0, ()), ()))
theorem e48 (L : Lp) (g22 : Job → Job → Option Bool) (x : s48.args.den) (h : denH s48.heap) : nrun [⟨22, s22, fun x h => g22 x.1 x.2.1⟩] L n48 s48 x h = F48 L g22 x.1 x.2.1 := by kernel_rfl
def f48 : (List Job) → (List Job) → Option Bool := F48 (@LN LOOPS) f22
@[reducible] def t48 : Ent := ⟨48, s48, fun x h => f48 x.1 x.2.1⟩
theorem k48 : chkNF Try.prog Try.f48 n48 = true := by kernel_rfl
theorem ok48 : NOk Try.prog t48 := NOk.body (T := [t22]) mixed (nall_cons ok22 nall_nil) (oneEach_of (by kernel_rfl)) Try.func48 k48 (by kernel_rfl) (fun x h => e48 _ _ x h)
/- (*drayage/table.Table).Len -/
def n14_1 : NFunc := ⟨10, .seq (.region 0 [
    ⟨(some 2), .move (.const (.int .i64 (0))), none, 0, none⟩] []) (.seq (.seq (.region 0 [
    ⟨(some 3), .move (.tmp 0), none, 0, none⟩,
    ⟨(some 4), .eqP false (.tmp 3) (.const (.nilp)), none, 0, none⟩] []) (.cond (.tmp 4) (.seq (.region 0 [
    ⟨(some 2), .move (.const (.int .i64 (0))), none, 0, none⟩] []) (.ret)) (.skip))) (.seq (.region 0 [
    ⟨(some 5), .move (.tmp 0), none, 0, none⟩,
    ⟨(some 6), .nilCheck (.tmp 5), none, 0, none⟩,
    ⟨(some 7), .fieldAddr 1 (.tmp 6), none, 0, none⟩,
    ⟨(some 8), .load false 1 (.tmp 7), none, 0, none⟩,
    ⟨(some 9), .len (.tmp 8), none, 0, none⟩,
    ⟨(some 2), .move (.tmp 9), none, 0, none⟩] []) (.ret))), [.tmp 2], true⟩
def s14_1 : Sig := ⟨(.cons (.ptr 0 0 0) .nil), [.cell false (.cons (.v (.int .i64)) (.cons (.slw 1 18) .nil)), .typed .job], ((.v (.int .i64)), [.cell false (.cons (.v (.int .i64)) (.cons (.slw 1 18) .nil)), .typed .job]), []⟩
def F14_1 (L : Lp)  (a0 : Int) (a1 : (List Job)) : Option (Int × ((Int × (Unit × Unit)) × ((List Job) × Unit))) :=
  some ((List.length a1 : Int), ((a0, (), ()), a1, ()))
theorem e14_1 (L : Lp)  (x : s14_1.args.den) (h : denH s14_1.heap) : nrun [] L n14_1 s14_1 x h = F14_1 L  h.1.1 h.2.1 := by kernel_rfl
def f14_1 : Int → (List Job) → Option (Int × ((Int × (Unit × Unit)) × ((List Job) × Unit))) := F14_1 (@LN LOOPS) 
@[reducible] def t14_1 : Ent := ⟨14, s14_1, fun x h => f14_1 h.1.1 h.2.1⟩
theorem k14_1 : chkNF Try.prog Try.f14 n14_1 = true := by kernel_rfl
theorem ok14_1 : NOk Try.prog t14_1 := NOk.body (T := []) mixed nall_nil (oneEach_of (by kernel_rfl)) Try.func14 k14_1 (by kernel_rfl) (fun x h => e14_1 _  x h)
/- drayage/drayagelaw18.alike -/
def n20 : NFunc := ⟨46, .seq (.region 0 [
    ⟨(some 6), .move (.const (.bool false)), none, 0, none⟩] []) (.seq (.region 5 [
    ⟨(some 11), .move (.tmp 0), none, 0, none⟩,
    ⟨(some 12), .move (.tmp 2), none, 0, none⟩,
    ⟨(some 13), .call (.func 8) [(true, (.tmp 11)), (false, (.tmp 12))] false 4, none, 0, none⟩,
    ⟨(some 10), .move (.tmp 13), none, 4, none⟩,
    ⟨(some 14), .extract (.tmp 10) 0, none, 4, none⟩,
    ⟨(some 15), .extract (.tmp 10) 1, none, 4, none⟩,
    ⟨(some 7), .alloc [.int .i64 (0), .int .i64 (0), .int .i64 (0), .int .i64 (0), .int .i64 (0), .int .i64 (0), .int .i64 (0), .int .i64 (0), .int .i64 (0), .zsl, .int .i64 (0), .bool false, .bool false, .int .i64 (0), .int .i64 (0), .int .i64 (0), .int .i64 (0), .int .i64 (0)], none, 4, none⟩,
    ⟨none, .store 18 (.tmp 7) (.tmp 14), none, 5, none⟩,
    ⟨(some 8), .move (.tmp 15), none, 5, none⟩] []) (.seq (.region 4 [
    ⟨(some 16), .move (.tmp 1), none, 0, none⟩,
    ⟨(some 17), .move (.tmp 2), none, 0, none⟩,
    ⟨(some 18), .call (.func 47) [(false, (.tmp 16)), (false, (.tmp 17))] false 4, none, 0, none⟩,
    ⟨(some 9), .move (.tmp 18), none, 4, none⟩] []) (.seq (.join [1, 0] [] ⟨[(0, (.ptr 0 0 0))], [1], [.cell false (.cons (.v (.int .i64)) (.cons (.slw 1 18) .nil)), .typed .job]⟩ (.seq (.region 4 [
    ⟨(some 19), .move (.tmp 8), none, 0, (some ([], none))⟩,
    ⟨(some 20), .move (.tmp 9), none, 0, (some ([], none))⟩,
    ⟨(some 21), .bin .geq (.tmp 20) (.const (.int .i64 (0))), none, 0, (some ([], none))⟩,
    ⟨(some 22), .eqB true (.tmp 19) (.tmp 21), none, 0, (some ([], none))⟩,
    ⟨(some 23), .move (.tmp 22), none, 0, (some ([], none))⟩,
    ⟨(some 24), .move (.tmp 8), (some (23, false)), 0, (some ([], none))⟩,
    ⟨(some 25), .move (.tmp 24), (some (23, false)), 0, (some ([], none))⟩,
    ⟨(some 26), .load true 18 (.tmp 7), (some (25, true)), 0, (some ([], none))⟩,
    ⟨(some 27), .move (.tmp 1), (some (25, true)), 0, (some ([], none))⟩,
    ⟨(some 28), .move (.tmp 9), (some (25, true)), 0, (some ([], none))⟩,
    ⟨(some 29), .indexSl 18 (.tmp 27) (.tmp 28), (some (25, true)), 0, (some ([], none))⟩,
    ⟨(some 30), .load true 18 (.tmp 29), (some (25, true)), 0, (some ([], none))⟩,
    ⟨(some 31), .call (.func 22) [(false, (.tmp 26)), (false, (.tmp 30))] false 4, (some (25, true)), 0, (some ([], none))⟩,
    ⟨(some 32), .un .not (.tmp 31), (some (25, true)), 4, (some ([0, 1, 2, 3], none))⟩,
    ⟨(some 33), .pick (.tmp 25) (.tmp 32) (.const (.bool false)), (some (23, false)), 4, (some ([0, 1, 2, 3], none))⟩,
    ⟨(some 34), .pick (.tmp 23) (.const (.bool true)) (.tmp 33), none, 4, (some ([0, 1, 2, 3], none))⟩] []) (.cond (.tmp 34) (.seq (.region 0 [
    ⟨(some 6), .move (.const (.bool false)), none, 0, none⟩] []) (.ret)) (.skip)))) (.seq (.region 12 [
    ⟨(some 35), .move (.tmp 0), none, 0, none⟩,
    ⟨(some 36), .call (.func 13) [(true, (.tmp 35))] false 4, none, 0, none⟩,
    ⟨(some 37), .move (.tmp 1), none, 4, none⟩,
    ⟨(some 38), .call (.func 48) [(false, (.tmp 36)), (false, (.tmp 37))] false 4, none, 4, none⟩,
    ⟨(some 39), .move (.tmp 38), none, 8, none⟩,
    ⟨(some 40), .move (.tmp 0), (some (39, true)), 8, none⟩,
    ⟨(some 41), .call (.func 14) [(true, (.tmp 40))] false 4, (some (39, true)), 8, none⟩,
    ⟨(some 42), .move (.tmp 1), (some (39, true)), 12, none⟩,
    ⟨(some 43), .len (.tmp 42), (some (39, true)), 12, none⟩,
    ⟨(some 44), .bin .eql (.tmp 41) (.tmp 43), (some (39, true)), 12, none⟩,
    ⟨(some 45), .pick (.tmp 39) (.tmp 44) (.const (.bool false)), none, 12, none⟩,
    ⟨(some 6), .move (.tmp 45), none, 12, none⟩] []) (.ret))))), [.tmp 6], true⟩
def s20 : Sig := ⟨(.cons (.ptr 0 0 0) (.cons (.v (.list .job)) (.cons (.v (.int .i64)) .nil))), [.cell false (.cons (.v (.int .i64)) (.cons (.slw 1 18) .nil)), .typed .job], ((.v .bool), [.cell false (.cons (.v (.int .i64)) (.cons (.slw 1 18) .nil)), .typed .job]), []⟩
def F20 (L : Lp) (g8_2 : Int → Int → (List Job) → Option ((Job × (Bool × Unit)) × ((Int × (Unit × Unit)) × ((List Job) × Unit)))) (g47 : (List Job) → Int → Option Int) (g22 : Job → Job → Option Bool) (g13_1 : Int → (List Job) → Option ((List Job) × ((Int × (Unit × Unit)) × ((List Job) × Unit)))) (g48 : (List Job) → (List Job) → Option Bool) (g14_1 : Int → (List Job) → Option (Int × ((Int × (Unit × Unit)) × ((List Job) × Unit)))) (w0 : (List Job)) (id1 : Int) (a2 : Int) (a3 : (List Job)) : Option (Bool × ((Int × (Unit × Unit)) × ((List Job) × Unit))) :=
  Option.bind (g8_2 id1 a2 a3) fun r4 =>
  cond (true && ((decide ((List.length r4.2.2.1) = (List.length a3))) && true))
  (Option.bind (g47 w0 id1) fun r5 =>
  Option.bind (α := (((Unit × Unit) × ((Int × (Unit × Unit)) × ((List Job) × Unit))) ⊕ (Bool × ((Int × (Unit × Unit)) × ((List Job) × Unit)))))
  (cond (!(r4.1.2.1 == (decide (0 ≤ r5))))
  (some (.inr (false, ((r4.2.1.1, (), ()), r4.2.2.1, ()))))
  (cond r4.1.2.1
  (cond (decide (0 ≤ r5))
  (Option.bind (w0[Int.toNat r5]?) fun y6 =>
  Option.bind (g22 r4.1.1 y6) fun r7 =>
  cond (!r7)
  (some (.inr (false, ((r4.2.1.1, (), ()), r4.2.2.1, ()))))
  (some (.inl (((), ()), ((r4.2.1.1, (), ()), r4.2.2.1, ())))))
  (none))
  (some (.inl (((), ()), ((r4.2.1.1, (), ()), r4.2.2.1, ())))))) (Sum.elim (fun x8 =>
  Option.bind (g13_1 x8.2.1.1 x8.2.2.1) fun r9 =>
  cond (true && ((decide ((List.length r9.2.2.1) = (List.length x8.2.2.1))) && true))
  (Option.bind (g48 r9.1 w0) fun r10 =>
  cond r10
  (Option.bind (g14_1 r9.2.1.1 r9.2.2.1) fun r11 =>
  cond (true && ((decide ((List.length r11.2.2.1) = (List.length r9.2.2.1))) && true))
  (some (decide (r11.1 = (List.length w0 : Int)), ((r11.2.1.1, (), ()), r11.2.2.1, ())))
  (none))
  (some (false, ((r9.2.1.1, (), ()), r9.2.2.1, ()))))
  (none)) some))
  (none)
theorem e20 (L : Lp) (g8_2 : Int → Int → (List Job) → Option ((Job × (Bool × Unit)) × ((Int × (Unit × Unit)) × ((List Job) × Unit)))) (g47 : (List Job) → Int → Option Int) (g22 : Job → Job → Option Bool) (g13_1 : Int → (List Job) → Option ((List Job) × ((Int × (Unit × Unit)) × ((List Job) × Unit)))) (g48 : (List Job) → (List Job) → Option Bool) (g14_1 : Int → (List Job) → Option (Int × ((Int × (Unit × Unit)) × ((List Job) × Unit)))) (x : s20.args.den) (h : denH s20.heap) : nrun [⟨8, s8_2, fun x h => g8_2 x.2.1 h.1.1 h.2.1⟩, ⟨47, s47, fun x h => g47 x.1 x.2.1⟩, ⟨22, s22, fun x h => g22 x.1 x.2.1⟩, ⟨13, s13_1, fun x h => g13_1 h.1.1 h.2.1⟩, ⟨48, s48, fun x h => g48 x.1 x.2.1⟩, ⟨14, s14_1, fun x h => g14_1 h.1.1 h.2.1⟩] L n20 s20 x h = F20 L g8_2 g47 g22 g13_1 g48 g14_1 x.2.1 x.2.2.1 h.1.1 h.2.1 := by kernel_rfl
def f20 : (List Job) → Int → Int → (List Job) → Option (Bool × ((Int × (Unit × Unit)) × ((List Job) × Unit))) := F20 (@LN LOOPS) f8_2 f47 f22 f13_1 f48 f14_1
@[reducible] def t20 : Ent := ⟨20, s20, fun x h => f20 x.2.1 x.2.2.1 h.1.1 h.2.1⟩
theorem k20 : chkNF Try.prog Try.f20 n20 = true := by kernel_rfl
theorem ok20 : NOk Try.prog t20 := NOk.body (T := [t8_2, t47, t22, t13_1, t48, t14_1]) mixed (nall_cons ok8_2 (nall_cons ok47 (nall_cons ok22 (nall_cons ok13_1 (nall_cons ok48 (nall_cons ok14_1 nall_nil)))))) (oneEach_of (by kernel_rfl)) Try.func20 k20 (by kernel_rfl) (fun x h => e20 _ _ _ _ _ _ _ x h)
/- (*drayage/table.Table).Set -/
def n11_2 : NFunc := ⟨29, .seq (.region 1 [
    ⟨(some 3), .box 18 (.tmp 1), none, 0, none⟩,
    ⟨(some 4), .move (.const (.int .i64 (0))), none, 1, none⟩] []) (.seq (.seq (.region 0 [
    ⟨(some 7), .move (.tmp 0), none, 0, none⟩,
    ⟨(some 8), .eqP false (.tmp 7) (.const (.nilp)), none, 0, none⟩] []) (.cond (.tmp 8) (.seq (.region 0 [
    ⟨(some 4), .move (.const (.int .i64 (1))), none, 0, none⟩] []) (.ret)) (.skip))) (.seq (.seq (.region 4 [
    ⟨(some 9), .load true 18 (.tmp 3), none, 0, none⟩,
    ⟨(some 10), .call (.func 40) [(false, (.tmp 9))] false 4, none, 0, none⟩,
    ⟨(some 11), .un .not (.tmp 10), none, 4, none⟩] []) (.cond (.tmp 11) (.seq (.region 0 [
    ⟨(some 4), .move (.const (.int .i64 (2))), none, 0, none⟩] []) (.ret)) (.skip))) (.seq (.region 4 [
    ⟨(some 13), .move (.tmp 0), none, 0, none⟩,
    ⟨(some 14), .fieldAddr 0 (.tmp 3), none, 0, none⟩,
    ⟨(some 15), .load false 1 (.tmp 14), none, 0, none⟩,
    ⟨(some 16), .call (.func 38) [(true, (.tmp 13)), (false, (.tmp 15))] false 4, none, 0, none⟩,
    ⟨(some 12), .move (.tmp 16), none, 4, none⟩,
    ⟨(some 17), .extract (.tmp 12) 0, none, 4, none⟩,
    ⟨(some 18), .extract (.tmp 12) 1, none, 4, none⟩,
    ⟨(some 5), .move (.tmp 17), none, 4, none⟩,
    ⟨(some 6), .move (.tmp 18), none, 4, none⟩] []) (.seq (.seq (.region 0 [
    ⟨(some 19), .move (.tmp 6), none, 0, none⟩,
    ⟨(some 20), .un .not (.tmp 19), none, 0, none⟩] []) (.cond (.tmp 20) (.seq (.region 0 [
    ⟨(some 4), .move (.const (.int .i64 (30))), none, 0, none⟩] []) (.ret)) (.skip))) (.seq (.region 4 [
    ⟨(some 21), .move (.tmp 0), none, 0, (some ([], none))⟩,
    ⟨(some 22), .nilCheck (.tmp 21), none, 0, (some ([], none))⟩,
    ⟨(some 23), .fieldAddr 1 (.tmp 22), none, 0, (some ([], none))⟩,
    ⟨(some 24), .load false 1 (.tmp 23), none, 0, (some ([], none))⟩,
    ⟨(some 25), .move (.tmp 5), none, 0, (some ([], none))⟩,
    ⟨(some 26), .load true 18 (.tmp 3), none, 0, (some ([], none))⟩,
    ⟨(some 27), .call (.func 39) [(false, (.tmp 26))] true 4, none, 0, (some ([], none))⟩,
    ⟨(some 28), .indexSl 18 (.tmp 24) (.tmp 25), none, 4, (some ([0, 1, 2, 3], none))⟩,
    ⟨none, .store 18 (.tmp 28) (.tmp 27), none, 4, (some ([0, 1, 2, 3], none))⟩] []) (.seq (.region 0 [
    ⟨(some 4), .move (.const (.int .i64 (0))), none, 0, none⟩] []) (.ret))))))), [.tmp 4], true⟩
def s11_2 : Sig := ⟨(.cons (.ptr 0 0 0) (.cons (.v .job) .nil)), [.cell false (.cons (.v (.int .i64)) (.cons (.slw 1 18) .nil)), .typed .job], ((.v (.int .i64)), [.cell false (.cons (.v (.int .i64)) (.cons (.slw 1 18) .nil)), .typed .job]), []⟩
def F11_2 (L : Lp) (g40 : Job → Option Bool) (g38_1 : Int → Int → (List Job) → Option ((Int × (Bool × Unit)) × ((Int × (Unit × Unit)) × ((List Job) × Unit)))) (g39 : Job → Option Job) (j0 : Job) (a1 : Int) (a2 : (List Job)) : Option (Int × ((Int × (Unit × Unit)) × ((List Job) × Unit))) :=
  Option.bind (g40 j0) fun r3 =>
  cond (!r3)
  (some (2, ((a1, (), ()), a2, ())))
  (Option.bind (g38_1 j0.id a1 a2) fun r4 =>
  cond (true && ((decide ((List.length r4.2.2.1) = (List.length a2))) && true))
  (cond (!r4.1.2.1)
  (some (30, ((r4.2.1.1, (), ()), r4.2.2.1, ())))
  (Option.bind (g39 j0) fun r5 =>
  cond (decide (0 ≤ r4.1.1))
  (cond (decide ((Int.toNat r4.1.1) < (List.length r4.2.2.1)))
  (Option.bind (r4.2.2.1[Int.toNat r4.1.1]?) fun y6 =>
  some (0, ((r4.2.1.1, (), ()), List.set r4.2.2.1 (Int.toNat r4.1.1) r5, ())))
  (none))
  (none)))
  (none))
theorem e11_2 (L : Lp) (g40 : Job → Option Bool) (g38_1 : Int → Int → (List Job) → Option ((Int × (Bool × Unit)) × ((Int × (Unit × Unit)) × ((List Job) × Unit)))) (g39 : Job → Option Job) (x : s11_2.args.den) (h : denH s11_2.heap) : nrun [⟨40, s40, fun x h => g40 x.1⟩, ⟨38, s38_1, fun x h => g38_1 x.2.1 h.1.1 h.2.1⟩, ⟨39, s39, fun x h => g39 x.1⟩] L n11_2 s11_2 x h = F11_2 L g40 g38_1 g39 x.2.1 h.1.1 h.2.1 := by kernel_rfl
def f11_2 : Job → Int → (List Job) → Option (Int × ((Int × (Unit × Unit)) × ((List Job) × Unit))) := F11_2 (@LN LOOPS) f40 f38_1 f39
@[reducible] def t11_2 : Ent := ⟨11, s11_2, fun x h => f11_2 x.2.1 h.1.1 h.2.1⟩
theorem k11_2 : chkNF Try.prog Try.f11 n11_2 = true := by kernel_rfl
theorem ok11_2 : NOk Try.prog t11_2 := NOk.body (T := [t40, t38_1, t39]) mixed (nall_cons ok40 (nall_cons ok38_1 (nall_cons ok39 nall_nil))) (oneEach_of (by kernel_rfl)) Try.func11 k11_2 (by kernel_rfl) (fun x h => e11_2 _ _ _ _ x h)
/- slices.Delete[[]drayage/api.Job,drayage/api.Job] -/
def s42_1 : Sig := ⟨(.cons (.slw 0 18) (.cons (.v (.int .i64)) (.cons (.v (.int .i64)) .nil))), [.typed .job], ((.slw 1 18), [.dead, .typed .job]), []⟩
def f42_1 : Int → Int → (List Job) → Option (Unit × (Unit × ((List Job) × Unit))) := deleteG
@[reducible] def t42_1 : Ent := ⟨42, s42_1, fun x h => f42_1 x.2.1 x.2.2.1 h.1⟩
theorem ok42_1 : NOk Try.prog t42_1 := ext42
/- (*drayage/table.Table).Drop -/
def n12_2 : NFunc := ⟨28, .seq (.region 0 [
    ⟨(some 4), .move (.const (.int .i64 (0))), none, 0, none⟩] []) (.seq (.seq (.region 0 [
    ⟨(some 7), .move (.tmp 0), none, 0, none⟩,
    ⟨(some 8), .eqP false (.tmp 7) (.const (.nilp)), none, 0, none⟩] []) (.cond (.tmp 8) (.seq (.region 0 [
    ⟨(some 4), .move (.const (.int .i64 (1))), none, 0, none⟩] []) (.ret)) (.skip))) (.seq (.region 4 [
    ⟨(some 10), .move (.tmp 0), none, 0, none⟩,
    ⟨(some 11), .move (.tmp 1), none, 0, none⟩,
    ⟨(some 12), .call (.func 38) [(true, (.tmp 10)), (false, (.tmp 11))] false 4, none, 0, none⟩,
    ⟨(some 9), .move (.tmp 12), none, 4, none⟩,
    ⟨(some 13), .extract (.tmp 9) 0, none, 4, none⟩,
    ⟨(some 14), .extract (.tmp 9) 1, none, 4, none⟩,
    ⟨(some 5), .move (.tmp 13), none, 4, none⟩,
    ⟨(some 6), .move (.tmp 14), none, 4, none⟩] []) (.seq (.seq (.region 0 [
    ⟨(some 15), .move (.tmp 6), none, 0, none⟩,
    ⟨(some 16), .un .not (.tmp 15), none, 0, none⟩] []) (.cond (.tmp 16) (.seq (.region 0 [
    ⟨(some 4), .move (.const (.int .i64 (30))), none, 0, none⟩] []) (.ret)) (.skip))) (.seq (.region 4 [
    ⟨(some 17), .move (.tmp 0), none, 0, none⟩,
    ⟨(some 18), .move (.tmp 0), none, 0, none⟩,
    ⟨(some 19), .nilCheck (.tmp 18), none, 0, none⟩,
    ⟨(some 20), .fieldAddr 1 (.tmp 19), none, 0, none⟩,
    ⟨(some 21), .load false 1 (.tmp 20), none, 0, none⟩,
    ⟨(some 22), .move (.tmp 5), none, 0, none⟩,
    ⟨(some 23), .move (.tmp 5), none, 0, none⟩,
    ⟨(some 24), .bin .add (.tmp 23) (.const (.int .i64 (1))), none, 0, none⟩,
    ⟨(some 25), .call (.func 42) [(true, (.tmp 21)), (false, (.tmp 22)), (false, (.tmp 24))] false 4, none, 0, none⟩,
    ⟨(some 26), .nilCheck (.tmp 17), none, 4, none⟩,
    ⟨(some 27), .fieldAddr 1 (.tmp 26), none, 4, none⟩,
    ⟨none, .store 1 (.tmp 27) (.tmp 25), none, 4, none⟩] []) (.seq (.region 0 [
    ⟨(some 4), .move (.const (.int .i64 (0))), none, 0, none⟩] []) (.ret)))))), [.tmp 4], true⟩
def s12_2 : Sig := ⟨(.cons (.ptr 0 0 0) (.cons (.v (.int .i64)) .nil)), [.cell false (.cons (.v (.int .i64)) (.cons (.slw 1 18) .nil)), .typed .job], ((.v (.int .i64)), [.cell false (.cons (.v (.int .i64)) (.cons (.slw 1 18) .nil)), .typed .job]), [((.v (.int .i64)), [.cell false (.cons (.v (.int .i64)) (.cons (.slw 2 18) .nil)), .dead, .typed .job])]⟩
def F12_2 (L : Lp) (g38_1 : Int → Int → (List Job) → Option ((Int × (Bool × Unit)) × ((Int × (Unit × Unit)) × ((List Job) × Unit)))) (g42_1 : Int → Int → (List Job) → Option (Unit × (Unit × ((List Job) × Unit)))) (id0 : Int) (a1 : Int) (a2 : (List Job)) : Option ((Int × ((Int × (Unit × Unit)) × ((List Job) × Unit))) ⊕ (Int × ((Int × (Unit × Unit)) × (Unit × ((List Job) × Unit))))) :=
  Option.bind (g38_1 id0 a1 a2) fun r3 =>
  cond (true && ((decide ((List.length r3.2.2.1) = (List.length a2))) && true))
  (cond (!r3.1.2.1)
  (some (.inl (30, ((r3.2.1.1, (), ()), r3.2.2.1, ()))))
  (Option.bind (g42_1 r3.1.1 (IntKind.wrap .i64 (r3.1.1 + 1)) r3.2.2.1) fun r4 =>
  some (.inr (0, ((r3.2.1.1, (), ()), (), r4.2.2.1, ())))))
  (none)
theorem e12_2 (L : Lp) (g38_1 : Int → Int → (List Job) → Option ((Int × (Bool × Unit)) × ((Int × (Unit × Unit)) × ((List Job) × Unit)))) (g42_1 : Int → Int → (List Job) → Option (Unit × (Unit × ((List Job) × Unit)))) (x : s12_2.args.den) (h : denH s12_2.heap) : nrun [⟨38, s38_1, fun x h => g38_1 x.2.1 h.1.1 h.2.1⟩, ⟨42, s42_1, fun x h => g42_1 x.2.1 x.2.2.1 h.1⟩] L n12_2 s12_2 x h = F12_2 L g38_1 g42_1 x.2.1 h.1.1 h.2.1 := by kernel_rfl
def f12_2 : Int → Int → (List Job) → Option ((Int × ((Int × (Unit × Unit)) × ((List Job) × Unit))) ⊕ (Int × ((Int × (Unit × Unit)) × (Unit × ((List Job) × Unit))))) := F12_2 (@LN LOOPS) f38_1 f42_1
@[reducible] def t12_2 : Ent := ⟨12, s12_2, fun x h => f12_2 x.2.1 h.1.1 h.2.1⟩
theorem k12_2 : chkNF Try.prog Try.f12 n12_2 = true := by kernel_rfl
theorem ok12_2 : NOk Try.prog t12_2 := NOk.body (T := [t38_1, t42_1]) mixed (nall_cons ok38_1 (nall_cons ok42_1 nall_nil)) (oneEach_of (by kernel_rfl)) Try.func12 k12_2 (by kernel_rfl) (fun x h => e12_2 _ _ _ x h)
/- drayage/drayagelaw18.run -/
def n19 : NFunc := ⟨80, .seq (.region 0 [
    ⟨(some 8), .move (.const (.zsl)), none, 0, none⟩,
    ⟨(some 9), .move (.const (.bool false)), none, 0, none⟩] []) (.seq (.seq (.region 0 [
    ⟨(some 15), .move (.tmp 2), none, 0, none⟩,
    ⟨(some 16), .len (.tmp 15), none, 0, none⟩,
    ⟨(some 17), .move (.const (.int .i64 (0))), none, 0, none⟩] []) (.block 0 (.pre [0, 1, 3, 15, 16, 17] [.matC 0 1 18 true] (.loop [0, 1, 3, 15, 16, 17] ⟨[(0, (.ptr 0 0 0)), (1, (.v (.list .job))), (17, (.v (.int .i64)))], [3, 15, 16], [.cell false (.cons (.v (.int .i64)) (.cons (.slw 1 18) .nil)), .typed .job]⟩ (.seq (.region 0 [
    ⟨(some 18), .bin .lss (.tmp 17) (.tmp 16), none, 0, none⟩] []) (.seq (.cond (.tmp 18) (.skip) (.exit 0)) (.seq (.block 1 (.seq (.region 1 [
    ⟨(some 19), .indexSl 19 (.tmp 15) (.tmp 17), none, 0, none⟩,
    ⟨(some 20), .load true 19 (.tmp 19), none, 0, none⟩,
    ⟨(some 11), .alloc [.int .i64 (0), .int .i64 (0), .int .i64 (0), .int .i64 (0), .int .i64 (0), .int .i64 (0), .int .i64 (0), .int .i64 (0), .int .i64 (0), .int .i64 (0), .zsl, .int .i64 (0), .bool false, .bool false, .int .i64 (0), .int .i64 (0), .int .i64 (0), .int .i64 (0), .int .i64 (0)], none, 0, none⟩,
    ⟨none, .store 19 (.tmp 11) (.tmp 20), none, 1, none⟩] []) (.seq (.region 0 [
    ⟨(some 12), .move (.const (.int .i64 (0))), none, 0, none⟩,
    ⟨(some 13), .move (.const (.int .i64 (0))), none, 0, none⟩] []) (.seq (.region 0 [
    ⟨(some 21), .move (.tmp 1), none, 0, none⟩,
    ⟨(some 14), .move (.tmp 21), none, 0, none⟩] []) (.seq (.meet [0, 3, 15, 16, 17, 11, 12, 13, 14] [] ⟨[(0, (.ptr 0 0 0)), (11, (.ptr 1 0 0)), (12, (.v (.int .i64))), (13, (.v (.int .i64))), (14, (.v (.list .job)))], [3, 15, 16, 17], [.cell false (.cons (.v (.int .i64)) (.cons (.slw 2 18) .nil)), .one false (.pair (.int .i64) .job), .typed .job]⟩ (.seq (.region 0 [
    ⟨(some 22), .fieldAddr 0 (.tmp 11), none, 0, none⟩,
    ⟨(some 23), .load false 1 (.tmp 22), none, 0, none⟩] []) (.block 2 (.seq (.region 0 [
    ⟨(some 38), .bin .eql (.tmp 23) (.const (.int .i64 (1))), none, 0, none⟩,
    ⟨(some 37), .move (.tmp 38), none, 0, none⟩] []) (.cond (.tmp 37) (.seq (.region 4 [
    ⟨(some 39), .move (.tmp 0), none, 0, none⟩,
    ⟨(some 40), .fieldAddr 1 (.tmp 11), none, 0, none⟩,
    ⟨(some 41), .load true 18 (.tmp 40), none, 0, none⟩,
    ⟨(some 42), .call (.func 9) [(true, (.tmp 39)), (false, (.tmp 41))] false 4, none, 0, none⟩,
    ⟨(some 13), .move (.tmp 42), none, 4, none⟩] []) (.region 4 [
    ⟨(some 44), .move (.tmp 1), none, 0, none⟩,
    ⟨(some 45), .move (.tmp 3), none, 0, none⟩,
    ⟨(some 46), .fieldAddr 1 (.tmp 11), none, 0, none⟩,
    ⟨(some 47), .load true 18 (.tmp 46), none, 0, none⟩,
    ⟨(some 48), .call (.func 44) [(false, (.tmp 44)), (false, (.tmp 45)), (false, (.tmp 47))] false 4, none, 0, none⟩,
    ⟨(some 43), .move (.tmp 48), none, 4, none⟩,
    ⟨(some 49), .extract (.tmp 43) 0, none, 4, none⟩,
    ⟨(some 50), .extract (.tmp 43) 1, none, 4, none⟩,
    ⟨(some 14), .move (.tmp 49), none, 4, none⟩,
    ⟨(some 12), .move (.tmp 50), none, 4, none⟩] [])) (.seq (.region 0 [
    ⟨(some 52), .bin .eql (.tmp 23) (.const (.int .i64 (2))), none, 0, none⟩,
    ⟨(some 51), .move (.tmp 52), none, 0, none⟩] []) (.cond (.tmp 51) (.seq (.region 4 [
    ⟨(some 53), .move (.tmp 0), none, 0, none⟩,
    ⟨(some 54), .fieldAddr 1 (.tmp 11), none, 0, none⟩,
    ⟨(some 55), .load true 18 (.tmp 54), none, 0, none⟩,
    ⟨(some 56), .call (.func 11) [(true, (.tmp 53)), (false, (.tmp 55))] false 4, none, 0, none⟩,
    ⟨(some 13), .move (.tmp 56), none, 4, none⟩] []) (.region 4 [
    ⟨(some 58), .move (.tmp 1), none, 0, none⟩,
    ⟨(some 59), .fieldAddr 1 (.tmp 11), none, 0, none⟩,
    ⟨(some 60), .load true 18 (.tmp 59), none, 0, none⟩,
    ⟨(some 61), .call (.func 45) [(false, (.tmp 58)), (false, (.tmp 60))] false 4, none, 0, none⟩,
    ⟨(some 57), .move (.tmp 61), none, 4, none⟩,
    ⟨(some 62), .extract (.tmp 57) 0, none, 4, none⟩,
    ⟨(some 63), .extract (.tmp 57) 1, none, 4, none⟩,
    ⟨(some 14), .move (.tmp 62), none, 4, none⟩,
    ⟨(some 12), .move (.tmp 63), none, 4, none⟩] [])) (.seq (.region 4 [
    ⟨(some 24), .move (.tmp 0), none, 0, none⟩,
    ⟨(some 25), .fieldAddr 1 (.tmp 11), none, 0, none⟩,
    ⟨(some 26), .fieldAddr 0 (.tmp 25), none, 0, none⟩,
    ⟨(some 27), .load false 1 (.tmp 26), none, 0, none⟩,
    ⟨(some 28), .call (.func 12) [(true, (.tmp 24)), (false, (.tmp 27))] false 4, none, 0, none⟩,
    ⟨(some 13), .move (.tmp 28), none, 4, none⟩] []) (.region 4 [
    ⟨(some 30), .move (.tmp 1), none, 0, none⟩,
    ⟨(some 31), .fieldAddr 1 (.tmp 11), none, 0, none⟩,
    ⟨(some 32), .fieldAddr 0 (.tmp 31), none, 0, none⟩,
    ⟨(some 33), .load false 1 (.tmp 32), none, 0, none⟩,
    ⟨(some 34), .call (.func 46) [(false, (.tmp 30)), (false, (.tmp 33))] false 4, none, 0, none⟩,
    ⟨(some 29), .move (.tmp 34), none, 4, none⟩,
    ⟨(some 35), .extract (.tmp 29) 0, none, 4, none⟩,
    ⟨(some 36), .extract (.tmp 29) 1, none, 4, none⟩,
    ⟨(some 14), .move (.tmp 35), none, 4, none⟩,
    ⟨(some 12), .move (.tmp 36), none, 4, none⟩] []))))))))) (.seq (.region 0 [
    ⟨(some 64), .move (.tmp 14), none, 0, none⟩,
    ⟨(some 1), .move (.tmp 64), none, 0, none⟩] []) (.seq (.region 4 [
    ⟨(some 65), .move (.tmp 13), none, 0, none⟩,
    ⟨(some 66), .move (.tmp 12), none, 0, none⟩,
    ⟨(some 67), .bin .neq (.tmp 65) (.tmp 66), none, 0, none⟩,
    ⟨(some 68), .move (.tmp 67), none, 0, none⟩,
    ⟨(some 69), .move (.tmp 0), (some (68, false)), 0, none⟩,
    ⟨(some 70), .move (.tmp 1), (some (68, false)), 0, none⟩,
    ⟨(some 71), .fieldAddr 1 (.tmp 11), (some (68, false)), 0, none⟩,
    ⟨(some 72), .fieldAddr 0 (.tmp 71), (some (68, false)), 0, none⟩,
    ⟨(some 73), .load false 1 (.tmp 72), (some (68, false)), 0, none⟩,
    ⟨(some 74), .call (.func 20) [(true, (.tmp 69)), (false, (.tmp 70)), (false, (.tmp 73))] false 4, (some (68, false)), 0, none⟩,
    ⟨(some 75), .un .not (.tmp 74), (some (68, false)), 4, none⟩,
    ⟨(some 76), .pick (.tmp 68) (.const (.bool true)) (.tmp 75), none, 4, none⟩] []) (.cond (.tmp 76) (.seq (.region 0 [
    ⟨(some 77), .move (.tmp 1), none, 0, none⟩,
    ⟨(some 8), .move (.tmp 77), none, 0, none⟩,
    ⟨(some 9), .move (.const (.bool false)), none, 0, none⟩] []) (.ret)) (.skip))))))))) (.region 0 [
    ⟨(some 78), .bin .add (.tmp 17) (.const (.int .i64 (1))), none, 0, none⟩,
    ⟨(some 17), .move (.tmp 78), none, 0, none⟩] [])))))))) (.seq (.region 0 [
    ⟨(some 79), .move (.tmp 1), none, 0, none⟩,
    ⟨(some 8), .move (.tmp 79), none, 0, none⟩,
    ⟨(some 9), .move (.const (.bool true)), none, 0, none⟩] []) (.ret))), [.tmp 8, .tmp 9], true⟩
def s19 : Sig := ⟨(.cons (.ptr 0 0 0) (.cons (.v (.list .job)) (.cons (.v (.list (.pair (.int .i64) .job))) (.cons (.v (.int .i64)) .nil)))), [.cell false (.cons (.v (.int .i64)) (.cons .zsl .nil))], ((.tup (.cons (.v (.list .job)) (.cons (.v .bool) .nil))), [.cell false (.cons (.v (.int .i64)) (.cons (.slw 1 18) .nil)), .typed .job]), []⟩
def l19_0 (g9_2 : Job → Int → (List Job) → Option ((Int × ((Int × (Unit × Unit)) × ((List Job) × Unit))) ⊕ (Int × ((Int × (Unit × Unit)) × (Unit × ((List Job) × Unit)))))) (g44 : (List Job) → Int → Job → Option ((List Job) × (Int × Unit))) (g11_2 : Job → Int → (List Job) → Option (Int × ((Int × (Unit × Unit)) × ((List Job) × Unit)))) (g45 : (List Job) → Job → Option ((List Job) × (Int × Unit))) (g12_2 : Int → Int → (List Job) → Option ((Int × ((Int × (Unit × Unit)) × ((List Job) × Unit))) ⊕ (Int × ((Int × (Unit × Unit)) × (Unit × ((List Job) × Unit)))))) (g46 : (List Job) → Int → Option ((List Job) × (Int × Unit))) (g20 : (List Job) → Int → Int → (List Job) → Option (Bool × ((Int × (Unit × Unit)) × ((List Job) × Unit)))) (todo1 : (List (Int × Job))) (places2 : Int) (nx5 : ((Unit × ((List Job) × (Int × Unit))) × ((Int × (Unit × Unit)) × ((List Job) × Unit))) → Option (((List Job) × (Bool × Unit)) × ((Int × (Unit × Unit)) × ((List Job) × Unit)))) (w6 : (List Job)) (z7 : Int) (z8 : Int) (z9 : (List Job)) : Option (((List Job) × (Bool × Unit)) × ((Int × (Unit × Unit)) × ((List Job) × Unit))) :=
  cond (decide (z7 < (List.length todo1 : Int)))
  (cond (decide (0 ≤ z7))
  (Option.bind (todo1[Int.toNat z7]?) fun y10 =>
  Option.bind (α := ((Unit × (Unit × (Int × (Int × ((List Job) × Unit))))) × ((Int × (Unit × Unit)) × ((Int × Job) × ((List Job) × Unit)))))
  (cond (decide (y10.1 = 1))
  (Option.bind (g9_2 y10.2 z8 z9) (Sum.elim (fun r11 =>
  cond (true && ((decide ((List.length r11.2.2.1) = (List.length z9))) && true))
  (Option.bind (g44 w6 places2 y10.2) fun r12 =>
  some (((), (), r12.2.1, r11.1, r12.1, ()), ((r11.2.1.1, (), ()), y10, r11.2.2.1, ())))
  (none)) (fun r13 =>
  Option.bind (g44 w6 places2 y10.2) fun r14 =>
  some (((), (), r14.2.1, r13.1, r14.1, ()), ((r13.2.1.1, (), ()), y10, r13.2.2.2.1, ())))))
  (cond (decide (y10.1 = 2))
  (Option.bind (g11_2 y10.2 z8 z9) fun r15 =>
  cond (true && ((decide ((List.length r15.2.2.1) = (List.length z9))) && true))
  (Option.bind (g45 w6 y10.2) fun r16 =>
  some (((), (), r16.2.1, r15.1, r16.1, ()), ((r15.2.1.1, (), ()), y10, r15.2.2.1, ())))
  (none))
  (Option.bind (g12_2 y10.2.id z8 z9) (Sum.elim (fun r17 =>
  cond (true && ((decide ((List.length r17.2.2.1) = (List.length z9))) && true))
  (Option.bind (g46 w6 y10.2.id) fun r18 =>
  some (((), (), r18.2.1, r17.1, r18.1, ()), ((r17.2.1.1, (), ()), y10, r17.2.2.1, ())))
  (none)) (fun r19 =>
  Option.bind (g46 w6 y10.2.id) fun r20 =>
  some (((), (), r20.2.1, r19.1, r20.1, ()), ((r19.2.1.1, (), ()), y10, r19.2.2.2.1, ()))))))) fun x21 =>
  cond (!decide (x21.1.2.2.2.1 = x21.1.2.2.1))
  (some ((x21.1.2.2.2.2.1, false, ()), ((x21.2.1.1, (), ()), x21.2.2.2.1, ())))
  (Option.bind (g20 x21.1.2.2.2.2.1 x21.2.2.1.2.id x21.2.1.1 x21.2.2.2.1) fun r22 =>
  cond (true && ((decide ((List.length r22.2.2.1) = (List.length x21.2.2.2.1))) && true))
  (cond (!r22.1)
  (some ((x21.1.2.2.2.2.1, false, ()), ((r22.2.1.1, (), ()), r22.2.2.1, ())))
  (nx5 (((), x21.1.2.2.2.2.1, IntKind.wrap .i64 (z7 + 1), ()), ((r22.2.1.1, (), ()), r22.2.2.1, ()))))
  (none)))
  (none))
  (some ((w6, true, ()), ((z8, (), ()), z9, ())))
def F19 (L : Lp) (g9_2 : Job → Int → (List Job) → Option ((Int × ((Int × (Unit × Unit)) × ((List Job) × Unit))) ⊕ (Int × ((Int × (Unit × Unit)) × (Unit × ((List Job) × Unit)))))) (g44 : (List Job) → Int → Job → Option ((List Job) × (Int × Unit))) (g11_2 : Job → Int → (List Job) → Option (Int × ((Int × (Unit × Unit)) × ((List Job) × Unit)))) (g45 : (List Job) → Job → Option ((List Job) × (Int × Unit))) (g12_2 : Int → Int → (List Job) → Option ((Int × ((Int × (Unit × Unit)) × ((List Job) × Unit))) ⊕ (Int × ((Int × (Unit × Unit)) × (Unit × ((List Job) × Unit)))))) (g46 : (List Job) → Int → Option ((List Job) × (Int × Unit))) (g20 : (List Job) → Int → Int → (List Job) → Option (Bool × ((Int × (Unit × Unit)) × ((List Job) × Unit)))) (w0 : (List Job)) (todo1 : (List (Int × Job))) (places2 : Int) (a3 : Int) : Option (((List Job) × (Bool × Unit)) × ((Int × (Unit × Unit)) × ((List Job) × Unit))) :=
  L (fun (s4 : ((Unit × ((List Job) × (Int × Unit))) × ((Int × (Unit × Unit)) × ((List Job) × Unit)))) nx5 => l19_0 g9_2 g44 g11_2 g45 g12_2 g46 g20 todo1 places2 nx5 s4.1.2.1 s4.1.2.2.1 s4.2.1.1 s4.2.2.1) (((), w0, 0, ()), ((a3, (), ()), [], ()))
theorem e19 (L : Lp) (g9_2 : Job → Int → (List Job) → Option ((Int × ((Int × (Unit × Unit)) × ((List Job) × Unit))) ⊕ (Int × ((Int × (Unit × Unit)) × (Unit × ((List Job) × Unit)))))) (g44 : (List Job) → Int → Job → Option ((List Job) × (Int × Unit))) (g11_2 : Job → Int → (List Job) → Option (Int × ((Int × (Unit × Unit)) × ((List Job) × Unit)))) (g45 : (List Job) → Job → Option ((List Job) × (Int × Unit))) (g12_2 : Int → Int → (List Job) → Option ((Int × ((Int × (Unit × Unit)) × ((List Job) × Unit))) ⊕ (Int × ((Int × (Unit × Unit)) × (Unit × ((List Job) × Unit)))))) (g46 : (List Job) → Int → Option ((List Job) × (Int × Unit))) (g20 : (List Job) → Int → Int → (List Job) → Option (Bool × ((Int × (Unit × Unit)) × ((List Job) × Unit)))) (x : s19.args.den) (h : denH s19.heap) : nrun [⟨9, s9_2, fun x h => g9_2 x.2.1 h.1.1 h.2.1⟩, ⟨44, s44, fun x h => g44 x.1 x.2.1 x.2.2.1⟩, ⟨11, s11_2, fun x h => g11_2 x.2.1 h.1.1 h.2.1⟩, ⟨45, s45, fun x h => g45 x.1 x.2.1⟩, ⟨12, s12_2, fun x h => g12_2 x.2.1 h.1.1 h.2.1⟩, ⟨46, s46, fun x h => g46 x.1 x.2.1⟩, ⟨20, s20, fun x h => g20 x.2.1 x.2.2.1 h.1.1 h.2.1⟩] L n19 s19 x h = F19 L g9_2 g44 g11_2 g45 g12_2 g46 g20 x.2.1 x.2.2.1 x.2.2.2.1 h.1.1 := by kernel_rfl
def f19 : (List Job) → (List (Int × Job)) → Int → Int → Option (((List Job) × (Bool × Unit)) × ((Int × (Unit × Unit)) × ((List Job) × Unit))) := F19 (@LN LOOPS) f9_2 f44 f11_2 f45 f12_2 f46 f20
@[reducible] def t19 : Ent := ⟨19, s19, fun x h => f19 x.2.1 x.2.2.1 x.2.2.2.1 h.1.1⟩
theorem k19 : chkNF Try.prog Try.f19 n19 = true := by kernel_rfl
theorem ok19 : NOk Try.prog t19 := NOk.body (T := [t9_2, t44, t11_2, t45, t12_2, t46, t20]) mixed (nall_cons ok9_2 (nall_cons ok44 (nall_cons ok11_2 (nall_cons ok45 (nall_cons ok12_2 (nall_cons ok46 (nall_cons ok20 nall_nil))))))) (oneEach_of (by kernel_rfl)) Try.func19 k19 (by kernel_rfl) (fun x h => e19 _ _ _ _ _ _ _ _ x h)
/- (*drayage/table.Table).Clone -/
def n16_1 : NFunc := ⟨16, .seq (.region 0 [
    ⟨(some 2), .move (.const (.nilp)), none, 0, none⟩] []) (.seq (.seq (.region 0 [
    ⟨(some 3), .move (.tmp 0), none, 0, none⟩,
    ⟨(some 4), .eqP false (.tmp 3) (.const (.nilp)), none, 0, none⟩] []) (.cond (.tmp 4) (.seq (.region 0 [
    ⟨(some 2), .move (.const (.nilp)), none, 0, none⟩] []) (.ret)) (.skip))) (.seq (.region 5 [
    ⟨(some 5), .move (.tmp 0), none, 0, (some ([], none))⟩,
    ⟨(some 6), .nilCheck (.tmp 5), none, 0, (some ([], none))⟩,
    ⟨(some 7), .fieldAddr 0 (.tmp 6), none, 0, (some ([], none))⟩,
    ⟨(some 8), .load false 1 (.tmp 7), none, 0, (some ([], some [0]))⟩,
    ⟨(some 9), .move (.tmp 0), none, 0, (some ([], none))⟩,
    ⟨(some 10), .nilCheck (.tmp 9), none, 0, (some ([], none))⟩,
    ⟨(some 11), .fieldAddr 1 (.tmp 10), none, 0, (some ([], none))⟩,
    ⟨(some 12), .load false 1 (.tmp 11), none, 0, (some ([], some [0]))⟩,
    ⟨(some 13), .call (.func 43) [(true, (.tmp 12))] false 4, none, 0, (some ([], some [1]))⟩,
    ⟨(some 14), .build [.int .i64 (0), .zsl] [(0, 1, (.tmp 8)), (1, 1, (.tmp 13))], none, 4, (some ([0, 1, 2, 3], none))⟩,
    ⟨(some 15), .box 2 (.tmp 14), none, 4, (some ([], some []))⟩,
    ⟨(some 2), .move (.tmp 15), none, 5, (some ([0, 1, 2, 3, 4], none))⟩] []) (.ret))), [.tmp 2], false⟩
def s16_1 : Sig := ⟨(.cons (.ptr 0 0 0) .nil), [.cell false (.cons (.v (.int .i64)) (.cons (.slw 1 18) .nil)), .typed .job], ((.ptr 2 0 0), [.cell false (.cons (.v (.int .i64)) (.cons (.slw 1 18) .nil)), .typed .job, .cell false (.cons (.v (.int .i64)) (.cons (.slw 3 18) .nil)), .typed .job]), []⟩
def F16_1 (L : Lp) (g43 : (List Job) → Option (Unit × ((List Job) × ((List Job) × Unit)))) (a0 : Int) (a1 : (List Job)) : Option (Unit × ((Int × (Unit × Unit)) × ((List Job) × ((Int × (Unit × Unit)) × ((List Job) × Unit))))) :=
  Option.bind (g43 a1) fun r2 =>
  cond ((decide ((List.length r2.2.1) = (List.length a1))) && true)
  (some ((), ((a0, (), ()), r2.2.1, (a0, (), ()), r2.2.2.1, ())))
  (none)
theorem e16_1 (L : Lp) (g43 : (List Job) → Option (Unit × ((List Job) × ((List Job) × Unit)))) (x : s16_1.args.den) (h : denH s16_1.heap) : nrun [⟨43, s43, fun x h => g43 h.1⟩] L n16_1 s16_1 x h = F16_1 L g43 h.1.1 h.2.1 := by kernel_rfl
def f16_1 : Int → (List Job) → Option (Unit × ((Int × (Unit × Unit)) × ((List Job) × ((Int × (Unit × Unit)) × ((List Job) × Unit))))) := F16_1 (@LN LOOPS) f43
@[reducible] def t16_1 : Ent := ⟨16, s16_1, fun x h => f16_1 h.1.1 h.2.1⟩
theorem k16_1 : chkNF Try.prog Try.f16 n16_1 = true := by kernel_rfl
theorem ok16_1 : NOk Try.prog t16_1 := NOk.body (T := [t43]) mixed (nall_cons ok43 nall_nil) (oneEach_of (by kernel_rfl)) Try.func16 k16_1 (by kernel_rfl) (fun x h => e16_1 _ _ x h)
/- drayage/drayagelaw18.run -/
def n19_1 : NFunc := ⟨80, .seq (.region 0 [
    ⟨(some 8), .move (.const (.zsl)), none, 0, none⟩,
    ⟨(some 9), .move (.const (.bool false)), none, 0, none⟩] []) (.seq (.seq (.region 0 [
    ⟨(some 15), .move (.tmp 2), none, 0, none⟩,
    ⟨(some 16), .len (.tmp 15), none, 0, none⟩,
    ⟨(some 17), .move (.const (.int .i64 (0))), none, 0, none⟩] []) (.block 0 (.pre [0, 1, 3, 15, 16, 17] [.mvP 0 [(0, 1)]] (.loop [0, 1, 3, 15, 16, 17] ⟨[(0, (.ptr 0 0 0)), (1, (.v (.list .job))), (17, (.v (.int .i64)))], [3, 15, 16], [.cell false (.cons (.v (.int .i64)) (.cons (.slw 2 18) .nil)), .dead, .typed .job]⟩ (.seq (.region 0 [
    ⟨(some 18), .bin .lss (.tmp 17) (.tmp 16), none, 0, none⟩] []) (.seq (.cond (.tmp 18) (.skip) (.exit 0)) (.seq (.block 1 (.seq (.region 1 [
    ⟨(some 19), .indexSl 19 (.tmp 15) (.tmp 17), none, 0, none⟩,
    ⟨(some 20), .load true 19 (.tmp 19), none, 0, none⟩,
    ⟨(some 11), .alloc [.int .i64 (0), .int .i64 (0), .int .i64 (0), .int .i64 (0), .int .i64 (0), .int .i64 (0), .int .i64 (0), .int .i64 (0), .int .i64 (0), .int .i64 (0), .zsl, .int .i64 (0), .bool false, .bool false, .int .i64 (0), .int .i64 (0), .int .i64 (0), .int .i64 (0), .int .i64 (0)], none, 0, none⟩,
    ⟨none, .store 19 (.tmp 11) (.tmp 20), none, 1, none⟩] []) (.seq (.region 0 [
    ⟨(some 12), .move (.const (.int .i64 (0))), none, 0, none⟩,
    ⟨(some 13), .move (.const (.int .i64 (0))), none, 0, none⟩] []) (.seq (.region 0 [
    ⟨(some 21), .move (.tmp 1), none, 0, none⟩,
    ⟨(some 14), .move (.tmp 21), none, 0, none⟩] []) (.seq (.meet [0, 3, 15, 16, 17, 11, 12, 13, 14] [] ⟨[(0, (.ptr 0 0 0)), (11, (.ptr 2 0 0)), (12, (.v (.int .i64))), (13, (.v (.int .i64))), (14, (.v (.list .job)))], [3, 15, 16, 17], [.cell false (.cons (.v (.int .i64)) (.cons (.slw 3 18) .nil)), .dead, .one false (.pair (.int .i64) .job), .typed .job]⟩ (.seq (.region 0 [
    ⟨(some 22), .fieldAddr 0 (.tmp 11), none, 0, none⟩,
    ⟨(some 23), .load false 1 (.tmp 22), none, 0, none⟩] []) (.block 2 (.seq (.region 0 [
    ⟨(some 38), .bin .eql (.tmp 23) (.const (.int .i64 (1))), none, 0, none⟩,
    ⟨(some 37), .move (.tmp 38), none, 0, none⟩] []) (.cond (.tmp 37) (.seq (.region 4 [
    ⟨(some 39), .move (.tmp 0), none, 0, none⟩,
    ⟨(some 40), .fieldAddr 1 (.tmp 11), none, 0, none⟩,
    ⟨(some 41), .load true 18 (.tmp 40), none, 0, none⟩,
    ⟨(some 42), .call (.func 9) [(true, (.tmp 39)), (false, (.tmp 41))] false 4, none, 0, none⟩,
    ⟨(some 13), .move (.tmp 42), none, 4, none⟩] []) (.region 4 [
    ⟨(some 44), .move (.tmp 1), none, 0, none⟩,
    ⟨(some 45), .move (.tmp 3), none, 0, none⟩,
    ⟨(some 46), .fieldAddr 1 (.tmp 11), none, 0, none⟩,
    ⟨(some 47), .load true 18 (.tmp 46), none, 0, none⟩,
    ⟨(some 48), .call (.func 44) [(false, (.tmp 44)), (false, (.tmp 45)), (false, (.tmp 47))] false 4, none, 0, none⟩,
    ⟨(some 43), .move (.tmp 48), none, 4, none⟩,
    ⟨(some 49), .extract (.tmp 43) 0, none, 4, none⟩,
    ⟨(some 50), .extract (.tmp 43) 1, none, 4, none⟩,
    ⟨(some 14), .move (.tmp 49), none, 4, none⟩,
    ⟨(some 12), .move (.tmp 50), none, 4, none⟩] [])) (.seq (.region 0 [
    ⟨(some 52), .bin .eql (.tmp 23) (.const (.int .i64 (2))), none, 0, none⟩,
    ⟨(some 51), .move (.tmp 52), none, 0, none⟩] []) (.cond (.tmp 51) (.seq (.region 4 [
    ⟨(some 53), .move (.tmp 0), none, 0, none⟩,
    ⟨(some 54), .fieldAddr 1 (.tmp 11), none, 0, none⟩,
    ⟨(some 55), .load true 18 (.tmp 54), none, 0, none⟩,
    ⟨(some 56), .call (.func 11) [(true, (.tmp 53)), (false, (.tmp 55))] false 4, none, 0, none⟩,
    ⟨(some 13), .move (.tmp 56), none, 4, none⟩] []) (.region 4 [
    ⟨(some 58), .move (.tmp 1), none, 0, none⟩,
    ⟨(some 59), .fieldAddr 1 (.tmp 11), none, 0, none⟩,
    ⟨(some 60), .load true 18 (.tmp 59), none, 0, none⟩,
    ⟨(some 61), .call (.func 45) [(false, (.tmp 58)), (false, (.tmp 60))] false 4, none, 0, none⟩,
    ⟨(some 57), .move (.tmp 61), none, 4, none⟩,
    ⟨(some 62), .extract (.tmp 57) 0, none, 4, none⟩,
    ⟨(some 63), .extract (.tmp 57) 1, none, 4, none⟩,
    ⟨(some 14), .move (.tmp 62), none, 4, none⟩,
    ⟨(some 12), .move (.tmp 63), none, 4, none⟩] [])) (.seq (.region 4 [
    ⟨(some 24), .move (.tmp 0), none, 0, none⟩,
    ⟨(some 25), .fieldAddr 1 (.tmp 11), none, 0, none⟩,
    ⟨(some 26), .fieldAddr 0 (.tmp 25), none, 0, none⟩,
    ⟨(some 27), .load false 1 (.tmp 26), none, 0, none⟩,
    ⟨(some 28), .call (.func 12) [(true, (.tmp 24)), (false, (.tmp 27))] false 4, none, 0, none⟩,
    ⟨(some 13), .move (.tmp 28), none, 4, none⟩] []) (.region 4 [
    ⟨(some 30), .move (.tmp 1), none, 0, none⟩,
    ⟨(some 31), .fieldAddr 1 (.tmp 11), none, 0, none⟩,
    ⟨(some 32), .fieldAddr 0 (.tmp 31), none, 0, none⟩,
    ⟨(some 33), .load false 1 (.tmp 32), none, 0, none⟩,
    ⟨(some 34), .call (.func 46) [(false, (.tmp 30)), (false, (.tmp 33))] false 4, none, 0, none⟩,
    ⟨(some 29), .move (.tmp 34), none, 4, none⟩,
    ⟨(some 35), .extract (.tmp 29) 0, none, 4, none⟩,
    ⟨(some 36), .extract (.tmp 29) 1, none, 4, none⟩,
    ⟨(some 14), .move (.tmp 35), none, 4, none⟩,
    ⟨(some 12), .move (.tmp 36), none, 4, none⟩] []))))))))) (.seq (.region 0 [
    ⟨(some 64), .move (.tmp 14), none, 0, none⟩,
    ⟨(some 1), .move (.tmp 64), none, 0, none⟩] []) (.seq (.region 4 [
    ⟨(some 65), .move (.tmp 13), none, 0, none⟩,
    ⟨(some 66), .move (.tmp 12), none, 0, none⟩,
    ⟨(some 67), .bin .neq (.tmp 65) (.tmp 66), none, 0, none⟩,
    ⟨(some 68), .move (.tmp 67), none, 0, none⟩,
    ⟨(some 69), .move (.tmp 0), (some (68, false)), 0, none⟩,
    ⟨(some 70), .move (.tmp 1), (some (68, false)), 0, none⟩,
    ⟨(some 71), .fieldAddr 1 (.tmp 11), (some (68, false)), 0, none⟩,
    ⟨(some 72), .fieldAddr 0 (.tmp 71), (some (68, false)), 0, none⟩,
    ⟨(some 73), .load false 1 (.tmp 72), (some (68, false)), 0, none⟩,
    ⟨(some 74), .call (.func 20) [(true, (.tmp 69)), (false, (.tmp 70)), (false, (.tmp 73))] false 4, (some (68, false)), 0, none⟩,
    ⟨(some 75), .un .not (.tmp 74), (some (68, false)), 4, none⟩,
    ⟨(some 76), .pick (.tmp 68) (.const (.bool true)) (.tmp 75), none, 4, none⟩] []) (.cond (.tmp 76) (.seq (.region 0 [
    ⟨(some 77), .move (.tmp 1), none, 0, none⟩,
    ⟨(some 8), .move (.tmp 77), none, 0, none⟩,
    ⟨(some 9), .move (.const (.bool false)), none, 0, none⟩] []) (.ret)) (.skip))))))))) (.region 0 [
    ⟨(some 78), .bin .add (.tmp 17) (.const (.int .i64 (1))), none, 0, none⟩,
    ⟨(some 17), .move (.tmp 78), none, 0, none⟩] [])))))))) (.seq (.region 0 [
    ⟨(some 79), .move (.tmp 1), none, 0, none⟩,
    ⟨(some 8), .move (.tmp 79), none, 0, none⟩,
    ⟨(some 9), .move (.const (.bool true)), none, 0, none⟩] []) (.ret))), [.tmp 8, .tmp 9], true⟩
def s19_1 : Sig := ⟨(.cons (.ptr 0 0 0) (.cons (.v (.list .job)) (.cons (.v (.list (.pair (.int .i64) .job))) (.cons (.v (.int .i64)) .nil)))), [.cell false (.cons (.v (.int .i64)) (.cons (.slw 1 18) .nil)), .typed .job], ((.tup (.cons (.v (.list .job)) (.cons (.v .bool) .nil))), [.cell false (.cons (.v (.int .i64)) (.cons (.slw 2 18) .nil)), .dead, .typed .job]), []⟩
def l19_1_0 (g9_2 : Job → Int → (List Job) → Option ((Int × ((Int × (Unit × Unit)) × ((List Job) × Unit))) ⊕ (Int × ((Int × (Unit × Unit)) × (Unit × ((List Job) × Unit)))))) (g44 : (List Job) → Int → Job → Option ((List Job) × (Int × Unit))) (g11_2 : Job → Int → (List Job) → Option (Int × ((Int × (Unit × Unit)) × ((List Job) × Unit)))) (g45 : (List Job) → Job → Option ((List Job) × (Int × Unit))) (g12_2 : Int → Int → (List Job) → Option ((Int × ((Int × (Unit × Unit)) × ((List Job) × Unit))) ⊕ (Int × ((Int × (Unit × Unit)) × (Unit × ((List Job) × Unit)))))) (g46 : (List Job) → Int → Option ((List Job) × (Int × Unit))) (g20 : (List Job) → Int → Int → (List Job) → Option (Bool × ((Int × (Unit × Unit)) × ((List Job) × Unit)))) (todo1 : (List (Int × Job))) (places2 : Int) (nx6 : ((Unit × ((List Job) × (Int × Unit))) × ((Int × (Unit × Unit)) × (Unit × ((List Job) × Unit)))) → Option (((List Job) × (Bool × Unit)) × ((Int × (Unit × Unit)) × (Unit × ((List Job) × Unit))))) (w7 : (List Job)) (z8 : Int) (z9 : Int) (z10 : (List Job)) : Option (((List Job) × (Bool × Unit)) × ((Int × (Unit × Unit)) × (Unit × ((List Job) × Unit)))) :=
  cond (decide (z8 < (List.length todo1 : Int)))
  (cond (decide (0 ≤ z8))
  (Option.bind (todo1[Int.toNat z8]?) fun y11 =>
  Option.bind (α := ((Unit × (Unit × (Int × (Int × ((List Job) × Unit))))) × ((Int × (Unit × Unit)) × (Unit × ((Int × Job) × ((List Job) × Unit))))))
  (cond (decide (y11.1 = 1))
  (Option.bind (g9_2 y11.2 z9 z10) (Sum.elim (fun r12 =>
  cond (true && ((decide ((List.length r12.2.2.1) = (List.length z10))) && true))
  (Option.bind (g44 w7 places2 y11.2) fun r13 =>
  some (((), (), r13.2.1, r12.1, r13.1, ()), ((r12.2.1.1, (), ()), (), y11, r12.2.2.1, ())))
  (none)) (fun r14 =>
  Option.bind (g44 w7 places2 y11.2) fun r15 =>
  some (((), (), r15.2.1, r14.1, r15.1, ()), ((r14.2.1.1, (), ()), (), y11, r14.2.2.2.1, ())))))
  (cond (decide (y11.1 = 2))
  (Option.bind (g11_2 y11.2 z9 z10) fun r16 =>
  cond (true && ((decide ((List.length r16.2.2.1) = (List.length z10))) && true))
  (Option.bind (g45 w7 y11.2) fun r17 =>
  some (((), (), r17.2.1, r16.1, r17.1, ()), ((r16.2.1.1, (), ()), (), y11, r16.2.2.1, ())))
  (none))
  (Option.bind (g12_2 y11.2.id z9 z10) (Sum.elim (fun r18 =>
  cond (true && ((decide ((List.length r18.2.2.1) = (List.length z10))) && true))
  (Option.bind (g46 w7 y11.2.id) fun r19 =>
  some (((), (), r19.2.1, r18.1, r19.1, ()), ((r18.2.1.1, (), ()), (), y11, r18.2.2.1, ())))
  (none)) (fun r20 =>
  Option.bind (g46 w7 y11.2.id) fun r21 =>
  some (((), (), r21.2.1, r20.1, r21.1, ()), ((r20.2.1.1, (), ()), (), y11, r20.2.2.2.1, ()))))))) fun x22 =>
  cond (!decide (x22.1.2.2.2.1 = x22.1.2.2.1))
  (some ((x22.1.2.2.2.2.1, false, ()), ((x22.2.1.1, (), ()), (), x22.2.2.2.2.1, ())))
  (Option.bind (g20 x22.1.2.2.2.2.1 x22.2.2.2.1.2.id x22.2.1.1 x22.2.2.2.2.1) fun r23 =>
  cond (true && ((decide ((List.length r23.2.2.1) = (List.length x22.2.2.2.2.1))) && true))
  (cond (!r23.1)
  (some ((x22.1.2.2.2.2.1, false, ()), ((r23.2.1.1, (), ()), (), r23.2.2.1, ())))
  (nx6 (((), x22.1.2.2.2.2.1, IntKind.wrap .i64 (z8 + 1), ()), ((r23.2.1.1, (), ()), (), r23.2.2.1, ()))))
  (none)))
  (none))
  (some ((w7, true, ()), ((z9, (), ()), (), z10, ())))
def F19_1 (L : Lp) (g9_2 : Job → Int → (List Job) → Option ((Int × ((Int × (Unit × Unit)) × ((List Job) × Unit))) ⊕ (Int × ((Int × (Unit × Unit)) × (Unit × ((List Job) × Unit)))))) (g44 : (List Job) → Int → Job → Option ((List Job) × (Int × Unit))) (g11_2 : Job → Int → (List Job) → Option (Int × ((Int × (Unit × Unit)) × ((List Job) × Unit)))) (g45 : (List Job) → Job → Option ((List Job) × (Int × Unit))) (g12_2 : Int → Int → (List Job) → Option ((Int × ((Int × (Unit × Unit)) × ((List Job) × Unit))) ⊕ (Int × ((Int × (Unit × Unit)) × (Unit × ((List Job) × Unit)))))) (g46 : (List Job) → Int → Option ((List Job) × (Int × Unit))) (g20 : (List Job) → Int → Int → (List Job) → Option (Bool × ((Int × (Unit × Unit)) × ((List Job) × Unit)))) (w0 : (List Job)) (todo1 : (List (Int × Job))) (places2 : Int) (a3 : Int) (a4 : (List Job)) : Option (((List Job) × (Bool × Unit)) × ((Int × (Unit × Unit)) × (Unit × ((List Job) × Unit)))) :=
  L (fun (s5 : ((Unit × ((List Job) × (Int × Unit))) × ((Int × (Unit × Unit)) × (Unit × ((List Job) × Unit))))) nx6 => l19_1_0 g9_2 g44 g11_2 g45 g12_2 g46 g20 todo1 places2 nx6 s5.1.2.1 s5.1.2.2.1 s5.2.1.1 s5.2.2.2.1) (((), w0, 0, ()), ((a3, (), ()), (), a4, ()))
theorem e19_1 (L : Lp) (g9_2 : Job → Int → (List Job) → Option ((Int × ((Int × (Unit × Unit)) × ((List Job) × Unit))) ⊕ (Int × ((Int × (Unit × Unit)) × (Unit × ((List Job) × Unit)))))) (g44 : (List Job) → Int → Job → Option ((List Job) × (Int × Unit))) (g11_2 : Job → Int → (List Job) → Option (Int × ((Int × (Unit × Unit)) × ((List Job) × Unit)))) (g45 : (List Job) → Job → Option ((List Job) × (Int × Unit))) (g12_2 : Int → Int → (List Job) → Option ((Int × ((Int × (Unit × Unit)) × ((List Job) × Unit))) ⊕ (Int × ((Int × (Unit × Unit)) × (Unit × ((List Job) × Unit)))))) (g46 : (List Job) → Int → Option ((List Job) × (Int × Unit))) (g20 : (List Job) → Int → Int → (List Job) → Option (Bool × ((Int × (Unit × Unit)) × ((List Job) × Unit)))) (x : s19_1.args.den) (h : denH s19_1.heap) : nrun [⟨9, s9_2, fun x h => g9_2 x.2.1 h.1.1 h.2.1⟩, ⟨44, s44, fun x h => g44 x.1 x.2.1 x.2.2.1⟩, ⟨11, s11_2, fun x h => g11_2 x.2.1 h.1.1 h.2.1⟩, ⟨45, s45, fun x h => g45 x.1 x.2.1⟩, ⟨12, s12_2, fun x h => g12_2 x.2.1 h.1.1 h.2.1⟩, ⟨46, s46, fun x h => g46 x.1 x.2.1⟩, ⟨20, s20, fun x h => g20 x.2.1 x.2.2.1 h.1.1 h.2.1⟩] L n19_1 s19_1 x h = F19_1 L g9_2 g44 g11_2 g45 g12_2 g46 g20 x.2.1 x.2.2.1 x.2.2.2.1 h.1.1 h.2.1 := by kernel_rfl
def f19_1 : (List Job) → (List (Int × Job)) → Int → Int → (List Job) → Option (((List Job) × (Bool × Unit)) × ((Int × (Unit × Unit)) × (Unit × ((List Job) × Unit)))) := F19_1 (@LN LOOPS) f9_2 f44 f11_2 f45 f12_2 f46 f20
@[reducible] def t19_1 : Ent := ⟨19, s19_1, fun x h => f19_1 x.2.1 x.2.2.1 x.2.2.2.1 h.1.1 h.2.1⟩
theorem k19_1 : chkNF Try.prog Try.f19 n19_1 = true := by kernel_rfl
theorem ok19_1 : NOk Try.prog t19_1 := NOk.body (T := [t9_2, t44, t11_2, t45, t12_2, t46, t20]) mixed (nall_cons ok9_2 (nall_cons ok44 (nall_cons ok11_2 (nall_cons ok45 (nall_cons ok12_2 (nall_cons ok46 (nall_cons ok20 nall_nil))))))) (oneEach_of (by kernel_rfl)) Try.func19 k19_1 (by kernel_rfl) (fun x h => e19_1 _ _ _ _ _ _ _ _ x h)
/- drayage/drayagelaw18.TableDoes -/
def n3 : NFunc := ⟨126, .seq (.region 0 [
    ⟨(some 6), .move (.const (.bool false)), none, 0, none⟩] []) (.seq (.seq (.region 4 [
    ⟨(some 17), .call (.func 7) [] false 4, none, 0, none⟩,
    ⟨(some 18), .un .not (.tmp 17), none, 4, none⟩] []) (.cond (.tmp 18) (.seq (.region 0 [
    ⟨(some 6), .move (.const (.bool false)), none, 0, none⟩] []) (.ret)) (.skip))) (.seq (.region 0 [
    ⟨(some 7), .move (.const (.nilp)), none, 0, none⟩] []) (.seq (.seq (.region 5 [
    ⟨(some 20), .move (.tmp 7), none, 0, none⟩,
    ⟨(some 21), .call (.func 8) [(true, (.tmp 20)), (false, (.const (.int .i64 (1))))] false 4, none, 0, none⟩,
    ⟨(some 19), .move (.tmp 21), none, 4, none⟩,
    ⟨(some 22), .extract (.tmp 19) 0, none, 4, none⟩,
    ⟨(some 23), .extract (.tmp 19) 1, none, 4, none⟩,
    ⟨(some 8), .alloc [.int .i64 (0), .int .i64 (0), .int .i64 (0), .int .i64 (0), .int .i64 (0), .int .i64 (0), .int .i64 (0), .int .i64 (0), .int .i64 (0), .zsl, .int .i64 (0), .bool false, .bool false, .int .i64 (0), .int .i64 (0), .int .i64 (0), .int .i64 (0), .int .i64 (0)], none, 4, none⟩,
    ⟨none, .store 18 (.tmp 8) (.tmp 22), none, 5, none⟩,
    ⟨(some 9), .move (.tmp 23), none, 5, none⟩] []) (.seq (.region 36 [
    ⟨(some 24), .move (.tmp 9), none, 0, none⟩,
    ⟨(some 25), .move (.tmp 24), none, 0, none⟩,
    ⟨(some 26), .move (.tmp 7), (some (25, false)), 0, none⟩,
    ⟨(some 27), .call (.func 10) [(false, (.const (.int .i64 (1))))] false 4, (some (25, false)), 0, none⟩,
    ⟨(some 28), .call (.func 9) [(true, (.tmp 26)), (false, (.tmp 27))] false 4, (some (25, false)), 4, none⟩,
    ⟨(some 29), .bin .neq (.tmp 28) (.const (.int .i64 (1))), (some (25, false)), 8, none⟩,
    ⟨(some 30), .pick (.tmp 25) (.const (.bool true)) (.tmp 29), none, 8, none⟩,
    ⟨(some 31), .move (.tmp 30), none, 8, none⟩,
    ⟨(some 32), .move (.tmp 7), (some (31, false)), 8, none⟩,
    ⟨(some 33), .call (.func 10) [(false, (.const (.int .i64 (1))))] false 4, (some (31, false)), 8, none⟩,
    ⟨(some 34), .call (.func 11) [(true, (.tmp 32)), (false, (.tmp 33))] false 4, (some (31, false)), 12, none⟩,
    ⟨(some 35), .bin .neq (.tmp 34) (.const (.int .i64 (1))), (some (31, false)), 16, none⟩,
    ⟨(some 36), .pick (.tmp 31) (.const (.bool true)) (.tmp 35), none, 16, none⟩,
    ⟨(some 37), .move (.tmp 36), none, 16, none⟩,
    ⟨(some 38), .move (.tmp 7), (some (37, false)), 16, none⟩,
    ⟨(some 39), .call (.func 12) [(true, (.tmp 38)), (false, (.const (.int .i64 (1))))] false 4, (some (37, false)), 16, none⟩,
    ⟨(some 40), .bin .neq (.tmp 39) (.const (.int .i64 (1))), (some (37, false)), 20, none⟩,
    ⟨(some 41), .pick (.tmp 37) (.const (.bool true)) (.tmp 40), none, 20, none⟩,
    ⟨(some 42), .move (.tmp 41), none, 20, none⟩,
    ⟨(some 43), .move (.tmp 7), (some (42, false)), 20, none⟩,
    ⟨(some 44), .call (.func 13) [(true, (.tmp 43))] false 4, (some (42, false)), 20, none⟩,
    ⟨(some 45), .len (.tmp 44), (some (42, false)), 24, none⟩,
    ⟨(some 46), .move (.tmp 7), (some (42, false)), 24, none⟩,
    ⟨(some 47), .call (.func 14) [(true, (.tmp 46))] false 4, (some (42, false)), 24, none⟩,
    ⟨(some 48), .bin .add (.tmp 45) (.tmp 47), (some (42, false)), 28, none⟩,
    ⟨(some 49), .move (.tmp 7), (some (42, false)), 28, none⟩,
    ⟨(some 50), .call (.func 15) [(true, (.tmp 49))] false 4, (some (42, false)), 28, none⟩,
    ⟨(some 51), .bin .add (.tmp 48) (.tmp 50), (some (42, false)), 32, none⟩,
    ⟨(some 52), .bin .neq (.tmp 51) (.const (.int .i64 (0))), (some (42, false)), 32, none⟩,
    ⟨(some 53), .pick (.tmp 42) (.const (.bool true)) (.tmp 52), none, 32, none⟩,
    ⟨(some 54), .move (.tmp 53), none, 32, none⟩,
    ⟨(some 55), .move (.tmp 7), (some (54, false)), 32, none⟩,
    ⟨(some 56), .call (.func 16) [(true, (.tmp 55))] false 4, (some (54, false)), 32, none⟩,
    ⟨(some 57), .eqP true (.tmp 56) (.const (.nilp)), (some (54, false)), 36, none⟩,
    ⟨(some 58), .pick (.tmp 54) (.const (.bool true)) (.tmp 57), none, 36, none⟩] []) (.cond (.tmp 58) (.seq (.region 0 [
    ⟨(some 6), .move (.const (.bool false)), none, 0, none⟩] []) (.ret)) (.skip)))) (.seq (.seq (.region 8 [
    ⟨(some 59), .move (.tmp 1), none, 0, none⟩,
    ⟨(some 60), .call (.func 17) [(false, (.tmp 59))] false 4, none, 0, none⟩,
    ⟨(some 61), .un .not (.tmp 60), none, 4, none⟩,
    ⟨(some 62), .move (.tmp 61), none, 4, none⟩,
    ⟨(some 63), .move (.tmp 2), (some (62, false)), 4, none⟩,
    ⟨(some 64), .call (.func 17) [(false, (.tmp 63))] false 4, (some (62, false)), 4, none⟩,
    ⟨(some 65), .un .not (.tmp 64), (some (62, false)), 8, none⟩,
    ⟨(some 66), .pick (.tmp 62) (.const (.bool true)) (.tmp 65), none, 8, none⟩] []) (.cond (.tmp 66) (.seq (.region 0 [
    ⟨(some 6), .move (.const (.bool true)), none, 0, none⟩] []) (.ret)) (.skip))) (.seq (.region 4 [
    ⟨(some 68), .move (.tmp 0), none, 0, none⟩,
    ⟨(some 69), .call (.func 18) [(false, (.tmp 68))] false 4, none, 0, none⟩,
    ⟨(some 67), .move (.tmp 69), none, 4, none⟩,
    ⟨(some 70), .extract (.tmp 67) 0, none, 4, none⟩,
    ⟨(some 71), .extract (.tmp 67) 1, none, 4, none⟩,
    ⟨(some 10), .move (.tmp 70), none, 4, none⟩,
    ⟨(some 11), .move (.tmp 71), none, 4, none⟩] []) (.seq (.seq (.region 0 [
    ⟨(some 72), .move (.tmp 0), none, 0, none⟩,
    ⟨(some 73), .bin .lss (.tmp 72) (.const (.int .i64 (1))), none, 0, none⟩,
    ⟨(some 74), .move (.tmp 73), none, 0, none⟩,
    ⟨(some 75), .move (.tmp 0), (some (74, false)), 0, none⟩,
    ⟨(some 76), .bin .gtr (.tmp 75) (.const (.int .i64 (256))), (some (74, false)), 0, none⟩,
    ⟨(some 77), .pick (.tmp 74) (.const (.bool true)) (.tmp 76), none, 0, none⟩] []) (.cond (.tmp 77) (.seq (.region 0 [
    ⟨(some 78), .move (.tmp 10), none, 0, none⟩,
    ⟨(some 79), .eqP false (.tmp 78) (.const (.nilp)), none, 0, none⟩,
    ⟨(some 80), .move (.tmp 79), none, 0, none⟩,
    ⟨(some 81), .move (.tmp 11), (some (80, true)), 0, none⟩,
    ⟨(some 82), .bin .eql (.tmp 81) (.const (.int .i64 (2))), (some (80, true)), 0, none⟩,
    ⟨(some 83), .pick (.tmp 80) (.tmp 82) (.const (.bool false)), none, 0, none⟩,
    ⟨(some 6), .move (.tmp 83), none, 0, none⟩] []) (.ret)) (.skip))) (.seq (.seq (.region 4 [
    ⟨(some 84), .move (.tmp 10), none, 0, none⟩,
    ⟨(some 85), .eqP false (.tmp 84) (.const (.nilp)), none, 0, none⟩,
    ⟨(some 86), .move (.tmp 85), none, 0, none⟩,
    ⟨(some 87), .move (.tmp 11), (some (86, false)), 0, none⟩,
    ⟨(some 88), .bin .neq (.tmp 87) (.const (.int .i64 (0))), (some (86, false)), 0, none⟩,
    ⟨(some 89), .pick (.tmp 86) (.const (.bool true)) (.tmp 88), none, 0, none⟩,
    ⟨(some 90), .move (.tmp 89), none, 0, none⟩,
    ⟨(some 91), .move (.tmp 10), (some (90, false)), 0, none⟩,
    ⟨(some 92), .call (.func 15) [(true, (.tmp 91))] false 4, (some (90, false)), 0, none⟩,
    ⟨(some 93), .move (.tmp 0), (some (90, false)), 4, none⟩,
    ⟨(some 94), .bin .neq (.tmp 92) (.tmp 93), (some (90, false)), 4, none⟩,
    ⟨(some 95), .pick (.tmp 90) (.const (.bool true)) (.tmp 94), none, 4, none⟩] []) (.cond (.tmp 95) (.seq (.region 0 [
    ⟨(some 6), .move (.const (.bool false)), none, 0, none⟩] []) (.ret)) (.skip))) (.seq (.region 4 [
    ⟨(some 97), .move (.tmp 10), none, 0, none⟩,
    ⟨(some 98), .move (.tmp 1), none, 0, none⟩,
    ⟨(some 99), .move (.tmp 0), none, 0, none⟩,
    ⟨(some 100), .call (.func 19) [(true, (.tmp 97)), (false, (.const (.zsl))), (false, (.tmp 98)), (false, (.tmp 99))] false 4, none, 0, none⟩,
    ⟨(some 96), .move (.tmp 100), none, 4, none⟩,
    ⟨(some 101), .extract (.tmp 96) 0, none, 4, none⟩,
    ⟨(some 102), .extract (.tmp 96) 1, none, 4, none⟩,
    ⟨(some 12), .move (.tmp 101), none, 4, none⟩,
    ⟨(some 13), .move (.tmp 102), none, 4, none⟩] []) (.seq (.seq (.region 0 [
    ⟨(some 103), .move (.tmp 13), none, 0, none⟩,
    ⟨(some 104), .un .not (.tmp 103), none, 0, none⟩] []) (.cond (.tmp 104) (.seq (.region 0 [
    ⟨(some 6), .move (.const (.bool false)), none, 0, none⟩] []) (.ret)) (.skip))) (.seq (.region 4 [
    ⟨(some 105), .move (.tmp 10), none, 0, none⟩,
    ⟨(some 106), .call (.func 16) [(true, (.tmp 105))] false 4, none, 0, none⟩,
    ⟨(some 14), .move (.tmp 106), none, 4, none⟩] []) (.seq (.region 4 [
    ⟨(some 108), .move (.tmp 14), none, 0, none⟩,
    ⟨(some 109), .move (.tmp 12), none, 0, none⟩,
    ⟨(some 110), .move (.tmp 2), none, 0, none⟩,
    ⟨(some 111), .move (.tmp 0), none, 0, none⟩,
    ⟨(some 112), .call (.func 19) [(true, (.tmp 108)), (false, (.tmp 109)), (false, (.tmp 110)), (false, (.tmp 111))] false 4, none, 0, none⟩,
    ⟨(some 107), .move (.tmp 112), none, 4, none⟩,
    ⟨(some 113), .extract (.tmp 107) 0, none, 4, none⟩,
    ⟨(some 114), .extract (.tmp 107) 1, none, 4, none⟩,
    ⟨(some 15), .move (.tmp 113), none, 4, none⟩,
    ⟨(some 16), .move (.tmp 114), none, 4, none⟩] []) (.seq (.region 8 [
    ⟨(some 115), .move (.tmp 16), none, 0, none⟩,
    ⟨(some 116), .move (.tmp 115), none, 0, none⟩,
    ⟨(some 117), .move (.tmp 10), (some (116, true)), 0, none⟩,
    ⟨(some 118), .move (.tmp 12), (some (116, true)), 0, none⟩,
    ⟨(some 119), .call (.func 20) [(true, (.tmp 117)), (false, (.tmp 118)), (false, (.const (.int .i64 (1))))] false 4, (some (116, true)), 0, none⟩,
    ⟨(some 120), .pick (.tmp 116) (.tmp 119) (.const (.bool false)), none, 4, none⟩,
    ⟨(some 121), .move (.tmp 120), none, 4, none⟩,
    ⟨(some 122), .move (.tmp 14), (some (121, true)), 4, none⟩,
    ⟨(some 123), .move (.tmp 15), (some (121, true)), 4, none⟩,
    ⟨(some 124), .call (.func 20) [(true, (.tmp 122)), (false, (.tmp 123)), (false, (.const (.int .i64 (1))))] false 4, (some (121, true)), 4, none⟩,
    ⟨(some 125), .pick (.tmp 121) (.tmp 124) (.const (.bool false)), none, 8, none⟩,
    ⟨(some 6), .move (.tmp 125), none, 8, none⟩] []) (.ret))))))))))))), [.tmp 6], true⟩
def s3 : Sig := ⟨(.cons (.v (.int .i64)) (.cons (.v (.list (.pair (.int .i64) .job))) (.cons (.v (.list (.pair (.int .i64) .job))) .nil))), [], ((.v .bool), []), []⟩
def F3 (L : Lp) (g7 : Option Bool) (g8 : Int → Option (Job × (Bool × Unit))) (g10 : Int → Option Job) (g9 : Job → Option Int) (g11 : Job → Option Int) (g12 : Int → Option Int) (g13 : Option (List Job)) (g14 : Option Int) (g15 : Option Int) (g16 : Option Unit) (g17 : (List (Int × Job)) → Option Bool) (g18 : Int → Option ((Unit × (Int × Unit)) ⊕ ((Unit × (Int × Unit)) × ((Int × (Unit × Unit)) × Unit)))) (g15_1 : Int → Option (Int × ((Int × (Unit × Unit)) × Unit))) (g19 : (List Job) → (List (Int × Job)) → Int → Int → Option (((List Job) × (Bool × Unit)) × ((Int × (Unit × Unit)) × ((List Job) × Unit)))) (g16_1 : Int → (List Job) → Option (Unit × ((Int × (Unit × Unit)) × ((List Job) × ((Int × (Unit × Unit)) × ((List Job) × Unit)))))) (g19_1 : (List Job) → (List (Int × Job)) → Int → Int → (List Job) → Option (((List Job) × (Bool × Unit)) × ((Int × (Unit × Unit)) × (Unit × ((List Job) × Unit))))) (g20 : (List Job) → Int → Int → (List Job) → Option (Bool × ((Int × (Unit × Unit)) × ((List Job) × Unit)))) (places0 : Int) (a1 : (List (Int × Job))) (b2 : (List (Int × Job))) : Option Bool :=
  Option.bind (g7) fun r3 =>
  cond (!r3)
  (some false)
  (Option.bind (g8 1) fun r4 =>
  cond r4.2.1
  (some false)
  (Option.bind (g10 1) fun r5 =>
  Option.bind (g9 r5) fun r6 =>
  cond (!decide (r6 = 1))
  (some false)
  (Option.bind (g10 1) fun r7 =>
  Option.bind (g11 r7) fun r8 =>
  cond (!decide (r8 = 1))
  (some false)
  (Option.bind (g12 1) fun r9 =>
  cond (!decide (r9 = 1))
  (some false)
  (Option.bind (g13) fun r10 =>
  Option.bind (g14) fun r11 =>
  Option.bind (g15) fun r12 =>
  cond (!decide ((IntKind.wrap .i64 ((IntKind.wrap .i64 ((List.length r10 : Int) + r11)) + r12)) = 0))
  (some false)
  (Option.bind (g16) fun r13 =>
  Option.bind (g17 a1) fun r14 =>
  cond (!r14)
  (some true)
  (Option.bind (g17 b2) fun r15 =>
  cond (!r15)
  (some true)
  (Option.bind (g18 places0) (Sum.elim (fun r16 =>
  cond (decide (places0 < 1))
  (some (decide (r16.2.1 = 2)))
  (cond (decide (256 < places0))
  (some (decide (r16.2.1 = 2)))
  (some false))) (fun r17 =>
  cond (decide (places0 < 1))
  (some false)
  (cond (decide (256 < places0))
  (some false)
  (cond (!decide (r17.1.2.1 = 0))
  (some false)
  (Option.bind (g15_1 r17.2.1.1) fun r18 =>
  cond (!decide (r18.1 = places0))
  (some false)
  (Option.bind (g19 [] a1 places0 r18.2.1.1) fun r19 =>
  cond (!r19.1.2.1)
  (some false)
  (Option.bind (g16_1 r19.2.1.1 r19.2.2.1) fun r20 =>
  cond (true && ((decide ((List.length r20.2.2.1) = (List.length r19.2.2.1))) && true))
  (Option.bind (g19_1 r19.1.1 b2 places0 r20.2.2.2.1.1 r20.2.2.2.2.1) fun r21 =>
  cond r21.1.2.1
  (Option.bind (g20 r19.1.1 1 r20.2.1.1 r20.2.2.1) fun r22 =>
  cond (true && ((decide ((List.length r22.2.2.1) = (List.length r20.2.2.1))) && true))
  (cond r22.1
  (Option.bind (g20 r21.1.1 1 r21.2.1.1 r21.2.2.2.1) fun r23 =>
  cond (true && ((decide ((List.length r23.2.2.1) = (List.length r21.2.2.2.1))) && true))
  (some r23.1)
  (none))
  (some false))
  (none))
  (some false))
  (none))))))))))))))))
theorem e3 (L : Lp) (g7 : Option Bool) (g8 : Int → Option (Job × (Bool × Unit))) (g10 : Int → Option Job) (g9 : Job → Option Int) (g11 : Job → Option Int) (g12 : Int → Option Int) (g13 : Option (List Job)) (g14 : Option Int) (g15 : Option Int) (g16 : Option Unit) (g17 : (List (Int × Job)) → Option Bool) (g18 : Int → Option ((Unit × (Int × Unit)) ⊕ ((Unit × (Int × Unit)) × ((Int × (Unit × Unit)) × Unit)))) (g15_1 : Int → Option (Int × ((Int × (Unit × Unit)) × Unit))) (g19 : (List Job) → (List (Int × Job)) → Int → Int → Option (((List Job) × (Bool × Unit)) × ((Int × (Unit × Unit)) × ((List Job) × Unit)))) (g16_1 : Int → (List Job) → Option (Unit × ((Int × (Unit × Unit)) × ((List Job) × ((Int × (Unit × Unit)) × ((List Job) × Unit)))))) (g19_1 : (List Job) → (List (Int × Job)) → Int → Int → (List Job) → Option (((List Job) × (Bool × Unit)) × ((Int × (Unit × Unit)) × (Unit × ((List Job) × Unit))))) (g20 : (List Job) → Int → Int → (List Job) → Option (Bool × ((Int × (Unit × Unit)) × ((List Job) × Unit)))) (x : s3.args.den) (h : denH s3.heap) : nrun [⟨7, s7, fun x h => g7 ⟩, ⟨8, s8, fun x h => g8 x.2.1⟩, ⟨10, s10, fun x h => g10 x.1⟩, ⟨9, s9, fun x h => g9 x.2.1⟩, ⟨11, s11, fun x h => g11 x.2.1⟩, ⟨12, s12, fun x h => g12 x.2.1⟩, ⟨13, s13, fun x h => g13 ⟩, ⟨14, s14, fun x h => g14 ⟩, ⟨15, s15, fun x h => g15 ⟩, ⟨16, s16, fun x h => g16 ⟩, ⟨17, s17, fun x h => g17 x.1⟩, ⟨18, s18, fun x h => g18 x.1⟩, ⟨15, s15_1, fun x h => g15_1 h.1.1⟩, ⟨19, s19, fun x h => g19 x.2.1 x.2.2.1 x.2.2.2.1 h.1.1⟩, ⟨16, s16_1, fun x h => g16_1 h.1.1 h.2.1⟩, ⟨19, s19_1, fun x h => g19_1 x.2.1 x.2.2.1 x.2.2.2.1 h.1.1 h.2.1⟩, ⟨20, s20, fun x h => g20 x.2.1 x.2.2.1 h.1.1 h.2.1⟩] L n3 s3 x h = F3 L g7 g8 g10 g9 g11 g12 g13 g14 g15 g16 g17 g18 g15_1 g19 g16_1 g19_1 g20 x.1 x.2.1 x.2.2.1 := by kernel_rfl
def f3 : Int → (List (Int × Job)) → (List (Int × Job)) → Option Bool := F3 (@LN LOOPS) f7 f8 f10 f9 f11 f12 f13 f14 f15 f16 f17 f18 f15_1 f19 f16_1 f19_1 f20
@[reducible] def t3 : Ent := ⟨3, s3, fun x h => f3 x.1 x.2.1 x.2.2.1⟩
theorem k3 : chkNF Try.prog Try.f3 n3 = true := by kernel_rfl
theorem ok3 : NOk Try.prog t3 := NOk.body (T := [t7, t8, t10, t9, t11, t12, t13, t14, t15, t16, t17, t18, t15_1, t19, t16_1, t19_1, t20]) mixed (nall_cons ok7 (nall_cons ok8 (nall_cons ok10 (nall_cons ok9 (nall_cons ok11 (nall_cons ok12 (nall_cons ok13 (nall_cons ok14 (nall_cons ok15 (nall_cons ok16 (nall_cons ok17 (nall_cons ok18 (nall_cons ok15_1 (nall_cons ok19 (nall_cons ok16_1 (nall_cons ok19_1 (nall_cons ok20 nall_nil))))))))))))))))) (oneEach_of (by kernel_rfl)) Try.func3 k3 (by kernel_rfl) (fun x h => e3 _ _ _ _ _ _ _ _ _ _ _ _ _ _ _ _ _ _ x h)
end NM
end Go.Proofs.Ytnggfgfeghmddaa
