/-
  Requests: the document's rightness and bytes; what is written is read as it was.
-/
import Derived.Test.YtgpejfddaelobaaPAskD
set_option linter.unusedVariables false
set_option linter.unusedSimpArgs false
namespace Go.Proofs.Ytgpejfddaelobaa
namespace NM
open AM

theorem any_fold (l : List Int) (j : Int) : (l.any fun x => decide (x = j)) = l.foldl (fun b x => b || decide (x = j)) false := by
  have : ∀ (l : List Int) (b : Bool), l.foldl (fun b x => b || decide (x = j)) b = (b || l.any fun x => decide (x = j)) := by
    intro l
    induction l with
    | nil => intro b; simp
    | cons x l ih => intro b; simp only [List.foldl_cons, ih, List.any_cons, Bool.or_assoc]
  rw [this l false]; simp
theorem r_fields {k : Int} (h1 : 1 ≤ k) (h2 : k ≤ 12) : f81 k = some (fieldsL k) := by
  rcases kinds h1 h2 with rfl | rfl | rfl | rfl | rfl | rfl | rfl | rfl | rfl | rfl | rfl | rfl <;> rfl
/-- the checks from a number on -/
def chkGo (r : Request) : Nat → Nat → Option (((Unit × Unit) × (Request × Unit)) ⊕ Bool)
  | 0, _ => some (.inl (((), ()), (r, ())))
  | n + 1, j => cond (chkF r j) (chkGo r n (j + 1)) (some (.inr false))
def chkFrom (r : Request) (j : Nat) : Option (((Unit × Unit) × (Request × Unit)) ⊕ Bool) := chkGo r (15 - j) j
theorem chkFrom_1 (r : Request) : chkFrom r 1 = cond (chkF r 1) (chkFrom r 2) (some (.inr false)) := rfl
theorem chkFrom_2 (r : Request) : chkFrom r 2 = cond (chkF r 2) (chkFrom r 3) (some (.inr false)) := rfl
theorem chkFrom_3 (r : Request) : chkFrom r 3 = cond (chkF r 3) (chkFrom r 4) (some (.inr false)) := rfl
theorem chkFrom_4 (r : Request) : chkFrom r 4 = cond (chkF r 4) (chkFrom r 5) (some (.inr false)) := rfl
theorem chkFrom_5 (r : Request) : chkFrom r 5 = cond (chkF r 5) (chkFrom r 6) (some (.inr false)) := rfl
theorem chkFrom_6 (r : Request) : chkFrom r 6 = cond (chkF r 6) (chkFrom r 7) (some (.inr false)) := rfl
theorem chkFrom_7 (r : Request) : chkFrom r 7 = cond (chkF r 7) (chkFrom r 8) (some (.inr false)) := rfl
theorem chkFrom_8 (r : Request) : chkFrom r 8 = cond (chkF r 8) (chkFrom r 9) (some (.inr false)) := rfl
theorem chkFrom_9 (r : Request) : chkFrom r 9 = cond (chkF r 9) (chkFrom r 10) (some (.inr false)) := rfl
theorem chkFrom_10 (r : Request) : chkFrom r 10 = cond (chkF r 10) (chkFrom r 11) (some (.inr false)) := rfl
theorem chkFrom_11 (r : Request) : chkFrom r 11 = cond (chkF r 11) (chkFrom r 12) (some (.inr false)) := rfl
theorem chkFrom_12 (r : Request) : chkFrom r 12 = cond (chkF r 12) (chkFrom r 13) (some (.inr false)) := rfl
theorem chkFrom_13 (r : Request) : chkFrom r 13 = cond (chkF r 13) (chkFrom r 14) (some (.inr false)) := rfl
theorem chkFrom_14 (r : Request) : chkFrom r 14 = cond (chkF r 14) (some (.inl (((), ()), (r, ())))) (some (.inr false)) := rfl
theorem chk_14 (r : Request) : LN LOOPS (fun (s : ((Unit × (Bool × (Int × Unit))) × (Request × Unit))) nx => l25_0 f34 (getF r) (fieldsL r.kind) nx s.1.2.1 s.1.2.2.1 s.2.1) (((), false, 0, ()), (r, ())) = chkFrom r 14 := by
  have hml : maxLen = 9223372036854775807 := rfl
  have hf8 : (fieldsL r.kind).length ≤ 8 := by unfold fieldsL; (repeat' split) <;> simp
  rw [fold_loop (fieldsL r.kind) (fun b z => (((), b, z, ()), (r, ()))) (fun b x => b || decide (x = 14)) (fun b => cond (cond b (inN ((getF r).getD 14 0)) (decide ((getF r).getD 14 0 = 0))) (some (.inl (((), ()), (r, ())))) (some (.inr false))) (by omega) (fun b next => ?_) (fun b z x next h0 h1 h2 h3 => ?_) false]
  · rw [chkFrom_14]
    unfold chkF
    rw [any_fold]
    rfl
  · have hg : (getF r)[14]? = some ((getF r).getD 14 0) := rfl
    simp only [l25_0, Int.lt_irrefl, decide_false, cond_false, hg, Option.bind_some, r_Right5]
    cases b <;> cases inN ((getF r).getD 14 0) <;> cases decide ((getF r).getD 14 0 = 0) <;> rfl
  · simp only [l25_0, h0, h1, h2, h3, decide_true, cond_true, Option.bind_some]
    cases b <;> simp
theorem chk_13 (r : Request) : LN LOOPS (fun (s : ((Unit × (Bool × (Int × Unit))) × (Request × Unit))) nx => l25_1 (@LN LOOPS) f34 (getF r) (fieldsL r.kind) nx s.1.2.1 s.1.2.2.1 s.2.1) (((), false, 0, ()), (r, ())) = chkFrom r 13 := by
  have hml : maxLen = 9223372036854775807 := rfl
  have hf8 : (fieldsL r.kind).length ≤ 8 := by unfold fieldsL; (repeat' split) <;> simp
  rw [fold_loop (fieldsL r.kind) (fun b z => (((), b, z, ()), (r, ()))) (fun b x => b || decide (x = 13)) (fun b => cond (cond b (inN ((getF r).getD 13 0)) (decide ((getF r).getD 13 0 = 0))) (chkFrom r 14) (some (.inr false))) (by omega) (fun b next => ?_) (fun b z x next h0 h1 h2 h3 => ?_) false]
  · rw [chkFrom_13]
    unfold chkF
    rw [any_fold]
    rfl
  · have hg : (getF r)[13]? = some ((getF r).getD 13 0) := rfl
    simp only [l25_1, Int.lt_irrefl, decide_false, cond_false, hg, Option.bind_some, r_Right5, chk_14]
    cases b <;> cases inN ((getF r).getD 13 0) <;> cases decide ((getF r).getD 13 0 = 0) <;> simp only [cond_true, cond_false, Bool.not_true, Bool.not_false, Option.bind_some, chk_14]
  · simp only [l25_1, h0, h1, h2, h3, decide_true, cond_true, Option.bind_some]
    cases b <;> simp
theorem chk_12 (r : Request) : LN LOOPS (fun (s : ((Unit × (Bool × (Int × Unit))) × (Request × Unit))) nx => l25_2 (@LN LOOPS) f34 (getF r) (fieldsL r.kind) nx s.1.2.1 s.1.2.2.1 s.2.1) (((), false, 0, ()), (r, ())) = chkFrom r 12 := by
  have hml : maxLen = 9223372036854775807 := rfl
  have hf8 : (fieldsL r.kind).length ≤ 8 := by unfold fieldsL; (repeat' split) <;> simp
  rw [fold_loop (fieldsL r.kind) (fun b z => (((), b, z, ()), (r, ()))) (fun b x => b || decide (x = 12)) (fun b => cond (cond b (inN ((getF r).getD 12 0)) (decide ((getF r).getD 12 0 = 0))) (chkFrom r 13) (some (.inr false))) (by omega) (fun b next => ?_) (fun b z x next h0 h1 h2 h3 => ?_) false]
  · rw [chkFrom_12]
    unfold chkF
    rw [any_fold]
    rfl
  · have hg : (getF r)[12]? = some ((getF r).getD 12 0) := rfl
    simp only [l25_2, Int.lt_irrefl, decide_false, cond_false, hg, Option.bind_some, r_Right5, chk_13]
    cases b <;> cases inN ((getF r).getD 12 0) <;> cases decide ((getF r).getD 12 0 = 0) <;> simp only [cond_true, cond_false, Bool.not_true, Bool.not_false, Option.bind_some, chk_13]
  · simp only [l25_2, h0, h1, h2, h3, decide_true, cond_true, Option.bind_some]
    cases b <;> simp
theorem chk_11 (r : Request) : LN LOOPS (fun (s : ((Unit × (Bool × (Int × Unit))) × (Request × Unit))) nx => l25_3 (@LN LOOPS) f34 (getF r) (fieldsL r.kind) nx s.1.2.1 s.1.2.2.1 s.2.1) (((), false, 0, ()), (r, ())) = chkFrom r 11 := by
  have hml : maxLen = 9223372036854775807 := rfl
  have hf8 : (fieldsL r.kind).length ≤ 8 := by unfold fieldsL; (repeat' split) <;> simp
  rw [fold_loop (fieldsL r.kind) (fun b z => (((), b, z, ()), (r, ()))) (fun b x => b || decide (x = 11)) (fun b => cond (cond b (inN ((getF r).getD 11 0)) (decide ((getF r).getD 11 0 = 0))) (chkFrom r 12) (some (.inr false))) (by omega) (fun b next => ?_) (fun b z x next h0 h1 h2 h3 => ?_) false]
  · rw [chkFrom_11]
    unfold chkF
    rw [any_fold]
    rfl
  · have hg : (getF r)[11]? = some ((getF r).getD 11 0) := rfl
    simp only [l25_3, Int.lt_irrefl, decide_false, cond_false, hg, Option.bind_some, r_Right5, chk_12]
    cases b <;> cases inN ((getF r).getD 11 0) <;> cases decide ((getF r).getD 11 0 = 0) <;> simp only [cond_true, cond_false, Bool.not_true, Bool.not_false, Option.bind_some, chk_12]
  · simp only [l25_3, h0, h1, h2, h3, decide_true, cond_true, Option.bind_some]
    cases b <;> simp
theorem chk_10 (r : Request) : LN LOOPS (fun (s : ((Unit × (Bool × (Int × Unit))) × (Request × Unit))) nx => l25_4 (@LN LOOPS) f34 (getF r) (fieldsL r.kind) nx s.1.2.1 s.1.2.2.1 s.2.1) (((), false, 0, ()), (r, ())) = chkFrom r 10 := by
  have hml : maxLen = 9223372036854775807 := rfl
  have hf8 : (fieldsL r.kind).length ≤ 8 := by unfold fieldsL; (repeat' split) <;> simp
  rw [fold_loop (fieldsL r.kind) (fun b z => (((), b, z, ()), (r, ()))) (fun b x => b || decide (x = 10)) (fun b => cond (cond b (inN ((getF r).getD 10 0)) (decide ((getF r).getD 10 0 = 0))) (chkFrom r 11) (some (.inr false))) (by omega) (fun b next => ?_) (fun b z x next h0 h1 h2 h3 => ?_) false]
  · rw [chkFrom_10]
    unfold chkF
    rw [any_fold]
    rfl
  · have hg : (getF r)[10]? = some ((getF r).getD 10 0) := rfl
    simp only [l25_4, Int.lt_irrefl, decide_false, cond_false, hg, Option.bind_some, r_Right5, chk_11]
    cases b <;> cases inN ((getF r).getD 10 0) <;> cases decide ((getF r).getD 10 0 = 0) <;> simp only [cond_true, cond_false, Bool.not_true, Bool.not_false, Option.bind_some, chk_11]
  · simp only [l25_4, h0, h1, h2, h3, decide_true, cond_true, Option.bind_some]
    cases b <;> simp
theorem chk_9 (r : Request) : LN LOOPS (fun (s : ((Unit × (Bool × (Int × Unit))) × (Request × Unit))) nx => l25_5 (@LN LOOPS) f34 (getF r) (fieldsL r.kind) nx s.1.2.1 s.1.2.2.1 s.2.1) (((), false, 0, ()), (r, ())) = chkFrom r 9 := by
  have hml : maxLen = 9223372036854775807 := rfl
  have hf8 : (fieldsL r.kind).length ≤ 8 := by unfold fieldsL; (repeat' split) <;> simp
  rw [fold_loop (fieldsL r.kind) (fun b z => (((), b, z, ()), (r, ()))) (fun b x => b || decide (x = 9)) (fun b => cond (cond b (inN ((getF r).getD 9 0)) (decide ((getF r).getD 9 0 = 0))) (chkFrom r 10) (some (.inr false))) (by omega) (fun b next => ?_) (fun b z x next h0 h1 h2 h3 => ?_) false]
  · rw [chkFrom_9]
    unfold chkF
    rw [any_fold]
    rfl
  · have hg : (getF r)[9]? = some ((getF r).getD 9 0) := rfl
    simp only [l25_5, Int.lt_irrefl, decide_false, cond_false, hg, Option.bind_some, r_Right5, chk_10]
    cases b <;> cases inN ((getF r).getD 9 0) <;> cases decide ((getF r).getD 9 0 = 0) <;> simp only [cond_true, cond_false, Bool.not_true, Bool.not_false, Option.bind_some, chk_10]
  · simp only [l25_5, h0, h1, h2, h3, decide_true, cond_true, Option.bind_some]
    cases b <;> simp
theorem chk_8 (r : Request) : LN LOOPS (fun (s : ((Unit × (Bool × (Int × Unit))) × (Request × Unit))) nx => l25_6 (@LN LOOPS) f34 (getF r) (fieldsL r.kind) nx s.1.2.1 s.1.2.2.1 s.2.1) (((), false, 0, ()), (r, ())) = chkFrom r 8 := by
  have hml : maxLen = 9223372036854775807 := rfl
  have hf8 : (fieldsL r.kind).length ≤ 8 := by unfold fieldsL; (repeat' split) <;> simp
  rw [fold_loop (fieldsL r.kind) (fun b z => (((), b, z, ()), (r, ()))) (fun b x => b || decide (x = 8)) (fun b => cond (cond b (inN ((getF r).getD 8 0)) (decide ((getF r).getD 8 0 = 0))) (chkFrom r 9) (some (.inr false))) (by omega) (fun b next => ?_) (fun b z x next h0 h1 h2 h3 => ?_) false]
  · rw [chkFrom_8]
    unfold chkF
    rw [any_fold]
    rfl
  · have hg : (getF r)[8]? = some ((getF r).getD 8 0) := rfl
    simp only [l25_6, Int.lt_irrefl, decide_false, cond_false, hg, Option.bind_some, r_Right5, chk_9]
    cases b <;> cases inN ((getF r).getD 8 0) <;> cases decide ((getF r).getD 8 0 = 0) <;> simp only [cond_true, cond_false, Bool.not_true, Bool.not_false, Option.bind_some, chk_9]
  · simp only [l25_6, h0, h1, h2, h3, decide_true, cond_true, Option.bind_some]
    cases b <;> simp
theorem chk_7 (r : Request) : LN LOOPS (fun (s : ((Unit × (Bool × (Int × Unit))) × (Request × Unit))) nx => l25_7 (@LN LOOPS) f34 (getF r) (fieldsL r.kind) nx s.1.2.1 s.1.2.2.1 s.2.1) (((), false, 0, ()), (r, ())) = chkFrom r 7 := by
  have hml : maxLen = 9223372036854775807 := rfl
  have hf8 : (fieldsL r.kind).length ≤ 8 := by unfold fieldsL; (repeat' split) <;> simp
  rw [fold_loop (fieldsL r.kind) (fun b z => (((), b, z, ()), (r, ()))) (fun b x => b || decide (x = 7)) (fun b => cond (cond b (inN ((getF r).getD 7 0)) (decide ((getF r).getD 7 0 = 0))) (chkFrom r 8) (some (.inr false))) (by omega) (fun b next => ?_) (fun b z x next h0 h1 h2 h3 => ?_) false]
  · rw [chkFrom_7]
    unfold chkF
    rw [any_fold]
    rfl
  · have hg : (getF r)[7]? = some ((getF r).getD 7 0) := rfl
    simp only [l25_7, Int.lt_irrefl, decide_false, cond_false, hg, Option.bind_some, r_Right5, chk_8]
    cases b <;> cases inN ((getF r).getD 7 0) <;> cases decide ((getF r).getD 7 0 = 0) <;> simp only [cond_true, cond_false, Bool.not_true, Bool.not_false, Option.bind_some, chk_8]
  · simp only [l25_7, h0, h1, h2, h3, decide_true, cond_true, Option.bind_some]
    cases b <;> simp
theorem chk_6 (r : Request) : LN LOOPS (fun (s : ((Unit × (Bool × (Int × Unit))) × (Request × Unit))) nx => l25_8 (@LN LOOPS) f34 (getF r) (fieldsL r.kind) nx s.1.2.1 s.1.2.2.1 s.2.1) (((), false, 0, ()), (r, ())) = chkFrom r 6 := by
  have hml : maxLen = 9223372036854775807 := rfl
  have hf8 : (fieldsL r.kind).length ≤ 8 := by unfold fieldsL; (repeat' split) <;> simp
  rw [fold_loop (fieldsL r.kind) (fun b z => (((), b, z, ()), (r, ()))) (fun b x => b || decide (x = 6)) (fun b => cond (cond b (inN ((getF r).getD 6 0)) (decide ((getF r).getD 6 0 = 0))) (chkFrom r 7) (some (.inr false))) (by omega) (fun b next => ?_) (fun b z x next h0 h1 h2 h3 => ?_) false]
  · rw [chkFrom_6]
    unfold chkF
    rw [any_fold]
    rfl
  · have hg : (getF r)[6]? = some ((getF r).getD 6 0) := rfl
    simp only [l25_8, Int.lt_irrefl, decide_false, cond_false, hg, Option.bind_some, r_Right5, chk_7]
    cases b <;> cases inN ((getF r).getD 6 0) <;> cases decide ((getF r).getD 6 0 = 0) <;> simp only [cond_true, cond_false, Bool.not_true, Bool.not_false, Option.bind_some, chk_7]
  · simp only [l25_8, h0, h1, h2, h3, decide_true, cond_true, Option.bind_some]
    cases b <;> simp
theorem chk_5 (r : Request) : LN LOOPS (fun (s : ((Unit × (Bool × (Int × Unit))) × (Request × Unit))) nx => l25_9 (@LN LOOPS) f34 (getF r) (fieldsL r.kind) nx s.1.2.1 s.1.2.2.1 s.2.1) (((), false, 0, ()), (r, ())) = chkFrom r 5 := by
  have hml : maxLen = 9223372036854775807 := rfl
  have hf8 : (fieldsL r.kind).length ≤ 8 := by unfold fieldsL; (repeat' split) <;> simp
  rw [fold_loop (fieldsL r.kind) (fun b z => (((), b, z, ()), (r, ()))) (fun b x => b || decide (x = 5)) (fun b => cond (cond b (inN ((getF r).getD 5 0)) (decide ((getF r).getD 5 0 = 0))) (chkFrom r 6) (some (.inr false))) (by omega) (fun b next => ?_) (fun b z x next h0 h1 h2 h3 => ?_) false]
  · rw [chkFrom_5]
    unfold chkF
    rw [any_fold]
    rfl
  · have hg : (getF r)[5]? = some ((getF r).getD 5 0) := rfl
    simp only [l25_9, Int.lt_irrefl, decide_false, cond_false, hg, Option.bind_some, r_Right5, chk_6]
    cases b <;> cases inN ((getF r).getD 5 0) <;> cases decide ((getF r).getD 5 0 = 0) <;> simp only [cond_true, cond_false, Bool.not_true, Bool.not_false, Option.bind_some, chk_6]
  · simp only [l25_9, h0, h1, h2, h3, decide_true, cond_true, Option.bind_some]
    cases b <;> simp
theorem chk_4 (r : Request) : LN LOOPS (fun (s : ((Unit × (Bool × (Int × Unit))) × (Request × Unit))) nx => l25_10 (@LN LOOPS) f34 (getF r) (fieldsL r.kind) nx s.1.2.1 s.1.2.2.1 s.2.1) (((), false, 0, ()), (r, ())) = chkFrom r 4 := by
  have hml : maxLen = 9223372036854775807 := rfl
  have hf8 : (fieldsL r.kind).length ≤ 8 := by unfold fieldsL; (repeat' split) <;> simp
  rw [fold_loop (fieldsL r.kind) (fun b z => (((), b, z, ()), (r, ()))) (fun b x => b || decide (x = 4)) (fun b => cond (cond b (inN ((getF r).getD 4 0)) (decide ((getF r).getD 4 0 = 0))) (chkFrom r 5) (some (.inr false))) (by omega) (fun b next => ?_) (fun b z x next h0 h1 h2 h3 => ?_) false]
  · rw [chkFrom_4]
    unfold chkF
    rw [any_fold]
    rfl
  · have hg : (getF r)[4]? = some ((getF r).getD 4 0) := rfl
    simp only [l25_10, Int.lt_irrefl, decide_false, cond_false, hg, Option.bind_some, r_Right5, chk_5]
    cases b <;> cases inN ((getF r).getD 4 0) <;> cases decide ((getF r).getD 4 0 = 0) <;> simp only [cond_true, cond_false, Bool.not_true, Bool.not_false, Option.bind_some, chk_5]
  · simp only [l25_10, h0, h1, h2, h3, decide_true, cond_true, Option.bind_some]
    cases b <;> simp
theorem chk_3 (r : Request) : LN LOOPS (fun (s : ((Unit × (Bool × (Int × Unit))) × (Request × Unit))) nx => l25_11 (@LN LOOPS) f34 (getF r) (fieldsL r.kind) nx s.1.2.1 s.1.2.2.1 s.2.1) (((), false, 0, ()), (r, ())) = chkFrom r 3 := by
  have hml : maxLen = 9223372036854775807 := rfl
  have hf8 : (fieldsL r.kind).length ≤ 8 := by unfold fieldsL; (repeat' split) <;> simp
  rw [fold_loop (fieldsL r.kind) (fun b z => (((), b, z, ()), (r, ()))) (fun b x => b || decide (x = 3)) (fun b => cond (cond b (inN ((getF r).getD 3 0)) (decide ((getF r).getD 3 0 = 0))) (chkFrom r 4) (some (.inr false))) (by omega) (fun b next => ?_) (fun b z x next h0 h1 h2 h3 => ?_) false]
  · rw [chkFrom_3]
    unfold chkF
    rw [any_fold]
    rfl
  · have hg : (getF r)[3]? = some ((getF r).getD 3 0) := rfl
    simp only [l25_11, Int.lt_irrefl, decide_false, cond_false, hg, Option.bind_some, r_Right5, chk_4]
    cases b <;> cases inN ((getF r).getD 3 0) <;> cases decide ((getF r).getD 3 0 = 0) <;> simp only [cond_true, cond_false, Bool.not_true, Bool.not_false, Option.bind_some, chk_4]
  · simp only [l25_11, h0, h1, h2, h3, decide_true, cond_true, Option.bind_some]
    cases b <;> simp
theorem chk_2 (r : Request) : LN LOOPS (fun (s : ((Unit × (Bool × (Int × Unit))) × (Request × Unit))) nx => l25_12 (@LN LOOPS) f34 (getF r) (fieldsL r.kind) nx s.1.2.1 s.1.2.2.1 s.2.1) (((), false, 0, ()), (r, ())) = chkFrom r 2 := by
  have hml : maxLen = 9223372036854775807 := rfl
  have hf8 : (fieldsL r.kind).length ≤ 8 := by unfold fieldsL; (repeat' split) <;> simp
  rw [fold_loop (fieldsL r.kind) (fun b z => (((), b, z, ()), (r, ()))) (fun b x => b || decide (x = 2)) (fun b => cond (cond b (inN ((getF r).getD 2 0)) (decide ((getF r).getD 2 0 = 0))) (chkFrom r 3) (some (.inr false))) (by omega) (fun b next => ?_) (fun b z x next h0 h1 h2 h3 => ?_) false]
  · rw [chkFrom_2]
    unfold chkF
    rw [any_fold]
    rfl
  · have hg : (getF r)[2]? = some ((getF r).getD 2 0) := rfl
    simp only [l25_12, Int.lt_irrefl, decide_false, cond_false, hg, Option.bind_some, r_Right5, chk_3]
    cases b <;> cases inN ((getF r).getD 2 0) <;> cases decide ((getF r).getD 2 0 = 0) <;> simp only [cond_true, cond_false, Bool.not_true, Bool.not_false, Option.bind_some, chk_3]
  · simp only [l25_12, h0, h1, h2, h3, decide_true, cond_true, Option.bind_some]
    cases b <;> simp
theorem chk_1 (r : Request) : LN LOOPS (fun (s : ((Unit × (Bool × (Int × Unit))) × (Request × Unit))) nx => l25_13 (@LN LOOPS) f34 (getF r) (fieldsL r.kind) nx s.1.2.1 s.1.2.2.1 s.2.1) (((), false, 0, ()), (r, ())) = chkFrom r 1 := by
  have hml : maxLen = 9223372036854775807 := rfl
  have hf8 : (fieldsL r.kind).length ≤ 8 := by unfold fieldsL; (repeat' split) <;> simp
  rw [fold_loop (fieldsL r.kind) (fun b z => (((), b, z, ()), (r, ()))) (fun b x => b || decide (x = 1)) (fun b => cond (cond b (inN ((getF r).getD 1 0)) (decide ((getF r).getD 1 0 = 0))) (chkFrom r 2) (some (.inr false))) (by omega) (fun b next => ?_) (fun b z x next h0 h1 h2 h3 => ?_) false]
  · rw [chkFrom_1]
    unfold chkF
    rw [any_fold]
    rfl
  · have hg : (getF r)[1]? = some ((getF r).getD 1 0) := rfl
    simp only [l25_13, Int.lt_irrefl, decide_false, cond_false, hg, Option.bind_some, r_Right5, chk_2]
    cases b <;> cases inN ((getF r).getD 1 0) <;> cases decide ((getF r).getD 1 0 = 0) <;> simp only [cond_true, cond_false, Bool.not_true, Bool.not_false, Option.bind_some, chk_2]
  · simp only [l25_13, h0, h1, h2, h3, decide_true, cond_true, Option.bind_some]
    cases b <;> simp
theorem chk_all (r : Request) : chkFrom r 1 = some (if [1, 2, 3, 4, 5, 6, 7, 8, 9, 10, 11, 12, 13, 14].all (chkF r) = true then .inl (((), ()), (r, ())) else .inr false) := by
  have key : ∀ n j, chkGo r n j = some (if (List.range' j n).all (chkF r) = true then .inl (((), ()), (r, ())) else .inr false) := by
    intro n
    induction n with
    | zero => intro j; simp [chkGo]
    | succ n ih =>
      intro j
      simp only [chkGo, ih, List.range'_succ, List.all_cons]
      cases chkF r j <;> simp only [cond_true, cond_false, Bool.true_and, Bool.false_and]
      simp
  exact key 14 1
theorem r_rightAsk (r : Request) : f25 r = some (rightQ r) := by
  unfold f25 F25 rightQ
  have hml : maxLen = 9223372036854775807 := rfl
  by_cases h1 : r.kind < 1
  · simp [h1, show ¬ 1 ≤ r.kind by omega]
  · by_cases h2 : 12 < r.kind
    · simp [h1, h2, show ¬ r.kind ≤ 12 by omega]
    · by_cases h3 : r.key < 1
      · simp [h1, h2, h3, show ¬ 1 ≤ r.key by omega]
      · by_cases h4 : 1073741824 < r.key
        · simp [h1, h2, h3, h4, show ¬ r.key ≤ 1073741824 by omega]
        · by_cases h5 : (4 : Int) < (r.after.length : Int)
          · simp [h1, h2, h3, h4, h5, show ¬ r.after.length ≤ 4 by omega]
          · have main : (Option.bind (some (Sum.inl (((), ()), (r, ())) : ((Unit × Unit) × (Request × Unit)) ⊕ Bool)) (Sum.elim (fun x1 =>
                Option.bind (f65 x1.2.1) fun r2 =>
                Option.bind (f81 x1.2.1.kind) fun r3 =>
                Option.bind (α := (((Unit × Unit) × (Request × Unit)) ⊕ Bool))
                  (LN LOOPS (fun (s4 : ((Unit × (Bool × (Int × Unit))) × (Request × Unit))) nx5 => l25_13 (@LN LOOPS) f34 r2 r3 nx5 s4.1.2.1 s4.1.2.2.1 s4.2.1) (((), false, 0, ()), (x1.2.1, ()))) (Sum.elim (fun x158 =>
                  LN LOOPS (fun (s159 : ((Unit × (Int × Unit)) × (Request × Unit))) nx160 => l25_14 f34 nx160 s159.1.2.1 s159.2.1) (((), 0, ()), (x158.2.1, ()))) some)) some)) = some (([1, 2, 3, 4, 5, 6, 7, 8, 9, 10, 11, 12, 13, 14].all (chkF r)) && r.after.all fun d => inN d.job) := by
              simp only [Option.bind_some, Sum.elim_inl, r_all, r_fields (show 1 ≤ r.kind by omega) (show r.kind ≤ 12 by omega), chk_1, chk_all]
              cases hc : [1, 2, 3, 4, 5, 6, 7, 8, 9, 10, 11, 12, 13, 14].all (chkF r) with
              | false => rfl
              | true =>
                simp only [if_true, Sum.elim_inl, Bool.true_and]
                rw [all_loop r.after (fun z => (((), z, ()), (r, ()))) (fun d => inN d.job) true (by omega)]
                · simp
                · intro next
                  simp [l25_14]
                · intro z x next g0 g1 g2 g3
                  simp only [l25_14, g0, g1, g2, g3, decide_true, cond_true, Option.bind_some, r_Right5, condNot]
            simp only [h1, h2, h3, h4, h5, decide_false, cond_false, show 1 ≤ r.kind by omega, show r.kind ≤ 12 by omega, show 1 ≤ r.key by omega, show r.key ≤ 1073741824 by omega, show r.after.length ≤ 4 by omega, decide_true, Bool.true_and]
            by_cases hk : r.kind = 1
            · simp only [hk, decide_true, Bool.not_true, cond_false, Bool.true_or, Bool.true_and]
              exact main
            · by_cases h6 : (0 : Int) < (r.after.length : Int)
              · simp only [hk, h6, decide_true, decide_false, Bool.not_false, cond_true, show ¬ r.after.length = 0 by omega, Bool.false_or, Bool.false_and]
                rfl
              · simp only [hk, h6, decide_false, Bool.not_false, cond_true, cond_false, show r.after.length = 0 by omega, decide_true, Bool.false_or, Bool.true_and]
                exact main
end NM
end Go.Proofs.Ytgpejfddaelobaa
