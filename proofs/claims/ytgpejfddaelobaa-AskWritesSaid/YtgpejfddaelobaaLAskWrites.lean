/-
  The statement AskWrites about plain data.
-/
import Derived.Test.YtgpejfddaelobaaPAskG
import Derived.KernelRfl
set_option linter.unusedVariables false
set_option linter.unusedSimpArgs false
namespace Go.Proofs.Ytgpejfddaelobaa
namespace NM
open AM
theorem awake08 : f13 = some true := by kernel_rfl
theorem p_query (k : Int) : f26 k = some (decide (8 ≤ k) && decide (k ≤ 10)) := by
  unfold f26 F26
  by_cases h8 : k = 8
  · subst h8; rfl
  · by_cases h9 : k = 9
    · subst h9; rfl
    · by_cases h10 : k = 10
      · subst h10; rfl
      · simp only [h8, h9, h10, decide_false, cond_false]
        congr 1
        symm
        rw [Bool.eq_false_iff, ne_eq, Bool.and_eq_true, decide_eq_true_eq, decide_eq_true_eq]
        omega
theorem _root_.Go.Proofs.Ytgpejfddaelobaa.askWrites.plain (r : Request) : f5 r = some true := by
  unfold f5 F5
  simp only [awake08, Option.bind_some, Bool.not_true, cond_false]
  by_cases h50 : (50 : Int) < (r.after.length : Int)
  · simp [h50]
  · simp only [h50, decide_false, cond_false, p_writeAsk, Option.bind_some, p_rightAsk, r_rightAsk, beq_self_eq_true, Bool.not_true, p_query]
    have hq : ∀ (K z : Option (((Unit × Unit) × (Request × Unit)) ⊕ Bool)), cond (decide (8 ≤ r.kind)) (cond (!((decide (8 ≤ r.kind) && decide (r.kind ≤ 10)) == (decide (r.kind ≤ 10)))) z K) (cond (!((decide (8 ≤ r.kind) && decide (r.kind ≤ 10)) == false)) z K) = K := fun K z => by
      cases decide (8 ≤ r.kind) <;> cases decide (r.kind ≤ 10) <;> rfl
    rw [hq]
    simp only [Option.bind_some, Sum.elim_inl, r_rightAsk]
    cases hr : rightQ r with
    | false => simp
    | true =>
      obtain ⟨h1, h2, h3, h4, h5, h6, h7⟩ := right_kind hr
      obtain ⟨hn, _⟩ := nums_len h5
      have hl := putsI_len (numsQ r)
      have hl3 : (putsI (numsQ r)).length ≤ 300 := by omega
      obtain ⟨e1, e2⟩ := read_back hr
      have hb := puts_bytes (nums_in hr)
      have hpos : 1 ≤ (putsI (numsQ r)).length := by
        have := bytesI_pos r.kind
        simp only [numsQ, putsI, List.cons_append, List.length_append]
        omega
      have hs : sameQ r r = true := (sameQ_iff _ _).2 rfl
      simp only [if_true, Bool.not_true, cond_false, p_readAsk hb hl3, e1, e2, decide_true, cond_true, Option.bind_some, r_writeAsk r hr, r_BytesEq _ _ (show (putsI (numsQ r)).length ≤ 4294967295 by omega), r_sameAsk r r (by omega), hs, show (1 : Int) ≤ ((putsI (numsQ r)).length : Int) by omega, show ((putsI (numsQ r)).length : Int) ≤ 240 by omega]
end NM
namespace askWrites
open NM AM
theorem walk (x0 : Request) (v0 : Value) (W : World) (h0 : V W (Lt W.heap.size) x0 v0) :
    Calls Try.prog 5 #[v0] W fun e w' => e = .returned (.bool true) ∧ Go.RowKit.Below W.heap.size W w' :=
  nlaw_walk NM.ok5 (x := (NEnc.f x0, ())) (plain x0) (arg_cons x0 arg_nil) rfl fun j a v ha hv => by
    match j with
    | 0 => simp at ha hv; subst ha; subst hv; exact h0.vr (fun _ h => h) _
end askWrites
end Go.Proofs.Ytgpejfddaelobaa
