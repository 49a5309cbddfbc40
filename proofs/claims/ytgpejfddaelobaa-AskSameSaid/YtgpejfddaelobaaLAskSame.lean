/-
  The statement AskSame about plain data.
-/
import Derived.Test.YtgpejfddaelobaaPAskB
import Derived.KernelRfl
set_option linter.unusedVariables false
set_option linter.unusedSimpArgs false
namespace Go.Proofs.Ytgpejfddaelobaa
namespace NM
open AM
theorem awake08 : f13 = some true := by kernel_rfl
theorem _root_.Go.Proofs.Ytgpejfddaelobaa.askSame.plain (a b : Request) : f3 a b = some true := by
  unfold f3 F3
  simp only [awake08, Option.bind_some, Bool.not_true, cond_false]
  by_cases ha : (50 : Int) < (a.after.length : Int)
  · simp [ha]
  · by_cases hb : (50 : Int) < (b.after.length : Int)
    · simp [ha, hb]
    · have h1 : sameQ a a = true := (sameQ_iff a a).2 rfl
      have h2 : sameQ b a = sameQ a b := by
        rw [Bool.eq_iff_iff, sameQ_iff, sameQ_iff]
        exact ⟨fun e => e.symm, fun e => e.symm⟩
      simp only [ha, hb, decide_false, cond_false, p_sameAsk a b (by omega), r_sameAsk a b (by omega), p_sameAsk a a (by omega), p_sameAsk b a (by omega), Option.bind_some, h1, h2, beq_self_eq_true, Bool.not_true, p_writeAsk]
      cases hra : rightQ a with
      | false => simp
      | true =>
        cases hrb : rightQ b with
        | false => simp
        | true =>
          have hna := nums_in hra
          have hnb := nums_in hrb
          have hlen : (putsI (numsQ a)).length ≤ 4294967295 := by
            have h3 := putsI_len (numsQ a)
            obtain ⟨_, _, _, _, h5, _, _⟩ := right_kind hra
            have hf : (fieldsL a.kind).length ≤ 8 := by unfold fieldsL; (repeat' split) <;> simp
            have hd := depsN_len a.after
            have : (numsQ a).length ≤ 100 := by
              simp only [numsQ, fieldsV, depsV, List.length_append, List.length_map, List.length_cons, List.length_nil]
              split
              · simp only [List.length_cons]; omega
              · simp only [List.length_nil]; omega
            omega
          simp only [if_true, decide_true, Bool.not_true, cond_false, r_BytesEq _ _ hlen, Option.bind_some, Option.some.injEq, beq_iff_eq]
          rw [Bool.eq_iff_iff, sameQ_iff, decide_eq_true_eq]
          exact ⟨fun e => by rw [e], fun e => right_inj hra hrb (putsI_inj hna hnb e)⟩
end NM
namespace askSame
open NM AM
theorem walk (x0 x1 : Request) (v0 v1 : Value) (W : World) (h0 : V W (Lt W.heap.size) x0 v0) (h1 : V W (Lt W.heap.size) x1 v1) :
    Calls Try.prog 3 #[v0, v1] W fun e w' => e = .returned (.bool true) ∧ Go.RowKit.Below W.heap.size W w' :=
  nlaw_walk NM.ok3 (x := (NEnc.f x0, NEnc.f x1, ())) (plain x0 x1) (arg_cons x0 (arg_cons x1 arg_nil)) rfl fun j a v ha hv => by
    match j with
    | 0 => simp at ha hv; subst ha; subst hv; exact h0.vr (fun _ h => h) _
    | 1 => simp at ha hv; subst ha; subst hv; exact h1.vr (fun _ h => h) _
end askSame
end Go.Proofs.Ytgpejfddaelobaa
