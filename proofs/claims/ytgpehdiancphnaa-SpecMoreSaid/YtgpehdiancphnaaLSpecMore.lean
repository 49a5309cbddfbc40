/-
  The statement SpecMore about plain data.
-/
import Derived.Test.YtgpehdiancphnaaPVec
import Derived.KernelRfl
set_option linter.unusedVariables false
set_option linter.unusedSimpArgs false
namespace Go.Proofs.Ytgpehdiancphnaa
namespace NM
open AM
theorem awake07 : f15 = some true := by kernel_rfl
theorem r_vecFits (a b : Res) : f20 a b = some (decide (a.cpu ≤ b.cpu ∧ a.mem ≤ b.mem ∧ a.gpu ≤ b.gpu ∧ a.lic ≤ b.lic)) := by
  unfold f20 F20
  by_cases h1 : a.cpu ≤ b.cpu <;> by_cases h2 : a.mem ≤ b.mem <;> by_cases h3 : a.gpu ≤ b.gpu <;> simp [h1, h2, h3]
theorem _root_.Go.Proofs.Ytgpehdiancphnaa.specMore.plain (s : Spec) (hs : Rng.P s) (x : Int × Int × Int) (l : Res × Res) : f3 s x l = some true := by
  unfold f3 F3
  simp only [awake07, r_Few s hs, r_Right s hs, p_Fits s hs, r_vecRight, r_vecFits, Option.bind_some, Bool.not_true, cond_false]
  cases fewB s with
  | false => rfl
  | true =>
    cases specOk s with
    | false => rfl
    | true =>
      cases hf : fitsB s x.1 x.2.1 l.1 with
      | false => rfl
      | true =>
        by_cases h1 : x.2.2 < 1
        · simp [h1]
        · by_cases h2 : x.2.1 < x.2.2
          · simp [h1, h2]
          · simp only [h1, h2, decide_false, Bool.not_true, cond_false]
            simp only [fitsB, Bool.and_eq_true, decide_eq_true_eq] at hf
            obtain ⟨a1, a2, a3, a4, a5⟩ := hf
            have e1 : fitsB s x.1 x.2.2 l.1 = true := by
              simp only [fitsB, Bool.and_eq_true, decide_eq_true_eq]
              exact ⟨a1, a2, a3, by omega, by omega⟩
            rw [e1]
            simp only [Bool.not_true, cond_false]
            cases hr : resOk l.2 with
            | false => rfl
            | true =>
              change cond (!true) _ (cond (zRes l.2) _ _) = _
              cases hz : zRes l.2 with
              | true => rfl
              | false =>
                by_cases h3 : l.2.cpu ≤ l.1.cpu ∧ l.2.mem ≤ l.1.mem ∧ l.2.gpu ≤ l.1.gpu ∧ l.2.lic ≤ l.1.lic
                · have hm := room_mono (s := s) (part := (s.queues.getD x.1.toNat ⟨0, [], 0, 0, 0, 0⟩).part) (b := l.1) (c := l.2) (fun a => countI_mono hr hz h3.1 h3.2.1 h3.2.2.1 h3.2.2.2)
                  have e2 : fitsB s x.1 x.2.1 l.2 = true := by
                    simp only [fitsB, Bool.and_eq_true, decide_eq_true_eq]
                    exact ⟨a1, a2, a3, a4, by omega⟩
                  simp [h3, e2]
                · simp [h3]
end NM
namespace specMore
open NM AM
theorem walk (x0 : Spec) (x1 : Int × Int × Int) (x2 : Res × Res) (v0 v1 v2 : Value) (W : World) (h0 : V W (Lt W.heap.size) x0 v0) (h1 : V W (Lt W.heap.size) x1 v1) (h2 : V W (Lt W.heap.size) x2 v2) :
    Calls Try.prog 3 #[v0, v1, v2] W fun e w' => e = .returned (.bool true) ∧ Go.RowKit.Below W.heap.size W w' :=
  nlaw_walk NM.ok3 (x := (NEnc.f x0, NEnc.f x1, NEnc.f x2, ())) (plain x0 (Rng.ok h0.1) x1 x2) (arg_cons x0 (arg_cons x1 (arg_cons x2 arg_nil))) rfl fun j a v ha hv => by
    match j with
    | 0 => simp at ha hv; subst ha; subst hv; exact h0.vr (fun _ h => h) _
    | 1 => simp at ha hv; subst ha; subst hv; exact h1.vr (fun _ h => h) _
    | 2 => simp at ha hv; subst ha; subst hv; exact h2.vr (fun _ h => h) _
end specMore
end Go.Proofs.Ytgpehdiancphnaa
