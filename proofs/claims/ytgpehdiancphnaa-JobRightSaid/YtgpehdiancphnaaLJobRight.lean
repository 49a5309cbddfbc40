/-
  The statement JobRight about plain data.
-/
import Derived.Test.YtgpehdiancphnaaPJob
import Derived.KernelRfl
set_option linter.unusedVariables false
set_option linter.unusedSimpArgs false
namespace Go.Proofs.Ytgpehdiancphnaa
namespace NM
open AM
theorem awake16 : f21 = some true := by kernel_rfl
theorem law_JobRight (a : Job) (ha : Rng.P a) (b : Job) : f6 a b = some true := by
  have hl : a.after.length ≤ maxLen := ha.2.2.2.2.2.2.1.1
  unfold f6 F6
  obtain ⟨u, hu⟩ := u_total a hl
  obtain ⟨c, hc⟩ := c_total a hl
  simp only [awake16, p_jobRight a hl, r_jobRight a hl, p_Until a hl, p_Charge a hl, hu, hc, p_Same a b hl, p_Same a a hl, r_Same a b hl, sameB_refl, Option.bind_some, Bool.not_true, cond_false, beq_self_eq_true, decide_true, cond_true, cond_somes, cond_self]
theorem _root_.Go.Proofs.Ytgpehdiancphnaa.jobRight.plain (a : Job) (ha : Rng.P a) (b : Job) (hb : Rng.P b) : f6 a b = some true := law_JobRight a ha b
end NM
namespace jobRight
open NM AM
theorem walk (x0 : Job) (x1 : Job) (v0 v1 : Value) (W : World) (h0 : V W (Lt W.heap.size) x0 v0) (h1 : V W (Lt W.heap.size) x1 v1) :
    Calls Try.prog 6 #[v0, v1] W fun e w' => e = .returned (.bool true) ∧ Go.RowKit.Below W.heap.size W w' :=
  nlaw_walk NM.ok6 (x := (NEnc.f x0, NEnc.f x1, ())) (plain x0 (Rng.ok h0.1) x1 (Rng.ok h1.1)) (arg_cons x0 (arg_cons x1 arg_nil)) rfl fun j a v ha hv => by
    match j with
    | 0 => simp at ha hv; subst ha; subst hv; exact h0.vr (fun _ h => h) _
    | 1 => simp at ha hv; subst ha; subst hv; exact h1.vr (fun _ h => h) _
end jobRight
end Go.Proofs.Ytgpehdiancphnaa
