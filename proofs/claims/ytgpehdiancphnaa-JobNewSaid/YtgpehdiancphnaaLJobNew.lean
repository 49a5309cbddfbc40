/-
  The statement JobNew about plain data.
-/
import Derived.Test.YtgpehdiancphnaaPJob
import Derived.KernelRfl
set_option linter.unusedVariables false
set_option linter.unusedSimpArgs false
namespace Go.Proofs.Ytgpehdiancphnaa
namespace NM
open AM
theorem awake16 : f21 = some true := by kernel_rfl
theorem _root_.Go.Proofs.Ytgpehdiancphnaa.jobNew.plain (x : Int × Int × Int) (hx : Rng.P x) (r : Request) (hr : Rng.P r) : f4 x r = some true := by
  have hml : maxLen = 9223372036854775807 := rfl
  unfold f4 F4
  simp only [awake16, Option.bind_some, Bool.not_true, cond_false]
  by_cases h30 : 30 < (r.after.length : Int)
  · simp only [h30, decide_true, cond_true]
  · simp only [h30, decide_false, cond_false]
    have hs : smallB (0 + r.after.length) 16 = true := by
      simp only [smallB, Bool.and_eq_true, decide_eq_true_eq]
      omega
    have e1 : f23 x.1 x.2.1 x.2.2 r = some (Job.mk x.1 x.2.1 r.queue r.many r.need r.wall r.after 1 false false 1 x.2.2 0 0 0) := by
      unfold f23 F23
      simp only [hs, cond_true, List.nil_append]
    have e2 : f22 x.1 x.2.1 x.2.2 r = cond (jobOk (Job.mk x.1 x.2.1 r.queue r.many r.need r.wall r.after 1 false false 1 x.2.2 0 0 0)) (some (Job.mk x.1 x.2.1 r.queue r.many r.need r.wall r.after 1 false false 1 x.2.2 0 0 0, 0, ())) (some (Job.mk 0 0 0 0 (Res.mk 0 0 0 0) 0 [] 0 false false 0 0 0 0 0, 2, ())) := by
      unfold f22 F22
      rw [p_jobRight _ (by simp only; omega), p_Clone _ (by omega)]
      simp only [Option.bind_some]
      cases jobOk (Job.mk x.1 x.2.1 r.queue r.many r.need r.wall r.after 1 false false 1 x.2.2 0 0 0) <;> rfl
    rw [e1, e2]
    simp only [Option.bind_some]
    rw [r_jobRight _ (by simp only; omega)]
    simp only [Option.bind_some]
    cases jobOk (Job.mk x.1 x.2.1 r.queue r.many r.need r.wall r.after 1 false false 1 x.2.2 0 0 0) with
    | true =>
      simp only [cond_true, Option.bind_some, Bool.not_true, cond_false, decide_true]
      rw [r_Same _ _ (by simp only; omega), sameB_refl]
      rfl
    | false =>
      simp only [cond_false, Option.bind_some, Bool.not_false, cond_true, decide_true]
      rw [r_Same _ _ (by simp [hml]), sameB_refl]
      rfl
end NM
namespace jobNew
open NM AM
theorem walk (x0 : Int × Int × Int) (x1 : Request) (v0 v1 : Value) (W : World) (h0 : V W (Lt W.heap.size) x0 v0) (h1 : V W (Lt W.heap.size) x1 v1) :
    Calls Try.prog 4 #[v0, v1] W fun e w' => e = .returned (.bool true) ∧ Go.RowKit.Below W.heap.size W w' :=
  nlaw_walk NM.ok4 (x := (NEnc.f x0, NEnc.f x1, ())) (plain x0 (Rng.ok h0.1) x1 (Rng.ok h1.1)) (arg_cons x0 (arg_cons x1 arg_nil)) rfl fun j a v ha hv => by
    match j with
    | 0 => simp at ha hv; subst ha; subst hv; exact h0.vr (fun _ h => h) _
    | 1 => simp at ha hv; subst ha; subst hv; exact h1.vr (fun _ h => h) _
end jobNew
end Go.Proofs.Ytgpehdiancphnaa
