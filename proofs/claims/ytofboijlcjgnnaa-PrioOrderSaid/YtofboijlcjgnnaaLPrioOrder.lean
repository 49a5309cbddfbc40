/-
  The statement PrioOrder about plain data.
-/
import Derived.Test.YtofboijlcjgnnaaPPrio
import Derived.KernelRfl
set_option linter.unusedVariables false
set_option linter.unusedSimpArgs false
namespace Go.Proofs.Ytofboijlcjgnnaa
namespace NM
open AM
theorem awake21 : f68 = some true := by kernel_rfl
theorem of_user {s : Spec} {j : Job} {now : Int} {use : List Int} : ofI s j now use = if specOk s then s.weights.age * ageI now j.born + s.weights.size * holdI j.many 0 64 + s.weights.qos * qosI s j.queue - s.weights.share * useI use j.user else 0 := by
  unfold ofI partsI
  split <;> simp
theorem of_later {s : Spec} {j : Job} {a b : Int} {use : List Int} (h : a ≤ b) : ofI s j a use ≤ ofI s j b use := by
  rw [of_user, of_user]
  split
  · rename_i hs
    have hw := specOk_weights hs
    simp only [weightsOk, decide_eq_true_eq] at hw
    have := Int.mul_le_mul_of_nonneg_left (age_mono (c := j.born) h) hw.1
    omega
  · omega
theorem of_more {s : Spec} {j : Job} {now a b : Int} (hu : j.user = 0) (h : a ≤ b) : ofI s j now [b] ≤ ofI s j now [a] := by
  rw [of_user, of_user]
  split
  · rename_i hs
    have hw := specOk_weights hs
    simp only [weightsOk, decide_eq_true_eq] at hw
    have e : useI [a] j.user ≤ useI [b] j.user := by
      unfold useI
      rw [hu]
      simpa using fac_mono h
    have := Int.mul_le_mul_of_nonneg_left e hw.2.2.2.2.2.2.1
    omega
  · omega
theorem law_PrioOrder (s : Spec) (hs : Rng.P s) (j : Job) (hj : Rng.P j) (x : Int × Int × Int × Int) (hx : Rng.P x) : f12 s j x = some true := by
  unfold f12 F12
  simp only [awake21, r_Few s hs, r_Right s hs, Option.bind_some, Bool.not_true, cond_false, cond_somes]
  cases fewB s with
  | false => rfl
  | true =>
    cases specOk s with
    | false => rfl
    | true =>
      obtain ⟨x1, x2, x3, x4⟩ := x
      have h1 : I64 x1 := hx.1
      have h2 : I64 x2 := hx.2.1
      have hj' : Rng.P (Job.mk j.id 0 j.queue j.many j.need j.wall j.after j.state j.ok j.kill j.version j.born j.start j.fin j.array) := ⟨hj.1, (⟨by decide, by decide⟩ : I64 0), hj.2.2⟩
      simp only [Bool.not_true, cond_false, cond_mk, cond_self]
      generalize hjj : Job.mk j.id 0 j.queue j.many j.need j.wall j.after j.state j.ok j.kill j.version j.born j.start j.fin j.array = jj at hj' ⊢
      have hu : jj.user = 0 := by rw [← hjj]
      have key : ∀ a b c d : Int, I64 a → I64 b → a ≤ b → c ≤ d → (Option.bind (f71 s jj a [c]) fun r8 => Option.bind (f71 s jj b [c]) fun r9 => cond (decide (r8 ≤ r9)) (Option.bind (f71 s jj a [d]) fun r10 => some (decide (r10 ≤ r8))) (some false)) = some true := by
        intro a b c d ha hb hab hcd
        simp only [p_Of s hs jj hj' a ha, p_Of s hs jj hj' b hb, Option.bind_some]
        have e1 := of_later (s := s) (j := jj) (use := [c]) hab
        have e2 := of_more (s := s) (now := a) hu hcd
        simp [e1, e2]
      by_cases c1 : x2 < x1 <;> by_cases c2 : x4 < x3 <;> simp only [c1, c2, decide_true, decide_false, cond_true, cond_false]
      · exact key _ _ _ _ h2 h1 (by omega) (by omega)
      · exact key _ _ _ _ h2 h1 (by omega) (by omega)
      · exact key _ _ _ _ h1 h2 (by omega) (by omega)
      · exact key _ _ _ _ h1 h2 (by omega) (by omega)
end NM
namespace prioOrder
open NM AM
theorem walk (x0 : Spec) (x1 : Job) (x2 : Int × Int × Int × Int) (v0 v1 v2 : Value) (W : World) (h0 : V W (Lt W.heap.size) x0 v0) (h1 : V W (Lt W.heap.size) x1 v1) (h2 : V W (Lt W.heap.size) x2 v2) :
    Calls Try.prog 12 #[v0, v1, v2] W fun e w' => e = .returned (.bool true) ∧ Go.RowKit.Below W.heap.size W w' :=
  nlaw_walk NM.ok12 (x := (NEnc.f x0, NEnc.f x1, NEnc.f x2, ())) (law_PrioOrder x0 (Rng.ok h0.1) x1 (Rng.ok h1.1) x2 (Rng.ok h2.1)) (arg_cons x0 (arg_cons x1 (arg_cons x2 arg_nil))) rfl fun j a v ha hv => by
    match j with
    | 0 => simp at ha hv; subst ha; subst hv; exact h0.vr (fun _ h => h) _
    | 1 => simp at ha hv; subst ha; subst hv; exact h1.vr (fun _ h => h) _
    | 2 => simp at ha hv; subst ha; subst hv; exact h2.vr (fun _ h => h) _
end prioOrder
end Go.Proofs.Ytofboijlcjgnnaa
