/-
  The statement StepsOrder about plain data.
-/
import Derived.Test.YtgpejfddaelobaaPStepsE
import Derived.KernelRfl
set_option linter.unusedVariables false
set_option linter.unusedSimpArgs false
namespace Go.Proofs.Ytgpejfddaelobaa
namespace NM
open AM
theorem awake10 : f30 = some true := by kernel_rfl

def BothP (l : List Step) (a1 a2 b1 b2 : Int) (X Y : Res) : Prop := match l with
  | [] => False
  | s :: tl => TakeOk (fun x => subR x X) (s :: tl) a1 a2 X ∧ okR Y = true ∧ (s.at_ ≤ b1 ∧ b1 < b2 ∧ b2 ≤ 281474976710656) ∧ ∀ t, s.at_ ≤ t → inB b1 b2 t = true → okR (subR (turnR a1 a2 (fun x => subR x X) t (look s.free tl t)) Y) = true
theorem both_sym {l : List Step} {a1 a2 b1 b2 : Int} {X Y : Res} (h : BothP l a1 a2 b1 b2 X Y) : BothP l b1 b2 a1 a2 Y X := by
  cases l with
  | nil => exact h
  | cons s tl =>
    obtain ⟨⟨h1, h2, h3, h4⟩, h5, h6, h7⟩ := h
    have hv : ∀ t, okR (look s.free tl t) = true := fun t => by
      have := stepsOk_rise h1
      exact look_ok (this.2 s (by simp)).2 fun u hu => (this.2 u (by simp [hu])).2
    refine ⟨⟨h1, h5, h6, fun t ht hi => ?_⟩, h2, h3, fun t ht hi => ?_⟩
    · have k1 := h7 t ht hi
      have k2 := hv t
      unfold turnR at k1
      by_cases ha : inB a1 a2 t = true
      · rw [if_pos ha] at k1
        rw [okR_iff] at k1 k2 h2 ⊢
        simp only [subR] at k1 ⊢
        rw [okR_iff] at h5
        omega
      · rw [if_neg ha] at k1; exact k1
    · have k2 := hv t
      have k3 := h4 t ht hi
      unfold turnR
      by_cases hb : inB b1 b2 t = true
      · rw [if_pos hb]
        have k1 := h7 t ht hb
        unfold turnR at k1
        rw [if_pos hi] at k1
        rw [okR_iff] at k1 ⊢
        simp only [subR] at k1 ⊢
        omega
      · rw [if_neg hb]; exact k3
theorem p_both (l : List Step) (x : (Int × Int) × ((Int × Int) × (Res × Res))) (hl : l.length ≤ 100) :
    (BothP l x.1.1 x.1.2 x.2.1.1 x.2.1.2 x.2.2.1 x.2.2.2 ∧ ∃ s tl s2 tl2, l = s :: tl ∧ f31 l x = some (s2 :: tl2, true, ()) ∧ s2.at_ = s.at_ ∧ Rise s.at_ tl2 ∧ Canon s2.free tl2 ∧
      ∀ t, s.at_ ≤ t → look s2.free tl2 t = turnR x.2.1.1 x.2.1.2 (fun f => subR f x.2.2.2) t (turnR x.1.1 x.1.2 (fun f => subR f x.2.2.1) t (look s.free tl t))) ∨
    (¬ BothP l x.1.1 x.1.2 x.2.1.1 x.2.1.2 x.2.2.1 x.2.2.2 ∧ ∃ m, f31 l x = some (m, false, ())) := by
  obtain ⟨⟨a1, a2⟩, ⟨b1, b2⟩, X, Y⟩ := x
  have hlen := len_change (fun x => subR x X) l a1 a2 X
  unfold f31 F31
  simp only [p_Take l a1 a2 X (by omega), Option.bind_some]
  by_cases h1 : TakeOk (fun x => subR x X) l a1 a2 X
  · cases l with
    | nil => exact h1.elim
    | cons s tl =>
      obtain ⟨s1, tl1, e1, e2, e3, e4, e5, e6⟩ := change_ok h1
      rw [e1] at hlen ⊢
      simp only [decide_true, Bool.not_true, cond_false]
      rw [p_Take (s1 :: tl1) b1 b2 Y (by simp only at hlen; omega)]
      simp only [Option.bind_some]
      by_cases h2 : TakeOk (fun x => subR x Y) (s1 :: tl1) b1 b2 Y
      · obtain ⟨s2, tl2, g1, g2, g3, g4, g5, g6⟩ := change_ok h2
        refine .inl ⟨⟨h1, h2.2.1, by have := h2.2.2.1; rw [e2] at this; exact this, fun t ht hi => ?_⟩, s, tl, s2, tl2, rfl, ?_, g2.trans e2, by rw [← e2]; exact g3, g4, fun t ht => ?_⟩
        · have := h2.2.2.2 t (by omega) hi
          rwa [e6 t ht] at this
        · rw [g1]; rfl
        · rw [g6 t (by omega), e6 t ht]
      · refine .inr ⟨fun hb => h2 ⟨e5, hb.2.1, by rw [e2]; exact hb.2.2.1, fun t ht hi => ?_⟩, (changeR (fun x => subR x Y) (s1 :: tl1) b1 b2 Y).1, ?_⟩
        · rw [e6 t (by omega)]; exact hb.2.2.2 t (by omega) hi
        · simp only [change_no h2, decide_false]
  · refine .inr ⟨fun hb => ?_, [], ?_⟩
    · cases l with
      | nil => exact hb
      | cons s tl => exact h1 hb.1
    · simp only [change_no h1, decide_false, Bool.not_false, cond_true]
theorem _root_.Go.Proofs.Ytgpejfddaelobaa.stepsOrder.plain (l : List Step) (x : (Int × Int) × ((Int × Int) × (Res × Res))) : f7 l x = some true := by
  unfold f7 F7
  simp only [awake10, Option.bind_some, Bool.not_true, cond_false]
  by_cases hl : 40 < (l.length : Int)
  · simp [hl]
  · simp only [hl, decide_false, cond_false]
    rcases p_both l x (by omega) with ⟨h1, s, tl, s2, tl2, rfl, e1, e2, e3, e4, e5⟩ | ⟨h1, m, e1⟩
    · rcases p_both (s :: tl) (x.2.1, (x.1, (x.2.2.2, x.2.2.1))) (by omega) with ⟨k1, s', tl', s3, tl3, q, g1, g2, g3, g4, g5⟩ | ⟨k1, m', g1⟩
      · cases q
        rw [e1, g1]
        simp only [Option.bind_some, Bool.not_true, cond_false, BEq.rfl, cond_true]
        have hlook : ∀ t, s.at_ ≤ t → look s2.free tl2 t = look s3.free tl3 t := fun t ht => by
          rw [e5 t ht, g5 t ht]
          simp only [turnR]
          by_cases i1 : inB x.1.1 x.1.2 t = true
          · by_cases i2 : inB x.2.1.1 x.2.1.2 t = true
            · simp only [i1, i2, if_true]
              refine res_ext ?_ ?_ ?_ ?_ <;> simp only [subR] <;> omega
            · simp only [i1, i2, if_true, if_false]; rfl
          · by_cases i2 : inB x.2.1.1 x.2.1.2 t = true
            · simp only [i1, i2, if_true, if_false]; rfl
            · simp only [i1, i2, if_false]; rfl
        have hf : s2.free = s3.free := by
          have := hlook s.at_ (Int.le_refl _)
          rwa [look_early e3 (Int.le_refl _), look_early g3 (Int.le_refl _)] at this
        have hs : s2 = s3 := step_ext (e2.trans g2.symm) hf
        subst hs
        have ht : tl2 = tl3 := canon_eq e3 g3 e4 g4 hlook
        subst ht
        have hlen : (s2 :: tl2).length ≤ maxLen := by
          have hml : maxLen = 9223372036854775807 := rfl
          have h9 := e1
          unfold f31 F31 at h9
          have q1 := len_change (fun f => subR f x.2.2.1) (s :: tl) x.1.1 x.1.2 x.2.2.1
          rw [p_Take _ _ _ _ (by omega)] at h9
          simp only [Option.bind_some] at h9
          generalize changeR (fun f => subR f x.2.2.1) (s :: tl) x.1.1 x.1.2 x.2.2.1 = c1 at h9 q1
          have q2 := len_change (fun f => subR f x.2.2.2) c1.1 x.2.1.1 x.2.1.2 x.2.2.2
          rw [p_Take _ _ _ _ (by omega)] at h9
          simp only [Option.bind_some] at h9
          cases hc : decide (c1.2.1 = 0) with
          | false => rw [hc] at h9; simp at h9
          | true =>
            rw [hc] at h9
            simp only [Bool.not_true, cond_false, Option.some.injEq, Prod.mk.injEq] at h9
            rw [← h9.1]
            omega
        rw [p_Same _ _ hlen]
        simp only [Option.bind_some, (sameB_iff _ _).2 rfl]
      · exact absurd (both_sym h1) k1
    · rcases p_both l (x.2.1, (x.1, (x.2.2.2, x.2.2.1))) (by omega) with ⟨k1, s', tl', s3, tl3, q, g1, g2, g3, g4, g5⟩ | ⟨k1, m', g1⟩
      · exact absurd (both_sym k1) h1
      · rw [e1, g1]
        simp
end NM
namespace stepsOrder
open NM AM
theorem walk (x0 : List Step) (x1 : (Int × Int) × ((Int × Int) × (Res × Res))) (v0 v1 : Value) (W : World) (h0 : V W (Lt W.heap.size) x0 v0) (h1 : V W (Lt W.heap.size) x1 v1) :
    Calls Try.prog 7 #[v0, v1] W fun e w' => e = .returned (.bool true) ∧ Go.RowKit.Below W.heap.size W w' :=
  nlaw_walk NM.ok7 (x := (NEnc.f x0, NEnc.f x1, ())) (plain _ _) (arg_cons x0 (arg_cons x1 arg_nil)) rfl fun j a v ha hv => by
    match j with
    | 0 => simp at ha hv; subst ha; subst hv; exact h0.vr (fun _ h => h) _
    | 1 => simp at ha hv; subst ha; subst hv; exact h1.vr (fun _ h => h) _
end stepsOrder
end Go.Proofs.Ytgpejfddaelobaa
