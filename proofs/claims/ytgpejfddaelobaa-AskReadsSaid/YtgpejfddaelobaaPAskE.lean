/-
  Requests, read of bytes: the document's reading.
-/
import Derived.Test.YtgpejfddaelobaaPAskD
set_option linter.unusedVariables false
set_option linter.unusedSimpArgs false
namespace Go.Proofs.Ytgpejfddaelobaa
namespace NM
open AM

theorem r_fields {k : Int} (h1 : 1 ≤ k) (h2 : k ≤ 12) : f81 k = some (fieldsL k) := by
  rcases kinds h1 h2 with rfl | rfl | rfl | rfl | rfl | rfl | rfl | rfl | rfl | rfl | rfl | rfl <;> rfl
theorem fields_in {k x : Int} (hx : x ∈ fieldsL k) : 1 ≤ x ∧ x ≤ 14 := by
  unfold fieldsL at hx
  (repeat' split at hx) <;> simp at hx <;> omega
theorem getD_some {l : List Int} {i : Nat} (h : i < l.length) : l[i]? = some (l.getD i 0) := by
  rw [List.getD_eq_getElem?_getD, List.getElem?_eq_getElem h]; rfl
theorem r_of (k y : Int) (l : List Int) (h : l.length = 15) : f84 k y l = some (k, y, l.getD 1 0, l.getD 2 0, l.getD 3 0, l.getD 4 0, l.getD 5 0, l.getD 6 0, l.getD 7 0, l.getD 8 0, l.getD 9 0, l.getD 10 0, (), l.getD 11 0, l.getD 12 0, l.getD 13 0, l.getD 14 0, ()) := by
  unfold f84 F84
  have g : ∀ i, i < 15 → l[i]? = some (l.getD i 0) := fun i hi => getD_some (by omega)
  simp only [g 1 (by omega), g 2 (by omega), g 3 (by omega), g 4 (by omega), g 5 (by omega), g 6 (by omega), g 7 (by omega), g 8 (by omega), g 9 (by omega), g 10 (by omega), g 11 (by omega), g 12 (by omega), g 13 (by omega), g 14 (by omega), Option.bind_some]
/-- the document's reader after so many dependencies -/
def rdD (x : RdT) : Nat → RdT
  | 0 => x
  | i + 1 => match f75 (rdD x i) with
    | some r => match f74 0 1 r.2.1 with
      | some q => q.2.1
      | none => x
    | none => x
theorem rdD_is {B : List Int} {x : RdT} {s : RS'} (hB : Bytes8 B) (hl : B.length ≤ 4294967295) (h : RdIs B x s) : ∀ n, RdIs B (rdD x n) (stD s n) ∧ ∃ y, f75 (rdD x n) = some ((nextN (stD s n)).1, (y, ())) ∧ f74 0 1 y = some ((nextW 0 1 (nextN (stD s n)).2).1, (rdD x (n + 1), ())) := by
  have step : ∀ n, RdIs B (rdD x n) (stD s n) → ∃ y, f75 (rdD x n) = some ((nextN (stD s n)).1, (y, ())) ∧ f74 0 1 y = some ((nextW 0 1 (nextN (stD s n)).2).1, (rdD x (n + 1), ())) ∧ RdIs B (rdD x (n + 1)) (stD s (n + 1)) := fun n hn => by
    obtain ⟨y, hy, hy2⟩ := r_rdNumber hB hl hn
    obtain ⟨z, hz, hz2⟩ := r_rdWithin 0 1 hB hl hy2
    have e : rdD x (n + 1) = z := by
      show (match f75 (rdD x n) with | some r => (match f74 0 1 r.2.1 with | some q => q.2.1 | none => x) | none => x) = z
      rw [hy]
      show (match f74 0 1 y with | some q => q.2.1 | none => x) = z
      rw [hz]
    exact ⟨y, hy, by rw [e]; exact hz, by rw [e]; exact hz2⟩
  intro n
  have hn : RdIs B (rdD x n) (stD s n) := by
    induction n with
    | zero => exact h
    | succ n ih =>
      obtain ⟨y, _, _, h3⟩ := step n ih
      exact h3
  obtain ⟨y, h1, h2, _⟩ := step n hn
  exact ⟨hn, y, h1, h2⟩
def LL (b : List Int) : List Int := setL (fieldsL (B1 b).1) (lsN (B2 b).2 (bF b)) (List.replicate 15 0)
set_option linter.unusedSectionVars false
section
variable {b : List Int} (hb : Bytes8 b) (hl : b.length ≤ 300)
include hb hl
set_option maxHeartbeats 4000000 in
theorem r_readAsk : f29 b = some (rdQ b, (Be b, ())) := by
  unfold f29 F29
  have hl' : b.length ≤ 4294967295 := by omega
  obtain ⟨hn, hn4⟩ := bd hb hl
  obtain ⟨y1, h1, g1⟩ := r_rdNumber hb hl' (RdIs.start b)
  have h1 : f75 (b, (0, 0)) = some ((B1 b).1, (y1, ())) := h1
  have g1 : RdIs b y1 (B1 b).2 := g1
  have e1 := r_rdErr g1
  simp only [h1, Option.bind_some, e1]
  by_cases h0 : (B1 b).2.2 = 0
  · by_cases hk : 1 ≤ (B1 b).1 ∧ (B1 b).1 ≤ 12
    · have hbe : Be b = endI (B5 b) := by unfold Be; rw [if_pos h0, if_pos hk]
      obtain ⟨y2, h2, g2⟩ := r_rdWithin 1 1073741824 hb hl' g1
      have h2 : f74 1 1073741824 y1 = some ((B2 b).1, (y2, ())) := h2
      have g2 : RdIs b y2 (B2 b).2 := g2
      simp only [h0, decide_true, Bool.not_true, cond_false, show ¬ (B1 b).1 < 1 by omega, show ¬ 12 < (B1 b).1 by omega, decide_false, h2, Option.bind_some, r_fields hk.1 hk.2]
      have hlf : (fieldsL (B1 b).1).length = bF b := rfl
      have hf8 : bF b ≤ 8 := by unfold bF fieldsL; (repeat' split) <;> simp
      refine loop_run' (bF b) (loops_gt _ (by omega)) (fun i => (((), (), (), (i : Int), ()), ((0, 0, 0, 0, 0, 0, 0, 0, 0, 0, 0, 0, (), 0, 0, 0, 0, ()), rdN y2 i, setL ((fieldsL (B1 b).1).take i) (lsN (B2 b).2 i) (List.replicate 15 0), ()))) (fun i hi next => ?_) (fun next => ?_)
      · obtain ⟨x, hx⟩ : ∃ x, (fieldsL (B1 b).1)[i]? = some x := ⟨_, List.getElem?_eq_getElem (by omega)⟩
        have hxin := fields_in (List.mem_of_getElem? hx)
        obtain ⟨_, hr⟩ := rdN_is hb hl' g2 i
        have hln : (setL ((fieldsL (B1 b).1).take i) (lsN (B2 b).2 i) (List.replicate 15 0)).length = 15 := by rw [setL_len]; simp
        have hsn := setL_snoc ((fieldsL (B1 b).1).take i) (lsN (B2 b).2 i) (List.replicate 15 0) x (nextN (stN (B2 b).2 i)).1 (by rw [lsN_len, List.length_take]; omega)
        rw [← lsN_succ] at hsn
        have htk : (fieldsL (B1 b).1).take (i + 1) = (fieldsL (B1 b).1).take i ++ [x] := by rw [List.take_add_one, hx, Option.toList_some]
        simp only [l29_1, hlf, show (i : Int) < (bF b : Int) by omega, decide_true, cond_true, show (0 : Int) ≤ (i : Int) by omega, Int.toNat_natCast, hx, Option.bind_some, hr, show (0 : Int) ≤ x by omega, hln, show x.toNat < 15 by omega, getD_some (l := setL ((fieldsL (B1 b).1).take i) (lsN (B2 b).2 i) (List.replicate 15 0)) (i := x.toNat) (by omega), wi (show -9223372036854775808 ≤ (i : Int) + 1 by omega) (by omega)]
        rw [htk, hsn]
        rfl
      · obtain ⟨g3, _⟩ := rdN_is hb hl' g2 (bF b)
        have hlt : ¬ ((bF b : Int) < ((fieldsL (B1 b).1).length : Int)) := by omega
        have hll : setL ((fieldsL (B1 b).1).take (bF b)) (lsN (B2 b).2 (bF b)) (List.replicate 15 0) = LL b := by
          unfold LL
          rw [List.take_of_length_le (by omega)]
        have hl15 : (LL b).length = 15 := by unfold LL; rw [setL_len]; simp
        simp only [l29_1, hlt, decide_false, cond_false, hll, r_of _ _ _ hl15, Option.bind_some]
        have g3 : RdIs b (rdN y2 (bF b)) (B3 b) := g3
        have hmk : ∀ deps, Request.mk (B1 b).1 (B2 b).1 ((LL b).getD 1 0) ((LL b).getD 2 0) ((LL b).getD 3 0) ((LL b).getD 4 0) (Res.mk ((LL b).getD 5 0) ((LL b).getD 6 0) ((LL b).getD 7 0) ((LL b).getD 8 0)) ((LL b).getD 9 0) ((LL b).getD 10 0) deps ((LL b).getD 11 0) ((LL b).getD 12 0) ((LL b).getD 13 0) ((LL b).getD 14 0) = mkQ (B1 b).1 (B2 b).1 (lsN (B2 b).2 (bF b)) deps := fun _ => rfl
        by_cases k1 : (B1 b).1 = 1
        · obtain ⟨y4, h4, g4⟩ := r_rdWithin 0 4 hb hl' g3
          have h4 : f74 0 4 (rdN y2 (bF b)) = some ((B4 b).1, (y4, ())) := h4
          have g4 : RdIs b y4 (B4 b).2 := g4
          have e5 : B5 b = stD (B4 b).2 (bD b) := by unfold B5; rw [if_pos k1]
          simp only [k1, decide_true, cond_true, h4, Option.bind_some]
          rw [← k1]
          refine loop_run' (bD b) (loops_gt _ (by omega)) (fun i => (((), (), (), (i : Int), ()), ((0, 0, 0, 0, 0, 0, 0, 0, 0, 0, 0, 0, (), 0, 0, 0, 0, ()), rdD y4 i, ((B1 b).1, (B2 b).1, (LL b).getD 1 0, (LL b).getD 2 0, (LL b).getD 3 0, (LL b).getD 4 0, (LL b).getD 5 0, (LL b).getD 6 0, (LL b).getD 7 0, (LL b).getD 8 0, (LL b).getD 9 0, (LL b).getD 10 0, (), (LL b).getD 11 0, (LL b).getD 12 0, (LL b).getD 13 0, (LL b).getD 14 0, ()), lsD (B4 b).2 i, ()))) (fun i hi next => ?_) (fun next => ?_)
          · have hlen := lsD_len (B4 b).2 i
            obtain ⟨_, z, hz1, hz2⟩ := rdD_is hb hl' g4 i
            simp only [l29_0, hn, show (i : Int) < (bD b : Int) by omega, decide_true, cond_true, hz1, hz2, Option.bind_some, small_ok' 16 (by decide) (show (lsD (B4 b).2 i).length + 1 ≤ 4294967295 by omega), lsD_succ, wi (show -9223372036854775808 ≤ (i : Int) + 1 by omega) (by omega)]
            rfl
          · obtain ⟨g5, _⟩ := rdD_is hb hl' g4 (bD b)
            have e6 := r_rdErr g5
            rw [← e5] at e6 g5
            simp only [l29_0, hn, Int.lt_irrefl, decide_false, cond_false, e6, hmk]
            unfold rdQ
            rw [hbe]
            unfold endI depsQ
            rw [if_pos k1]
            by_cases h5 : (B5 b).2 = 0
            · by_cases hz : (B5 b).1.length = 0
              · simp [h5, hz, r_rdLeft hl' g5 h5, e6]
              · have : (0 : Int) < ((B5 b).1.length : Int) := by omega
                simp only [h5, hz, r_rdLeft hl' g5 h5, this, decide_true, cond_true, Option.bind_some, if_true, if_false]
                rfl
            · simp only [h5, decide_false, cond_false, Bool.not_false, cond_true, if_false]
              rfl
        · have e5 : B5 b = B3 b := by unfold B5; rw [if_neg k1]
          have e6 := r_rdErr g3
          simp only [k1, decide_false, cond_false, e6, hmk]
          unfold rdQ
          rw [hbe, e5]
          unfold endI depsQ
          rw [if_neg k1]
          by_cases h5 : (B3 b).2 = 0
          · by_cases hz : (B3 b).1.length = 0
            · simp [h5, hz, r_rdLeft hl' g3 h5, e6]
            · have : (0 : Int) < ((B3 b).1.length : Int) := by omega
              simp only [h5, hz, r_rdLeft hl' g3 h5, this, decide_true, cond_true, Option.bind_some, if_true, if_false]
              rfl
          · simp only [h5, decide_false, cond_false, Bool.not_false, cond_true, if_false]
            rfl
    · have hbe : Be b = 13 := by unfold Be; rw [if_pos h0, if_neg hk]
      have hz : rdQ b = zQ := by unfold rdQ; rw [hbe]; rfl
      rw [hbe, hz]
      simp only [h0, decide_true, Bool.not_true, cond_false]
      by_cases k1 : (B1 b).1 < 1
      · simp only [k1, decide_true, cond_true]; rfl
      · simp only [k1, show 12 < (B1 b).1 by omega, decide_true, decide_false, cond_true, cond_false]; rfl
  · have hbe : Be b = (B1 b).2.2 := by unfold Be; rw [if_neg h0]
    have hz : rdQ b = zQ := by unfold rdQ; rw [hbe, if_neg h0]
    rw [hbe, hz]
    simp only [h0, decide_false, Bool.not_false, cond_true]
    rfl
end
end NM
end Go.Proofs.Ytgpejfddaelobaa
