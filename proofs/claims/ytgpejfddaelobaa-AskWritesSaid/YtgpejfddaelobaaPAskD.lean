/-
  Requests, read of bytes: the program's reading, and the document's.
-/
import Derived.Test.YtgpejfddaelobaaPAskC
set_option linter.unusedVariables false
set_option linter.unusedSimpArgs false
namespace Go.Proofs.Ytgpejfddaelobaa
namespace NM
open AM

theorem pN {s : RS'} (h : SOk 300 s) : f72 s = some ((nextN s).1, ((nextN s).2, ())) := p_Number h (by decide)
theorem pW (lo hi : Int) {s : RS'} (h : SOk 300 s) : f71 lo hi s = some ((nextW lo hi s).1, ((nextW lo hi s).2, ())) := p_Within lo hi h (by decide)
theorem nN {s : RS'} (h : SOk 300 s) : SOk 300 (nextN s).2 := nextN_ok h
theorem nW {lo hi : Int} {s : RS'} (h : SOk 300 s) : SOk 300 (nextW lo hi s).2 := nextW_ok h
theorem p_Err (s : RS') : f82 s = some (s.2, (s, ())) := rfl
set_option linter.unusedSectionVars false
section
variable {b : List Int} (hb : Bytes8 b) (hl : b.length ≤ 300)
include hb hl
theorem bad1 (h : (B1 b).2.2 ≠ 0) : (B1 b).1 = 0 ∧ (B2 b) = (0, (B1 b).2) := by
  unfold B1 at h ⊢
  unfold nextN at h ⊢
  simp only [if_true] at h ⊢
  refine ⟨(numI_bad hb h).2.1, ?_⟩
  unfold B2 B1 nextN nextW
  simp only [if_true]
  rw [if_neg h]
theorem rd_bad (h : Be b ≠ 0) : rdQ b = zQ := by unfold rdQ; rw [if_neg h]
set_option maxHeartbeats 8000000 in
theorem p_readAsk : f27 b = some (rdQ b, (Be b, ())) := by
  unfold f27 F27
  simp only [p_rNew b (by omega), Option.bind_some, pN (b0 hb hl)]
  rw [show nextN (b, 0) = B1 b from rfl]
  simp only [p_Err, Option.bind_some, p_exists]
  by_cases h1 : (B1 b).2.2 = 0
  · by_cases hk : 1 ≤ (B1 b).1 ∧ (B1 b).1 ≤ 12
    · have hbe : Be b = endI (B5 b) := by unfold Be; rw [if_pos h1, if_pos hk]
      obtain ⟨hn, hn4⟩ := bd hb hl
      have s2 := b2 hb hl
      simp only [h1, decide_true, cond_true, hk.1, hk.2, Bool.and_self, Bool.not_true, cond_false, Option.bind_some, Sum.elim_inl, pW 1 1073741824 (b1 hb hl)]
      rw [show nextW 1 1073741824 (B1 b).2 = B2 b from rfl]
      rcases kinds hk.1 hk.2 with hk' | hk' | hk' | hk' | hk' | hk' | hk' | hk' | hk' | hk' | hk' | hk' <;>
        simp (config := { maxDischargeDepth := 20 }) only [hk', f66_1, F66_1, Int.reduceEq, decide_true, decide_false, cond_true, cond_false, Option.bind_some, Sum.elim_inl, Sum.elim_inr, pN, nN, s2, pW, nW, p_End]
      · -- a new job: what it depends on, too
        have e3 : B3 b = stN (B2 b).2 8 := by unfold B3 bF; rw [hk']; rfl
        have e4 : nextW 0 4 (stN (B2 b).2 8) = B4 b := by unfold B4; rw [e3]
        have e5 : B5 b = stD (B4 b).2 (bD b) := by unfold B5; rw [if_pos hk']
        have e4' := e4
        simp only [stN] at e4'
        simp only [e4']
        refine loop_run' (bD b) (loops_gt _ (by omega)) (fun i => (((), (), (), (i : Int), ()), ((0, 0, 0, 0, 0, 0, 0, 0, 0, 0, 0, 0, (), 0, 0, 0, 0, ()), stD (B4 b).2 i, (1, (B2 b).1, 0, 0, (nextN (stN (B2 b).2 0)).1, (nextN (stN (B2 b).2 1)).1, (nextN (stN (B2 b).2 2)).1, (nextN (stN (B2 b).2 3)).1, (nextN (stN (B2 b).2 4)).1, (nextN (stN (B2 b).2 5)).1, (nextN (stN (B2 b).2 6)).1, (nextN (stN (B2 b).2 7)).1, (), 0, 0, 0, 0, ()), lsD (B4 b).2 i, ()))) (fun i hi next => ?_) (fun next => ?_)
        · have hlen := lsD_len (B4 b).2 i
          have si := stD_ok (b4 hb hl) i
          simp only [l27_0, hn, show (i : Int) < (bD b : Int) by omega, decide_true, cond_true, pN si, pW 0 1 (nN si), Option.bind_some, small_ok' 16 (by decide) (show (lsD (B4 b).2 i).length + 1 ≤ 4294967295 by omega), lsD_succ, wi (show -9223372036854775808 ≤ (i : Int) + 1 by omega) (by omega)]
          rfl
        · simp only [l27_0, hn, Int.lt_irrefl, decide_false, cond_false, p_End, Option.bind_some]
          rw [← e5, ← hbe]
          unfold rdQ
          by_cases h : Be b = 0
          · simp only [h, decide_true, Bool.not_true, cond_false, if_true]
            unfold depsQ
            rw [if_pos hk', hk', show lsN (B2 b).2 (bF b) = lsN (B2 b).2 8 by unfold bF; rw [hk']; rfl]
            rfl
          · simp [h, zQ]
      · have e3 : B5 b = stN (B2 b).2 8 := by unfold B5 B3 bF; rw [hk']; rfl
        have e3' := e3
        simp only [stN] at e3'
        simp only [← e3', ← hbe]
        unfold rdQ
        by_cases h : Be b = 0
        · simp only [h, decide_true, Bool.not_true, cond_false, if_true]
          unfold depsQ
          rw [hk', show lsN (B2 b).2 (bF b) = lsN (B2 b).2 8 by unfold bF; rw [hk']; rfl]
          rfl
        · simp [h, zQ]
      · have e3 : B5 b = stN (B2 b).2 2 := by unfold B5 B3 bF; rw [hk']; rfl
        have e3' := e3
        simp only [stN] at e3'
        simp only [← e3', ← hbe]
        unfold rdQ
        by_cases h : Be b = 0
        · simp only [h, decide_true, Bool.not_true, cond_false, if_true]
          unfold depsQ
          rw [hk', show lsN (B2 b).2 (bF b) = lsN (B2 b).2 2 by unfold bF; rw [hk']; rfl]
          rfl
        · simp [h, zQ]
      · have e3 : B5 b = stN (B2 b).2 2 := by unfold B5 B3 bF; rw [hk']; rfl
        have e3' := e3
        simp only [stN] at e3'
        simp only [← e3', ← hbe]
        unfold rdQ
        by_cases h : Be b = 0
        · simp only [h, decide_true, Bool.not_true, cond_false, if_true]
          unfold depsQ
          rw [hk', show lsN (B2 b).2 (bF b) = lsN (B2 b).2 2 by unfold bF; rw [hk']; rfl]
          rfl
        · simp [h, zQ]
      · have e3 : B5 b = stN (B2 b).2 2 := by unfold B5 B3 bF; rw [hk']; rfl
        have e3' := e3
        simp only [stN] at e3'
        simp only [← e3', ← hbe]
        unfold rdQ
        by_cases h : Be b = 0
        · simp only [h, decide_true, Bool.not_true, cond_false, if_true]
          unfold depsQ
          rw [hk', show lsN (B2 b).2 (bF b) = lsN (B2 b).2 2 by unfold bF; rw [hk']; rfl]
          rfl
        · simp [h, zQ]
      · have e3 : B5 b = stN (B2 b).2 2 := by unfold B5 B3 bF; rw [hk']; rfl
        have e3' := e3
        simp only [stN] at e3'
        simp only [← e3', ← hbe]
        unfold rdQ
        by_cases h : Be b = 0
        · simp only [h, decide_true, Bool.not_true, cond_false, if_true]
          unfold depsQ
          rw [hk', show lsN (B2 b).2 (bF b) = lsN (B2 b).2 2 by unfold bF; rw [hk']; rfl]
          rfl
        · simp [h, zQ]
      · have e3 : B5 b = stN (B2 b).2 3 := by unfold B5 B3 bF; rw [hk']; rfl
        have e3' := e3
        simp only [stN] at e3'
        simp only [← e3', ← hbe]
        unfold rdQ
        by_cases h : Be b = 0
        · simp only [h, decide_true, Bool.not_true, cond_false, if_true]
          unfold depsQ
          rw [hk', show lsN (B2 b).2 (bF b) = lsN (B2 b).2 3 by unfold bF; rw [hk']; rfl]
          rfl
        · simp [h, zQ]
      · have e3 : B5 b = stN (B2 b).2 1 := by unfold B5 B3 bF; rw [hk']; rfl
        have e3' := e3
        simp only [stN] at e3'
        simp only [← e3', ← hbe]
        unfold rdQ
        by_cases h : Be b = 0
        · simp only [h, decide_true, Bool.not_true, cond_false, if_true]
          unfold depsQ
          rw [hk', show lsN (B2 b).2 (bF b) = lsN (B2 b).2 1 by unfold bF; rw [hk']; rfl]
          rfl
        · simp [h, zQ]
      · have e3 : B5 b = stN (B2 b).2 1 := by unfold B5 B3 bF; rw [hk']; rfl
        have e3' := e3
        simp only [stN] at e3'
        simp only [← e3', ← hbe]
        unfold rdQ
        by_cases h : Be b = 0
        · simp only [h, decide_true, Bool.not_true, cond_false, if_true]
          unfold depsQ
          rw [hk', show lsN (B2 b).2 (bF b) = lsN (B2 b).2 1 by unfold bF; rw [hk']; rfl]
          rfl
        · simp [h, zQ]
      · have e3 : B5 b = stN (B2 b).2 0 := by unfold B5 B3 bF; rw [hk']; rfl
        have e3' := e3
        simp only [stN] at e3'
        simp only [← e3', ← hbe]
        unfold rdQ
        by_cases h : Be b = 0
        · simp only [h, decide_true, Bool.not_true, cond_false, if_true]
          unfold depsQ
          rw [hk', show lsN (B2 b).2 (bF b) = lsN (B2 b).2 0 by unfold bF; rw [hk']; rfl]
          rfl
        · simp [h, zQ]
      · have e3 : B5 b = stN (B2 b).2 3 := by unfold B5 B3 bF; rw [hk']; rfl
        have e3' := e3
        simp only [stN] at e3'
        simp only [← e3', ← hbe]
        unfold rdQ
        by_cases h : Be b = 0
        · simp only [h, decide_true, Bool.not_true, cond_false, if_true]
          unfold depsQ
          rw [hk', show lsN (B2 b).2 (bF b) = lsN (B2 b).2 3 by unfold bF; rw [hk']; rfl]
          rfl
        · simp [h, zQ]
      · have e3 : B5 b = stN (B2 b).2 1 := by unfold B5 B3 bF; rw [hk']; rfl
        have e3' := e3
        simp only [stN] at e3'
        simp only [← e3', ← hbe]
        unfold rdQ
        by_cases h : Be b = 0
        · simp only [h, decide_true, Bool.not_true, cond_false, if_true]
          unfold depsQ
          rw [hk', show lsN (B2 b).2 (bF b) = lsN (B2 b).2 1 by unfold bF; rw [hk']; rfl]
          rfl
        · simp [h, zQ]
    · have hbe : Be b = 13 := by unfold Be; rw [if_pos h1, if_neg hk]
      have hz : rdQ b = zQ := by unfold rdQ; rw [hbe]; rfl
      have hke : (decide (1 ≤ (B1 b).1) && decide ((B1 b).1 ≤ 12)) = false := by
        rw [Bool.eq_false_iff, ne_eq, Bool.and_eq_true, decide_eq_true_eq, decide_eq_true_eq]; exact hk
      simp only [h1, decide_true, cond_true, hke, Bool.not_false, Option.bind_some, Sum.elim_inr, hbe, hz]
      rfl
  · obtain ⟨k0, e2⟩ := bad1 hb hl h1
    have hbe : Be b = (B1 b).2.2 := by unfold Be; rw [if_neg h1]
    have hz : rdQ b = zQ := by unfold rdQ; rw [hbe, if_neg h1]
    have hw : nextW 1 1073741824 (B1 b).2 = (0, (B1 b).2) := e2
    have hend : endI (B1 b).2 = (B1 b).2.2 := by unfold endI; rw [if_neg h1]
    simp only [h1, decide_false, cond_false, Option.bind_some, Sum.elim_inl, pW 1 1073741824 (b1 hb hl), hw, k0, f66_1, F66_1, Int.reduceEq, decide_true, cond_true, Sum.elim_inr, p_End, hend, Bool.not_false, hbe, hz]
    rfl
end
end NM
end Go.Proofs.Ytgpejfddaelobaa
