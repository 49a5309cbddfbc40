/-
  The program's steps: what is taken.
-/
import Derived.Test.YtgpejfddaelobaaPSteps
set_option linter.unusedVariables false
set_option linter.unusedSimpArgs false
namespace Go.Proofs.Ytgpejfddaelobaa
namespace NM
open AM

theorem take_by (need x : Res) (hn : okR need = true) (hx : okR x = true) : f92 x need = chg (fun x => subR x need) x := by
  unfold f92 vecSub sumG chg
  rw [if_pos hx, if_pos hn]
  unfold withinG
  by_cases h : okR (subR x need) = true
  · simp [h]
  · simp [h]
theorem take_loop (need : Res) (e : Int) (z : List Step) (i : Nat) (hi : i ≤ z.length) (hz : z.length ≤ 900) :
    LN LOOPS (fun (s10 : ((Unit × (Unit × (Int × Unit))) × (Res × ((List Step) × Unit)))) nx11 => l91_0 f92 f41 e nx11 s10.1.2.2.1 s10.2.1 s10.2.2.1) (((), (), (i : Int), ()), (need, z, ())) = goT (fun x => f92 x need) f41 e (z.take i) (z.drop i) := by
  have key := loop_eq (f := fun (s10 : ((Unit × (Unit × (Int × Unit))) × (Res × ((List Step) × Unit)))) nx11 => l91_0 f92 f41 e nx11 s10.1.2.2.1 s10.2.1 s10.2.2.1)
    (I := fun s => 0 ≤ s.1.2.2.1 ∧ s.1.2.2.1 ≤ (s.2.2.1.length : Int) ∧ s.2.2.1.length ≤ 900 ∧ s.2.1 = need) (m := fun s => s.2.2.1.length - s.1.2.2.1.toNat)
    (R := fun s => goT (fun x => f92 x need) f41 e (s.2.2.1.take s.1.2.2.1.toNat) (s.2.2.1.drop s.1.2.2.1.toNat)) (s := (((), (), (i : Int), ()), (need, z, ()))) ?_ ⟨by simp only; omega, by simp only; omega, hz, rfl⟩ (by show z.length - _ < LOOPS; unfold LOOPS; omega)
  · refine key.trans ?_
    simp only [Int.toNat_natCast]
  · rintro ⟨⟨u1, u2, j, u3⟩, ⟨nd, y, u4⟩⟩ next ⟨h1, h2, h3, h4⟩ hn
    simp only at h1 h2 h3 h4 ⊢
    subst h4
    unfold l91_0
    by_cases hj : j.toNat < y.length
    · have hg : y[j.toNat]? = some y[j.toNat] := List.getElem?_eq_getElem hj
      have hd : y.drop j.toNat = y[j.toNat] :: y.drop (j.toNat + 1) := List.drop_eq_getElem_cons hj
      have w : IntKind.wrap .i64 (j + 1) = j + 1 := wi (by omega) (by omega)
      simp only [h1, hj, hg, hd, decide_true, cond_true, Option.bind_some, w, goT]
      by_cases ht : y[j.toNat].at_ < e
      · simp only [ht, decide_true, cond_true, if_true]
        cases hr : f92 y[j.toNat].free nd with
        | none => rfl
        | some r =>
          simp only [Option.bind_some]
          by_cases hr0 : r.2.1 = 0
          · simp only [hr0, decide_true, Bool.not_true, cond_false, if_true]
            rw [hn _ ⟨by simp only; omega, by simp only [List.length_set]; omega, by simp only [List.length_set]; omega, rfl⟩ (by simp only [List.length_set]; omega)]
            simp only
            have e1 : (j + 1).toNat = j.toNat + 1 := by omega
            rw [e1]
            have e2 : (y.set j.toNat ⟨y[j.toNat].at_, r.1⟩).take (j.toNat + 1) = y.take j.toNat ++ [⟨y[j.toNat].at_, r.1⟩] := by
              rw [List.take_add_one, List.take_set_of_le (Nat.le_refl _)]
              simp [hj]
            have e3 : (y.set j.toNat ⟨y[j.toNat].at_, r.1⟩).drop (j.toNat + 1) = y.drop (j.toNat + 1) := List.drop_set_of_lt (by omega)
            rw [e2, e3]
          · simp only [hr0, decide_false, Bool.not_false, cond_true, if_false]
      · simp only [ht, decide_false, cond_false, if_false]
        rw [← hd, List.take_append_drop]
    · have hd : y.drop j.toNat = [] := List.drop_of_length_le (by omega)
      simp only [h1, hj, hd, decide_true, decide_false, cond_true, cond_false, goT]
theorem take_change (l : List Step) (b e : Int) (need : Res) (hl : l.length ≤ 800) : f91 l b e need = some (changeR (fun x => subR x need) l b e need) := by
  have hml : maxLen = 9223372036854775807 := rfl
  unfold f91 F91
  simp only [p_Right _ (show l.length ≤ maxLen by omega), Option.bind_some, p_vecRight]
  cases l with
  | nil => rfl
  | cons s tl =>
    simp only [changeR]
    cases hok : stepsOk (s :: tl) with
    | false => simp
    | true =>
      cases hnd : okR need with
      | false => simp
      | true =>
        simp only [Bool.not_true, cond_false, List.getElem?_cons_zero, Option.bind_some, true_and]
        by_cases c1 : b < s.at_
        · simp [c1, show ¬ s.at_ ≤ b by omega]
        · by_cases c2 : e ≤ b
          · simp [c1, c2, show ¬ b < e by omega]
          · by_cases c3 : 281474976710656 < e
            · simp [c1, c2, c3, show ¬ e ≤ 281474976710656 by omega]
            · rw [if_pos ⟨by omega, by omega, by omega⟩]
              simp only [c1, c2, c3, decide_false, cond_false]
              have hrf : rightFrom (-1) (s :: tl) = true := by unfold stepsOk at hok; simp only [Bool.and_eq_true] at hok; exact hok.1
              obtain ⟨hr, hall⟩ := rightFrom_rise hrf
              have hlt : tl.length + 1 ≤ 800 := by simpa using hl
              have hl1 := len_cutT s.at_ b s.free tl
              have hr1 : Rise s.at_ (cutT s.at_ s.free tl b) := rise_cutT hr.2 (by omega)
              have hl2 := len_cutT s.at_ e s.free (cutT s.at_ s.free tl b)
              have hr2 : Rise s.at_ (twoT s tl b e) := rise_cutT hr1 (by omega)
              have hp : ∀ u, u ∈ twoT s tl b e → u.at_ ≤ 281474976710656 ∧ okR u.free = true := by
                refine all_cutT (p := fun u => u.at_ ≤ 281474976710656 ∧ okR u.free = true) ⟨by show e ≤ _; omega, (hall s (by simp)).2⟩ ?_
                intro u hu
                have hu' := all_cutT (p := fun u => u.at_ ≤ 281474976710656 ∧ okR u.free = true) (a := s.at_) (t := b) (f := s.free) (l := tl) ⟨by show b ≤ _; omega, (hall s (by simp)).2⟩ (fun v hv => ⟨hall v (by simp [hv]), by show b ≤ _; omega, (hall v (by simp [hv])).2⟩) u hu
                exact ⟨hu', by show e ≤ _; omega, hu'.2⟩
              have hz : (s :: twoT s tl b e).length ≤ 900 := by simp only [List.length_cons, twoT]; omega
              have hrr : Rise (-1) (s :: twoT s tl b e) := ⟨hr.1, hr2⟩
              have hb : Has (s :: twoT s tl b e) b := by
                by_cases hsb : s.at_ = b
                · exact ⟨s, by simp, hsb⟩
                · obtain ⟨v, h1, h2⟩ := has_keepT (a := s.at_) (t := e) (f := s.free) (has_cutT (a := s.at_) (t := b) s.free tl (by omega))
                  exact ⟨v, by simp only [List.mem_cons]; exact .inr h1, h2⟩
              have he : Has (s :: twoT s tl b e) e := by
                obtain ⟨v, h1, h2⟩ := has_cutT (a := s.at_) (t := e) s.free (cutT s.at_ s.free tl b) (by omega)
                exact ⟨v, by simp only [List.mem_cons]; exact .inr h1, h2⟩
              rw [p_cut hr (by omega) (show (s :: tl).length ≤ 900 by simp; omega)]
              simp only [Option.bind_some]
              rw [p_cut (a := -1) ⟨hr.1, hr1⟩ (by omega) (show (s :: cutT s.at_ s.free tl b).length ≤ 900 by simp; omega)]
              simp only [Option.bind_some]
              change Option.bind (f87 (s :: twoT s tl b e) b) _ = _
              rw [p_find _ b hrr (by omega)]
              simp only [Option.bind_some]
              obtain ⟨pre, u, post, hs1, hs2, hs3, hs4, hs5⟩ := split_at hrr hb
              have hcn : ((cnt b (s :: twoT s tl b e) : Int) - 1) = (pre.length : Int) := by rw [hs5]; omega
              rw [hcn]
              refine (take_loop need e (s :: twoT s tl b e) pre.length (by rw [hs1]; simp) hz).trans ?_
              have ht : (s :: twoT s tl b e).take pre.length = pre := by rw [hs1]; simp
              have hd : (s :: twoT s tl b e).drop pre.length = u :: post := by rw [hs1]; simp
              rw [ht, hd]
              have hall2 : ∀ v, v ∈ s :: twoT s tl b e → v.at_ ≤ 281474976710656 ∧ okR v.free = true := fun v hv => by
                rcases List.mem_cons.1 hv with rfl | hv
                · exact hall _ (by simp)
                · exact hp v hv
              have he' : Has (u :: post) e := by
                obtain ⟨v, h1, h2⟩ := he
                rw [hs1] at h1
                rcases List.mem_append.1 h1 with h1 | h1
                · have := hs3 v h1; omega
                · exact ⟨v, h1, h2⟩
              rw [goT_eq (b := b) (op := fun x => subR x need) (fun x hx => take_by need x hnd hx) hs4 (by omega) he' (fun v hv => (hall2 v (by rw [hs1]; exact List.mem_append_right _ hv)).2)]
              have hmap : pre ++ (u :: post).map (turnS b e (fun x => subR x need)) = (s :: twoT s tl b e).map (turnS b e (fun x => subR x need)) := by
                rw [hs1, List.map_append, turn_before hs3]
              rw [hmap]
              have hcond : (∀ v, v ∈ u :: post → inB b e v.at_ = true → okR (subR v.free need) = true) ↔ right2 b e (fun x => subR x need) s (twoT s tl b e) := by
                unfold right2
                constructor
                · intro h v hv hi
                  rw [hs1] at hv
                  rcases List.mem_append.1 hv with hv | hv
                  · have := hs3 v hv
                    simp only [inB, Bool.and_eq_true, decide_eq_true_eq] at hi
                    omega
                  · exact h v hv hi
                · intro h v hv hi
                  exact h v (by rw [hs1]; exact List.mem_append_right _ hv) hi
              by_cases hc : right2 b e (fun x => subR x need) s (twoT s tl b e)
              · rw [if_pos (hcond.2 hc), if_pos hc]
                have hsk : stepsOk ((s :: twoT s tl b e).map (turnS b e (fun x => subR x need))) = true := by
                  unfold stepsOk
                  simp only [Bool.and_eq_true, decide_eq_true_eq]
                  refine ⟨rightFrom_of (rise_turn hrr) fun v hv => ?_, by simp⟩
                  obtain ⟨w, hw, rfl⟩ := List.mem_map.1 hv
                  rw [turnS_at, turnS_free]
                  refine ⟨(hall2 w hw).1, ?_⟩
                  unfold turnR
                  split
                  · exact hc w hw (by assumption)
                  · exact (hall2 w hw).2
                rw [List.map_cons] at hsk ⊢
                rw [p_Plain hsk (by simpa using hz)]
                rfl
              · rw [if_neg (fun h => hc (hcond.1 h)), if_neg hc]
theorem p_Take (l : List Step) (b e : Int) (need : Res) (hl : l.length ≤ 800) : f44 l b e need = some (changeR (fun x => subR x need) l b e need) := by
  unfold f44 F44
  simp only [take_change l b e need hl, Option.bind_some]
end NM
end Go.Proofs.Ytgpejfddaelobaa
