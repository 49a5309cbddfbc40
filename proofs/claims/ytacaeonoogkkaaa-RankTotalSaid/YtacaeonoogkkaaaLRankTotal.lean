/-
  The statement RankTotal about plain data.
-/
import Derived.Test.YtacaeonoogkkaaaPRankT
import Derived.KernelRfl
set_option linter.unusedVariables false
set_option linter.unusedSimpArgs false
set_option maxHeartbeats 4000000
namespace Go.Proofs.Ytacaeonoogkkaaa
namespace NM
open AM
theorem awakeRk : f13 = some true := by kernel_rfl
theorem law_RankTotal (s : Spec) (hs : Rng.P s) (all : List Job) (ha : Rng.P all) (x : Int × List Int) (hx : Rng.P x) : f5 s all x = some true := by
  have hml : maxLen = 9223372036854775807 := rfl
  have hx1 : I64 x.1 := hx.1
  have ha1 : all.length ≤ maxLen := ha.1
  unfold f5 F5
  simp only [awakeRk, r_Few s hs, r_FewJ all ha1, p_Right s hs, r_Right s hs, Option.bind_some, Bool.not_true, cond_false]
  cases fewB s with
  | false => rfl
  | true =>
    cases hf : fewJ all with
    | false => rfl
    | true =>
      by_cases hu : 20 < (x.2.length : Int)
      · simp [hu]
      · cases hok : specOk s with
        | false => simp [hu]
        | true =>
          simp only [hu, Bool.not_true, decide_false, cond_false]
          simp only [fewJ, Bool.and_eq_true, decide_eq_true_eq, List.all_eq_true] at hf
          obtain ⟨hn, hafter⟩ := hf
          have hj : ∀ j, j ∈ all → Rng.P j ∧ j.after.length ≤ 10 := fun j h => ⟨ha.2 j h, hafter j h⟩
          have hahead : ∀ a b, a ∈ all → b ∈ all → f19 s a b x = some (klt (keyOf s x a) (keyOf s x b)) := fun a b h1 h2 => by
            rw [p_Ahead s hs a b (hj a h1).1 (hj b h2).1 x hx1, hok, Bool.true_and]
          rw [show IntKind.wrap .i64 ((all.length : Int) - 1) = (all.length : Int) - 1 from wi (by omega) (by omega)]
          refine loop_eq (I := fun st => ∃ n : Nat, n ≤ all.length ∧ st = (((), (), (), (n : Int) - 1, ()), (s, x, (all.drop n).reverse, ())) ∧ ∀ i k : Nat, n ≤ i → (h : i < all.length) → (hk : k < i) → all[i].id ≠ (all[k]'(by omega)).id) (m := fun st => (st.1.2.2.2.1 + 1).toNat) (R := fun _ => some true) ?_ ⟨all.length, by omega, by simp, fun i k h1 h2 => by omega⟩ (by show ((all.length : Int) - 1 + 1).toNat < LOOPS; unfold LOOPS; omega)
          rintro st nx8 ⟨n, hn1, rfl, hD⟩ hnx
          simp only [l5_2]
          by_cases h0 : n = 0
          · subst h0
            have D : Apart all := by
              unfold Apart
              rw [List.pairwise_iff_getElem]
              intro i j hi hj' hij
              exact fun e => hD j i (by omega) hj' hij e.symm
            have D2 : Apart all.reverse := by
              unfold Apart
              rw [List.pairwise_reverse]
              exact D.imp fun h e => h e.symm
            simp only [show ¬ (0 : Int) ≤ ((0 : Nat) : Int) - 1 by omega, decide_false, cond_false, List.drop_zero]
            rcases p_Order s hs all hn hj x hx1 with ⟨_, h⟩ | ⟨_, M, e1, s1, p1⟩
            · rw [hok] at h; cases h
            · rcases p_Order s hs all.reverse (by simpa using hn) (fun j h => hj j (by simpa using h)) x hx1 with ⟨_, h⟩ | ⟨_, M', e2, s2, p2⟩
              · rw [hok] at h; cases h
              · obtain ⟨q1, r1⟩ := sorted_jobs D s1 p1
                obtain ⟨q2, r2⟩ := sorted_jobs D2 s2 p2
                have heq := sorted_eq (R := fun a b => klt (keyOf s x a) (keyOf s x b) = true) (fun a h => by rw [klt_irr] at h; cases h) (fun a b c => klt_tr) q1 q2 (r1.trans (List.reverse_perm all).symm |>.trans r2.symm)
                rw [e1, e2, ← heq]
                generalize hl : M.map (jobAt all) = l at q1 r1
                have hmem : ∀ j, j ∈ l → j ∈ all := fun j h => r1.mem_iff.1 h
                have hll := r1.length_eq
                simp only [Option.bind_some]
                refine loop_eq (I := fun st => ∃ i : Nat, i ≤ l.length ∧ st = (((), (), (i : Int), ()), (s, x, ()))) (m := fun st => l.length - st.1.2.2.1.toNat) (R := fun _ => some true) ?_ ⟨0, by omega, rfl⟩ (by show l.length - _ < LOOPS; unfold LOOPS; omega)
                rintro st nx ⟨i, hi, rfl⟩ hnx2
                simp only [l5_1]
                by_cases h : i < l.length
                · have w1 : IntKind.wrap .i64 ((i : Int) + 1) = ((i + 1 : Nat) : Int) := by rw [wi (by omega) (by omega)]; omega
                  have hgo := hnx2 (((), (), ((i + 1 : Nat) : Int), ()), (s, x, ())) ⟨i + 1, by omega, rfl⟩ (by simp only [Int.toNat_natCast]; omega)
                  simp only [show (i : Int) < (l.length : Int) by omega, decide_true, cond_true, w1]
                  by_cases hi0 : i = 0
                  · subst hi0
                    simp only [show ¬ (0 : Int) < ((0 : Nat) : Int) by omega, decide_false, cond_false]
                    exact hgo
                  · have w2 : IntKind.wrap .i64 ((i : Int) - 1) = ((i - 1 : Nat) : Int) := by rw [wi (by omega) (by omega)]; omega
                    have g1 : l[i - 1]? = some l[i - 1] := List.getElem?_eq_getElem (by omega)
                    have g2 : l[i]? = some l[i] := List.getElem?_eq_getElem h
                    have hk := List.pairwise_iff_getElem.1 q1 (i - 1) i (by omega) h (by omega)
                    simp only [show (0 : Int) < (i : Int) by omega, w2, show (0 : Int) ≤ ((i - 1 : Nat) : Int) by omega, show (0 : Int) ≤ (i : Int) by omega, Int.toNat_natCast, g1, g2, hahead l[i - 1] l[i] (hmem _ (List.getElem_mem _)) (hmem _ (List.getElem_mem _)), hk, decide_true, cond_true, Option.bind_some, Bool.not_true, cond_false]
                    exact hgo
                · obtain rfl : i = l.length := by omega
                  simp only [Int.lt_irrefl, decide_false, cond_false, hll, decide_true, cond_true, p_SameL l (by omega) (fun j h => (hj j (hmem j h)).2), Option.bind_some]
          · have hlt : n - 1 < all.length := by omega
            have hg : all[n - 1]? = some all[n - 1] := List.getElem?_eq_getElem hlt
            have p1 : ((n : Int) - 1).toNat = n - 1 := by omega
            have hrev : (all.drop n).reverse ++ [all[n - 1]] = (all.drop (n - 1)).reverse := by
              rw [show all.drop (n - 1) = all[n - 1] :: all.drop n from by
                have := List.drop_eq_getElem_cons hlt
                rwa [show n - 1 + 1 = n by omega] at this]
              simp
            have w1 : IntKind.wrap .i64 ((n : Int) - 1 - 1) = ((n - 1 : Nat) : Int) - 1 := by rw [wi (by omega) (by omega)]; omega
            simp only [show (0 : Int) ≤ (n : Int) - 1 by omega, p1, hg, decide_true, cond_true, Option.bind_some, small152 (show ((all.drop n).reverse).length + 1 ≤ 1000 by simp; omega), hrev]
            refine loop_eq (I := fun st => ∃ k : Nat, k ≤ n - 1 ∧ st = (((), (), (), (k : Int), ()), (s, x, (all.drop (n - 1)).reverse, ())) ∧ ∀ k' : Nat, k' < k → (h : k' < all.length) → all[n - 1].id ≠ all[k'].id) (m := fun st => n - st.1.2.2.2.1.toNat) (R := fun _ => some true) ?_ ⟨0, by omega, rfl, fun k' h _ => by omega⟩ (by show n - _ < LOOPS; unfold LOOPS; omega)
            rintro st nx15 ⟨k, hk1, rfl, hD2⟩ hnx2
            simp only [l5_0]
            by_cases h : k < n - 1
            · have hgk : all[k]? = some all[k] := List.getElem?_eq_getElem (by omega)
              have w2 : IntKind.wrap .i64 ((k : Int) + 1) = ((k + 1 : Nat) : Int) := by rw [wi (by omega) (by omega)]; omega
              simp only [show (k : Int) < (n : Int) - 1 by omega, show (0 : Int) ≤ (n : Int) - 1 by omega, show (0 : Int) ≤ (k : Int) by omega, p1, Int.toNat_natCast, hg, hgk, decide_true, cond_true, Option.bind_some, hahead all[n - 1] all[k] (List.getElem_mem _) (List.getElem_mem _), hahead all[k] all[n - 1] (List.getElem_mem _) (List.getElem_mem _), w2]
              by_cases hid : all[n - 1].id = all[k].id
              · simp only [hid, decide_true, cond_true]
              · have hne : (klt (keyOf s x all[n - 1]) (keyOf s x all[k]) == klt (keyOf s x all[k]) (keyOf s x all[n - 1])) = false := by
                  have h3 : (keyOf s x all[n - 1]).2.2 ≠ (keyOf s x all[k]).2.2 := hid
                  generalize keyOf s x all[n - 1] = u at h3
                  generalize keyOf s x all[k] = v at h3
                  have h1 := klt_iff u v
                  have h2 := klt_iff v u
                  cases h4 : klt u v <;> cases h5 : klt v u
                  · rw [h4] at h1; rw [h5] at h2
                    simp only [Bool.false_eq_true, false_iff] at h1 h2
                    omega
                  · rfl
                  · rfl
                  · rw [h4] at h1; rw [h5] at h2
                    simp only [true_iff] at h1 h2
                    omega
                simp only [hid, hne, decide_false, cond_false]
                refine hnx2 _ ⟨k + 1, by omega, rfl, fun k' h' h'' => ?_⟩ (by simp only [Int.toNat_natCast]; omega)
                rcases Nat.lt_or_ge k' k with h6 | h6
                · exact hD2 k' h6 h''
                · have : k' = k := by omega
                  subst this
                  exact hid
            · obtain rfl : k = n - 1 := by omega
              simp only [show ¬ ((n - 1 : Nat) : Int) < (n : Int) - 1 by omega, decide_false, cond_false, w1]
              refine hnx _ ⟨n - 1, by omega, rfl, fun i k' h1 h2 h3 => ?_⟩ (by simp only; omega)
              rcases Nat.lt_or_ge (n - 1) i with h6 | h6
              · exact hD i k' (by omega) h2 h3
              · have : i = n - 1 := by omega
                subst this
                exact hD2 k' h3 (by omega)
end NM
namespace rankTotal
open NM AM
theorem jobs_self (l : List Job) : (NEnc.f l : List Job) = l := List.map_id' l
theorem now_self (x : Int × List Int) : (NEnc.f x : Int × List Int) = x := Prod.ext rfl (List.map_id' x.2)
theorem walk (x0 : Spec) (x1 : List Job) (x2 : Int × List Int) (v0 v1 v2 : Value) (W : World) (h0 : V W (Lt W.heap.size) x0 v0) (h1 : V W (Lt W.heap.size) x1 v1) (h2 : V W (Lt W.heap.size) x2 v2) :
    Calls Try.prog 5 #[v0, v1, v2] W fun e w' => e = .returned (.bool true) ∧ Go.RowKit.Below W.heap.size W w' :=
  nlaw_walk NM.ok5 (x := (NEnc.f x0, NEnc.f x1, NEnc.f x2, ())) (by rw [jobs_self x1, now_self x2]; exact law_RankTotal x0 (Rng.ok h0.1) x1 (Rng.ok h1.1) x2 (Rng.ok h2.1)) (arg_cons x0 (arg_cons x1 (arg_cons x2 arg_nil))) rfl fun j a v ha hv => by
    match j with
    | 0 => simp at ha hv; subst ha; subst hv; exact h0.vr (fun _ h => h) _
    | 1 => simp at ha hv; subst ha; subst hv; exact h1.vr (fun _ h => h) _
    | 2 => simp at ha hv; subst ha; subst hv; exact h2.vr (fun _ h => h) _
end rankTotal
end Go.Proofs.Ytacaeonoogkkaaa
