/-
  The statement RankSome about plain data.
-/
import Derived.Test.YtacaeonoogkkaaaPRankT
import Derived.Test.YtacaeonoogkkaaaU32
import Derived.KernelRfl
set_option linter.unusedVariables false
set_option linter.unusedSimpArgs false
set_option maxHeartbeats 4000000
namespace Go.Proofs.Ytacaeonoogkkaaa
namespace NM
open AM
theorem awakeRs : f13 = some true := by kernel_rfl
def hasId (S : List Job) (y : Job) : Bool := S.any fun m => decide (m.id = y.id)
def pickJ (S : List Job) (y : Job) : List Job := (S.filter fun m => decide (m.id = y.id)).map fun _ => y
theorem pickJ_none {S : List Job} {y : Job} (h : hasId S y = false) : pickJ S y = [] := by
  unfold pickJ
  rw [List.filter_eq_nil_iff.2, List.map_nil]
  intro m hm hc
  have : hasId S y = true := List.any_eq_true.2 ⟨m, hm, hc⟩
  rw [h] at this; cases this
theorem pickJ_eq {y : Job} : ∀ {S : List Job}, Apart S → pickJ S y = if hasId S y = true then [y] else []
  | [], _ => rfl
  | m :: S, h => by
    have h := List.pairwise_cons.1 h
    by_cases hm : m.id = y.id
    · have hno : hasId S y = false := by
        cases hq : hasId S y with
        | false => rfl
        | true =>
          obtain ⟨n, hn, hc⟩ := List.any_eq_true.1 hq
          exact absurd (hm.trans (of_decide_eq_true hc).symm) (h.1 n hn)
      have e := pickJ_none hno
      unfold pickJ at e ⊢
      rw [List.filter_cons_of_pos (by simpa using hm), List.map_cons, e]
      simp [hasId, hm]
    · have e := pickJ_eq (y := y) h.2
      unfold pickJ at e ⊢
      rw [List.filter_cons_of_neg (by simpa using hm), e]
      simp [hasId, hm]
theorem flat_filter {q : Job → Bool} : ∀ l : List Job, (l.flatMap fun y => if q y = true then [y] else []) = l.filter q
  | [] => rfl
  | y :: l => by
    rw [List.flatMap_cons, flat_filter l]
    cases hq : q y <;> simp [hq]
theorem filter_sub {S l : List Job} (h : S.Sublist l) (D : Apart l) : l.filter (hasId S) = S := by
  induction h with
  | slnil => rfl
  | cons x hs ih =>
    have D := List.pairwise_cons.1 D
    rw [List.filter_cons_of_neg, ih D.2]
    intro hq
    obtain ⟨n, hn, hc⟩ := List.any_eq_true.1 hq
    exact D.1 n (hs.subset hn) (of_decide_eq_true hc).symm
  | cons_cons x hs ih =>
    rename_i S l
    have D := List.pairwise_cons.1 D
    rw [List.filter_cons_of_pos (by simp [hasId])]
    have : l.filter (hasId (x :: S)) = l.filter (hasId S) := by
      refine List.filter_congr fun y hy => ?_
      have := D.1 y hy
      simp [hasId, this]
    rw [this, ih D.2]
theorem law_RankSome (s : Spec) (hs : Rng.P s) (all : List Job) (ha : Rng.P all) (x : Int × List Int × Int) (hx : I64 x.1) : f3 s all x = some true := by
  have hml : maxLen = 9223372036854775807 := rfl
  have ha1 : all.length ≤ maxLen := ha.1
  unfold f3 F3
  simp only [awakeRs, r_Few s hs, r_FewJ all ha1, r_Right s hs, Option.bind_some, Bool.not_true, cond_false]
  cases fewB s with
  | false => rfl
  | true =>
    cases hf : fewJ all with
    | false => rfl
    | true =>
      by_cases hu : 20 < (x.2.1.length : Int)
      · simp [hu]
      · cases hok : specOk s with
        | false => simp [hu]
        | true =>
          simp only [hu, Bool.not_true, decide_false, cond_false]
          simp only [fewJ, Bool.and_eq_true, decide_eq_true_eq, List.all_eq_true] at hf
          obtain ⟨hn, hafter⟩ := hf
          have hj : ∀ j, j ∈ all → Rng.P j ∧ j.after.length ≤ 10 := fun j h => ⟨ha.2 j h, hafter j h⟩
          refine loop_eq (I := fun st => ∃ (n : Nat) (S : List Job), n ≤ all.length ∧ st = (((), (), (), (), (), (n : Int), ()), (s, x, (x.1, x.2.1), S, [], ())) ∧ S.Sublist (all.take n) ∧ ∀ i k : Nat, (h : i < n) → (h2 : i < all.length) → (hk : k < i) → all[i].id ≠ (all[k]'(by omega)).id) (m := fun st => all.length - st.1.2.2.2.2.2.1.toNat) (R := fun _ => some true) ?_ ⟨0, [], by omega, rfl, by simp, fun i k h => by omega⟩ (by show all.length - _ < LOOPS; unfold LOOPS; omega)
          rintro st nx8 ⟨n, S, hn1, rfl, hS, hD⟩ hnx
          simp only [l3_3]
          by_cases h : n < all.length
          · have hg : all[n]? = some all[n] := List.getElem?_eq_getElem h
            simp only [show (n : Int) < (all.length : Int) by omega, show (0 : Int) ≤ (n : Int) by omega, Int.toNat_natCast, hg, decide_true, cond_true, Option.bind_some]
            have lS : S.length ≤ n := by have := hS.length_le; rw [List.length_take] at this; omega
            refine loop_eq (I := fun st => ∃ k : Nat, k ≤ n ∧ st = (((), (), (), (), (), (), (k : Int), ()), (s, x, (x.1, x.2.1), S, [], all[n], ())) ∧ ∀ k' : Nat, k' < k → (h : k' < all.length) → all[n].id ≠ all[k'].id) (m := fun st => n - st.1.2.2.2.2.2.2.1.toNat) (R := fun _ => some true) ?_ ⟨0, by omega, rfl, fun k' h _ => by omega⟩ (by show n - _ < LOOPS; unfold LOOPS; omega)
            rintro st nx17 ⟨k, hk1, rfl, hD2⟩ hnx2
            simp only [l3_0]
            by_cases h3 : k < n
            · have hgk : all[k]? = some all[k] := List.getElem?_eq_getElem (by omega)
              have w2 : IntKind.wrap .i64 ((k : Int) + 1) = ((k + 1 : Nat) : Int) := by rw [wi (by omega) (by omega)]; omega
              simp only [show (k : Int) < (n : Int) by omega, show (0 : Int) ≤ (k : Int) by omega, Int.toNat_natCast, hgk, decide_true, cond_true, Option.bind_some, w2]
              by_cases hid : all[k].id = all[n].id
              · simp only [hid, decide_true, cond_true]
              · simp only [hid, decide_false, cond_false]
                refine hnx2 _ ⟨k + 1, by omega, rfl, fun k' h' h'' => ?_⟩ (by simp only [Int.toNat_natCast]; omega)
                rcases Nat.lt_or_ge k' k with h6 | h6
                · exact hD2 k' h6 h''
                · have : k' = k := by omega
                  subst this
                  exact fun e => hid e.symm
            · obtain rfl : k = n := by omega
              have w1 : IntKind.wrap .i64 ((k : Int) + 1) = ((k + 1 : Nat) : Int) := by rw [wi (by omega) (by omega)]; omega
              have w3 : IntKind.wrap .u64 (k : Int) = (k : Int) := by rw [wu]; omega
              have hD' : ∀ i k' : Nat, (h : i < k + 1) → (h2 : i < all.length) → (hk : k' < i) → all[i].id ≠ (all[k']'(by omega)).id := fun i k' q1 q2 q3 => by
                rcases Nat.lt_or_ge i k with h6 | h6
                · exact hD i k' h6 q2 q3
                · have : i = k := by omega
                  subst this
                  exact hD2 k' q3 (by omega)
              have ht : all.take (k + 1) = all.take k ++ [all[k]] := by rw [List.take_add_one, hg]; rfl
              simp only [Int.lt_irrefl, decide_false, cond_false, w3, show ¬ (k : Int) < 0 by omega, w1, small152 (show S.length + 1 ≤ 1000 by omega), cond_true]
              generalize decide (IntKind.wrap .u32 _ = 1) = bit
              cases bit with
              | true =>
                simp only [cond_true]
                exact hnx _ ⟨k + 1, S ++ [all[k]], by omega, rfl, by rw [ht]; exact hS.append (List.Sublist.refl _), hD'⟩ (by simp only [Int.toNat_natCast]; omega)
              | false =>
                simp only [cond_false]
                exact hnx _ ⟨k + 1, S, by omega, rfl, by rw [ht]; exact hS.trans (List.sublist_append_left _ _), hD'⟩ (by simp only [Int.toNat_natCast]; omega)
          · obtain rfl : n = all.length := by omega
            rw [List.take_length] at hS
            have D : Apart all := by
              unfold Apart
              rw [List.pairwise_iff_getElem]
              intro i j hi hj' hij
              exact fun e => hD j i hj' hj' hij e.symm
            have DS : Apart S := List.Pairwise.sublist hS D
            have lS := hS.length_le
            simp only [Int.lt_irrefl, decide_false, cond_false]
            rcases p_Order s hs all hn hj (x.1, x.2.1) hx with ⟨_, h⟩ | ⟨_, M, e1, s1, p1⟩
            · rw [hok] at h; cases h
            · rcases p_Order s hs S (by omega) (fun j h => hj j (hS.subset h)) (x.1, x.2.1) hx with ⟨_, h⟩ | ⟨_, M', e2, s2, p2⟩
              · rw [hok] at h; cases h
              · obtain ⟨q1, r1⟩ := sorted_jobs D s1 p1
                obtain ⟨q2, r2⟩ := sorted_jobs DS s2 p2
                generalize hl : M.map (jobAt all) = l at q1 r1 e1
                generalize hm : M'.map (jobAt S) = m at q2 r2 e2
                have hfil : l.filter (hasId S) = m := by
                  refine sorted_eq (R := fun a b => klt (keyOf s (x.1, x.2.1) a) (keyOf s (x.1, x.2.1) b) = true) (fun a h => by rw [klt_irr] at h; cases h) (fun a b c => klt_tr) (q1.filter _) q2 ?_
                  have := r1.filter (hasId S)
                  rw [filter_sub hS D] at this
                  exact this.trans r2.symm
                rw [e1]
                simp only [Option.bind_some]
                have lm : m.length ≤ 30 := by have := r2.length_eq; omega
                have ll : l.length ≤ 30 := by have := r1.length_eq; omega
                have key := list_loopI (β := List Job) (f := fun (s28 : ((Unit × (Unit × (Unit × (Unit × (Int × Unit))))) × (Spec × ((Int × (List Int)) × ((List Job) × ((List Job) × Unit)))))) nx29 => l3_2 (@LN LOOPS) f17 f18 l nx29 s28.1.2.2.2.2.1 s28.2.1 s28.2.2.1 s28.2.2.2.1 s28.2.2.2.2.1) l (fun w z => (((), (), (), (), z, ()), (s, (x.1, x.2.1), S, w, ()))) (fun w z => (w.length : Int) ≤ z) (fun w y => .inl (w ++ pickJ S y)) (fun w => Option.bind (f17 s S (x.1, x.2.1)) fun r45 => Option.bind (f18 r45 w) fun r46 => some r46) (by omega)
                  (fun w next _ => by simp [l3_2])
                  (fun w z y next hI g0 g1 g2 g3 => by
                    have hp := pickJ_eq (y := y) DS
                    have hpl : (pickJ S y).length ≤ 1 := by rw [hp]; split <;> simp
                    refine ⟨by simp; omega, ?_⟩
                    simp only [l3_2, g0, g1, g2, g3, decide_true, cond_true, Option.bind_some]
                    refine Eq.trans (loop_eq (I := fun st => ∃ k : Nat, k ≤ S.length ∧ st = (((), (), (), (), (), (), (k : Int), ()), (s, (x.1, x.2.1), S, w ++ pickJ (S.take k) y, y, ()))) (m := fun st => S.length - st.1.2.2.2.2.2.2.1.toNat) (R := fun _ => next (((), (), (), (), z + 1, ()), (s, (x.1, x.2.1), S, w ++ pickJ S y, ()))) ?_ ⟨0, by omega, by simp [pickJ]⟩ (by show S.length - _ < LOOPS; unfold LOOPS; omega)) rfl
                    rintro st nx37 ⟨k, hk, rfl⟩ hnx3
                    simp only [l3_1]
                    by_cases h : k < S.length
                    · have hgk : S[k]? = some S[k] := List.getElem?_eq_getElem h
                      have w2 : IntKind.wrap .i64 ((k : Int) + 1) = ((k + 1 : Nat) : Int) := by rw [wi (by omega) (by omega)]; omega
                      have ht : S.take (k + 1) = S.take k ++ [S[k]] := by rw [List.take_add_one, hgk]; rfl
                      have hpk : (pickJ (S.take k) y).length ≤ 30 := by
                        unfold pickJ
                        rw [List.length_map]
                        have := List.length_filter_le (fun m : Job => decide (m.id = y.id)) (S.take k)
                        rw [List.length_take] at this
                        omega
                      simp only [show (k : Int) < (S.length : Int) by omega, show (0 : Int) ≤ (k : Int) by omega, Int.toNat_natCast, hgk, h, decide_true, cond_true, Option.bind_some, w2, small152 (show (w ++ pickJ (S.take k) y).length + 1 ≤ 1000 by simp; omega)]
                      by_cases hid : S[k].id = y.id
                      · simp only [hid, decide_true, cond_true]
                        refine hnx3 _ ⟨k + 1, by omega, ?_⟩ (by simp only [Int.toNat_natCast]; omega)
                        have e6 : pickJ (S.take (k + 1)) y = pickJ (S.take k) y ++ [y] := by
                          unfold pickJ
                          rw [ht, List.filter_append, List.map_append]
                          simp [hid]
                        rw [e6]
                        simp
                      · simp only [hid, decide_false, cond_false]
                        refine hnx3 _ ⟨k + 1, by omega, ?_⟩ (by simp only [Int.toNat_natCast]; omega)
                        have e6 : pickJ (S.take (k + 1)) y = pickJ (S.take k) y := by
                          unfold pickJ
                          rw [ht, List.filter_append, List.map_append]
                          simp [hid]
                        rw [e6]
                    · obtain rfl : k = S.length := by omega
                      simp only [Int.lt_irrefl, decide_false, cond_false, List.take_length, g3]) [] (by simp)
                refine Eq.trans key ?_
                rw [runL_fold]
                have e3 : ∀ (l w : List Job), l.foldl (fun w y => w ++ pickJ S y) w = w ++ l.flatMap (pickJ S) := by
                  intro l
                  induction l with
                  | nil => intro w; simp
                  | cons y l ih => intro w; simp only [List.foldl_cons, ih, List.flatMap_cons, List.append_assoc]
                have e4 : l.flatMap (pickJ S) = m := by
                  rw [← hfil, ← flat_filter l]
                  congr 1
                  funext y
                  exact pickJ_eq DS
                rw [e3, List.nil_append, e4, e2]
                simp only [Option.bind_some]
                rw [p_SameL m (by omega) (fun j h => (hj j (hS.subset (r2.mem_iff.1 h))).2)]
                rfl
end NM
namespace rankSome
open NM AM
theorem jobs_self (l : List Job) : (NEnc.f l : List Job) = l := List.map_id' l
theorem walk (x0 : Spec) (x1 : List Job) (x2 : Int × List Int × UInt32) (v0 v1 v2 : Value) (W : World) (h0 : V W (Lt W.heap.size) x0 v0) (h1 : V W (Lt W.heap.size) x1 v1) (h2 : V W (Lt W.heap.size) x2 v2) :
    Calls Try.prog 3 #[v0, v1, v2] W fun e w' => e = .returned (.bool true) ∧ Go.RowKit.Below W.heap.size W w' :=
  nlaw_walk NM.ok3 (x := (NEnc.f x0, NEnc.f x1, NEnc.f x2, ())) (by rw [jobs_self x1]; exact law_RankSome x0 (Rng.ok h0.1) x1 (Rng.ok h1.1) _ (Rng.ok h2.1 : Rng.P x2).1) (arg_cons x0 (arg_cons x1 (arg_cons x2 arg_nil))) rfl fun j a v ha hv => by
    match j with
    | 0 => simp at ha hv; subst ha; subst hv; exact h0.vr (fun _ h => h) _
    | 1 => simp at ha hv; subst ha; subst hv; exact h1.vr (fun _ h => h) _
    | 2 => simp at ha hv; subst ha; subst hv; exact h2.vr (fun _ h => h) _
end rankSome
end Go.Proofs.Ytacaeonoogkkaaa
