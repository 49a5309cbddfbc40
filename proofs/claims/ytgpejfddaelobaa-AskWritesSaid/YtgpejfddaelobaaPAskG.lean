/-
  Requests: the document's bytes; what is written is read as it was.
-/
import Derived.Test.YtgpejfddaelobaaPAskF
set_option linter.unusedVariables false
set_option linter.unusedSimpArgs false
namespace Go.Proofs.Ytgpejfddaelobaa
namespace NM
open AM

theorem r_Put (l : List Int) (hin : l.all inN = true) (hl : 9 * l.length ≤ 4294967295) : f83 l = some (putsI l) := by
  unfold f83 F83
  rw [List.all_eq_true] at hin
  refine loop_run' l.length (loops_gt _ (by omega)) (fun i => (((), (i : Int), ()), (putsI (l.take i), ()))) (fun i hi next => ?_) (fun next => ?_)
  · have hx := hin l[i] (List.getElem_mem hi)
    have h1 := putsI_len (l.take i)
    have h2 : (l.take i).length ≤ i := List.length_take_le _ _
    have h3 := bytesI_len l[i]
    simp only [l83_0, show ((i : Int) < (l.length : Int)) by omega, decide_true, cond_true, show (0 : Int) ≤ (i : Int) by omega, Int.toNat_natCast, List.getElem?_eq_getElem hi, Option.bind_some, r_Bytes hx, small_ok' 1 (by decide) (show (putsI (l.take i)).length + (bytesI l[i]).length ≤ 4294967295 by omega), wi (show -9223372036854775808 ≤ (i : Int) + 1 by omega) (by omega), List.take_add_one, Option.toList_some, putsI_append, putsI, List.append_nil]
    rfl
  · simp [l83_0]
theorem nums_len {r : Request} (h : r.after.length ≤ 4) : (numsQ r).length ≤ 19 ∧ (fieldsL r.kind).length ≤ 8 := by
  have hf : (fieldsL r.kind).length ≤ 8 := by unfold fieldsL; (repeat' split) <;> simp
  have hd := depsN_len r.after
  refine ⟨?_, hf⟩
  simp only [numsQ, fieldsV, depsV, List.length_append, List.length_map, List.length_cons, List.length_nil]
  split
  · simp only [List.length_cons]; omega
  · simp only [List.length_nil]; omega
theorem fields_in' {k x : Int} (hx : x ∈ fieldsL k) : 1 ≤ x ∧ x ≤ 14 := by
  unfold fieldsL at hx
  (repeat' split at hx) <;> simp at hx <;> omega
theorem r_writeAsk (r : Request) (hr : rightQ r = true) : f28 r = some (putsI (numsQ r)) := by
  obtain ⟨h1, h2, h3, h4, h5, h6, h7⟩ := right_kind hr
  obtain ⟨hn, hf⟩ := nums_len h5
  unfold f28 F28
  simp only [r_all, r_fields h1 h2, Option.bind_some]
  have hput := r_Put (numsQ r) (nums_in hr) (by omega)
  have e := fieldsV
  refine loop_run' (fieldsL r.kind).length (loops_gt _ (by omega)) (fun i => (((), (), (i : Int), ()), (r, [r.kind, r.key] ++ (fieldsV r).take i, ()))) (fun i hi next => ?_) (fun next => ?_)
  · obtain ⟨x, hx⟩ : ∃ x, (fieldsL r.kind)[i]? = some x := ⟨_, List.getElem?_eq_getElem hi⟩
    have hxin := fields_in' (List.mem_of_getElem? hx)
    have hg : (getF r)[x.toNat]? = some ((getF r).getD x.toNat 0) := by
      rw [List.getD_eq_getElem?_getD, List.getElem?_eq_getElem (by simp [getF]; omega)]; rfl
    have hv : (fieldsV r)[i]? = some ((getF r).getD x.toNat 0) := by simp only [fieldsV, List.getElem?_map, hx, Option.map_some]
    have hl : (([r.kind, r.key] ++ (fieldsV r).take i).length + 1) ≤ 4294967295 := by
      have : ((fieldsV r).take i).length ≤ i := List.length_take_le _ _
      simp only [List.length_append, List.length_cons, List.length_nil]; omega
    simp only [l28_1, show (i : Int) < ((fieldsL r.kind).length : Int) by omega, decide_true, cond_true, show (0 : Int) ≤ (i : Int) by omega, Int.toNat_natCast, hx, Option.bind_some, show (0 : Int) ≤ x by omega, hg, small_ok' 8 (by decide) hl, wi (show -9223372036854775808 ≤ (i : Int) + 1 by omega) (by omega), List.take_add_one, hv, Option.toList_some, ← List.append_assoc]
    rfl
  · have hvl : (fieldsV r).length = (fieldsL r.kind).length := by simp [fieldsV]
    have ht : (fieldsV r).take (fieldsL r.kind).length = fieldsV r := List.take_of_length_le (by omega)
    simp only [l28_1, Int.lt_irrefl, decide_false, cond_false, ht]
    by_cases hk : r.kind = 1
    · have hdep := loop_run' (f := fun (s : ((Unit × (Unit × (Int × Unit))) × (Request × ((List Int) × Unit)))) nx => l28_0 nx s.1.2.2.1 s.2.1 s.2.2.1) (r := some (((), ()), ([r.kind, r.key] ++ fieldsV r ++ [(r.after.length : Int)] ++ depsN r.after, ()))) r.after.length (loops_gt _ (by omega)) (fun i => (((), (), (i : Int), ()), (r, [r.kind, r.key] ++ fieldsV r ++ [(r.after.length : Int)] ++ depsN (r.after.take i), ()))) (fun i hi next => ?_) (fun next => ?_)
      · have hs : smallB (([r.kind, r.key] ++ fieldsV r).length + 1) 8 = true := small_ok' 8 (by decide) (by simp only [List.length_append, List.length_cons, List.length_nil]; omega)
        simp only [hk, decide_true, cond_true]
        rw [hk] at hs hdep
        simp only [hs, cond_true]
        have hd0 : [(1 : Int), r.key] ++ fieldsV r ++ [(r.after.length : Int)] ++ depsN (r.after.take 0) = [(1 : Int), r.key] ++ fieldsV r ++ [(r.after.length : Int)] := by simp [depsN]
        rw [hd0] at hdep
        simp only [show ((0 : Nat) : Int) = 0 from rfl] at hdep
        rw [hdep]
        simp only [Option.bind_some]
        have hnum : numsQ r = [(1 : Int), r.key] ++ fieldsV r ++ [(r.after.length : Int)] ++ depsN r.after := by
          unfold numsQ depsV
          rw [if_pos hk, hk]
          simp
        rw [← hnum, hput]
        rfl
      · have hdl := depsN_len (r.after.take i)
        have hle : (r.after.take i).length ≤ i := List.length_take_le _ _
        have l1 : (([r.kind, r.key] ++ fieldsV r ++ [(r.after.length : Int)] ++ depsN (r.after.take i)).length + 1) ≤ 4294967295 := by
          simp only [List.length_append, List.length_cons, List.length_nil]; omega
        have l2 : (([r.kind, r.key] ++ fieldsV r ++ [(r.after.length : Int)] ++ depsN (r.after.take i) ++ [(r.after[i]).job]).length + 1) ≤ 4294967295 := by
          simp only [List.length_append, List.length_cons, List.length_nil]; omega
        simp only [l28_0, show (i : Int) < (r.after.length : Int) by omega, decide_true, cond_true, show (0 : Int) ≤ (i : Int) by omega, Int.toNat_natCast, List.getElem?_eq_getElem hi, Option.bind_some, small_ok' 8 (by decide) l1, small_ok' 8 (by decide) l2, wi (show -9223372036854775808 ≤ (i : Int) + 1 by omega) (by omega), List.take_add_one, Option.toList_some, depsN_append, depsN]
        cases (r.after[i]).ok <;> simp
      · simp [l28_0]
    · have hnum : numsQ r = [r.kind, r.key] ++ fieldsV r := by
        unfold numsQ depsV
        rw [if_neg hk, List.append_nil]
      simp only [hk, decide_false, cond_false, Option.bind_some]
      rw [← hnum, hput]
      rfl
/- what is written is read as it was -/
theorem stN_bytes (vs rest : List Int) (hv : vs.all inN = true) : ∀ i, i ≤ vs.length → stN (putsI vs ++ rest, 0) i = (putsI (vs.drop i) ++ rest, 0)
  | 0, _ => by simp [stN]
  | i + 1, h => by
    have hi : i < vs.length := by omega
    rw [List.all_eq_true] at hv
    rw [stN, stN_bytes vs rest (by rw [List.all_eq_true]; exact hv) i (by omega), List.drop_eq_getElem_cons hi, putsI, List.append_assoc, nextN_bytes (hv _ (List.getElem_mem hi))]
theorem lsN_bytes (vs rest : List Int) (hv : vs.all inN = true) : lsN (putsI vs ++ rest, 0) vs.length = vs := by
  apply List.ext_getElem (by simp [lsN])
  intro i h1 h2
  simp only [lsN, List.getElem_map, List.getElem_range]
  rw [stN_bytes vs rest hv i (by omega), List.drop_eq_getElem_cons h2, putsI, List.append_assoc]
  rw [List.all_eq_true] at hv
  rw [nextN_bytes (hv _ (List.getElem_mem h2))]
theorem dep_bit (d : Dep) : inN (if d.ok = true then (1 : Int) else 0) = true ∧ 0 ≤ (if d.ok = true then (1 : Int) else 0) ∧ (if d.ok = true then (1 : Int) else 0) ≤ 1 := by
  cases d.ok <;> simp [inN]
theorem stD_bytes (l : List Dep) (rest : List Int) (hv : (l.all fun d => inN d.job) = true) : ∀ i, i ≤ l.length → stD (putsI (depsN l) ++ rest, 0) i = (putsI (depsN (l.drop i)) ++ rest, 0)
  | 0, _ => by simp [stD]
  | i + 1, h => by
    have hi : i < l.length := by omega
    rw [stD, stD_bytes l rest hv i (by omega)]
    rw [List.all_eq_true] at hv
    obtain ⟨b1, b2, b3⟩ := dep_bit l[i]
    rw [List.drop_eq_getElem_cons hi, depsN, putsI, putsI, List.append_assoc, nextN_bytes (hv _ (List.getElem_mem hi))]
    simp only [List.append_assoc]
    rw [nextW_bytes b1 b2 b3]
theorem lsD_bytes (l : List Dep) (rest : List Int) (hv : (l.all fun d => inN d.job) = true) : lsD (putsI (depsN l) ++ rest, 0) l.length = l := by
  apply List.ext_getElem (by simp [lsD])
  intro i h1 h2
  simp only [lsD, List.getElem_map, List.getElem_range, dpD]
  rw [stD_bytes l rest hv i (by omega)]
  rw [List.all_eq_true] at hv
  obtain ⟨b1, b2, b3⟩ := dep_bit l[i]
  rw [List.drop_eq_getElem_cons h2, depsN, putsI, putsI, List.append_assoc, nextN_bytes (hv _ (List.getElem_mem h2))]
  simp only [List.append_assoc]
  rw [nextW_bytes b1 b2 b3]
  generalize l[i] = d
  obtain ⟨j, o⟩ := d
  cases o <;> rfl
set_option maxHeartbeats 4000000 in
theorem mkQ_self {r : Request} (h : rightQ r = true) : mkQ r.kind r.key (fieldsV r) r.after = r := by
  obtain ⟨h1, h2, h3, h4, h5, h6, h7⟩ := right_kind h
  obtain ⟨k, y, j, v, q, m, ⟨a, b, c, d⟩, w, t, l, n, f, o, i⟩ := r
  simp only at h1 h2
  rcases kinds h1 h2 with rfl | rfl | rfl | rfl | rfl | rfl | rfl | rfl | rfl | rfl | rfl | rfl <;> simp only [rightQ, chkF, fieldsL, getF, List.all_cons, List.all_nil, List.any_cons, List.any_nil, Int.reduceEq, Int.reduceLE, if_true, if_false, decide_true, decide_false, Bool.or_false, Bool.false_or, Bool.true_or, Bool.or_true, cond_true, cond_false, List.getD_cons_zero, List.getD_cons_succ, Bool.and_eq_true, decide_eq_true_eq, and_true, true_and, or_false, false_or, or_true, true_or, Bool.and_true, Bool.true_and, show ((1 : Nat) : Int) = 1 from rfl, show ((2 : Nat) : Int) = 2 from rfl, show ((3 : Nat) : Int) = 3 from rfl, show ((4 : Nat) : Int) = 4 from rfl, show ((5 : Nat) : Int) = 5 from rfl, show ((6 : Nat) : Int) = 6 from rfl, show ((7 : Nat) : Int) = 7 from rfl, show ((8 : Nat) : Int) = 8 from rfl, show ((9 : Nat) : Int) = 9 from rfl, show ((10 : Nat) : Int) = 10 from rfl, show ((11 : Nat) : Int) = 11 from rfl, show ((12 : Nat) : Int) = 12 from rfl, show ((13 : Nat) : Int) = 13 from rfl, show ((14 : Nat) : Int) = 14 from rfl] at h <;> rw [mkQ, ofL] <;> simp only [setL, fieldsV, fieldsL, getF, Int.reduceEq, if_true, if_false, or_false, false_or, or_true, true_or, Int.reduceToNat, List.replicate, List.map_cons, List.map_nil, List.set_cons_zero, List.set_cons_succ, List.getD_cons_zero, List.getD_cons_succ, Request.mk.injEq, Res.mk.injEq, h, and_self]
theorem read_back {r : Request} (h : rightQ r = true) : Be (putsI (numsQ r)) = 0 ∧ rdQ (putsI (numsQ r)) = r := by
  obtain ⟨h1, h2, h3, h4, h5, h6, h7⟩ := right_kind h
  have hin := nums_in h
  have hk : inN r.kind = true := by simp [inN]; omega
  have hy : inN r.key = true := by simp [inN]; omega
  have hfv : (fieldsV r).all inN = true := by
    simp only [numsQ, List.all_append, Bool.and_eq_true] at hin
    exact hin.1.2
  have e0 : putsI (numsQ r) = bytesI r.kind ++ (bytesI r.key ++ (putsI (fieldsV r) ++ putsI (depsV r))) := by
    simp [numsQ, putsI, putsI_append]
  have e1 : B1 (putsI (numsQ r)) = (r.kind, bytesI r.key ++ (putsI (fieldsV r) ++ putsI (depsV r)), 0) := by
    unfold B1; rw [e0, nextN_bytes hk]
  have e2 : B2 (putsI (numsQ r)) = (r.key, putsI (fieldsV r) ++ putsI (depsV r), 0) := by
    unfold B2; rw [e1]; exact nextW_bytes hy h3 h4 _
  have eF : bF (putsI (numsQ r)) = (fieldsV r).length := by unfold bF; rw [e1]; simp [fieldsV]
  have e3 : B3 (putsI (numsQ r)) = (putsI (depsV r), 0) := by
    unfold B3; rw [e2, eF]
    have := stN_bytes (fieldsV r) (putsI (depsV r)) hfv (fieldsV r).length (Nat.le_refl _)
    simpa [putsI] using this
  have eV : lsN (B2 (putsI (numsQ r))).2 (bF (putsI (numsQ r))) = fieldsV r := by
    rw [e2, eF]; exact lsN_bytes _ _ hfv
  have tail : B5 (putsI (numsQ r)) = ([], 0) ∧ depsQ (putsI (numsQ r)) = r.after := by
    unfold B5 depsQ
    rw [e1]
    by_cases k1 : r.kind = 1
    · have hl : inN (r.after.length : Int) = true := by simp [inN]; omega
      have e4 : B4 (putsI (numsQ r)) = ((r.after.length : Int), putsI (depsN r.after), 0) := by
        unfold B4; rw [e3]
        unfold depsV
        rw [if_pos k1, putsI]
        exact nextW_bytes hl (by omega) (by omega) _
      have eD : bD (putsI (numsQ r)) = r.after.length := by unfold bD; rw [e4]; simp
      rw [if_pos k1, if_pos k1, e4, eD]
      have s1 := stD_bytes r.after [] h7 r.after.length (Nat.le_refl _)
      have s2 := lsD_bytes r.after [] h7
      simp only [List.append_nil] at s1 s2
      exact ⟨by simpa [putsI, depsN] using s1, s2⟩
    · rw [if_neg k1, if_neg k1, e3]
      unfold depsV
      rw [if_neg k1]
      exact ⟨rfl, (List.eq_nil_of_length_eq_zero (by rcases h6 with h6 | h6; exact absurd h6 k1; exact h6)).symm⟩
  have hbe : Be (putsI (numsQ r)) = 0 := by
    unfold Be
    rw [e1, tail.1]
    simp only [if_true]
    rw [if_pos ⟨h1, h2⟩]
    rfl
  refine ⟨hbe, ?_⟩
  unfold rdQ
  rw [if_pos hbe, eV, tail.2, e1, e2]
  exact mkQ_self h
theorem puts_bytes {l : List Int} (h : l.all inN = true) : Bytes8 (putsI l) := by
  induction l with
  | nil => exact nomem
  | cons x l ih =>
    simp only [List.all_cons, Bool.and_eq_true] at h
    intro y hy
    rcases List.mem_append.1 hy with hy | hy
    · exact bytesI_bytes h.1 y hy
    · exact ih h.2 y hy
end NM
end Go.Proofs.Ytgpejfddaelobaa
