/-
  The bytes of requests.
-/
import Derived.Test.YtgpejfddaelobaaPAskA
set_option linter.unusedVariables false
set_option linter.unusedSimpArgs false
namespace Go.Proofs.Ytgpejfddaelobaa
namespace NM
open AM

def depsN : List Dep → List Int
  | [] => []
  | d :: l => d.job :: (if d.ok = true then 1 else 0) :: depsN l
theorem depsN_append (a b : List Dep) : depsN (a ++ b) = depsN a ++ depsN b := by
  induction a with
  | nil => rfl
  | cons x a ih => simp [depsN, ih]
theorem depsN_len (l : List Dep) : (depsN l).length = 2 * l.length := by
  induction l with
  | nil => rfl
  | cons x a ih => simp [depsN, ih]; omega
theorem depsN_inj : ∀ {a b : List Dep}, depsN a = depsN b → a = b
  | [], [], _ => rfl
  | [], _ :: _, h => by simp [depsN] at h
  | _ :: _, [], h => by simp [depsN] at h
  | ⟨x, p⟩ :: a, ⟨y, q⟩ :: b, h => by
    simp only [depsN, List.cons.injEq] at h
    obtain ⟨rfl, h2, h3⟩ := h
    rw [depsN_inj h3]
    cases p <;> cases q <;> simp at h2 <;> rfl
theorem depsN_in {l : List Dep} (h : (l.all fun d => inN d.job) = true) : (depsN l).all inN = true := by
  induction l with
  | nil => rfl
  | cons x a ih =>
    simp only [List.all_cons, Bool.and_eq_true] at h
    simp only [depsN, List.all_cons, h.1, ih h.2, Bool.true_and, Bool.and_true]
    cases x.ok <;> rfl
def depsV (r : Request) : List Int := if r.kind = 1 then (r.after.length : Int) :: depsN r.after else []
def fieldsV (r : Request) : List Int := (fieldsL r.kind).map fun x => (getF r).getD x.toNat 0
def numsQ (r : Request) : List Int := [r.kind, r.key] ++ fieldsV r ++ depsV r
theorem right_kind {r : Request} (h : rightQ r = true) : 1 ≤ r.kind ∧ r.kind ≤ 12 ∧ 1 ≤ r.key ∧ r.key ≤ 1073741824 ∧ r.after.length ≤ 4 ∧ (r.kind = 1 ∨ r.after.length = 0) ∧ (r.after.all fun d => inN d.job) = true := by
  simp only [rightQ, Bool.and_eq_true, decide_eq_true_eq, Bool.or_eq_true] at h
  obtain ⟨h1, h2, h3, h4, h5, h6, h7, h8⟩ := h
  exact ⟨h1, h2, h3, h4, h5, h6, h8⟩
theorem nums_in {r : Request} (h : rightQ r = true) : (numsQ r).all inN = true := by
  obtain ⟨h1, h2, h3, h4, h5, h6, h7⟩ := right_kind h
  have hk : inN r.kind = true := by simp [inN]; omega
  have hy : inN r.key = true := by simp [inN]; omega
  have hl : inN (r.after.length : Int) = true := by simp [inN]; omega
  have hd := depsN_in h7
  simp only [numsQ, List.all_append, List.all_cons, List.all_nil, hk, hy, Bool.and_true, Bool.true_and]
  obtain ⟨k, y, j, v, q, m, ⟨a, b, c, d⟩, w, t, l, n, f, o, i⟩ := r
  simp only at h1 h2
  rcases kinds h1 h2 with rfl | rfl | rfl | rfl | rfl | rfl | rfl | rfl | rfl | rfl | rfl | rfl <;> simp only [rightQ, chkF, fieldsL, getF, List.all_cons, List.all_nil, List.any_cons, List.any_nil, Int.reduceEq, Int.reduceLE, if_true, if_false, decide_true, decide_false, Bool.or_false, Bool.false_or, Bool.true_or, Bool.or_true, cond_true, cond_false, List.getD_cons_zero, List.getD_cons_succ, Bool.and_eq_true, decide_eq_true_eq, and_true, true_and, or_false, false_or, or_true, true_or, Bool.and_true, Bool.true_and, show ((1 : Nat) : Int) = 1 from rfl, show ((2 : Nat) : Int) = 2 from rfl, show ((3 : Nat) : Int) = 3 from rfl, show ((4 : Nat) : Int) = 4 from rfl, show ((5 : Nat) : Int) = 5 from rfl, show ((6 : Nat) : Int) = 6 from rfl, show ((7 : Nat) : Int) = 7 from rfl, show ((8 : Nat) : Int) = 8 from rfl, show ((9 : Nat) : Int) = 9 from rfl, show ((10 : Nat) : Int) = 10 from rfl, show ((11 : Nat) : Int) = 11 from rfl, show ((12 : Nat) : Int) = 12 from rfl, show ((13 : Nat) : Int) = 13 from rfl, show ((14 : Nat) : Int) = 14 from rfl] at h <;> simp only [fieldsV, depsV, fieldsL, getF, Int.reduceEq, if_true, if_false, or_false, false_or, or_true, true_or, List.map_cons, List.map_nil, Int.reduceToNat, List.getD_cons_zero, List.getD_cons_succ, List.all_cons, List.all_nil, hl, hd, h, Bool.and_true, Bool.true_and, Bool.and_self]
theorem right_inj {r s : Request} (hr : rightQ r = true) (hs : rightQ s = true) (h : numsQ r = numsQ s) : r = s := by
  obtain ⟨h1, h2, h3, h4, h5, h6, h7⟩ := right_kind hr
  obtain ⟨_, _, _, _, _, g6, _⟩ := right_kind hs
  obtain ⟨k, y, j, v, q, m, ⟨a, b, c, d⟩, w, t, l, n, f, o, i⟩ := r
  obtain ⟨k', y', j', v', q', m', ⟨a', b', c', d'⟩, w', t', l', n', f', o', i'⟩ := s
  simp only [numsQ, List.cons_append, List.nil_append, List.cons.injEq] at h
  obtain ⟨rfl, rfl, h⟩ := h
  simp only at h1 h2 h6 g6
  rcases kinds h1 h2 with rfl | rfl | rfl | rfl | rfl | rfl | rfl | rfl | rfl | rfl | rfl | rfl <;> simp only [rightQ, chkF, fieldsL, getF, List.all_cons, List.all_nil, List.any_cons, List.any_nil, Int.reduceEq, Int.reduceLE, if_true, if_false, decide_true, decide_false, Bool.or_false, Bool.false_or, Bool.true_or, Bool.or_true, cond_true, cond_false, List.getD_cons_zero, List.getD_cons_succ, Bool.and_eq_true, decide_eq_true_eq, and_true, true_and, or_false, false_or, or_true, true_or, Bool.and_true, Bool.true_and, show ((1 : Nat) : Int) = 1 from rfl, show ((2 : Nat) : Int) = 2 from rfl, show ((3 : Nat) : Int) = 3 from rfl, show ((4 : Nat) : Int) = 4 from rfl, show ((5 : Nat) : Int) = 5 from rfl, show ((6 : Nat) : Int) = 6 from rfl, show ((7 : Nat) : Int) = 7 from rfl, show ((8 : Nat) : Int) = 8 from rfl, show ((9 : Nat) : Int) = 9 from rfl, show ((10 : Nat) : Int) = 10 from rfl, show ((11 : Nat) : Int) = 11 from rfl, show ((12 : Nat) : Int) = 12 from rfl, show ((13 : Nat) : Int) = 13 from rfl, show ((14 : Nat) : Int) = 14 from rfl] at hr hs <;> simp only [Int.reduceEq, false_or, true_or, or_false] at h6 g6 <;> simp only [fieldsV, depsV, fieldsL, getF, Int.reduceEq, if_true, if_false, or_false, false_or, or_true, true_or, List.map_cons, List.map_nil, Int.reduceToNat, List.getD_cons_zero, List.getD_cons_succ, List.cons_append, List.nil_append, List.append_nil, List.cons.injEq] at h
  · simp only [Request.mk.injEq, Res.mk.injEq, hr, hs, h, depsN_inj h.2.2.2.2.2.2.2.2.2, and_self]
  all_goals simp only [Request.mk.injEq, Res.mk.injEq, hr, hs, h, List.eq_nil_of_length_eq_zero h6, List.eq_nil_of_length_eq_zero g6, and_self]
theorem putsI_inj : ∀ {l m : List Int}, l.all inN = true → m.all inN = true → putsI l = putsI m → l = m
  | [], [], _, _, _ => rfl
  | [], y :: m, _, _, h => by
    have := congrArg List.length h
    have hp := bytesI_pos y
    simp only [putsI, List.length_append, List.length_nil] at this
    omega
  | x :: l, [], _, _, h => by
    have := congrArg List.length h
    have hp := bytesI_pos x
    simp only [putsI, List.length_append, List.length_nil] at this
    omega
  | x :: l, y :: m, hl, hm, h => by
    simp only [List.all_cons, Bool.and_eq_true] at hl hm
    simp only [putsI] at h
    have h2 := congrArg numI h
    rw [numI_bytes hl.1, numI_bytes hm.1] at h2
    simp only [Prod.mk.injEq, and_true] at h2
    rw [h2.1, putsI_inj hl.2 hm.2 h2.2]
theorem writeLoop (x : ((Unit × (Unit × Unit)) × (Request × ((List Int) × Unit)))) (hx : x.2.1.after.length ≤ 4) (s0 : List Int) (hs : s0.length ≤ 100) :
    LN LOOPS (fun (s : ((Unit × (Int × Unit)) × ((List Int) × Unit))) nx => l16_0 x nx s.1.2.1 s.2.1) (((), 0, ()), (s0, ())) = some (((), ()), (s0 ++ depsN x.2.1.after, ())) := by
  have key := loop_run' (f := fun (s : ((Unit × (Int × Unit)) × ((List Int) × Unit))) nx => l16_0 x nx s.1.2.1 s.2.1) (r := some (((), ()), (s0 ++ depsN x.2.1.after, ()))) x.2.1.after.length (loops_gt _ (by omega)) (fun i => (((), (i : Int), ()), (s0 ++ depsN (x.2.1.after.take i), ()))) (fun i hi next => ?_) (fun next => ?_)
  · rw [← key]
    simp [depsN]
  · have hlen := depsN_len (x.2.1.after.take i)
    have hle : (x.2.1.after.take i).length ≤ i := List.length_take_le _ _
    have hsm : smallB ((s0 ++ depsN (x.2.1.after.take i)).length + 2) 8 = true := small_ok' 8 (by decide) (by simp; omega)
    simp only [l16_0, show (i : Int) < (x.2.1.after.length : Int) by omega, decide_true, cond_true, show (0 : Int) ≤ (i : Int) by omega, Int.toNat_natCast, List.getElem?_eq_getElem hi, Option.bind_some, hsm, wi (show -9223372036854775808 ≤ (i : Int) + 1 by omega) (by omega), List.take_add_one, Option.toList_some, depsN_append, depsN]
    cases (x.2.1.after[i]).ok <;> simp
  · simp [l16_0]
set_option maxHeartbeats 2000000 in
theorem p_writeAsk (r : Request) : f16 r = some (if rightQ r = true then (putsI (numsQ r), 0, ()) else ([], 2, ())) := by
  unfold f16 F16
  simp only [p_rightAsk, Option.bind_some]
  cases hr : rightQ r with
  | false => simp
  | true =>
    obtain ⟨h1, h2, h3, h4, h5, h6, h7⟩ := right_kind hr
    have hin := nums_in hr
    have hlen : 9 * (numsQ r).length ≤ 4294967295 := by
      simp only [numsQ, fieldsV, depsV, List.length_append, List.length_map, List.length_cons, List.length_nil]
      have hd := depsN_len r.after
      have hf : (fieldsL r.kind).length ≤ 8 := by unfold fieldsL; (repeat' split) <;> simp
      split
      · simp only [List.length_cons]; omega
      · simp only [List.length_nil]; omega
    have hput := p_Put [] (numsQ r) (by simpa using hlen)
    rw [if_pos hin] at hput
    simp only [List.nil_append] at hput
    obtain ⟨k, y, j, v, q, m, ⟨a, b, c, d⟩, w, t, l, n, f, o, i⟩ := r
    simp only at h1 h2 h5
    have hsm : ∀ n : Nat, n ≤ 100 → smallB n 8 = true := fun n hn => small_ok' 8 (by decide) (by omega)
    rcases kinds h1 h2 with rfl | rfl | rfl | rfl | rfl | rfl | rfl | rfl | rfl | rfl | rfl | rfl <;>
      simp only [f66, F66, Int.reduceEq, decide_true, decide_false, cond_true, cond_false, Option.bind_some, Sum.elim_inl, Sum.elim_inr, Bool.not_true] <;>
      simp only [numsQ, fieldsV, depsV, fieldsL, getF, Int.reduceEq, if_true, if_false, or_false, false_or, or_true, true_or, List.map_cons, List.map_nil, Int.reduceToNat, List.getD_cons_zero, List.getD_cons_succ, List.cons_append, List.nil_append, List.append_nil] at hput ⊢
    · rw [hsm _ (by simp)]
      simp only [cond_true]
      rw [writeLoop _ (by exact h5) _ (by simp)]
      simp only [Option.bind_some, List.cons_append, List.nil_append, hput]
    all_goals rw [hput]; rfl
def intB (x y : Int) : Bool := decide (x = y)
theorem intB_iff (x y : Int) : intB x y = true ↔ x = y := by simp [intB]
theorem r_BytesEq (a b : List Int) (hl : a.length ≤ 4294967295) : f17 a b = some (decide (a = b)) := by
  unfold f17 F17
  have hml : maxLen = 9223372036854775807 := rfl
  by_cases h : a.length = b.length
  · have h' : (a.length : Int) = (b.length : Int) := by omega
    simp only [h', decide_true, Bool.not_true, cond_false]
    rw [zip_loop a b h (fun z => ((z, ()), ())) intB true (by omega)]
    · simp only [Bool.and_true]
      congr 1
      rw [Bool.eq_iff_iff, decide_eq_true_eq]
      exact zip_all intB_iff h
    · intro next
      simp [l17_0]
    · intro z x y next h0 h1 h2 h3 h4
      simp only [l17_0, h0, h1, h2, h3, h4, decide_true, cond_true, Option.bind_some, condNot, intB]
  · have h' : ¬ ((a.length : Int) = (b.length : Int)) := by omega
    have hne : ¬ a = b := fun e => h (by rw [e])
    simp [h', hne]
end NM
end Go.Proofs.Ytgpejfddaelobaa
