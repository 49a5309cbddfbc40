/-
  Requests, read of bytes.
-/
import Derived.Test.YtgpejfddaelobaaPAskB
import Derived.Test.YtgpejfddaelobaaPRead
set_option linter.unusedVariables false
set_option linter.unusedSimpArgs false
namespace Go.Proofs.Ytgpejfddaelobaa
namespace NM
open AM

def setL : List Int → List Int → List Int → List Int
  | x :: f, v :: vs, l => setL f vs (l.set x.toNat v)
  | _, _, l => l
theorem setL_len : ∀ (f vs l : List Int), (setL f vs l).length = l.length
  | [], _, _ => by simp [setL]
  | _ :: _, [], _ => by simp [setL]
  | x :: f, v :: vs, l => by simp [setL, setL_len f vs]
theorem setL_snoc : ∀ (f vs l : List Int) (x v : Int), f.length = vs.length → setL (f ++ [x]) (vs ++ [v]) l = (setL f vs l).set x.toNat v
  | [], [], l, x, v, _ => by simp [setL]
  | [], _ :: _, _, _, _, h => by simp at h
  | _ :: _, [], _, _, _, h => by simp at h
  | a :: f, b :: vs, l, x, v, h => by
    simp only [List.cons_append, setL]
    exact setL_snoc f vs _ x v (by simpa using h)
def ofL (k y : Int) (l : List Int) (deps : List Dep) : Request := Request.mk k y (l.getD 1 0) (l.getD 2 0) (l.getD 3 0) (l.getD 4 0) (Res.mk (l.getD 5 0) (l.getD 6 0) (l.getD 7 0) (l.getD 8 0)) (l.getD 9 0) (l.getD 10 0) deps (l.getD 11 0) (l.getD 12 0) (l.getD 13 0) (l.getD 14 0)
def mkQ (k y : Int) (vals : List Int) (deps : List Dep) : Request := ofL k y (setL (fieldsL k) vals (List.replicate 15 0)) deps
theorem len0 {l : List Int} (h : l.length = 0) : l = [] := by
  exact List.eq_nil_of_length_eq_zero h
theorem len1 {l : List Int} (h : l.length = 1) : ∃ a0, l = [a0] := by
  match l, h with
  | [a0], _ => exact ⟨a0, rfl⟩
theorem len2 {l : List Int} (h : l.length = 2) : ∃ a0 a1, l = [a0, a1] := by
  match l, h with
  | [a0, a1], _ => exact ⟨a0, a1, rfl⟩
theorem len3 {l : List Int} (h : l.length = 3) : ∃ a0 a1 a2, l = [a0, a1, a2] := by
  match l, h with
  | [a0, a1, a2], _ => exact ⟨a0, a1, a2, rfl⟩
theorem len8 {l : List Int} (h : l.length = 8) : ∃ a0 a1 a2 a3 a4 a5 a6 a7, l = [a0, a1, a2, a3, a4, a5, a6, a7] := by
  match l, h with
  | [a0, a1, a2, a3, a4, a5, a6, a7], _ => exact ⟨a0, a1, a2, a3, a4, a5, a6, a7, rfl⟩

set_option maxHeartbeats 4000000 in
theorem mkQ_props {k y : Int} {vals : List Int} {deps : List Dep} (h1 : 1 ≤ k) (h2 : k ≤ 12) (hv : vals.length = (fieldsL k).length) (hin : vals.all inN = true) (hy1 : 1 ≤ y) (hy2 : y ≤ 1073741824) (hd : deps.length ≤ 4) (hdi : (deps.all fun d => inN d.job) = true) (hk1 : k = 1 ∨ deps = []) :
    rightQ (mkQ k y vals deps) = true ∧ numsQ (mkQ k y vals deps) = [k, y] ++ vals ++ (if k = 1 then (deps.length : Int) :: depsN deps else []) := by
  rcases kinds h1 h2 with rfl | rfl | rfl | rfl | rfl | rfl | rfl | rfl | rfl | rfl | rfl | rfl
  · obtain ⟨a0, a1, a2, a3, a4, a5, a6, a7, rfl⟩ := len8 hv
    simp only [List.all_cons, List.all_nil, Bool.and_eq_true, and_true] at hin
    refine ⟨?_, ?_⟩
    · rw [mkQ, ofL]
      simp only [setL, fieldsL, Int.reduceEq, if_true, if_false, or_false, false_or, or_true, true_or, Int.reduceToNat, List.replicate, List.set_cons_zero, List.set_cons_succ, List.getD_cons_zero, List.getD_cons_succ, rightQ, chkF, fieldsL, getF, List.all_cons, List.all_nil, List.any_cons, List.any_nil, Int.reduceEq, Int.reduceLE, if_true, if_false, decide_true, decide_false, Bool.or_false, Bool.false_or, Bool.true_or, Bool.or_true, cond_true, cond_false, List.getD_cons_zero, List.getD_cons_succ, Bool.and_eq_true, decide_eq_true_eq, and_true, true_and, or_false, false_or, or_true, true_or, Bool.and_true, Bool.true_and, show ((1 : Nat) : Int) = 1 from rfl, show ((2 : Nat) : Int) = 2 from rfl, show ((3 : Nat) : Int) = 3 from rfl, show ((4 : Nat) : Int) = 4 from rfl, show ((5 : Nat) : Int) = 5 from rfl, show ((6 : Nat) : Int) = 6 from rfl, show ((7 : Nat) : Int) = 7 from rfl, show ((8 : Nat) : Int) = 8 from rfl, show ((9 : Nat) : Int) = 9 from rfl, show ((10 : Nat) : Int) = 10 from rfl, show ((11 : Nat) : Int) = 11 from rfl, show ((12 : Nat) : Int) = 12 from rfl, show ((13 : Nat) : Int) = 13 from rfl, show ((14 : Nat) : Int) = 14 from rfl]
      simp only [hin, hy1, hy2, hd, hdi, and_self, List.length_nil, Nat.zero_le]
    · rw [mkQ, ofL]
      simp only [numsQ, fieldsV, depsV, setL, fieldsL, getF, Int.reduceEq, if_true, if_false, or_false, false_or, or_true, true_or, Int.reduceToNat, List.replicate, List.set_cons_zero, List.set_cons_succ, List.getD_cons_zero, List.getD_cons_succ, List.map_cons, List.map_nil]
  · obtain ⟨a0, a1, a2, a3, a4, a5, a6, a7, rfl⟩ := len8 hv
    obtain rfl : deps = [] := by simpa using hk1
    simp only [List.all_cons, List.all_nil, Bool.and_eq_true, and_true] at hin
    refine ⟨?_, ?_⟩
    · rw [mkQ, ofL]
      simp only [setL, fieldsL, Int.reduceEq, if_true, if_false, or_false, false_or, or_true, true_or, Int.reduceToNat, List.replicate, List.set_cons_zero, List.set_cons_succ, List.getD_cons_zero, List.getD_cons_succ, rightQ, chkF, fieldsL, getF, List.all_cons, List.all_nil, List.any_cons, List.any_nil, Int.reduceEq, Int.reduceLE, if_true, if_false, decide_true, decide_false, Bool.or_false, Bool.false_or, Bool.true_or, Bool.or_true, cond_true, cond_false, List.getD_cons_zero, List.getD_cons_succ, Bool.and_eq_true, decide_eq_true_eq, and_true, true_and, or_false, false_or, or_true, true_or, Bool.and_true, Bool.true_and, show ((1 : Nat) : Int) = 1 from rfl, show ((2 : Nat) : Int) = 2 from rfl, show ((3 : Nat) : Int) = 3 from rfl, show ((4 : Nat) : Int) = 4 from rfl, show ((5 : Nat) : Int) = 5 from rfl, show ((6 : Nat) : Int) = 6 from rfl, show ((7 : Nat) : Int) = 7 from rfl, show ((8 : Nat) : Int) = 8 from rfl, show ((9 : Nat) : Int) = 9 from rfl, show ((10 : Nat) : Int) = 10 from rfl, show ((11 : Nat) : Int) = 11 from rfl, show ((12 : Nat) : Int) = 12 from rfl, show ((13 : Nat) : Int) = 13 from rfl, show ((14 : Nat) : Int) = 14 from rfl]
      simp only [hin, hy1, hy2, hd, hdi, and_self, List.length_nil, Nat.zero_le]
    · rw [mkQ, ofL]
      simp only [numsQ, fieldsV, depsV, setL, fieldsL, getF, Int.reduceEq, if_true, if_false, or_false, false_or, or_true, true_or, Int.reduceToNat, List.replicate, List.set_cons_zero, List.set_cons_succ, List.getD_cons_zero, List.getD_cons_succ, List.map_cons, List.map_nil]
  · obtain ⟨a0, a1, rfl⟩ := len2 hv
    obtain rfl : deps = [] := by simpa using hk1
    simp only [List.all_cons, List.all_nil, Bool.and_eq_true, and_true] at hin
    refine ⟨?_, ?_⟩
    · rw [mkQ, ofL]
      simp only [setL, fieldsL, Int.reduceEq, if_true, if_false, or_false, false_or, or_true, true_or, Int.reduceToNat, List.replicate, List.set_cons_zero, List.set_cons_succ, List.getD_cons_zero, List.getD_cons_succ, rightQ, chkF, fieldsL, getF, List.all_cons, List.all_nil, List.any_cons, List.any_nil, Int.reduceEq, Int.reduceLE, if_true, if_false, decide_true, decide_false, Bool.or_false, Bool.false_or, Bool.true_or, Bool.or_true, cond_true, cond_false, List.getD_cons_zero, List.getD_cons_succ, Bool.and_eq_true, decide_eq_true_eq, and_true, true_and, or_false, false_or, or_true, true_or, Bool.and_true, Bool.true_and, show ((1 : Nat) : Int) = 1 from rfl, show ((2 : Nat) : Int) = 2 from rfl, show ((3 : Nat) : Int) = 3 from rfl, show ((4 : Nat) : Int) = 4 from rfl, show ((5 : Nat) : Int) = 5 from rfl, show ((6 : Nat) : Int) = 6 from rfl, show ((7 : Nat) : Int) = 7 from rfl, show ((8 : Nat) : Int) = 8 from rfl, show ((9 : Nat) : Int) = 9 from rfl, show ((10 : Nat) : Int) = 10 from rfl, show ((11 : Nat) : Int) = 11 from rfl, show ((12 : Nat) : Int) = 12 from rfl, show ((13 : Nat) : Int) = 13 from rfl, show ((14 : Nat) : Int) = 14 from rfl]
      simp only [hin, hy1, hy2, hd, hdi, and_self, List.length_nil, Nat.zero_le]
    · rw [mkQ, ofL]
      simp only [numsQ, fieldsV, depsV, setL, fieldsL, getF, Int.reduceEq, if_true, if_false, or_false, false_or, or_true, true_or, Int.reduceToNat, List.replicate, List.set_cons_zero, List.set_cons_succ, List.getD_cons_zero, List.getD_cons_succ, List.map_cons, List.map_nil]
  · obtain ⟨a0, a1, rfl⟩ := len2 hv
    obtain rfl : deps = [] := by simpa using hk1
    simp only [List.all_cons, List.all_nil, Bool.and_eq_true, and_true] at hin
    refine ⟨?_, ?_⟩
    · rw [mkQ, ofL]
      simp only [setL, fieldsL, Int.reduceEq, if_true, if_false, or_false, false_or, or_true, true_or, Int.reduceToNat, List.replicate, List.set_cons_zero, List.set_cons_succ, List.getD_cons_zero, List.getD_cons_succ, rightQ, chkF, fieldsL, getF, List.all_cons, List.all_nil, List.any_cons, List.any_nil, Int.reduceEq, Int.reduceLE, if_true, if_false, decide_true, decide_false, Bool.or_false, Bool.false_or, Bool.true_or, Bool.or_true, cond_true, cond_false, List.getD_cons_zero, List.getD_cons_succ, Bool.and_eq_true, decide_eq_true_eq, and_true, true_and, or_false, false_or, or_true, true_or, Bool.and_true, Bool.true_and, show ((1 : Nat) : Int) = 1 from rfl, show ((2 : Nat) : Int) = 2 from rfl, show ((3 : Nat) : Int) = 3 from rfl, show ((4 : Nat) : Int) = 4 from rfl, show ((5 : Nat) : Int) = 5 from rfl, show ((6 : Nat) : Int) = 6 from rfl, show ((7 : Nat) : Int) = 7 from rfl, show ((8 : Nat) : Int) = 8 from rfl, show ((9 : Nat) : Int) = 9 from rfl, show ((10 : Nat) : Int) = 10 from rfl, show ((11 : Nat) : Int) = 11 from rfl, show ((12 : Nat) : Int) = 12 from rfl, show ((13 : Nat) : Int) = 13 from rfl, show ((14 : Nat) : Int) = 14 from rfl]
      simp only [hin, hy1, hy2, hd, hdi, and_self, List.length_nil, Nat.zero_le]
    · rw [mkQ, ofL]
      simp only [numsQ, fieldsV, depsV, setL, fieldsL, getF, Int.reduceEq, if_true, if_false, or_false, false_or, or_true, true_or, Int.reduceToNat, List.replicate, List.set_cons_zero, List.set_cons_succ, List.getD_cons_zero, List.getD_cons_succ, List.map_cons, List.map_nil]
  · obtain ⟨a0, a1, rfl⟩ := len2 hv
    obtain rfl : deps = [] := by simpa using hk1
    simp only [List.all_cons, List.all_nil, Bool.and_eq_true, and_true] at hin
    refine ⟨?_, ?_⟩
    · rw [mkQ, ofL]
      simp only [setL, fieldsL, Int.reduceEq, if_true, if_false, or_false, false_or, or_true, true_or, Int.reduceToNat, List.replicate, List.set_cons_zero, List.set_cons_succ, List.getD_cons_zero, List.getD_cons_succ, rightQ, chkF, fieldsL, getF, List.all_cons, List.all_nil, List.any_cons, List.any_nil, Int.reduceEq, Int.reduceLE, if_true, if_false, decide_true, decide_false, Bool.or_false, Bool.false_or, Bool.true_or, Bool.or_true, cond_true, cond_false, List.getD_cons_zero, List.getD_cons_succ, Bool.and_eq_true, decide_eq_true_eq, and_true, true_and, or_false, false_or, or_true, true_or, Bool.and_true, Bool.true_and, show ((1 : Nat) : Int) = 1 from rfl, show ((2 : Nat) : Int) = 2 from rfl, show ((3 : Nat) : Int) = 3 from rfl, show ((4 : Nat) : Int) = 4 from rfl, show ((5 : Nat) : Int) = 5 from rfl, show ((6 : Nat) : Int) = 6 from rfl, show ((7 : Nat) : Int) = 7 from rfl, show ((8 : Nat) : Int) = 8 from rfl, show ((9 : Nat) : Int) = 9 from rfl, show ((10 : Nat) : Int) = 10 from rfl, show ((11 : Nat) : Int) = 11 from rfl, show ((12 : Nat) : Int) = 12 from rfl, show ((13 : Nat) : Int) = 13 from rfl, show ((14 : Nat) : Int) = 14 from rfl]
      simp only [hin, hy1, hy2, hd, hdi, and_self, List.length_nil, Nat.zero_le]
    · rw [mkQ, ofL]
      simp only [numsQ, fieldsV, depsV, setL, fieldsL, getF, Int.reduceEq, if_true, if_false, or_false, false_or, or_true, true_or, Int.reduceToNat, List.replicate, List.set_cons_zero, List.set_cons_succ, List.getD_cons_zero, List.getD_cons_succ, List.map_cons, List.map_nil]
  · obtain ⟨a0, a1, rfl⟩ := len2 hv
    obtain rfl : deps = [] := by simpa using hk1
    simp only [List.all_cons, List.all_nil, Bool.and_eq_true, and_true] at hin
    refine ⟨?_, ?_⟩
    · rw [mkQ, ofL]
      simp only [setL, fieldsL, Int.reduceEq, if_true, if_false, or_false, false_or, or_true, true_or, Int.reduceToNat, List.replicate, List.set_cons_zero, List.set_cons_succ, List.getD_cons_zero, List.getD_cons_succ, rightQ, chkF, fieldsL, getF, List.all_cons, List.all_nil, List.any_cons, List.any_nil, Int.reduceEq, Int.reduceLE, if_true, if_false, decide_true, decide_false, Bool.or_false, Bool.false_or, Bool.true_or, Bool.or_true, cond_true, cond_false, List.getD_cons_zero, List.getD_cons_succ, Bool.and_eq_true, decide_eq_true_eq, and_true, true_and, or_false, false_or, or_true, true_or, Bool.and_true, Bool.true_and, show ((1 : Nat) : Int) = 1 from rfl, show ((2 : Nat) : Int) = 2 from rfl, show ((3 : Nat) : Int) = 3 from rfl, show ((4 : Nat) : Int) = 4 from rfl, show ((5 : Nat) : Int) = 5 from rfl, show ((6 : Nat) : Int) = 6 from rfl, show ((7 : Nat) : Int) = 7 from rfl, show ((8 : Nat) : Int) = 8 from rfl, show ((9 : Nat) : Int) = 9 from rfl, show ((10 : Nat) : Int) = 10 from rfl, show ((11 : Nat) : Int) = 11 from rfl, show ((12 : Nat) : Int) = 12 from rfl, show ((13 : Nat) : Int) = 13 from rfl, show ((14 : Nat) : Int) = 14 from rfl]
      simp only [hin, hy1, hy2, hd, hdi, and_self, List.length_nil, Nat.zero_le]
    · rw [mkQ, ofL]
      simp only [numsQ, fieldsV, depsV, setL, fieldsL, getF, Int.reduceEq, if_true, if_false, or_false, false_or, or_true, true_or, Int.reduceToNat, List.replicate, List.set_cons_zero, List.set_cons_succ, List.getD_cons_zero, List.getD_cons_succ, List.map_cons, List.map_nil]
  · obtain ⟨a0, a1, a2, rfl⟩ := len3 hv
    obtain rfl : deps = [] := by simpa using hk1
    simp only [List.all_cons, List.all_nil, Bool.and_eq_true, and_true] at hin
    refine ⟨?_, ?_⟩
    · rw [mkQ, ofL]
      simp only [setL, fieldsL, Int.reduceEq, if_true, if_false, or_false, false_or, or_true, true_or, Int.reduceToNat, List.replicate, List.set_cons_zero, List.set_cons_succ, List.getD_cons_zero, List.getD_cons_succ, rightQ, chkF, fieldsL, getF, List.all_cons, List.all_nil, List.any_cons, List.any_nil, Int.reduceEq, Int.reduceLE, if_true, if_false, decide_true, decide_false, Bool.or_false, Bool.false_or, Bool.true_or, Bool.or_true, cond_true, cond_false, List.getD_cons_zero, List.getD_cons_succ, Bool.and_eq_true, decide_eq_true_eq, and_true, true_and, or_false, false_or, or_true, true_or, Bool.and_true, Bool.true_and, show ((1 : Nat) : Int) = 1 from rfl, show ((2 : Nat) : Int) = 2 from rfl, show ((3 : Nat) : Int) = 3 from rfl, show ((4 : Nat) : Int) = 4 from rfl, show ((5 : Nat) : Int) = 5 from rfl, show ((6 : Nat) : Int) = 6 from rfl, show ((7 : Nat) : Int) = 7 from rfl, show ((8 : Nat) : Int) = 8 from rfl, show ((9 : Nat) : Int) = 9 from rfl, show ((10 : Nat) : Int) = 10 from rfl, show ((11 : Nat) : Int) = 11 from rfl, show ((12 : Nat) : Int) = 12 from rfl, show ((13 : Nat) : Int) = 13 from rfl, show ((14 : Nat) : Int) = 14 from rfl]
      simp only [hin, hy1, hy2, hd, hdi, and_self, List.length_nil, Nat.zero_le]
    · rw [mkQ, ofL]
      simp only [numsQ, fieldsV, depsV, setL, fieldsL, getF, Int.reduceEq, if_true, if_false, or_false, false_or, or_true, true_or, Int.reduceToNat, List.replicate, List.set_cons_zero, List.set_cons_succ, List.getD_cons_zero, List.getD_cons_succ, List.map_cons, List.map_nil]
  · obtain ⟨a0, rfl⟩ := len1 hv
    obtain rfl : deps = [] := by simpa using hk1
    simp only [List.all_cons, List.all_nil, Bool.and_eq_true, and_true] at hin
    refine ⟨?_, ?_⟩
    · rw [mkQ, ofL]
      simp only [setL, fieldsL, Int.reduceEq, if_true, if_false, or_false, false_or, or_true, true_or, Int.reduceToNat, List.replicate, List.set_cons_zero, List.set_cons_succ, List.getD_cons_zero, List.getD_cons_succ, rightQ, chkF, fieldsL, getF, List.all_cons, List.all_nil, List.any_cons, List.any_nil, Int.reduceEq, Int.reduceLE, if_true, if_false, decide_true, decide_false, Bool.or_false, Bool.false_or, Bool.true_or, Bool.or_true, cond_true, cond_false, List.getD_cons_zero, List.getD_cons_succ, Bool.and_eq_true, decide_eq_true_eq, and_true, true_and, or_false, false_or, or_true, true_or, Bool.and_true, Bool.true_and, show ((1 : Nat) : Int) = 1 from rfl, show ((2 : Nat) : Int) = 2 from rfl, show ((3 : Nat) : Int) = 3 from rfl, show ((4 : Nat) : Int) = 4 from rfl, show ((5 : Nat) : Int) = 5 from rfl, show ((6 : Nat) : Int) = 6 from rfl, show ((7 : Nat) : Int) = 7 from rfl, show ((8 : Nat) : Int) = 8 from rfl, show ((9 : Nat) : Int) = 9 from rfl, show ((10 : Nat) : Int) = 10 from rfl, show ((11 : Nat) : Int) = 11 from rfl, show ((12 : Nat) : Int) = 12 from rfl, show ((13 : Nat) : Int) = 13 from rfl, show ((14 : Nat) : Int) = 14 from rfl]
      simp only [hin, hy1, hy2, hd, hdi, and_self, List.length_nil, Nat.zero_le]
    · rw [mkQ, ofL]
      simp only [numsQ, fieldsV, depsV, setL, fieldsL, getF, Int.reduceEq, if_true, if_false, or_false, false_or, or_true, true_or, Int.reduceToNat, List.replicate, List.set_cons_zero, List.set_cons_succ, List.getD_cons_zero, List.getD_cons_succ, List.map_cons, List.map_nil]
  · obtain ⟨a0, rfl⟩ := len1 hv
    obtain rfl : deps = [] := by simpa using hk1
    simp only [List.all_cons, List.all_nil, Bool.and_eq_true, and_true] at hin
    refine ⟨?_, ?_⟩
    · rw [mkQ, ofL]
      simp only [setL, fieldsL, Int.reduceEq, if_true, if_false, or_false, false_or, or_true, true_or, Int.reduceToNat, List.replicate, List.set_cons_zero, List.set_cons_succ, List.getD_cons_zero, List.getD_cons_succ, rightQ, chkF, fieldsL, getF, List.all_cons, List.all_nil, List.any_cons, List.any_nil, Int.reduceEq, Int.reduceLE, if_true, if_false, decide_true, decide_false, Bool.or_false, Bool.false_or, Bool.true_or, Bool.or_true, cond_true, cond_false, List.getD_cons_zero, List.getD_cons_succ, Bool.and_eq_true, decide_eq_true_eq, and_true, true_and, or_false, false_or, or_true, true_or, Bool.and_true, Bool.true_and, show ((1 : Nat) : Int) = 1 from rfl, show ((2 : Nat) : Int) = 2 from rfl, show ((3 : Nat) : Int) = 3 from rfl, show ((4 : Nat) : Int) = 4 from rfl, show ((5 : Nat) : Int) = 5 from rfl, show ((6 : Nat) : Int) = 6 from rfl, show ((7 : Nat) : Int) = 7 from rfl, show ((8 : Nat) : Int) = 8 from rfl, show ((9 : Nat) : Int) = 9 from rfl, show ((10 : Nat) : Int) = 10 from rfl, show ((11 : Nat) : Int) = 11 from rfl, show ((12 : Nat) : Int) = 12 from rfl, show ((13 : Nat) : Int) = 13 from rfl, show ((14 : Nat) : Int) = 14 from rfl]
      simp only [hin, hy1, hy2, hd, hdi, and_self, List.length_nil, Nat.zero_le]
    · rw [mkQ, ofL]
      simp only [numsQ, fieldsV, depsV, setL, fieldsL, getF, Int.reduceEq, if_true, if_false, or_false, false_or, or_true, true_or, Int.reduceToNat, List.replicate, List.set_cons_zero, List.set_cons_succ, List.getD_cons_zero, List.getD_cons_succ, List.map_cons, List.map_nil]
  · obtain rfl := len0 hv
    obtain rfl : deps = [] := by simpa using hk1
    simp only [List.all_cons, List.all_nil, Bool.and_eq_true, and_true] at hin
    refine ⟨?_, ?_⟩
    · rw [mkQ, ofL]
      simp only [setL, fieldsL, Int.reduceEq, if_true, if_false, or_false, false_or, or_true, true_or, Int.reduceToNat, List.replicate, List.set_cons_zero, List.set_cons_succ, List.getD_cons_zero, List.getD_cons_succ, rightQ, chkF, fieldsL, getF, List.all_cons, List.all_nil, List.any_cons, List.any_nil, Int.reduceEq, Int.reduceLE, if_true, if_false, decide_true, decide_false, Bool.or_false, Bool.false_or, Bool.true_or, Bool.or_true, cond_true, cond_false, List.getD_cons_zero, List.getD_cons_succ, Bool.and_eq_true, decide_eq_true_eq, and_true, true_and, or_false, false_or, or_true, true_or, Bool.and_true, Bool.true_and, show ((1 : Nat) : Int) = 1 from rfl, show ((2 : Nat) : Int) = 2 from rfl, show ((3 : Nat) : Int) = 3 from rfl, show ((4 : Nat) : Int) = 4 from rfl, show ((5 : Nat) : Int) = 5 from rfl, show ((6 : Nat) : Int) = 6 from rfl, show ((7 : Nat) : Int) = 7 from rfl, show ((8 : Nat) : Int) = 8 from rfl, show ((9 : Nat) : Int) = 9 from rfl, show ((10 : Nat) : Int) = 10 from rfl, show ((11 : Nat) : Int) = 11 from rfl, show ((12 : Nat) : Int) = 12 from rfl, show ((13 : Nat) : Int) = 13 from rfl, show ((14 : Nat) : Int) = 14 from rfl]
      simp only [hin, hy1, hy2, hd, hdi, and_self, List.length_nil, Nat.zero_le]
    · rw [mkQ, ofL]
      simp only [numsQ, fieldsV, depsV, setL, fieldsL, getF, Int.reduceEq, if_true, if_false, or_false, false_or, or_true, true_or, Int.reduceToNat, List.replicate, List.set_cons_zero, List.set_cons_succ, List.getD_cons_zero, List.getD_cons_succ, List.map_cons, List.map_nil]
  · obtain ⟨a0, a1, a2, rfl⟩ := len3 hv
    obtain rfl : deps = [] := by simpa using hk1
    simp only [List.all_cons, List.all_nil, Bool.and_eq_true, and_true] at hin
    refine ⟨?_, ?_⟩
    · rw [mkQ, ofL]
      simp only [setL, fieldsL, Int.reduceEq, if_true, if_false, or_false, false_or, or_true, true_or, Int.reduceToNat, List.replicate, List.set_cons_zero, List.set_cons_succ, List.getD_cons_zero, List.getD_cons_succ, rightQ, chkF, fieldsL, getF, List.all_cons, List.all_nil, List.any_cons, List.any_nil, Int.reduceEq, Int.reduceLE, if_true, if_false, decide_true, decide_false, Bool.or_false, Bool.false_or, Bool.true_or, Bool.or_true, cond_true, cond_false, List.getD_cons_zero, List.getD_cons_succ, Bool.and_eq_true, decide_eq_true_eq, and_true, true_and, or_false, false_or, or_true, true_or, Bool.and_true, Bool.true_and, show ((1 : Nat) : Int) = 1 from rfl, show ((2 : Nat) : Int) = 2 from rfl, show ((3 : Nat) : Int) = 3 from rfl, show ((4 : Nat) : Int) = 4 from rfl, show ((5 : Nat) : Int) = 5 from rfl, show ((6 : Nat) : Int) = 6 from rfl, show ((7 : Nat) : Int) = 7 from rfl, show ((8 : Nat) : Int) = 8 from rfl, show ((9 : Nat) : Int) = 9 from rfl, show ((10 : Nat) : Int) = 10 from rfl, show ((11 : Nat) : Int) = 11 from rfl, show ((12 : Nat) : Int) = 12 from rfl, show ((13 : Nat) : Int) = 13 from rfl, show ((14 : Nat) : Int) = 14 from rfl]
      simp only [hin, hy1, hy2, hd, hdi, and_self, List.length_nil, Nat.zero_le]
    · rw [mkQ, ofL]
      simp only [numsQ, fieldsV, depsV, setL, fieldsL, getF, Int.reduceEq, if_true, if_false, or_false, false_or, or_true, true_or, Int.reduceToNat, List.replicate, List.set_cons_zero, List.set_cons_succ, List.getD_cons_zero, List.getD_cons_succ, List.map_cons, List.map_nil]
  · obtain ⟨a0, rfl⟩ := len1 hv
    obtain rfl : deps = [] := by simpa using hk1
    simp only [List.all_cons, List.all_nil, Bool.and_eq_true, and_true] at hin
    refine ⟨?_, ?_⟩
    · rw [mkQ, ofL]
      simp only [setL, fieldsL, Int.reduceEq, if_true, if_false, or_false, false_or, or_true, true_or, Int.reduceToNat, List.replicate, List.set_cons_zero, List.set_cons_succ, List.getD_cons_zero, List.getD_cons_succ, rightQ, chkF, fieldsL, getF, List.all_cons, List.all_nil, List.any_cons, List.any_nil, Int.reduceEq, Int.reduceLE, if_true, if_false, decide_true, decide_false, Bool.or_false, Bool.false_or, Bool.true_or, Bool.or_true, cond_true, cond_false, List.getD_cons_zero, List.getD_cons_succ, Bool.and_eq_true, decide_eq_true_eq, and_true, true_and, or_false, false_or, or_true, true_or, Bool.and_true, Bool.true_and, show ((1 : Nat) : Int) = 1 from rfl, show ((2 : Nat) : Int) = 2 from rfl, show ((3 : Nat) : Int) = 3 from rfl, show ((4 : Nat) : Int) = 4 from rfl, show ((5 : Nat) : Int) = 5 from rfl, show ((6 : Nat) : Int) = 6 from rfl, show ((7 : Nat) : Int) = 7 from rfl, show ((8 : Nat) : Int) = 8 from rfl, show ((9 : Nat) : Int) = 9 from rfl, show ((10 : Nat) : Int) = 10 from rfl, show ((11 : Nat) : Int) = 11 from rfl, show ((12 : Nat) : Int) = 12 from rfl, show ((13 : Nat) : Int) = 13 from rfl, show ((14 : Nat) : Int) = 14 from rfl]
      simp only [hin, hy1, hy2, hd, hdi, and_self, List.length_nil, Nat.zero_le]
    · rw [mkQ, ofL]
      simp only [numsQ, fieldsV, depsV, setL, fieldsL, getF, Int.reduceEq, if_true, if_false, or_false, false_or, or_true, true_or, Int.reduceToNat, List.replicate, List.set_cons_zero, List.set_cons_succ, List.getD_cons_zero, List.getD_cons_succ, List.map_cons, List.map_nil]

/- the dependencies -/
def stD (s : RS') : Nat → RS'
  | 0 => s
  | i + 1 => (nextW 0 1 (nextN (stD s i)).2).2
def dpD (s : RS') (j : Nat) : Dep := Dep.mk (nextN (stD s j)).1 (decide ((nextW 0 1 (nextN (stD s j)).2).1 = 1))
def lsD (s : RS') (n : Nat) : List Dep := (List.range n).map (dpD s)
theorem lsD_succ (s : RS') (n : Nat) : lsD s (n + 1) = lsD s n ++ [dpD s n] := by simp [lsD, List.range_succ]
theorem lsD_len (s : RS') (n : Nat) : (lsD s n).length = n := by simp [lsD]
theorem stD_ok {M : Nat} {s : RS'} (h : SOk M s) : ∀ n, SOk M (stD s n)
  | 0 => h
  | n + 1 => nextW_ok (nextN_ok (stD_ok h n))
theorem stD_end {M : Nat} {s : RS'} (h : SOk M s) : ∀ n, (stD s n).2 = 0 → s.2 = 0 ∧ s.1 = putsI (depsN (lsD s n)) ++ (stD s n).1 ∧ ((lsD s n).all fun d => inN d.job) = true
  | 0, h0 => ⟨h0, by simp [lsD, depsN, putsI, stD], by simp [lsD]⟩
  | n + 1, h0 => by
    obtain ⟨e1, e2, e3, e4, e5⟩ := nextW_end (nextN_ok (stD_ok h n)) h0
    obtain ⟨d1, d2, d3⟩ := nextN_end (stD_ok h n) e1
    obtain ⟨g1, g2, g3⟩ := stD_end h n d1
    have hb : (if (dpD s n).ok = true then (1 : Int) else 0) = (nextW 0 1 (nextN (stD s n)).2).1 := by
      simp only [dpD, decide_eq_true_eq]
      split <;> omega
    refine ⟨g1, ?_, ?_⟩
    · rw [lsD_succ, depsN_append, putsI_append]
      conv => lhs; rw [g2, d2, e2]
      simp only [depsN, hb, putsI, List.append_nil, List.append_assoc]
      rfl
    · rw [lsD_succ, List.all_append, g3]
      simp [dpD, d3]
/- what is read -/
def B1 (b : List Int) : Int × RS' := nextN (b, 0)
def B2 (b : List Int) : Int × RS' := nextW 1 1073741824 (B1 b).2
def bF (b : List Int) : Nat := (fieldsL (B1 b).1).length
def B3 (b : List Int) : RS' := stN (B2 b).2 (bF b)
def B4 (b : List Int) : Int × RS' := nextW 0 4 (B3 b)
def bD (b : List Int) : Nat := (B4 b).1.toNat
def B5 (b : List Int) : RS' := if (B1 b).1 = 1 then stD (B4 b).2 (bD b) else B3 b
def depsQ (b : List Int) : List Dep := if (B1 b).1 = 1 then lsD (B4 b).2 (bD b) else []
def Be (b : List Int) : Int := if (B1 b).2.2 = 0 then (if 1 ≤ (B1 b).1 ∧ (B1 b).1 ≤ 12 then endI (B5 b) else 13) else (B1 b).2.2
def zQ : Request := Request.mk 0 0 0 0 0 0 (Res.mk 0 0 0 0) 0 0 [] 0 0 0 0
def rdQ (b : List Int) : Request := if Be b = 0 then mkQ (B1 b).1 (B2 b).1 (lsN (B2 b).2 (bF b)) (depsQ b) else zQ
section
variable {b : List Int} (hb : Bytes8 b) (hl : b.length ≤ 300)
include hb hl
theorem b0 : SOk 300 (b, 0) := ⟨hb, hl⟩
theorem b1 : SOk 300 (B1 b).2 := nextN_ok (b0 hb hl)
theorem b2 : SOk 300 (B2 b).2 := nextW_ok (b1 hb hl)
theorem b3 : SOk 300 (B3 b) := stN_ok (b2 hb hl) _
theorem b4 : SOk 300 (B4 b).2 := nextW_ok (b3 hb hl)
theorem b5 : SOk 300 (B5 b) := by
  unfold B5
  split
  · exact stD_ok (b4 hb hl) _
  · exact b3 hb hl
theorem bd : (B4 b).1 = (bD b : Int) ∧ bD b ≤ 4 := by
  have : 0 ≤ (B4 b).1 ∧ (B4 b).1 ≤ 4 := nextW_range (lo := 0) (hi := 4) (by omega) (by omega) (b3 hb hl)
  unfold bD
  omega
theorem ask_ends (h : Be b = 0) : rightQ (rdQ b) = true ∧ putsI (numsQ (rdQ b)) = b := by
  obtain ⟨hn, hn4⟩ := bd hb hl
  unfold rdQ
  rw [if_pos h]
  unfold Be at h
  split at h
  · rename_i h0
    split at h
    · rename_i hk
      unfold endI at h
      split at h
      · rename_i h5
        split at h
        · rename_i hz
          have hz : (B5 b).1 = [] := List.eq_nil_of_length_eq_zero hz
          have tail : (B3 b).2 = 0 ∧ (B3 b).1 = putsI (if (B1 b).1 = 1 then ((depsQ b).length : Int) :: depsN (depsQ b) else []) ∧ ((depsQ b).all fun d => inN d.job) = true ∧ (depsQ b).length ≤ 4 ∧ ((B1 b).1 = 1 ∨ depsQ b = []) := by
            unfold B5 at h5 hz
            unfold depsQ
            split at h5
            · rename_i k1
              rw [if_pos k1] at hz
              obtain ⟨e5, f5, g5⟩ := stD_end (b4 hb hl) (bD b) h5
              obtain ⟨e4, f4, g4, _⟩ := nextW_end (b3 hb hl) e5
              refine ⟨e4, ?_, ?_, ?_, .inl k1⟩
              · rw [hz, List.append_nil] at f5
                have f4 : (B3 b).1 = bytesI (B4 b).1 ++ (B4 b).2.1 := f4
                simp only [if_pos k1, lsD_len, ← hn, putsI]
                rw [f4, f5]
              · rw [if_pos k1]; exact g5
              · rw [if_pos k1, lsD_len]; exact hn4
            · rename_i k1
              rw [if_neg k1] at hz
              simp only [if_neg k1]
              exact ⟨h5, by rw [hz]; rfl, rfl, by simp, .inr trivial⟩
          obtain ⟨e3, f3, g3, l3, k3⟩ := tail
          obtain ⟨e2, f2, g2⟩ := stN_end (b2 hb hl) (bF b) e3
          obtain ⟨e1, f1, g1, i1, j1⟩ := nextW_end (b1 hb hl) e2
          obtain ⟨_, f0, g0⟩ := nextN_end (b0 hb hl) e1
          obtain ⟨p1, p2⟩ := mkQ_props (vals := lsN (B2 b).2 (bF b)) hk.1 hk.2 (by rw [lsN_len]; rfl) g2 i1 j1 l3 g3 k3
          refine ⟨p1, ?_⟩
          have f0 : b = bytesI (B1 b).1 ++ (B1 b).2.1 := f0
          have f1 : (B1 b).2.1 = bytesI (B2 b).1 ++ (B2 b).2.1 := f1
          have f2 : (B2 b).2.1 = putsI (lsN (B2 b).2 (bF b)) ++ (B3 b).1 := f2
          have p2 : numsQ (mkQ (B1 b).1 (B2 b).1 (lsN (B2 b).2 (bF b)) (depsQ b)) = [(B1 b).1, (B2 b).1] ++ lsN (B2 b).2 (bF b) ++ (if (B1 b).1 = 1 then ((depsQ b).length : Int) :: depsN (depsQ b) else []) := p2
          rw [p2, putsI_append, putsI_append]
          conv => rhs; rw [f0, f1, f2, f3]
          simp only [putsI, List.append_nil, List.append_assoc]
        · cases h
      · rename_i h5; exact absurd h h5
    · cases h
  · rename_i h0; exact absurd h h0
end
end NM
end Go.Proofs.Ytgpejfddaelobaa
