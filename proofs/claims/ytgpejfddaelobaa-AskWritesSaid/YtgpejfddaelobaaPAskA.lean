/-
  Requests: which are the same, which are right, their bytes.
-/
import Derived.Test.YtgpejfddaelobaaPPut
set_option linter.unusedVariables false
set_option linter.unusedSimpArgs false
namespace Go.Proofs.Ytgpejfddaelobaa
namespace NM
open AM

theorem chkIn {ω : Type} (x : Int) (K z : Option ω) : cond (decide (x < 0)) z (cond (decide (281474976710656 < x)) z K) = cond (inN x) K z := by
  unfold inN
  by_cases g1 : x < 0
  · simp [g1, show ¬ 0 ≤ x by omega]
  · by_cases g2 : 281474976710656 < x
    · simp [g1, g2, show ¬ x ≤ 281474976710656 by omega]
    · simp [g1, g2, show 0 ≤ x by omega, show x ≤ 281474976710656 by omega]
theorem condSF (p x : Bool) : cond p (some x) (some false) = some (p && x) := by cases p <;> rfl
theorem condFS (p x : Bool) : cond p (some false) (some x) = some (!p && x) := by cases p <;> rfl
theorem condNot {α : Type} (p : Bool) (a b : α) : cond (!p) a b = cond p b a := by cases p <;> rfl

def depB (x y : Dep) : Bool := (decide (x.job = y.job)) && ((x.ok == y.ok) && true)
theorem depB_iff (x y : Dep) : depB x y = true ↔ x = y := by
  obtain ⟨a, b⟩ := x
  obtain ⟨c, d⟩ := y
  simp [depB]
theorem zip_all {α : Type} {p : α → α → Bool} (hp : ∀ x y, p x y = true ↔ x = y) : ∀ {a b : List α}, a.length = b.length → ((a.zip b).all (fun q => p q.1 q.2) = true ↔ a = b)
  | [], [], _ => by simp
  | [], _ :: _, h => by simp at h
  | _ :: _, [], h => by simp at h
  | x :: a, y :: b, h => by
    simp only [List.zip_cons_cons, List.all_cons, Bool.and_eq_true, hp, List.cons.injEq]
    rw [zip_all hp (by simpa using h)]
def depsB (a b : List Dep) : Bool := decide (a.length = b.length) && (a.zip b).all fun q => depB q.1 q.2
theorem depsB_iff (a b : List Dep) : depsB a b = true ↔ a = b := by
  unfold depsB
  by_cases h : a.length = b.length
  · simp only [h, decide_true, Bool.true_and]
    exact zip_all depB_iff h
  · simp only [h, decide_false, Bool.false_and]
    constructor
    · intro h; cases h
    · intro e; exact absurd (congrArg List.length e) h
theorem p_eqDeps (a b : List Dep) (ha : a.length ≤ 4294967295) : f64 a b = some (depsB a b) := by
  unfold f64 F64 depsB
  have hml : maxLen = 9223372036854775807 := rfl
  by_cases h : a.length = b.length
  · have h' : (a.length : Int) = (b.length : Int) := by omega
    simp only [h', h, decide_true, Bool.not_true, cond_false, Bool.true_and]
    rw [zip_loop a b h (fun z => ((z, ()), ())) depB true (by omega)]
    · simp
    · intro next
      simp [l64_0]
    · intro z x y next h0 h1 h2 h3 h4
      simp only [l64_0, h0, h1, h2, h3, h4, decide_true, cond_true, Option.bind_some, condNot]
      rfl
  · have h' : ¬ ((a.length : Int) = (b.length : Int)) := by omega
    simp [h', h]

open Classical in
noncomputable def sameQ (a b : Request) : Bool := decide (a = b)
theorem sameQ_iff (a b : Request) : sameQ a b = true ↔ a = b := by simp [sameQ]
theorem p_sameAsk (a b : Request) (ha : a.after.length ≤ 4294967295) : f14 a b = some (sameQ a b) := by
  unfold f14 F14
  simp only [p_eqDeps a.after b.after ha, Option.bind_some, condSF]
  congr 1
  rw [Bool.eq_iff_iff, sameQ_iff]
  obtain ⟨a1, a2, a3, a4, a5, a6, ⟨a7, a8, a9, a10⟩, a11, a12, a13, a14, a15, a16, a17⟩ := a
  obtain ⟨b1, b2, b3, b4, b5, b6, ⟨b7, b8, b9, b10⟩, b11, b12, b13, b14, b15, b16, b17⟩ := b
  simp only [Bool.and_eq_true, decide_eq_true_eq, depsB_iff, Request.mk.injEq, Res.mk.injEq, and_true, and_assoc]
def getF (r : Request) : List Int := [0, r.job, r.version, r.queue, r.many, r.need.cpu, r.need.mem, r.need.gpu, r.need.lic, r.wall, r.tasks, r.node, r.fro, r.to, r.id]
theorem r_all (r : Request) : f65 r = some (getF r) := rfl
theorem r_sameAsk (a b : Request) (ha : a.after.length ≤ 4294967295) : f15 a b = some (sameQ a b) := by
  unfold f15 F15
  have hml : maxLen = 9223372036854775807 := rfl
  by_cases h : a.after.length = b.after.length
  · have h' : (a.after.length : Int) = (b.after.length : Int) := by omega
    simp only [condNot, h', decide_true, cond_true]
    rw [zip_loop a.after b.after h (fun z => (((), (), z, ()), (a, b, ()))) depB (decide (getF a = getF b)) (by omega)]
    · simp only [condSF]
      congr 1
      rw [Bool.eq_iff_iff, sameQ_iff]
      simp only [Bool.and_eq_true, decide_eq_true_eq, zip_all depB_iff h]
      obtain ⟨a1, a2, a3, a4, a5, a6, ⟨a7, a8, a9, a10⟩, a11, a12, a13, a14, a15, a16, a17⟩ := a
      obtain ⟨b1, b2, b3, b4, b5, b6, ⟨b7, b8, b9, b10⟩, b11, b12, b13, b14, b15, b16, b17⟩ := b
      simp only [getF, List.cons.injEq, Request.mk.injEq, Res.mk.injEq, and_true, true_and, and_assoc]
      constructor
      · rintro ⟨e1, e2, e3, e4, e5, e6, e7, e8, e9, e10, e11, e12, e13, e14, e15, e16, e17⟩
        exact ⟨e1, e2, e4, e5, e6, e7, e8, e9, e10, e11, e12, e13, e3, e14, e15, e16, e17⟩
      · rintro ⟨e1, e2, e4, e5, e6, e7, e8, e9, e10, e11, e12, e13, e3, e14, e15, e16, e17⟩
        exact ⟨e1, e2, e3, e4, e5, e6, e7, e8, e9, e10, e11, e12, e13, e14, e15, e16, e17⟩
    · intro next
      simp only [l15_0, Int.lt_irrefl, decide_false, cond_false, r_all, Option.bind_some, condNot]
      simp only [getF, List.getElem?_cons_zero, List.getElem?_cons_succ, Option.bind_some, condSF]
      congr 1
      rw [Bool.eq_iff_iff]
      simp only [Bool.and_eq_true, decide_eq_true_eq, List.cons.injEq, and_true, true_and]
    · intro z x y next h0 h1 h2 h3 h4
      simp only [l15_0, h0, h1, h2, h3, h4, decide_true, cond_true, Option.bind_some, condNot]
      rfl
  · have h' : ¬ ((a.after.length : Int) = (b.after.length : Int)) := by omega
    have hs : sameQ a b = false := by
      rw [Bool.eq_false_iff, ne_eq, sameQ_iff]
      intro e; exact h (by rw [e])
    simp only [condNot, h', decide_false, cond_false, hs]
    cases decide (a.kind = b.kind) <;> cases decide (a.key = b.key) <;> rfl

/- which are right -/
def fieldsL (k : Int) : List Int := if k = 1 then [3, 4, 5, 6, 7, 8, 9, 10] else if k = 2 then [1, 2, 4, 5, 6, 7, 8, 9] else if k = 3 ∨ k = 4 ∨ k = 5 ∨ k = 6 then [1, 2] else if k = 7 then [1, 2, 3] else if k = 8 then [1] else if k = 9 then [3] else if k = 11 then [11, 12, 13] else if k = 12 then [14] else []
def chkF (r : Request) (j : Nat) : Bool := cond ((fieldsL r.kind).any fun x => decide (x = (j : Int))) (inN ((getF r).getD j 0)) (decide ((getF r).getD j 0 = 0))
def rightQ (r : Request) : Bool := decide (1 ≤ r.kind) && (decide (r.kind ≤ 12) && (decide (1 ≤ r.key) && (decide (r.key ≤ 1073741824) && (decide (r.after.length ≤ 4) && ((decide (r.kind = 1) || decide (r.after.length = 0)) && (([1, 2, 3, 4, 5, 6, 7, 8, 9, 10, 11, 12, 13, 14].all (chkF r)) && r.after.all fun d => inN d.job))))))
theorem p_exists (k : Int) : f79 k = some (decide (1 ≤ k) && decide (k ≤ 12)) := by
  unfold f79 F79
  exact condSF _ _
def afterQ (k : Int) (l : List Dep) : Bool := if k = 1 then decide (l.length ≤ 4) && l.all fun d => inN d.job else decide (l.length = 0)
theorem p_after (k : Int) (l : List Dep) : f80 k l = some (afterQ k l) := by
  unfold f80 F80 afterQ
  have hml : maxLen = 9223372036854775807 := rfl
  by_cases hk : k = 1
  · simp only [hk, decide_true, Bool.not_true, cond_false, if_true]
    by_cases h4 : (4 : Int) < (l.length : Int)
    · simp [h4, show ¬ l.length ≤ 4 by omega]
    · simp only [h4, decide_false, cond_false, show l.length ≤ 4 by omega, decide_true, Bool.true_and]
      rw [all_loop l (fun z => ((z, ()), ())) (fun d => inN d.job) true (by omega)]
      · simp
      · intro next
        simp [l80_0]
      · intro z x next h0 h1 h2 h3
        simp only [l80_0, h0, h1, h2, h3, decide_true, cond_true, Option.bind_some, chkIn]
  · simp only [hk, decide_false, Bool.not_false, cond_true, if_false]
    congr 2
    simp
theorem kinds {k : Int} (h0 : 1 ≤ k) (h1 : k ≤ 12) : k = 1 ∨ k = 2 ∨ k = 3 ∨ k = 4 ∨ k = 5 ∨ k = 6 ∨ k = 7 ∨ k = 8 ∨ k = 9 ∨ k = 10 ∨ k = 11 ∨ k = 12 := by omega
theorem zeroQ (k y j v q m a b c d w t n f o i : Int) : sameQ (Request.mk k y j v q m (Res.mk a b c d) w t [] n f o i) (Request.mk k y 0 0 0 0 (Res.mk 0 0 0 0) 0 0 [] 0 0 0 0) = (decide (j = 0) && (decide (v = 0) && (decide (q = 0) && (decide (m = 0) && (decide (a = 0) && (decide (b = 0) && (decide (c = 0) && (decide (d = 0) && (decide (w = 0) && (decide (t = 0) && (decide (n = 0) && (decide (f = 0) && (decide (o = 0) && decide (i = 0)))))))))))))) := by
  rw [Bool.eq_iff_iff, sameQ_iff]
  simp only [Request.mk.injEq, Res.mk.injEq, Bool.and_eq_true, decide_eq_true_eq, true_and, and_assoc]
theorem p_sameNil (k y j v q m : Int) (z : Res) (w t n f o i : Int) (b : Request) : f14 (Request.mk k y j v q m z w t [] n f o i) b = some (sameQ (Request.mk k y j v q m z w t [] n f o i) b) := p_sameAsk _ _ (by simp)
theorem elimInr {α β γ : Type} (c : Bool) (K : Option (α ⊕ β)) (z : β) (f : α → Option γ) (g : β → Option γ) : Option.bind (cond c K (some (.inr z))) (Sum.elim f g) = cond c (Option.bind K (Sum.elim f g)) (g z) := by cases c <;> rfl
set_option maxHeartbeats 2000000 in
theorem p_rightAsk (r : Request) : f24 r = some (rightQ r) := by
  unfold f24 F24
  obtain ⟨k, y, j, v, q, m, ⟨a, b, c, d⟩, w, t, l, n, f, o, i⟩ := r
  simp only [p_exists, p_after, Option.bind_some]
  by_cases hk0 : 1 ≤ k
  · by_cases hk1 : k ≤ 12
    · by_cases hy0 : y < 1
      · simp [rightQ, hk0, hk1, hy0, show ¬ 1 ≤ y by omega]
      · by_cases hy1 : 1073741824 < y
        · simp [rightQ, hk0, hk1, hy0, hy1, show ¬ y ≤ 1073741824 by omega]
        · simp only [hk0, hk1, hy0, hy1, decide_true, decide_false, Bool.true_and, Bool.not_true, cond_false, rightQ, show 1 ≤ y by omega, show y ≤ 1073741824 by omega]
          rcases kinds hk0 hk1 with rfl | rfl | rfl | rfl | rfl | rfl | rfl | rfl | rfl | rfl | rfl | rfl <;>
            simp only [f66, F66, Int.reduceEq, decide_true, decide_false, cond_true, cond_false, Option.bind_some, Sum.elim_inl, Sum.elim_inr, chkIn, elimInr, p_sameNil, zeroQ, condSF, condNot, Bool.true_and, Bool.and_true] <;>
            (congr 1; rw [Bool.eq_iff_iff]; simp only [afterQ, chkF, fieldsL, getF, List.all_cons, List.all_nil, List.any_cons, List.any_nil, Int.reduceEq, if_true, if_false, decide_true, decide_false, Bool.or_false, Bool.false_or, Bool.true_or, Bool.or_true, cond_true, cond_false, List.getD_cons_zero, List.getD_cons_succ, Bool.and_eq_true, decide_eq_true_eq, and_true, true_and, or_false, false_or, or_true, true_or, Bool.and_true, Bool.true_and, show ((1 : Nat) : Int) = 1 from rfl, show ((2 : Nat) : Int) = 2 from rfl, show ((3 : Nat) : Int) = 3 from rfl, show ((4 : Nat) : Int) = 4 from rfl, show ((5 : Nat) : Int) = 5 from rfl, show ((6 : Nat) : Int) = 6 from rfl, show ((7 : Nat) : Int) = 7 from rfl, show ((8 : Nat) : Int) = 8 from rfl, show ((9 : Nat) : Int) = 9 from rfl, show ((10 : Nat) : Int) = 10 from rfl, show ((11 : Nat) : Int) = 11 from rfl, show ((12 : Nat) : Int) = 12 from rfl, show ((13 : Nat) : Int) = 13 from rfl, show ((14 : Nat) : Int) = 14 from rfl]; constructor <;> (intro h; simp only [h, and_self] <;> simp [List.eq_nil_of_length_eq_zero h.1]))
    · simp [rightQ, hk0, hk1]
  · simp [rightQ, hk0]
end NM
end Go.Proofs.Ytgpejfddaelobaa
