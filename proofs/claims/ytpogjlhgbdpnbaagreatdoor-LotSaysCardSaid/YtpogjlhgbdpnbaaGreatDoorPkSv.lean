/-
  What the proof of LotSays leans on, part 22. (Many texts laid together by program.)
-/
import Derived.Test.YtpogjlhgbdpnbaaGreatDoorPkSu
import Derived.KernelRfl
set_option linter.unnecessarySimpa false
set_option linter.unusedSimpArgs false
set_option linter.unusedVariables false
section
namespace Go.Proofs.YtpogjlhgbdpnbaaGreatDoor
namespace NM
open AM
def inN (z : Int) : Bool := decide (0 ≤ z) && decide (z ≤ 281474976710656)
theorem chkIn {ω : Type} (x : Int) (K z : Option ω) : cond (decide (x < 0)) z (cond (decide (281474976710656 < x)) z K) = cond (inN x) K z := by
 unfold inN
 by_cases g1 : x < 0
 · simp [g1, show ¬ 0 ≤ x by omega]
 · by_cases g2 : 281474976710656 < x
   · simp [g1, g2, show ¬ x ≤ 281474976710656 by omega]
   · simp [g1, g2, show 0 ≤ x by omega, show x ≤ 281474976710656 by omega]
theorem condSF (p x : Bool) : cond p (some x) (some false) = some (p && x) := by cases p <;> rfl
theorem condNot {α : Type} (p : Bool) (a b : α) : cond (!p) a b = cond p b a := by cases p <;> rfl
def depB (x y : Dep) : Bool := (decide (x.job = y.job)) && ((x.ok == y.ok) && true)
theorem depB_iff (x y : Dep) : depB x y = true ↔ x = y := by
 obtain ⟨a, b⟩ := x
 obtain ⟨c, d⟩ := y
 simp [depB]
theorem zip_all {α : Type} {p : α → α → Bool} (hp : ∀ x y, p x y = true ↔ x = y) : ∀ {a b : List α}, a.length = b.length → ((a.zip b).all (fun q => p q.1 q.2) = true ↔ a = b)
 | [], [], _ => by simp
 | [], _ :: _, h => by simp at h
 | _ :: _, [], h => by simp at h
 | x :: a, y :: b, h => by
   simp only [List.zip_cons_cons, List.all_cons, Bool.and_eq_true, hp, List.cons.injEq]
   rw [zip_all hp (by simpa using h)]
def depsB (a b : List Dep) : Bool := decide (a.length = b.length) && (a.zip b).all fun q => depB q.1 q.2
theorem depsB_iff (a b : List Dep) : depsB a b = true ↔ a = b := by
 unfold depsB
 by_cases h : a.length = b.length
 · simp only [h, decide_true, Bool.true_and]
   exact zip_all depB_iff h
 · simp only [h, decide_false, Bool.false_and]
   constructor
   · intro h; cases h
   · intro e; exact absurd (congrArg List.length e) h
theorem p_eqDeps (a b : List Dep) (ha : a.length ≤ 4294967295) : f66 a b = some (depsB a b) := by
 unfold f66 F66 depsB
 have hml : maxLen = 9223372036854775807 := rfl
 by_cases h : a.length = b.length
 · have h' : (a.length : Int) = (b.length : Int) := by omega
   simp only [h', h, decide_true, Bool.not_true, cond_false, Bool.true_and]
   rw [zip_loop a b h (fun z => ((z, ()), ())) depB true (by omega)]
   · simp
   · intro next
     simp [l66_0]
   · intro z x y next h0 h1 h2 h3 h4
     simp only [l66_0, h0, h1, h2, h3, h4, decide_true, cond_true, Option.bind_some, condNot]
     rfl
 · have h' : ¬ ((a.length : Int) = (b.length : Int)) := by omega
   simp [h', h]
open Classical in
noncomputable def sameQ (a b : Request) : Bool := decide (a = b)
theorem sameQ_iff (a b : Request) : sameQ a b = true ↔ a = b := by simp [sameQ]
theorem p_sameAsk (a b : Request) (ha : a.after.length ≤ 4294967295) : f29 a b = some (sameQ a b) := by
 unfold f29 F29
 simp only [p_eqDeps a.after b.after ha, Option.bind_some, condSF]
 congr 1
 rw [Bool.eq_iff_iff, sameQ_iff]
 obtain ⟨a1, a2, a3, a4, a5, a6, ⟨a7, a8, a9, a10⟩, a11, a12, a13, a14, a15, a16, a17⟩ := a
 obtain ⟨b1, b2, b3, b4, b5, b6, ⟨b7, b8, b9, b10⟩, b11, b12, b13, b14, b15, b16, b17⟩ := b
 simp only [Bool.and_eq_true, decide_eq_true_eq, depsB_iff, Request.mk.injEq, Res.mk.injEq, and_true, and_assoc]
def getF (r : Request) : List Int := [0, r.job, r.version, r.queue, r.many, r.need.cpu, r.need.mem, r.need.gpu, r.need.lic, r.wall, r.tasks, r.node, r.fro, r.to, r.id]
theorem r_all (r : Request) : f67 r = some (getF r) := rfl
theorem r_sameAsk (a b : Request) (ha : a.after.length ≤ 4294967295) : f30 a b = some (sameQ a b) := by
 unfold f30 F30
 have hml : maxLen = 9223372036854775807 := rfl
 by_cases h : a.after.length = b.after.length
 · have h' : (a.after.length : Int) = (b.after.length : Int) := by omega
   simp only [condNot, h', decide_true, cond_true]
   rw [zip_loop a.after b.after h (fun z => (((), (), z, ()), (a, b, ()))) depB (decide (getF a = getF b)) (by omega)]
   · simp only [condSF]
     congr 1
     rw [Bool.eq_iff_iff, sameQ_iff]
     simp only [Bool.and_eq_true, decide_eq_true_eq, zip_all depB_iff h]
     obtain ⟨a1, a2, a3, a4, a5, a6, ⟨a7, a8, a9, a10⟩, a11, a12, a13, a14, a15, a16, a17⟩ := a
     obtain ⟨b1, b2, b3, b4, b5, b6, ⟨b7, b8, b9, b10⟩, b11, b12, b13, b14, b15, b16, b17⟩ := b
     simp only [getF, List.cons.injEq, Request.mk.injEq, Res.mk.injEq, and_true, true_and, and_assoc]
     constructor
     · rintro ⟨e1, e2, e3, e4, e5, e6, e7, e8, e9, e10, e11, e12, e13, e14, e15, e16, e17⟩
       exact ⟨e1, e2, e4, e5, e6, e7, e8, e9, e10, e11, e12, e13, e3, e14, e15, e16, e17⟩
     · rintro ⟨e1, e2, e4, e5, e6, e7, e8, e9, e10, e11, e12, e13, e3, e14, e15, e16, e17⟩
       exact ⟨e1, e2, e3, e4, e5, e6, e7, e8, e9, e10, e11, e12, e13, e14, e15, e16, e17⟩
   · intro next
     simp only [l30_0, Int.lt_irrefl, decide_false, cond_false, r_all, Option.bind_some, condNot]
     simp only [getF, List.getElem?_cons_zero, List.getElem?_cons_succ, Option.bind_some, condSF]
     congr 1
     rw [Bool.eq_iff_iff]
     simp only [Bool.and_eq_true, decide_eq_true_eq, List.cons.injEq, and_true, true_and]
   · intro z x y next h0 h1 h2 h3 h4
     simp only [l30_0, h0, h1, h2, h3, h4, decide_true, cond_true, Option.bind_some, condNot]
     rfl
 · have h' : ¬ ((a.after.length : Int) = (b.after.length : Int)) := by omega
   have hs : sameQ a b = false := by
     rw [Bool.eq_false_iff, ne_eq, sameQ_iff]
     intro e; exact h (by rw [e])
   simp only [condNot, h', decide_false, cond_false, hs]
   cases decide (a.kind = b.kind) <;> cases decide (a.key = b.key) <;> rfl
def fieldsL (k : Int) : List Int := if k = 1 then [3, 4, 5, 6, 7, 8, 9, 10] else if k = 2 then [1, 2, 4, 5, 6, 7, 8, 9] else if k = 3 ∨ k = 4 ∨ k = 5 ∨ k = 6 then [1, 2] else if k = 7 then [1, 2, 3] else if k = 8 then [1] else if k = 9 then [3] else if k = 11 then [11, 12, 13] else if k = 12 then [14] else []
def chkF (r : Request) (j : Nat) : Bool := cond ((fieldsL r.kind).any fun x => decide (x = (j : Int))) (inN ((getF r).getD j 0)) (decide ((getF r).getD j 0 = 0))
def rightQ (r : Request) : Bool := decide (1 ≤ r.kind) && (decide (r.kind ≤ 12) && (decide (1 ≤ r.key) && (decide (r.key ≤ 1073741824) && (decide (r.after.length ≤ 4) && ((decide (r.kind = 1) || decide (r.after.length = 0)) && (([1, 2, 3, 4, 5, 6, 7, 8, 9, 10, 11, 12, 13, 14].all (chkF r)) && r.after.all fun d => inN d.job))))))
theorem p_exists (k : Int) : f94 k = some (decide (1 ≤ k) && decide (k ≤ 12)) := by
 unfold f94 F94
 exact condSF _ _
def afterQ (k : Int) (l : List Dep) : Bool := if k = 1 then decide (l.length ≤ 4) && l.all fun d => inN d.job else decide (l.length = 0)
theorem p_after (k : Int) (l : List Dep) : f95 k l = some (afterQ k l) := by
 unfold f95 F95 afterQ
 have hml : maxLen = 9223372036854775807 := rfl
 by_cases hk : k = 1
 · simp only [hk, decide_true, Bool.not_true, cond_false, if_true]
   by_cases h4 : (4 : Int) < (l.length : Int)
   · simp [h4, show ¬ l.length ≤ 4 by omega]
   · simp only [h4, decide_false, cond_false, show l.length ≤ 4 by omega, decide_true, Bool.true_and]
     rw [all_loop l (fun z => ((z, ()), ())) (fun d => inN d.job) true (by omega)]
     · simp
     · intro next
       simp [l95_0]
     · intro z x next h0 h1 h2 h3
       simp only [l95_0, h0, h1, h2, h3, decide_true, cond_true, Option.bind_some, chkIn]
 · simp only [hk, decide_false, Bool.not_false, cond_true, if_false]
   congr 2
   simp
theorem kinds {k : Int} (h0 : 1 ≤ k) (h1 : k ≤ 12) : k = 1 ∨ k = 2 ∨ k = 3 ∨ k = 4 ∨ k = 5 ∨ k = 6 ∨ k = 7 ∨ k = 8 ∨ k = 9 ∨ k = 10 ∨ k = 11 ∨ k = 12 := by omega
theorem zeroQ (k y j v q m a b c d w t n f o i : Int) : sameQ (Request.mk k y j v q m (Res.mk a b c d) w t [] n f o i) (Request.mk k y 0 0 0 0 (Res.mk 0 0 0 0) 0 0 [] 0 0 0 0) = (decide (j = 0) && (decide (v = 0) && (decide (q = 0) && (decide (m = 0) && (decide (a = 0) && (decide (b = 0) && (decide (c = 0) && (decide (d = 0) && (decide (w = 0) && (decide (t = 0) && (decide (n = 0) && (decide (f = 0) && (decide (o = 0) && decide (i = 0)))))))))))))) := by
 rw [Bool.eq_iff_iff, sameQ_iff]
 simp only [Request.mk.injEq, Res.mk.injEq, Bool.and_eq_true, decide_eq_true_eq, true_and, and_assoc]
theorem p_sameNil (k y j v q m : Int) (z : Res) (w t n f o i : Int) (b : Request) : f29 (Request.mk k y j v q m z w t [] n f o i) b = some (sameQ (Request.mk k y j v q m z w t [] n f o i) b) := p_sameAsk _ _ (by simp)
theorem elimInr {α β γ : Type} (c : Bool) (K : Option (α ⊕ β)) (z : β) (f : α → Option γ) (g : β → Option γ) : Option.bind (cond c K (some (.inr z))) (Sum.elim f g) = cond c (Option.bind K (Sum.elim f g)) (g z) := by cases c <;> rfl
set_option maxHeartbeats 2000000 in
theorem p_rightAsk (r : Request) : f58 r = some (rightQ r) := by
 unfold f58 F58
 obtain ⟨k, y, j, v, q, m, ⟨a, b, c, d⟩, w, t, l, n, f, o, i⟩ := r
 simp only [p_exists, p_after, Option.bind_some]
 by_cases hk0 : 1 ≤ k
 · by_cases hk1 : k ≤ 12
   · by_cases hy0 : y < 1
     · simp [rightQ, hk0, hk1, hy0, show ¬ 1 ≤ y by omega]
     · by_cases hy1 : 1073741824 < y
       · simp [rightQ, hk0, hk1, hy0, hy1, show ¬ y ≤ 1073741824 by omega]
       · simp only [hk0, hk1, hy0, hy1, decide_true, decide_false, Bool.true_and, Bool.not_true, cond_false, rightQ, show 1 ≤ y by omega, show y ≤ 1073741824 by omega]
         rcases kinds hk0 hk1 with rfl | rfl | rfl | rfl | rfl | rfl | rfl | rfl | rfl | rfl | rfl | rfl <;>
           simp only [f96, F96, Int.reduceEq, decide_true, decide_false, cond_true, cond_false, Option.bind_some, Sum.elim_inl, Sum.elim_inr, chkIn, elimInr, p_sameNil, zeroQ, condSF, condNot, Bool.true_and, Bool.and_true] <;>
           (congr 1; rw [Bool.eq_iff_iff]; simp only [afterQ, chkF, fieldsL, getF, List.all_cons, List.all_nil, List.any_cons, List.any_nil, Int.reduceEq, if_true, if_false, decide_true, decide_false, Bool.or_false, Bool.false_or, Bool.true_or, Bool.or_true, cond_true, cond_false, List.getD_cons_zero, List.getD_cons_succ, Bool.and_eq_true, decide_eq_true_eq, and_true, true_and, or_false, false_or, or_true, true_or, Bool.and_true, Bool.true_and, show ((1 : Nat) : Int) = 1 from rfl, show ((2 : Nat) : Int) = 2 from rfl, show ((3 : Nat) : Int) = 3 from rfl, show ((4 : Nat) : Int) = 4 from rfl, show ((5 : Nat) : Int) = 5 from rfl, show ((6 : Nat) : Int) = 6 from rfl, show ((7 : Nat) : Int) = 7 from rfl, show ((8 : Nat) : Int) = 8 from rfl, show ((9 : Nat) : Int) = 9 from rfl, show ((10 : Nat) : Int) = 10 from rfl, show ((11 : Nat) : Int) = 11 from rfl, show ((12 : Nat) : Int) = 12 from rfl, show ((13 : Nat) : Int) = 13 from rfl, show ((14 : Nat) : Int) = 14 from rfl]; constructor <;> (intro h; simp only [h, and_self] <;> simp [List.eq_nil_of_length_eq_zero h.1]))
   · simp [rightQ, hk0, hk1]
 · simp [rightQ, hk0]
theorem right_kind {r : Request} (h : rightQ r = true) : 1 ≤ r.kind ∧ r.kind ≤ 12 ∧ 1 ≤ r.key ∧ r.key ≤ 1073741824 ∧ r.after.length ≤ 4 ∧ (r.kind = 1 ∨ r.after.length = 0) ∧ (r.after.all fun d => inN d.job) = true := by
 simp only [rightQ, Bool.and_eq_true, decide_eq_true_eq, Bool.or_eq_true] at h
 obtain ⟨h1, h2, h3, h4, h5, h6, h7, h8⟩ := h
 exact ⟨h1, h2, h3, h4, h5, h6, h8⟩
def intB (x y : Int) : Bool := decide (x = y)
theorem intB_iff (x y : Int) : intB x y = true ↔ x = y := by simp [intB]
theorem r_BytesEq (a b : List Int) (hl : a.length ≤ 4294967295) : f31 a b = some (decide (a = b)) := by
 unfold f31 F31
 have hml : maxLen = 9223372036854775807 := rfl
 by_cases h : a.length = b.length
 · have h' : (a.length : Int) = (b.length : Int) := by omega
   simp only [h', decide_true, Bool.not_true, cond_false]
   rw [zip_loop a b h (fun z => ((z, ()), ())) intB true (by omega)]
   · simp only [Bool.and_true]
     congr 1
     rw [Bool.eq_iff_iff, decide_eq_true_eq]
     exact zip_all intB_iff h
   · intro next
     simp [l31_0]
   · intro z x y next h0 h1 h2 h3 h4
     simp only [l31_0, h0, h1, h2, h3, h4, decide_true, cond_true, Option.bind_some, condNot, intB]
 · have h' : ¬ ((a.length : Int) = (b.length : Int)) := by omega
   have hne : ¬ a = b := fun e => h (by rw [e])
   simp [h', hne]
theorem r_Right5 (z : Int) : f33 z = some (inN z) := by
 unfold f33 F33 inN
 by_cases h1 : 0 ≤ z <;> by_cases h2 : z ≤ 281474976710656 <;> simp [h1, h2]
theorem any_fold (l : List Int) (j : Int) : (l.any fun x => decide (x = j)) = l.foldl (fun b x => b || decide (x = j)) false := by
 have : ∀ (l : List Int) (b : Bool), l.foldl (fun b x => b || decide (x = j)) b = (b || l.any fun x => decide (x = j)) := by
   intro l
   induction l with
   | nil => intro b; simp
   | cons x l ih => intro b; simp only [List.foldl_cons, ih, List.any_cons, Bool.or_assoc]
 rw [this l false]; simp
theorem r_fields {k : Int} (h1 : 1 ≤ k) (h2 : k ≤ 12) : f68 k = some (fieldsL k) := by
 rcases kinds h1 h2 with rfl | rfl | rfl | rfl | rfl | rfl | rfl | rfl | rfl | rfl | rfl | rfl <;> rfl
def chkGo (r : Request) : Nat → Nat → Option (((Unit × Unit) × (Request × Unit)) ⊕ Bool)
 | 0, _ => some (.inl (((), ()), (r, ())))
 | n + 1, j => cond (chkF r j) (chkGo r n (j + 1)) (some (.inr false))
def chkFrom (r : Request) (j : Nat) : Option (((Unit × Unit) × (Request × Unit)) ⊕ Bool) := chkGo r (15 - j) j
theorem chkFrom_1 (r : Request) : chkFrom r 1 = cond (chkF r 1) (chkFrom r 2) (some (.inr false)) := rfl
theorem chkFrom_2 (r : Request) : chkFrom r 2 = cond (chkF r 2) (chkFrom r 3) (some (.inr false)) := rfl
theorem chkFrom_3 (r : Request) : chkFrom r 3 = cond (chkF r 3) (chkFrom r 4) (some (.inr false)) := rfl
theorem chkFrom_4 (r : Request) : chkFrom r 4 = cond (chkF r 4) (chkFrom r 5) (some (.inr false)) := rfl
theorem chkFrom_5 (r : Request) : chkFrom r 5 = cond (chkF r 5) (chkFrom r 6) (some (.inr false)) := rfl
theorem chkFrom_6 (r : Request) : chkFrom r 6 = cond (chkF r 6) (chkFrom r 7) (some (.inr false)) := rfl
theorem chkFrom_7 (r : Request) : chkFrom r 7 = cond (chkF r 7) (chkFrom r 8) (some (.inr false)) := rfl
theorem chkFrom_8 (r : Request) : chkFrom r 8 = cond (chkF r 8) (chkFrom r 9) (some (.inr false)) := rfl
theorem chkFrom_9 (r : Request) : chkFrom r 9 = cond (chkF r 9) (chkFrom r 10) (some (.inr false)) := rfl
theorem chkFrom_10 (r : Request) : chkFrom r 10 = cond (chkF r 10) (chkFrom r 11) (some (.inr false)) := rfl
theorem chkFrom_11 (r : Request) : chkFrom r 11 = cond (chkF r 11) (chkFrom r 12) (some (.inr false)) := rfl
theorem chkFrom_12 (r : Request) : chkFrom r 12 = cond (chkF r 12) (chkFrom r 13) (some (.inr false)) := rfl
theorem chkFrom_13 (r : Request) : chkFrom r 13 = cond (chkF r 13) (chkFrom r 14) (some (.inr false)) := rfl
theorem chkFrom_14 (r : Request) : chkFrom r 14 = cond (chkF r 14) (some (.inl (((), ()), (r, ())))) (some (.inr false)) := rfl
theorem chk_14 (r : Request) : LN LOOPS (fun (s : ((Unit × (Bool × (Int × Unit))) × (Request × Unit))) nx => l34_0 f33 (getF r) (fieldsL r.kind) nx s.1.2.1 s.1.2.2.1 s.2.1) (((), false, 0, ()), (r, ())) = chkFrom r 14 := by
 have hml : maxLen = 9223372036854775807 := rfl
 have hf8 : (fieldsL r.kind).length ≤ 8 := by unfold fieldsL; (repeat' split) <;> simp
 rw [fold_loop (fieldsL r.kind) (fun b z => (((), b, z, ()), (r, ()))) (fun b x => b || decide (x = 14)) (fun b => cond (cond b (inN ((getF r).getD 14 0)) (decide ((getF r).getD 14 0 = 0))) (some (.inl (((), ()), (r, ())))) (some (.inr false))) (by omega) (fun b next => ?_) (fun b z x next h0 h1 h2 h3 => ?_) false]
 · rw [chkFrom_14]
   unfold chkF
   rw [any_fold]
   rfl
 · have hg : (getF r)[14]? = some ((getF r).getD 14 0) := rfl
   simp only [l34_0, Int.lt_irrefl, decide_false, cond_false, hg, Option.bind_some, r_Right5]
   cases b <;> cases inN ((getF r).getD 14 0) <;> cases decide ((getF r).getD 14 0 = 0) <;> rfl
 · simp only [l34_0, h0, h1, h2, h3, decide_true, cond_true, Option.bind_some]
   cases b <;> simp
theorem chk_13 (r : Request) : LN LOOPS (fun (s : ((Unit × (Bool × (Int × Unit))) × (Request × Unit))) nx => l34_1 (@LN LOOPS) f33 (getF r) (fieldsL r.kind) nx s.1.2.1 s.1.2.2.1 s.2.1) (((), false, 0, ()), (r, ())) = chkFrom r 13 := by
 have hml : maxLen = 9223372036854775807 := rfl
 have hf8 : (fieldsL r.kind).length ≤ 8 := by unfold fieldsL; (repeat' split) <;> simp
 rw [fold_loop (fieldsL r.kind) (fun b z => (((), b, z, ()), (r, ()))) (fun b x => b || decide (x = 13)) (fun b => cond (cond b (inN ((getF r).getD 13 0)) (decide ((getF r).getD 13 0 = 0))) (chkFrom r 14) (some (.inr false))) (by omega) (fun b next => ?_) (fun b z x next h0 h1 h2 h3 => ?_) false]
 · rw [chkFrom_13]
   unfold chkF
   rw [any_fold]
   rfl
 · have hg : (getF r)[13]? = some ((getF r).getD 13 0) := rfl
   simp only [l34_1, Int.lt_irrefl, decide_false, cond_false, hg, Option.bind_some, r_Right5, chk_14]
   cases b <;> cases inN ((getF r).getD 13 0) <;> cases decide ((getF r).getD 13 0 = 0) <;> simp only [cond_true, cond_false, Bool.not_true, Bool.not_false, Option.bind_some, chk_14]
 · simp only [l34_1, h0, h1, h2, h3, decide_true, cond_true, Option.bind_some]
   cases b <;> simp
theorem chk_12 (r : Request) : LN LOOPS (fun (s : ((Unit × (Bool × (Int × Unit))) × (Request × Unit))) nx => l34_2 (@LN LOOPS) f33 (getF r) (fieldsL r.kind) nx s.1.2.1 s.1.2.2.1 s.2.1) (((), false, 0, ()), (r, ())) = chkFrom r 12 := by
 have hml : maxLen = 9223372036854775807 := rfl
 have hf8 : (fieldsL r.kind).length ≤ 8 := by unfold fieldsL; (repeat' split) <;> simp
 rw [fold_loop (fieldsL r.kind) (fun b z => (((), b, z, ()), (r, ()))) (fun b x => b || decide (x = 12)) (fun b => cond (cond b (inN ((getF r).getD 12 0)) (decide ((getF r).getD 12 0 = 0))) (chkFrom r 13) (some (.inr false))) (by omega) (fun b next => ?_) (fun b z x next h0 h1 h2 h3 => ?_) false]
 · rw [chkFrom_12]
   unfold chkF
   rw [any_fold]
   rfl
 · have hg : (getF r)[12]? = some ((getF r).getD 12 0) := rfl
   simp only [l34_2, Int.lt_irrefl, decide_false, cond_false, hg, Option.bind_some, r_Right5, chk_13]
   cases b <;> cases inN ((getF r).getD 12 0) <;> cases decide ((getF r).getD 12 0 = 0) <;> simp only [cond_true, cond_false, Bool.not_true, Bool.not_false, Option.bind_some, chk_13]
 · simp only [l34_2, h0, h1, h2, h3, decide_true, cond_true, Option.bind_some]
   cases b <;> simp
theorem chk_11 (r : Request) : LN LOOPS (fun (s : ((Unit × (Bool × (Int × Unit))) × (Request × Unit))) nx => l34_3 (@LN LOOPS) f33 (getF r) (fieldsL r.kind) nx s.1.2.1 s.1.2.2.1 s.2.1) (((), false, 0, ()), (r, ())) = chkFrom r 11 := by
 have hml : maxLen = 9223372036854775807 := rfl
 have hf8 : (fieldsL r.kind).length ≤ 8 := by unfold fieldsL; (repeat' split) <;> simp
 rw [fold_loop (fieldsL r.kind) (fun b z => (((), b, z, ()), (r, ()))) (fun b x => b || decide (x = 11)) (fun b => cond (cond b (inN ((getF r).getD 11 0)) (decide ((getF r).getD 11 0 = 0))) (chkFrom r 12) (some (.inr false))) (by omega) (fun b next => ?_) (fun b z x next h0 h1 h2 h3 => ?_) false]
 · rw [chkFrom_11]
   unfold chkF
   rw [any_fold]
   rfl
 · have hg : (getF r)[11]? = some ((getF r).getD 11 0) := rfl
   simp only [l34_3, Int.lt_irrefl, decide_false, cond_false, hg, Option.bind_some, r_Right5, chk_12]
   cases b <;> cases inN ((getF r).getD 11 0) <;> cases decide ((getF r).getD 11 0 = 0) <;> simp only [cond_true, cond_false, Bool.not_true, Bool.not_false, Option.bind_some, chk_12]
 · simp only [l34_3, h0, h1, h2, h3, decide_true, cond_true, Option.bind_some]
   cases b <;> simp
theorem chk_10 (r : Request) : LN LOOPS (fun (s : ((Unit × (Bool × (Int × Unit))) × (Request × Unit))) nx => l34_4 (@LN LOOPS) f33 (getF r) (fieldsL r.kind) nx s.1.2.1 s.1.2.2.1 s.2.1) (((), false, 0, ()), (r, ())) = chkFrom r 10 := by
 have hml : maxLen = 9223372036854775807 := rfl
 have hf8 : (fieldsL r.kind).length ≤ 8 := by unfold fieldsL; (repeat' split) <;> simp
 rw [fold_loop (fieldsL r.kind) (fun b z => (((), b, z, ()), (r, ()))) (fun b x => b || decide (x = 10)) (fun b => cond (cond b (inN ((getF r).getD 10 0)) (decide ((getF r).getD 10 0 = 0))) (chkFrom r 11) (some (.inr false))) (by omega) (fun b next => ?_) (fun b z x next h0 h1 h2 h3 => ?_) false]
 · rw [chkFrom_10]
   unfold chkF
   rw [any_fold]
   rfl
 · have hg : (getF r)[10]? = some ((getF r).getD 10 0) := rfl
   simp only [l34_4, Int.lt_irrefl, decide_false, cond_false, hg, Option.bind_some, r_Right5, chk_11]
   cases b <;> cases inN ((getF r).getD 10 0) <;> cases decide ((getF r).getD 10 0 = 0) <;> simp only [cond_true, cond_false, Bool.not_true, Bool.not_false, Option.bind_some, chk_11]
 · simp only [l34_4, h0, h1, h2, h3, decide_true, cond_true, Option.bind_some]
   cases b <;> simp
theorem chk_9 (r : Request) : LN LOOPS (fun (s : ((Unit × (Bool × (Int × Unit))) × (Request × Unit))) nx => l34_5 (@LN LOOPS) f33 (getF r) (fieldsL r.kind) nx s.1.2.1 s.1.2.2.1 s.2.1) (((), false, 0, ()), (r, ())) = chkFrom r 9 := by
 have hml : maxLen = 9223372036854775807 := rfl
 have hf8 : (fieldsL r.kind).length ≤ 8 := by unfold fieldsL; (repeat' split) <;> simp
 rw [fold_loop (fieldsL r.kind) (fun b z => (((), b, z, ()), (r, ()))) (fun b x => b || decide (x = 9)) (fun b => cond (cond b (inN ((getF r).getD 9 0)) (decide ((getF r).getD 9 0 = 0))) (chkFrom r 10) (some (.inr false))) (by omega) (fun b next => ?_) (fun b z x next h0 h1 h2 h3 => ?_) false]
 · rw [chkFrom_9]
   unfold chkF
   rw [any_fold]
   rfl
 · have hg : (getF r)[9]? = some ((getF r).getD 9 0) := rfl
   simp only [l34_5, Int.lt_irrefl, decide_false, cond_false, hg, Option.bind_some, r_Right5, chk_10]
   cases b <;> cases inN ((getF r).getD 9 0) <;> cases decide ((getF r).getD 9 0 = 0) <;> simp only [cond_true, cond_false, Bool.not_true, Bool.not_false, Option.bind_some, chk_10]
 · simp only [l34_5, h0, h1, h2, h3, decide_true, cond_true, Option.bind_some]
   cases b <;> simp
theorem chk_8 (r : Request) : LN LOOPS (fun (s : ((Unit × (Bool × (Int × Unit))) × (Request × Unit))) nx => l34_6 (@LN LOOPS) f33 (getF r) (fieldsL r.kind) nx s.1.2.1 s.1.2.2.1 s.2.1) (((), false, 0, ()), (r, ())) = chkFrom r 8 := by
 have hml : maxLen = 9223372036854775807 := rfl
 have hf8 : (fieldsL r.kind).length ≤ 8 := by unfold fieldsL; (repeat' split) <;> simp
 rw [fold_loop (fieldsL r.kind) (fun b z => (((), b, z, ()), (r, ()))) (fun b x => b || decide (x = 8)) (fun b => cond (cond b (inN ((getF r).getD 8 0)) (decide ((getF r).getD 8 0 = 0))) (chkFrom r 9) (some (.inr false))) (by omega) (fun b next => ?_) (fun b z x next h0 h1 h2 h3 => ?_) false]
 · rw [chkFrom_8]
   unfold chkF
   rw [any_fold]
   rfl
 · have hg : (getF r)[8]? = some ((getF r).getD 8 0) := rfl
   simp only [l34_6, Int.lt_irrefl, decide_false, cond_false, hg, Option.bind_some, r_Right5, chk_9]
   cases b <;> cases inN ((getF r).getD 8 0) <;> cases decide ((getF r).getD 8 0 = 0) <;> simp only [cond_true, cond_false, Bool.not_true, Bool.not_false, Option.bind_some, chk_9]
 · simp only [l34_6, h0, h1, h2, h3, decide_true, cond_true, Option.bind_some]
   cases b <;> simp
theorem chk_7 (r : Request) : LN LOOPS (fun (s : ((Unit × (Bool × (Int × Unit))) × (Request × Unit))) nx => l34_7 (@LN LOOPS) f33 (getF r) (fieldsL r.kind) nx s.1.2.1 s.1.2.2.1 s.2.1) (((), false, 0, ()), (r, ())) = chkFrom r 7 := by
 have hml : maxLen = 9223372036854775807 := rfl
 have hf8 : (fieldsL r.kind).length ≤ 8 := by unfold fieldsL; (repeat' split) <;> simp
 rw [fold_loop (fieldsL r.kind) (fun b z => (((), b, z, ()), (r, ()))) (fun b x => b || decide (x = 7)) (fun b => cond (cond b (inN ((getF r).getD 7 0)) (decide ((getF r).getD 7 0 = 0))) (chkFrom r 8) (some (.inr false))) (by omega) (fun b next => ?_) (fun b z x next h0 h1 h2 h3 => ?_) false]
 · rw [chkFrom_7]
   unfold chkF
   rw [any_fold]
   rfl
 · have hg : (getF r)[7]? = some ((getF r).getD 7 0) := rfl
   simp only [l34_7, Int.lt_irrefl, decide_false, cond_false, hg, Option.bind_some, r_Right5, chk_8]
   cases b <;> cases inN ((getF r).getD 7 0) <;> cases decide ((getF r).getD 7 0 = 0) <;> simp only [cond_true, cond_false, Bool.not_true, Bool.not_false, Option.bind_some, chk_8]
 · simp only [l34_7, h0, h1, h2, h3, decide_true, cond_true, Option.bind_some]
   cases b <;> simp
theorem chk_6 (r : Request) : LN LOOPS (fun (s : ((Unit × (Bool × (Int × Unit))) × (Request × Unit))) nx => l34_8 (@LN LOOPS) f33 (getF r) (fieldsL r.kind) nx s.1.2.1 s.1.2.2.1 s.2.1) (((), false, 0, ()), (r, ())) = chkFrom r 6 := by
 have hml : maxLen = 9223372036854775807 := rfl
 have hf8 : (fieldsL r.kind).length ≤ 8 := by unfold fieldsL; (repeat' split) <;> simp
 rw [fold_loop (fieldsL r.kind) (fun b z => (((), b, z, ()), (r, ()))) (fun b x => b || decide (x = 6)) (fun b => cond (cond b (inN ((getF r).getD 6 0)) (decide ((getF r).getD 6 0 = 0))) (chkFrom r 7) (some (.inr false))) (by omega) (fun b next => ?_) (fun b z x next h0 h1 h2 h3 => ?_) false]
 · rw [chkFrom_6]
   unfold chkF
   rw [any_fold]
   rfl
 · have hg : (getF r)[6]? = some ((getF r).getD 6 0) := rfl
   simp only [l34_8, Int.lt_irrefl, decide_false, cond_false, hg, Option.bind_some, r_Right5, chk_7]
   cases b <;> cases inN ((getF r).getD 6 0) <;> cases decide ((getF r).getD 6 0 = 0) <;> simp only [cond_true, cond_false, Bool.not_true, Bool.not_false, Option.bind_some, chk_7]
 · simp only [l34_8, h0, h1, h2, h3, decide_true, cond_true, Option.bind_some]
   cases b <;> simp
theorem chk_5 (r : Request) : LN LOOPS (fun (s : ((Unit × (Bool × (Int × Unit))) × (Request × Unit))) nx => l34_9 (@LN LOOPS) f33 (getF r) (fieldsL r.kind) nx s.1.2.1 s.1.2.2.1 s.2.1) (((), false, 0, ()), (r, ())) = chkFrom r 5 := by
 have hml : maxLen = 9223372036854775807 := rfl
 have hf8 : (fieldsL r.kind).length ≤ 8 := by unfold fieldsL; (repeat' split) <;> simp
 rw [fold_loop (fieldsL r.kind) (fun b z => (((), b, z, ()), (r, ()))) (fun b x => b || decide (x = 5)) (fun b => cond (cond b (inN ((getF r).getD 5 0)) (decide ((getF r).getD 5 0 = 0))) (chkFrom r 6) (some (.inr false))) (by omega) (fun b next => ?_) (fun b z x next h0 h1 h2 h3 => ?_) false]
 · rw [chkFrom_5]
   unfold chkF
   rw [any_fold]
   rfl
 · have hg : (getF r)[5]? = some ((getF r).getD 5 0) := rfl
   simp only [l34_9, Int.lt_irrefl, decide_false, cond_false, hg, Option.bind_some, r_Right5, chk_6]
   cases b <;> cases inN ((getF r).getD 5 0) <;> cases decide ((getF r).getD 5 0 = 0) <;> simp only [cond_true, cond_false, Bool.not_true, Bool.not_false, Option.bind_some, chk_6]
 · simp only [l34_9, h0, h1, h2, h3, decide_true, cond_true, Option.bind_some]
   cases b <;> simp
theorem chk_4 (r : Request) : LN LOOPS (fun (s : ((Unit × (Bool × (Int × Unit))) × (Request × Unit))) nx => l34_10 (@LN LOOPS) f33 (getF r) (fieldsL r.kind) nx s.1.2.1 s.1.2.2.1 s.2.1) (((), false, 0, ()), (r, ())) = chkFrom r 4 := by
 have hml : maxLen = 9223372036854775807 := rfl
 have hf8 : (fieldsL r.kind).length ≤ 8 := by unfold fieldsL; (repeat' split) <;> simp
 rw [fold_loop (fieldsL r.kind) (fun b z => (((), b, z, ()), (r, ()))) (fun b x => b || decide (x = 4)) (fun b => cond (cond b (inN ((getF r).getD 4 0)) (decide ((getF r).getD 4 0 = 0))) (chkFrom r 5) (some (.inr false))) (by omega) (fun b next => ?_) (fun b z x next h0 h1 h2 h3 => ?_) false]
 · rw [chkFrom_4]
   unfold chkF
   rw [any_fold]
   rfl
 · have hg : (getF r)[4]? = some ((getF r).getD 4 0) := rfl
   simp only [l34_10, Int.lt_irrefl, decide_false, cond_false, hg, Option.bind_some, r_Right5, chk_5]
   cases b <;> cases inN ((getF r).getD 4 0) <;> cases decide ((getF r).getD 4 0 = 0) <;> simp only [cond_true, cond_false, Bool.not_true, Bool.not_false, Option.bind_some, chk_5]
 · simp only [l34_10, h0, h1, h2, h3, decide_true, cond_true, Option.bind_some]
   cases b <;> simp
theorem chk_3 (r : Request) : LN LOOPS (fun (s : ((Unit × (Bool × (Int × Unit))) × (Request × Unit))) nx => l34_11 (@LN LOOPS) f33 (getF r) (fieldsL r.kind) nx s.1.2.1 s.1.2.2.1 s.2.1) (((), false, 0, ()), (r, ())) = chkFrom r 3 := by
 have hml : maxLen = 9223372036854775807 := rfl
 have hf8 : (fieldsL r.kind).length ≤ 8 := by unfold fieldsL; (repeat' split) <;> simp
 rw [fold_loop (fieldsL r.kind) (fun b z => (((), b, z, ()), (r, ()))) (fun b x => b || decide (x = 3)) (fun b => cond (cond b (inN ((getF r).getD 3 0)) (decide ((getF r).getD 3 0 = 0))) (chkFrom r 4) (some (.inr false))) (by omega) (fun b next => ?_) (fun b z x next h0 h1 h2 h3 => ?_) false]
 · rw [chkFrom_3]
   unfold chkF
   rw [any_fold]
   rfl
 · have hg : (getF r)[3]? = some ((getF r).getD 3 0) := rfl
   simp only [l34_11, Int.lt_irrefl, decide_false, cond_false, hg, Option.bind_some, r_Right5, chk_4]
   cases b <;> cases inN ((getF r).getD 3 0) <;> cases decide ((getF r).getD 3 0 = 0) <;> simp only [cond_true, cond_false, Bool.not_true, Bool.not_false, Option.bind_some, chk_4]
 · simp only [l34_11, h0, h1, h2, h3, decide_true, cond_true, Option.bind_some]
   cases b <;> simp
theorem chk_2 (r : Request) : LN LOOPS (fun (s : ((Unit × (Bool × (Int × Unit))) × (Request × Unit))) nx => l34_12 (@LN LOOPS) f33 (getF r) (fieldsL r.kind) nx s.1.2.1 s.1.2.2.1 s.2.1) (((), false, 0, ()), (r, ())) = chkFrom r 2 := by
 have hml : maxLen = 9223372036854775807 := rfl
 have hf8 : (fieldsL r.kind).length ≤ 8 := by unfold fieldsL; (repeat' split) <;> simp
 rw [fold_loop (fieldsL r.kind) (fun b z => (((), b, z, ()), (r, ()))) (fun b x => b || decide (x = 2)) (fun b => cond (cond b (inN ((getF r).getD 2 0)) (decide ((getF r).getD 2 0 = 0))) (chkFrom r 3) (some (.inr false))) (by omega) (fun b next => ?_) (fun b z x next h0 h1 h2 h3 => ?_) false]
 · rw [chkFrom_2]
   unfold chkF
   rw [any_fold]
   rfl
 · have hg : (getF r)[2]? = some ((getF r).getD 2 0) := rfl
   simp only [l34_12, Int.lt_irrefl, decide_false, cond_false, hg, Option.bind_some, r_Right5, chk_3]
   cases b <;> cases inN ((getF r).getD 2 0) <;> cases decide ((getF r).getD 2 0 = 0) <;> simp only [cond_true, cond_false, Bool.not_true, Bool.not_false, Option.bind_some, chk_3]
 · simp only [l34_12, h0, h1, h2, h3, decide_true, cond_true, Option.bind_some]
   cases b <;> simp
theorem chk_1 (r : Request) : LN LOOPS (fun (s : ((Unit × (Bool × (Int × Unit))) × (Request × Unit))) nx => l34_13 (@LN LOOPS) f33 (getF r) (fieldsL r.kind) nx s.1.2.1 s.1.2.2.1 s.2.1) (((), false, 0, ()), (r, ())) = chkFrom r 1 := by
 have hml : maxLen = 9223372036854775807 := rfl
 have hf8 : (fieldsL r.kind).length ≤ 8 := by unfold fieldsL; (repeat' split) <;> simp
 rw [fold_loop (fieldsL r.kind) (fun b z => (((), b, z, ()), (r, ()))) (fun b x => b || decide (x = 1)) (fun b => cond (cond b (inN ((getF r).getD 1 0)) (decide ((getF r).getD 1 0 = 0))) (chkFrom r 2) (some (.inr false))) (by omega) (fun b next => ?_) (fun b z x next h0 h1 h2 h3 => ?_) false]
 · rw [chkFrom_1]
   unfold chkF
   rw [any_fold]
   rfl
 · have hg : (getF r)[1]? = some ((getF r).getD 1 0) := rfl
   simp only [l34_13, Int.lt_irrefl, decide_false, cond_false, hg, Option.bind_some, r_Right5, chk_2]
   cases b <;> cases inN ((getF r).getD 1 0) <;> cases decide ((getF r).getD 1 0 = 0) <;> simp only [cond_true, cond_false, Bool.not_true, Bool.not_false, Option.bind_some, chk_2]
 · simp only [l34_13, h0, h1, h2, h3, decide_true, cond_true, Option.bind_some]
   cases b <;> simp
theorem chk_all (r : Request) : chkFrom r 1 = some (if [1, 2, 3, 4, 5, 6, 7, 8, 9, 10, 11, 12, 13, 14].all (chkF r) = true then .inl (((), ()), (r, ())) else .inr false) := by
 have key : ∀ n j, chkGo r n j = some (if (List.range' j n).all (chkF r) = true then .inl (((), ()), (r, ())) else .inr false) := by
   intro n
   induction n with
   | zero => intro j; simp [chkGo]
   | succ n ih =>
     intro j
     simp only [chkGo, ih, List.range'_succ, List.all_cons]
     cases chkF r j <;> simp only [cond_true, cond_false, Bool.true_and, Bool.false_and]
     simp
 exact key 14 1
theorem r_rightAsk (r : Request) : f34 r = some (rightQ r) := by
 unfold f34 F34 rightQ
 have hml : maxLen = 9223372036854775807 := rfl
 by_cases h1 : r.kind < 1
 · simp [h1, show ¬ 1 ≤ r.kind by omega]
 · by_cases h2 : 12 < r.kind
   · simp [h1, h2, show ¬ r.kind ≤ 12 by omega]
   · by_cases h3 : r.key < 1
     · simp [h1, h2, h3, show ¬ 1 ≤ r.key by omega]
     · by_cases h4 : 1073741824 < r.key
       · simp [h1, h2, h3, h4, show ¬ r.key ≤ 1073741824 by omega]
       · by_cases h5 : (4 : Int) < (r.after.length : Int)
         · simp [h1, h2, h3, h4, h5, show ¬ r.after.length ≤ 4 by omega]
         · have main : (Option.bind (some (Sum.inl (((), ()), (r, ())) : ((Unit × Unit) × (Request × Unit)) ⊕ Bool)) (Sum.elim (fun x1 =>
               Option.bind (f67 x1.2.1) fun r2 =>
               Option.bind (f68 x1.2.1.kind) fun r3 =>
               Option.bind (α := (((Unit × Unit) × (Request × Unit)) ⊕ Bool))
                 (LN LOOPS (fun (s4 : ((Unit × (Bool × (Int × Unit))) × (Request × Unit))) nx5 => l34_13 (@LN LOOPS) f33 r2 r3 nx5 s4.1.2.1 s4.1.2.2.1 s4.2.1) (((), false, 0, ()), (x1.2.1, ()))) (Sum.elim (fun x158 =>
                 LN LOOPS (fun (s159 : ((Unit × (Int × Unit)) × (Request × Unit))) nx160 => l34_14 f33 nx160 s159.1.2.1 s159.2.1) (((), 0, ()), (x158.2.1, ()))) some)) some)) = some (([1, 2, 3, 4, 5, 6, 7, 8, 9, 10, 11, 12, 13, 14].all (chkF r)) && r.after.all fun d => inN d.job) := by
             simp only [Option.bind_some, Sum.elim_inl, r_all, r_fields (show 1 ≤ r.kind by omega) (show r.kind ≤ 12 by omega), chk_1, chk_all]
             cases hc : [1, 2, 3, 4, 5, 6, 7, 8, 9, 10, 11, 12, 13, 14].all (chkF r) with
             | false => rfl
             | true =>
               simp only [if_true, Sum.elim_inl, Bool.true_and]
               rw [all_loop r.after (fun z => (((), z, ()), (r, ()))) (fun d => inN d.job) true (by omega)]
               · simp
               · intro next
                 simp [l34_14]
               · intro z x next g0 g1 g2 g3
                 simp only [l34_14, g0, g1, g2, g3, decide_true, cond_true, Option.bind_some, r_Right5, condNot]
           simp only [h1, h2, h3, h4, h5, decide_false, cond_false, show 1 ≤ r.kind by omega, show r.kind ≤ 12 by omega, show 1 ≤ r.key by omega, show r.key ≤ 1073741824 by omega, show r.after.length ≤ 4 by omega, decide_true, Bool.true_and]
           by_cases hk : r.kind = 1
           · simp only [hk, decide_true, Bool.not_true, cond_false, Bool.true_or, Bool.true_and]
             exact main
           · by_cases h6 : (0 : Int) < (r.after.length : Int)
             · simp only [hk, h6, decide_true, decide_false, Bool.not_false, cond_true, show ¬ r.after.length = 0 by omega, Bool.false_or, Bool.false_and]
               rfl
             · simp only [hk, h6, decide_false, Bool.not_false, cond_true, cond_false, show r.after.length = 0 by omega, decide_true, Bool.false_or, Bool.true_and]
               exact main
end NM
end Go.Proofs.YtpogjlhgbdpnbaaGreatDoor
end
