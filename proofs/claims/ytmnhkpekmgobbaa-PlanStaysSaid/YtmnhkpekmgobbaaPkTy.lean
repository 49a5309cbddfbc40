/-
  What the proof of PlanStays leans on, part 25. (Many texts laid together by program.)
-/
import Derived.Test.YtmnhkpekmgobbaaPkTx
set_option linter.unnecessarySimpa false
set_option linter.unusedSimpArgs false
set_option linter.unusedVariables false
section
namespace Go.Proofs.Ytmnhkpekmgobbaa
namespace NM
open AM
theorem inv_loop {σ ω β : Type} {f : σ → (σ → Option ω) → Option ω} {G : Option ω → Prop} (n : Nat) (hn : n < LOOPS) (mk : β → Nat → σ) (Inv : β → Nat → Prop)
   (hend : ∀ b, Inv b n → ∃ r, G r ∧ ∀ next, f (mk b n) next = r)
   (hstep : ∀ b i, i < n → Inv b i → (∃ b', Inv b' (i + 1) ∧ ∀ next, f (mk b i) next = next (mk b' (i + 1))) ∨ ∃ r, G r ∧ ∀ next, f (mk b i) next = r)
   (b : β) (hb : Inv b 0) : G (LN LOOPS f (mk b 0)) := by
 have key : ∀ m i b, i ≤ n → n - i < m → Inv b i → G (loopN f m (mk b i)) := by
   intro m
   induction m with
   | zero => intro i b _ h _; omega
   | succ m ih =>
     intro i b hi hm hb
     simp only [loopN]
     rcases Nat.lt_or_ge i n with h | h
     · rcases hstep b i h hb with ⟨b', h1, h2⟩ | ⟨r, h1, h2⟩
       · rw [h2]
         exact ih (i + 1) b' h (by omega) h1
       · rw [h2]
         exact h1
     · have : i = n := by omega
       subst this
       obtain ⟨r, h1, h2⟩ := hend b hb
       rw [h2]
       exact h1
 exact key LOOPS 0 b (Nat.zero_le _) (by omega) hb
theorem small_lt {n : Nat} (h : n ≤ 1000000) : n < LOOPS := by unfold LOOPS; omega
def leR (a b : Res) : Prop := a.cpu ≤ b.cpu ∧ a.mem ≤ b.mem ∧ a.gpu ≤ b.gpu ∧ a.lic ≤ b.lic
def posR (a : Res) : Prop := 0 ≤ a.cpu ∧ 0 ≤ a.mem ∧ 0 ≤ a.gpu ∧ 0 ≤ a.lic
theorem leR.refl (a : Res) : leR a a := ⟨Int.le_refl _, Int.le_refl _, Int.le_refl _, Int.le_refl _⟩
theorem leR.trans {a b c : Res} (h : leR a b) (k : leR b c) : leR a c := by unfold leR at *; omega
theorem pos_of_le {a b : Res} (h : leR a b) (k : posR a) : posR b := by unfold leR posR at *; omega
theorem sub_le {a d : Res} (h : posR d) : leR (subR a d) a := by unfold leR posR subR at *; simp only; omega
theorem sub_mono {a b d : Res} (h : leR a b) : leR (subR a d) (subR b d) := by unfold leR subR at *; simp only; omega
theorem sub_zero (a : Res) : subR a zeroR = a := by unfold subR zeroR; simp
theorem pos_zero : posR zeroR := by unfold posR zeroR; simp
theorem okR_le {a b : Res} (h : okR a = true) (hp : posR b) (hb : leR b a) : okR b = true := by
 rw [okR_iff] at h ⊢
 unfold posR at hp
 unfold leR at hb
 omega
theorem okR_pos {a : Res} (h : okR a = true) : posR a := by rw [okR_iff] at h; unfold posR; omega
theorem resOk_okR (a : Res) : resOk a = okR a := by
 rw [Bool.eq_iff_iff, okR_iff]
 unfold resOk
 simp only [decide_eq_true_eq]
 omega
theorem mul_pos {x : Res} {n : Int} (hx : posR x) (hn : 0 ≤ n) : posR (mulR x n) := by
 unfold posR mulR at *
 exact ⟨Int.mul_nonneg hx.1 hn, Int.mul_nonneg hx.2.1 hn, Int.mul_nonneg hx.2.2.1 hn, Int.mul_nonneg hx.2.2.2 hn⟩
theorem mul_zero (x : Res) : mulR x 0 = zeroR := by unfold mulR zeroR; simp
theorem times_ok {need x : Res} {n : Int} (hn : okR need = true) (h1 : 1 ≤ n) (h2 : n ≤ 64) (hx : okR x = true) (hp : posR (subR x (mulR need n))) : vecTimes need n = some (mulR need n, (0, ())) := by
 have hm : okR (mulR need n) = true := by
   refine okR_le hx (mul_pos (okR_pos hn) (by omega)) ?_
   unfold posR subR at hp
   unfold leR
   simp only at hp
   omega
 unfold vecTimes timesG withinG
 rw [if_pos hn, if_neg (by omega), if_neg (show ¬ 1048576 < n by omega), if_pos hm]
 by_cases hz : nilR need = true
 · have e : mulR need n = zeroR := by
     unfold nilR at hz
     simp only [Bool.and_eq_true, decide_eq_true_eq] at hz
     unfold mulR zeroR
     rw [hz.1, hz.2.1, hz.2.2.1, hz.2.2.2]
     simp
   rw [if_pos hz, e]
 · rw [if_neg hz]
theorem times_err {need : Res} {n : Int} (hn : okR need = true) (h1 : 1 ≤ n) (h2 : n ≤ 64) : ∃ r e, vecTimes need n = some (r, (e, ())) ∧ (e = 0 → r = mulR need n ∧ okR r = true) := by
 unfold vecTimes timesG withinG
 rw [if_pos hn, if_neg (show ¬ n < 0 by omega), if_neg (show ¬ 1048576 < n by omega)]
 by_cases hz : nilR need = true
 · have e : mulR need n = zeroR := by
     unfold nilR at hz
     simp only [Bool.and_eq_true, decide_eq_true_eq] at hz
     unfold mulR zeroR
     rw [hz.1, hz.2.1, hz.2.2.1, hz.2.2.2]
     simp
   rw [if_pos hz, e]
   exact ⟨_, _, rfl, fun _ => ⟨rfl, rfl⟩⟩
 · rw [if_neg hz]
   by_cases hm : okR (mulR need n) = true
   · rw [if_pos hm]
     exact ⟨_, _, rfl, fun _ => ⟨rfl, hm⟩⟩
   · rw [if_neg hm]
     exact ⟨_, _, rfl, fun h => by simp at h⟩
def vl : List Step → Int → Res
 | [], _ => zeroR
 | s :: tl, t => look s.free tl t
def OkL (now : Int) (l : List Step) : Prop := ∃ s tl, l = s :: tl ∧ s.at_ = now ∧ stepsOk l = true
theorem vl_ok {now : Int} {l : List Step} (h : OkL now l) (t : Int) : okR (vl l t) = true := by
 obtain ⟨s, tl, rfl, _, h⟩ := h
 have := (stepsOk_rise h).2
 exact look_ok (this s (by simp)).2 fun u hu => (this u (by simp [hu])).2
theorem inB_iff {b e t : Int} : inB b e t = true ↔ b ≤ t ∧ t < e := by simp [inB]
theorem take_one {now b e : Int} {l : List Step} {need : Res} (h : OkL now l) (hn : okR need = true) (hb : now ≤ b) (he : b < e) (he2 : e ≤ 281474976710656) :
   (∃ l', changeR (fun x => subR x need) l b e need = (l', 0, ()) ∧ OkL now l' ∧ l'.length ≤ l.length + 2 ∧ (∀ t, b ≤ t → t < e → posR (subR (vl l t) need)) ∧ ∀ t, now ≤ t → vl l' t = if b ≤ t ∧ t < e then subR (vl l t) need else vl l t) ∨
   ((changeR (fun x => subR x need) l b e need).2.1 ≠ 0 ∧ ∃ t, b ≤ t ∧ t < e ∧ ¬ posR (subR (vl l t) need)) := by
 obtain ⟨s, tl, rfl, hs, hok⟩ := h
 have hnp := okR_pos hn
 by_cases ht : TakeOk (fun x => subR x need) (s :: tl) b e need
 · obtain ⟨s1, tl1, h1, h2, h3, h4, h5, h6⟩ := change_ok ht
   refine .inl ⟨s1 :: tl1, h1, ⟨s1, tl1, rfl, h2.trans hs, h5⟩, ?_, fun t h7 h8 => ?_, fun t h7 => ?_⟩
   · have := len_change (fun x => subR x need) (s :: tl) b e need
     rw [h1] at this
     exact this
   · exact okR_pos (ht.2.2.2 t (by omega) (inB_iff.2 ⟨h7, h8⟩))
   · show look s1.free tl1 t = _
     rw [h6 t (by omega)]
     unfold turnR
     by_cases hi : b ≤ t ∧ t < e
     · rw [if_pos (inB_iff.2 hi), if_pos hi]; rfl
     · rw [if_neg (fun h => hi (inB_iff.1 h)), if_neg hi]; rfl
 · refine .inr ⟨change_no ht, ?_⟩
   rcases Classical.em (∃ t, b ≤ t ∧ t < e ∧ ¬ posR (subR (vl (s :: tl) t) need)) with h | h
   · exact h
   · exfalso
     refine ht ⟨hok, hn, ⟨by omega, he, he2⟩, fun t h1 h2 => ?_⟩
     have h3 := inB_iff.1 h2
     have h4 : posR (subR (vl (s :: tl) t) need) := Classical.byContradiction fun h5 => h ⟨t, h3.1, h3.2, h5⟩
     exact okR_le (vl_ok ⟨s, tl, rfl, hs, hok⟩ t) h4 (sub_le hnp)
abbrev Vals := Nat → Int → Res
def OkV (now : Int) (N : Nat) (V : Vals) : Prop := ∀ k, k < N → ∀ t, now ≤ t → posR (V k t)
def minV (V D : Vals) : Vals := fun k t => subR (V k t) (D k t)
structure PRep (now : Int) (B : Nat) (nodes : List (List Step)) (V : Vals) : Prop where
 ok : ∀ (k : Nat) (l : List Step), nodes[k]? = some l → OkL now l ∧ l.length ≤ B
 val : ∀ (k : Nat) (l : List Step), nodes[k]? = some l → ∀ t, now ≤ t → vl l t = V k t
theorem PRep.more {now : Int} {B B' : Nat} {nodes : List (List Step)} {V : Vals} (h : PRep now B nodes V) (hb : B ≤ B') : PRep now B' nodes V :=
 ⟨fun k l hk => ⟨(h.ok k l hk).1, Nat.le_trans (h.ok k l hk).2 hb⟩, h.val⟩
def shB (n : Int) : Int → List Share → Bool
 | _, [] => true
 | last, s :: l => decide (last < s.node) && (decide (s.node < n) && (decide (1 ≤ s.many) && (decide (s.many ≤ 64) && shB n s.node l)))
theorem shB_cons {n last : Int} {s : Share} {l : List Share} (h : shB n last (s :: l) = true) : last < s.node ∧ s.node < n ∧ 1 ≤ s.many ∧ s.many ≤ 64 ∧ shB n s.node l = true := by
 simp only [shB, Bool.and_eq_true, decide_eq_true_eq] at h
 exact h
theorem shB_mem {n : Int} : ∀ {last : Int} {l : List Share}, shB n last l = true → ∀ s ∈ l, last < s.node ∧ s.node < n ∧ 1 ≤ s.many ∧ s.many ≤ 64
 | last, [], _, s, hs => by simp at hs
 | last, x :: l, h, s, hs => by
   obtain ⟨h1, h2, h3, h4, h5⟩ := shB_cons h
   rcases List.mem_cons.1 hs with rfl | hs
   · exact ⟨h1, h2, h3, h4⟩
   · have := shB_mem h5 s hs
     exact ⟨by omega, this.2⟩
def onS : List Share → Nat → Int
 | [], _ => 0
 | s :: l, k => if s.node = (k : Int) then s.many else onS l k
theorem onS_none : ∀ (l : List Share) (k : Nat), (∀ s ∈ l, s.node ≠ (k : Int)) → onS l k = 0
 | [], _, _ => rfl
 | s :: l, k, h => by
   simp only [onS]
   rw [if_neg (h s (by simp))]
   exact onS_none l k fun u hu => h u (by simp [hu])
theorem onS_mem {n : Int} : ∀ {last : Int} {l : List Share}, shB n last l = true → ∀ s ∈ l, ∀ k : Nat, s.node = (k : Int) → onS l k = s.many
 | last, [], _, s, hs, k, hk => by simp at hs
 | last, x :: l, h, s, hs, k, hk => by
   obtain ⟨h1, h2, h3, h4, h5⟩ := shB_cons h
   simp only [onS]
   rcases List.mem_cons.1 hs with rfl | hs
   · rw [if_pos hk]
   · have := (shB_mem h5 s hs).1
     rw [if_neg (by omega)]
     exact onS_mem h5 s hs k hk
theorem onS_nonneg {n : Int} {last : Int} {l : List Share} (h : shB n last l = true) (k : Nat) : 0 ≤ onS l k := by
 rcases Classical.em (∃ s ∈ l, s.node = (k : Int)) with ⟨s, hs, hk⟩ | hno
 · rw [onS_mem h s hs k hk]
   have := (shB_mem h s hs).2.2.1
   omega
 · rw [onS_none l k fun s hs he => hno ⟨s, hs, he⟩]
   exact Int.le_refl _
def takeD (b e : Int) (l : List Share) (need : Res) : Vals := fun k t => if b ≤ t ∧ t < e then mulR need (onS l k) else zeroR
theorem takeD_pos {n : Int} {b e : Int} {l : List Share} {need : Res} (hs : shB n (-1) l = true) (hn : okR need = true) (k : Nat) (t : Int) : posR (takeD b e l need k t) := by
 unfold takeD
 split
 · exact mul_pos (okR_pos hn) (onS_nonneg hs k)
 · exact pos_zero
theorem p_ShRight (l : List Share) (hl : l.length ≤ maxLen) (n : Int) : f107 l n = some (shB n (-1) l) := by
 unfold f107 F107
 have key := list_loop (f := fun (s2 : ((Int × (Int × Unit)) × Unit)) nx3 => l107_0 l n nx3 s2.1.1 s2.1.2.1) l (fun last z => (((last, z, ()), ()) : ((Int × (Int × Unit)) × Unit)))
   (fun last (s : Share) => if last < s.node ∧ s.node < n ∧ 1 ≤ s.many ∧ s.many ≤ 64 then .inl s.node else .inr (some false)) (fun _ => some true) hl
   (fun b next => by simp [l107_0])
   (fun b z x next g0 g1 g2 g3 => by
     simp only [l107_0, g0, g1, g2, g3, decide_true, cond_true, Option.bind_some]
     by_cases h1 : x.node ≤ b
     · rw [decide_eq_true h1, if_neg (by omega)]; rfl
     · by_cases h2 : n ≤ x.node
       · rw [decide_eq_false h1, decide_eq_true h2, if_neg (by omega)]; rfl
       · by_cases h3 : x.many < 1
         · rw [decide_eq_false h1, decide_eq_false h2, decide_eq_true h3, if_neg (by omega)]; rfl
         · by_cases h4 : 64 < x.many
           · rw [decide_eq_false h1, decide_eq_false h2, decide_eq_false h3, decide_eq_true h4, if_neg (by omega)]; rfl
           · rw [decide_eq_false h1, decide_eq_false h2, decide_eq_false h3, decide_eq_false h4, if_pos ⟨by omega, by omega, by omega, by omega⟩]; rfl) (-1)
 refine key.trans ?_
 have : ∀ (l : List Share) (last : Int), runL (fun last (s : Share) => if last < s.node ∧ s.node < n ∧ 1 ≤ s.many ∧ s.many ≤ 64 then .inl s.node else .inr (some false)) (fun _ => some true) l last = some (shB n last l) := by
   intro l
   induction l with
   | nil => intro last; rfl
   | cons s l ih =>
     intro last
     simp only [runL, shB]
     by_cases h : last < s.node ∧ s.node < n ∧ 1 ≤ s.many ∧ s.many ≤ 64
     · rw [if_pos h]
       simp only [ih]
       simp [h.1, h.2.1, h.2.2.1, h.2.2.2]
     · rw [if_neg h]
       simp only [Option.some.injEq]
       by_cases h1 : last < s.node <;> by_cases h2 : s.node < n <;> by_cases h3 : 1 ≤ s.many <;> by_cases h4 : s.many ≤ 64 <;> simp [h1, h2, h3, h4]
       exact absurd ⟨h1, h2, h3, h4⟩ h
 exact this l (-1)
abbrev Prof := (Int × (Unit × (Unit × Unit))) × ((List (List Int)) × ((List (List Step)) × Unit))
def prof (now : Int) (parts : List (List Int)) (nodes : List (List Step)) : Prof := ((now, (), (), ()), parts, nodes, ())
theorem p_take {now b e : Int} {B : Nat} {parts : List (List Int)} {nodes : List (List Step)} {V : Vals} {l : List Share} {need : Res} (hV : PRep now B nodes V) (hB : B ≤ 700) (hN : nodes.length ≤ 16)
   (hs : shB (nodes.length : Int) (-1) l = true) (hl : l.length ≤ 1000) (hn : okR need = true) (hb : now ≤ b) (he : b < e) (he2 : e ≤ 281474976710656) (hov : OkV now nodes.length V) :
   (OkV now nodes.length (minV V (takeD b e l need)) ∧ ∃ nodes', f125 b e l need now parts nodes = some (0, prof now parts nodes') ∧ nodes'.length = nodes.length ∧ PRep now (B + 2) nodes' (minV V (takeD b e l need))) ∨
   (¬ OkV now nodes.length (minV V (takeD b e l need)) ∧ ∃ er, er ≠ 0 ∧ f125 b e l need now parts nodes = some (er, prof now parts nodes)) := by
 have hbad : ∀ s ∈ l, ∀ x, nodes[s.node.toNat]? = some x → (∃ t, b ≤ t ∧ t < e ∧ ¬ posR (subR (vl x t) (mulR need s.many))) → ¬ OkV now nodes.length (minV V (takeD b e l need)) := by
   intro s hsm x hx ⟨t, h1, h2, h3⟩ hov2
   have hr := shB_mem hs s hsm
   have := hov2 s.node.toNat (by omega) t (by omega)
   unfold minV takeD at this
   rw [if_pos ⟨h1, h2⟩, onS_mem hs s hsm s.node.toNat (by omega), ← hV.val _ _ hx t (by omega)] at this
   exact h3 this
 unfold f125 F125
 have e0 : Int.toNat (l.length : Int) = l.length := by omega
 rw [e0, decide_eq_true (show (0 : Int) ≤ (l.length : Int) by omega), decide_eq_true (Nat.le_refl l.length), decide_eq_true (show l.length * 24 ≤ 1099511627776 by omega), decide_eq_true (show l.length ≤ 4294967296 by omega)]
 simp only [cond_true, Bool.and_self]
 -- what has been found of the first shares
 let Fnd : List (List Step) → Nat → Prop := fun tk i => tk.length = l.length ∧ ∀ (j : Nat) (s : Share), j < i → l[j]? = some s → ∃ x y, tk[j]? = some y ∧ nodes[s.node.toNat]? = some x ∧ OkL now y ∧ y.length ≤ B + 2 ∧ (∀ t, b ≤ t → t < e → posR (subR (vl x t) (mulR need s.many))) ∧
   ∀ t, now ≤ t → vl y t = if b ≤ t ∧ t < e then subR (vl x t) (mulR need s.many) else vl x t
 refine inv_loop (G := fun o => (OkV now nodes.length (minV V (takeD b e l need)) ∧ ∃ nodes', o = some (0, prof now parts nodes') ∧ nodes'.length = nodes.length ∧ PRep now (B + 2) nodes' (minV V (takeD b e l need))) ∨
   (¬ OkV now nodes.length (minV V (takeD b e l need)) ∧ ∃ er, er ≠ 0 ∧ o = some (er, prof now parts nodes)))
   l.length (small_lt (by omega)) (fun tk i => (((), (), (), (i : Int), ()), ((now, (), (), ()), parts, nodes, need, tk, ()))) Fnd ?_ ?_ (List.replicate l.length []) ⟨by simp, fun j s hj => by omega⟩
 · rintro tk ⟨ht1, ht2⟩
   refine ⟨_, ?_, fun next => by
     simp only [l125_1]
     rw [decide_eq_false (show ¬ ((l.length : Nat) : Int) < (l.length : Int) by omega)]
     simp only [cond_false]
     rfl⟩
   have hokv : OkV now nodes.length (minV V (takeD b e l need)) := by
     intro k hk t ht
     have hxk : nodes[k]? = some nodes[k] := List.getElem?_eq_getElem hk
     unfold minV takeD
     split
     · rename_i hi
       rcases Classical.em (∃ s ∈ l, s.node = (k : Int)) with ⟨s, hsm, hsk⟩ | hno
       · obtain ⟨j, hj, hjs⟩ := List.mem_iff_getElem.1 hsm
         obtain ⟨x, y, h1, h2, h3, h4, h5, h6⟩ := ht2 j s hj (by rw [List.getElem?_eq_getElem hj, hjs])
         have e1 : s.node.toNat = k := by omega
         rw [e1] at h2
         rw [onS_mem hs s hsm k hsk, ← hV.val _ _ h2 t ht]
         exact h5 t hi.1 hi.2
       · rw [onS_none l k fun s hs he => hno ⟨s, hs, he⟩, mul_zero, sub_zero]
         exact hov k hk t ht
     · rw [sub_zero]; exact hov k hk t ht
   -- the second loop: they are put in
   let Put : List (List Step) → Nat → Prop := fun z i => z.length = nodes.length ∧ ∀ k, k < nodes.length → (∃ (j : Nat) (s : Share), j < i ∧ l[j]? = some s ∧ s.node = (k : Int) ∧ z[k]? = tk[j]?) ∨ ((∀ (j : Nat) (s : Share), j < i → l[j]? = some s → s.node ≠ (k : Int)) ∧ z[k]? = nodes[k]?)
   refine inv_loop (f := fun (s20 : ((Unit × (Unit × (Int × Unit))) × ((Int × (Unit × (Unit × Unit))) × ((List (List Int)) × ((List (List Step)) × ((List (List Step)) × Unit)))))) nx21 => l125_0 l nx21 s20.1.2.2.1 s20.2.1.1 s20.2.2.1 s20.2.2.2.1 s20.2.2.2.2.1)
     (G := fun o => (OkV now nodes.length (minV V (takeD b e l need)) ∧ ∃ nodes', o = some (0, prof now parts nodes') ∧ nodes'.length = nodes.length ∧ PRep now (B + 2) nodes' (minV V (takeD b e l need))) ∨
     (¬ OkV now nodes.length (minV V (takeD b e l need)) ∧ ∃ er, er ≠ 0 ∧ o = some (er, prof now parts nodes)))
     l.length (small_lt (by omega)) (fun z i => (((), (), (i : Int), ()), ((now, (), (), ()), parts, z, tk, ()))) Put ?_ ?_ nodes ⟨rfl, fun k hk => .inr ⟨fun j s hj => by omega, rfl⟩⟩
   · rintro z ⟨hz1, hz2⟩
     refine ⟨_, .inl ⟨hokv, z, rfl, hz1, fun k x hx => ?_, fun k x hx t ht => ?_⟩, fun next => by
       simp only [l125_0]
       rw [decide_eq_false (show ¬ ((l.length : Nat) : Int) < (l.length : Int) by omega)]
       rfl⟩
     · have hk : k < nodes.length := by have := (List.getElem?_eq_some_iff.1 hx).1; omega
       rcases hz2 k hk with ⟨j, s, h1, h2, h3, h4⟩ | ⟨h1, h2⟩
       · obtain ⟨x', y, g1, g2, g3, g4, g5, g6⟩ := ht2 j s h1 h2
         rw [h4, g1] at hx
         cases hx
         exact ⟨g3, g4⟩
       · rw [h2] at hx
         have := hV.ok k x hx
         exact ⟨this.1, by omega⟩
     · have hk : k < nodes.length := by have := (List.getElem?_eq_some_iff.1 hx).1; omega
       unfold minV takeD
       rcases hz2 k hk with ⟨j, s, h1, h2, h3, h4⟩ | ⟨h1, h2⟩
       · obtain ⟨x', y, g1, g2, g3, g4, g5, g6⟩ := ht2 j s h1 h2
         rw [h4, g1] at hx
         cases hx
         have e1 : s.node.toNat = k := by omega
         rw [e1] at g2
         rw [g6 t ht, onS_mem hs s (List.mem_of_getElem? h2) k h3, ← hV.val _ _ g2 t ht]
         split
         · rfl
         · rw [sub_zero]
       · rw [h2] at hx
         rw [onS_none l k fun s hs he => by
           obtain ⟨j, hj, hjs⟩ := List.mem_iff_getElem.1 hs
           exact h1 j s hj (by rw [List.getElem?_eq_getElem hj, hjs]) he, mul_zero, hV.val _ _ hx t ht]
         split <;> rw [sub_zero]
   · rintro z i hi ⟨hz1, hz2⟩
     have hli : l[i]? = some l[i] := List.getElem?_eq_getElem hi
     obtain ⟨x, y, g1, g2, g3, g4, g5, g6⟩ := ht2 i l[i] hi hli
     have hr := shB_mem hs l[i] (List.getElem_mem hi)
     have hkn : l[i].node.toNat < nodes.length := by omega
     have hzn : z[l[i].node.toNat]? = some z[l[i].node.toNat] := List.getElem?_eq_getElem (by omega)
     refine .inl ⟨z.set l[i].node.toNat y, ⟨by simp [hz1], fun k hk => ?_⟩, fun next => ?_⟩
     · by_cases hek : l[i].node.toNat = k
       · refine .inl ⟨i, l[i], by omega, hli, by omega, ?_⟩
         rw [← hek, List.getElem?_set_self (by omega), g1]
       · rw [List.getElem?_set_ne hek]
         rcases hz2 k hk with ⟨j, s, h1, h2, h3, h4⟩ | ⟨h1, h2⟩
         · exact .inl ⟨j, s, by omega, h2, h3, h4⟩
         · refine .inr ⟨fun j s hj hjs => ?_, h2⟩
           by_cases hji : j = i
           · subst hji
             rw [hli] at hjs
             cases hjs
             omega
           · exact h1 j s (by omega) hjs
     · simp only [l125_0]
       have t0 : Int.toNat (i : Int) = i := by omega
       rw [t0, decide_eq_true (show (i : Int) < (l.length : Int) by omega), decide_eq_true (show (0 : Int) ≤ (i : Int) by omega), hli]
       simp only [cond_true, Option.bind_some, g1, hzn]
       rw [decide_eq_true (show i < tk.length by omega), decide_eq_true (show (0 : Int) ≤ l[i].node by omega), decide_eq_true (show l[i].node.toNat < z.length by omega), wi (by omega) (by omega)]
       rfl
 · rintro tk i hi ⟨ht1, ht2⟩
   have hli : l[i]? = some l[i] := List.getElem?_eq_getElem hi
   have hr := shB_mem hs l[i] (List.getElem_mem hi)
   have hkn : l[i].node.toNat < nodes.length := by omega
   have hx : nodes[l[i].node.toNat]? = some nodes[l[i].node.toNat] := List.getElem?_eq_getElem hkn
   generalize nodes[l[i].node.toNat] = x at hx
   obtain ⟨hxo, hxl⟩ := hV.ok _ _ hx
   obtain ⟨r, er, q1, q2⟩ := times_err hn hr.2.2.1 hr.2.2.2
   have hT : f157 need l[i].many = some (r, (er, ())) := q1
   have t0 : Int.toNat (i : Int) = i := by omega
   have hti : tk[i]? = some (tk[i]'(by omega)) := List.getElem?_eq_getElem (by omega)
   have hgo : ∀ next : _ → Option _, l125_1 (@LN LOOPS) f157 f126 b e l next (i : Int) now parts nodes need tk =
       cond (!decide (er = 0)) (some (er, prof now parts nodes)) (cond (!decide ((changeR (fun x => subR x r) x b e r).2.1 = 0)) (some ((changeR (fun x => subR x r) x b e r).2.1, prof now parts nodes))
         (next (((), (), (), IntKind.wrap .i64 ((i : Int) + 1), ()), ((now, (), (), ()), parts, nodes, need, List.set tk i (changeR (fun x => subR x r) x b e r).1, ())))) := by
     intro next
     unfold l125_1
     rw [t0, decide_eq_true (show (i : Int) < (l.length : Int) by omega), decide_eq_true (show (0 : Int) ≤ (i : Int) by omega), hli]
     simp only [cond_true, Option.bind_some, hT, hx, hti]
     rw [p_Take x b e r (by omega), decide_eq_true (show (0 : Int) ≤ l[i].node by omega), decide_eq_true hkn, decide_eq_true (show i < tk.length by omega)]
     rfl
   by_cases her : er = 0
   · obtain ⟨hrm, hro⟩ := q2 her
     rcases take_one hxo hro hb he he2 with ⟨y, h1, h2, h3, h4, h5⟩ | ⟨h1, h2⟩
     · refine .inl ⟨tk.set i y, ⟨by simp [ht1], fun j s hj hjs => ?_⟩, fun next => ?_⟩
       · by_cases hji : j = i
         · subst hji
           rw [hli] at hjs
           cases hjs
           rw [hrm] at h4 h5
           exact ⟨x, y, List.getElem?_set_self (by omega), hx, h2, by omega, h4, h5⟩
         · obtain ⟨x', y', g1, g⟩ := ht2 j s (by omega) hjs
           exact ⟨x', y', by rw [List.getElem?_set_ne (Ne.symm hji)]; exact g1, g⟩
       · refine (hgo next).trans ?_
         rw [h1, decide_eq_true her, wi (by omega) (by omega)]
         rfl
     · refine .inr ⟨some ((changeR (fun x => subR x r) x b e r).2.1, prof now parts nodes), .inr ⟨?_, _, h1, rfl⟩, fun next => (hgo next).trans ?_⟩
       · rw [hrm] at h2
         exact hbad l[i] (List.getElem_mem hi) x hx h2
       · rw [decide_eq_true her, decide_eq_false h1]
         rfl
   · refine .inr ⟨some (er, prof now parts nodes), .inr ⟨?_, er, her, rfl⟩, fun next => (hgo next).trans ?_⟩
     · refine hbad l[i] (List.getElem_mem hi) x hx ⟨b, Int.le_refl _, he, fun hp => ?_⟩
       have := times_ok hn hr.2.2.1 hr.2.2.2 (vl_ok hxo b) hp
       rw [q1] at this
       simp only [Option.some.injEq, Prod.mk.injEq] at this
       exact her this.2.1
     · rw [decide_eq_false her]
       rfl
end NM
end Go.Proofs.Ytmnhkpekmgobbaa
end
section
namespace Go.Proofs.Ytmnhkpekmgobbaa
namespace NM
open AM
def wholeP (b : Booking) (n : Int) : Prop := 1 ≤ b.id ∧ b.id ≤ 281474976710656 ∧ 0 ≤ b.node ∧ b.node < n ∧ 0 ≤ b.fro ∧ b.fro < b.to ∧ b.to ≤ 1099511627776
instance (b : Booking) (n : Int) : Decidable (wholeP b n) := by unfold wholeP; infer_instance
theorem p_whole (b : Booking) (n : Int) : f167 b n = some (decide (wholeP b n)) := by
 unfold f167 F167 wholeP
 by_cases h1 : 1 ≤ b.id <;> by_cases h2 : b.id ≤ 281474976710656 <;> by_cases h3 : 0 ≤ b.node <;> by_cases h4 : b.node < n <;> by_cases h5 : 0 ≤ b.fro <;> by_cases h6 : b.fro < b.to <;> simp [h1, h2, h3, h4, h5, h6]
def meetB (node fr to : Int) (b : Booking) : Bool := decide (b.node = node) && decide ((if fr > b.fro then fr else b.fro) < (if to < b.to then to else b.to))
theorem p_Meets (l : List Booking) (hl : l.length ≤ maxLen) (node fr to : Int) : f168 l node fr to = some (l.any (meetB node fr to)) := by
 unfold f168 F168
 rw [any_loop l (fun z => ((z, ()), ())) (meetB node fr to) false hl]
 · simp
 · intro next
   simp [l168_0]
 · intro z x next h0 h1 h2 h3
   simp only [l168_0, h0, h1, h2, h3, decide_true, cond_true, Option.bind_some, meetB]
   by_cases hn : x.node = node
   · rw [decide_eq_true hn]; rfl
   · rw [decide_eq_false hn]; rfl
def apartBk (a b : Booking) : Prop := a.id < b.id ∧ meetB b.node b.fro b.to a = false
def BooksP (l : List Booking) (n : Int) : Prop := l.length ≤ 16 ∧ (∀ x ∈ l, wholeP x n) ∧ l.Pairwise apartBk
theorem BooksP.sub {l l' : List Booking} {n : Int} (h : BooksP l n) (hs : l'.Sublist l) : BooksP l' n :=
 ⟨Nat.le_trans hs.length_le h.1, fun x hx => h.2.1 x (hs.subset hx), h.2.2.sublist hs⟩
theorem p_bookRight (l : List Booking) (hl : l.length ≤ 1000) (n : Int) : ∃ b : Bool, f121 l n = some b ∧ (b = true ↔ BooksP l n) := by
 have hml : maxLen = 9223372036854775807 := rfl
 unfold f121 F121
 by_cases h16 : 16 < (l.length : Int)
 · rw [decide_eq_true h16]
   refine ⟨false, rfl, fun h => (by cases h), fun h => ?_⟩
   have := h.1
   omega
 · rw [decide_eq_false h16]
   simp only [cond_false]
   refine inv_loop (f := fun (s2 : ((Int × Unit) × Unit)) nx3 => l121_0 f167 f168 l n nx3 s2.1.1) (G := fun o => ∃ b : Bool, o = some b ∧ (b = true ↔ BooksP l n)) l.length (small_lt (by omega)) (fun (_ : Unit) i => (((i : Int), ()), ()))
     (fun _ i => (∀ x ∈ l.take i, wholeP x n) ∧ (l.take i).Pairwise apartBk) ?_ ?_ () ⟨by simp, by simp⟩
   · rintro _ ⟨h1, h2⟩
     rw [List.take_length] at h1 h2
     refine ⟨some true, ⟨true, rfl, fun _ => ⟨by omega, h1, h2⟩, fun _ => rfl⟩, fun next => ?_⟩
     simp only [l121_0]
     rw [decide_eq_false (show ¬ ((l.length : Nat) : Int) < (l.length : Int) by omega)]
     rfl
   · rintro _ i hi ⟨h1, h2⟩
     have hli : l[i]? = some l[i] := List.getElem?_eq_getElem hi
     have hmem : l[i] ∈ l := List.getElem_mem hi
     have htk : l.take (i + 1) = l.take i ++ [l[i]] := by rw [List.take_add_one, hli]; rfl
     have t0 : Int.toNat (i : Int) = i := by omega
     generalize hx : l[i] = x at hli hmem htk
     have hsplit : BooksP l n → ∀ a ∈ l.take i, apartBk a x := fun hb a ha => by
       have h4 := hb.2.2.sublist (List.take_sublist (i + 1) l)
       rw [htk, List.pairwise_append] at h4
       exact h4.2.2 a ha x (by simp)
     by_cases hw : wholeP x n
     · have hlast : 0 < i → ∃ a, l[i - 1]? = some a ∧ a ∈ l.take i ∧ ∀ u ∈ l.take i, u.id ≤ a.id := fun h0 => by
         have hlt : (l.take i).length = i := by rw [List.length_take]; omega
         have hg : (l.take i)[i - 1]? = some l[i - 1] := by rw [List.getElem?_take, if_pos (by omega), List.getElem?_eq_getElem (by omega)]
         refine ⟨l[i - 1], List.getElem?_eq_getElem (by omega), List.mem_of_getElem? hg, fun u hu => ?_⟩
         obtain ⟨j, hj, rfl⟩ := List.mem_iff_getElem.1 hu
         rw [hlt] at hj
         by_cases e : j = i - 1
         · subst e
           rw [List.getElem_take]
           exact Int.le_refl _
         · have := (List.pairwise_iff_getElem.1 h2 j (i - 1) (by omega) (by omega) (by omega)).1
           rw [List.getElem_take (i := i - 1)] at this
           omega
       have hgo : (0 < i → ∀ a, l[i - 1]? = some a → a.id < x.id) → ∀ next : ((Int × Unit) × Unit) → Option Bool, l121_0 f167 f168 l n next (i : Int) =
           cond ((l.take i).any (meetB x.node x.fro x.to)) (some false) (next ((((i + 1 : Nat) : Int), ()), ())) := by
         intro hid next
         simp only [l121_0]
         rw [t0, decide_eq_true (show (i : Int) < (l.length : Int) by omega), decide_eq_true (show (0 : Int) ≤ (i : Int) by omega), hli]
         simp only [cond_true, Option.bind_some, p_whole, decide_eq_true hw, Bool.not_true, cond_false]
         rw [p_Meets _ (by rw [List.length_take]; omega), decide_eq_true (show i ≤ l.length by omega), wi (show (-9223372036854775808 : Int) ≤ (i : Int) + 1 by omega) (by omega)]
         by_cases h0 : 0 < i
         · obtain ⟨a, g1, g2, g3⟩ := hlast h0
           have hlt := hid h0 a g1
           rw [decide_eq_true (show (0 : Int) < (i : Int) by omega), wi (show (-9223372036854775808 : Int) ≤ (i : Int) - 1 by omega) (by omega), decide_eq_true (show (0 : Int) ≤ (i : Int) - 1 by omega), show Int.toNat ((i : Int) - 1) = i - 1 by omega, g1]
           simp only [cond_true, Option.bind_some]
           rw [decide_eq_false (show ¬ x.id ≤ a.id by omega)]
           rfl
         · rw [decide_eq_false (show ¬ (0 : Int) < (i : Int) by omega)]
           rfl
       by_cases hid : 0 < i ∧ ∃ a, l[i - 1]? = some a ∧ x.id ≤ a.id
       · obtain ⟨h0, a, ha, hle⟩ := hid
         obtain ⟨a', g1, g2, g3⟩ := hlast h0
         rw [ha] at g1
         cases g1
         refine .inr ⟨some false, ⟨false, rfl, fun h => (by cases h), fun h => ?_⟩, fun next => ?_⟩
         · have := (hsplit h a g2).1
           omega
         · simp only [l121_0]
           rw [t0, decide_eq_true (show (i : Int) < (l.length : Int) by omega), decide_eq_true (show (0 : Int) ≤ (i : Int) by omega), hli]
           simp only [cond_true, Option.bind_some, p_whole, decide_eq_true hw, Bool.not_true, cond_false]
           rw [decide_eq_true (show (0 : Int) < (i : Int) by omega), wi (show (-9223372036854775808 : Int) ≤ (i : Int) - 1 by omega) (by omega), decide_eq_true (show (0 : Int) ≤ (i : Int) - 1 by omega), show Int.toNat ((i : Int) - 1) = i - 1 by omega, ha]
           simp only [cond_true, Option.bind_some]
           rw [decide_eq_true hle]
           rfl
       · have hid' : 0 < i → ∀ a, l[i - 1]? = some a → a.id < x.id := fun h0 a ha => by
           rcases (show a.id < x.id ∨ x.id ≤ a.id by omega) with h | h
           · exact h
           · exact absurd ⟨h0, a, ha, h⟩ hid
         cases hm : (l.take i).any (meetB x.node x.fro x.to) with
         | true =>
           refine .inr ⟨some false, ⟨false, rfl, fun h => (by cases h), fun h => ?_⟩, fun next => ?_⟩
           · obtain ⟨a, ha, hma⟩ := List.any_eq_true.1 hm
             have := (hsplit h a ha).2
             rw [hma] at this
             cases this
           · refine (hgo hid' next).trans ?_
             rw [hm]
             rfl
         | false =>
           refine .inl ⟨(), ⟨fun u hu => ?_, ?_⟩, fun next => ?_⟩
           · rw [htk, List.mem_append, List.mem_singleton] at hu
             rcases hu with hu | rfl
             · exact h1 u hu
             · exact hw
           · rw [htk, List.pairwise_append]
             refine ⟨h2, by simp, fun a ha u hu => ?_⟩
             rw [List.mem_singleton] at hu
             subst hu
             refine ⟨?_, ?_⟩
             · have h0 : 0 < i := by
                 rcases Nat.eq_zero_or_pos i with h | h
                 · subst h; simp at ha
                 · exact h
               obtain ⟨a', g1, g2, g3⟩ := hlast h0
               have := g3 a ha
               have := hid' h0 a' g1
               omega
             · rcases hb : meetB u.node u.fro u.to a with _ | _
               · rfl
               · rw [List.any_eq_true.2 ⟨a, ha, hb⟩] at hm
                 cases hm
           · refine (hgo hid' next).trans ?_
             rw [hm]
             rfl
     · refine .inr ⟨some false, ⟨false, rfl, fun h => (by cases h), fun h => absurd (h.2.1 x hmem) hw⟩, fun next => ?_⟩
       simp only [l121_0]
       rw [t0, decide_eq_true (show (i : Int) < (l.length : Int) by omega), decide_eq_true (show (0 : Int) ≤ (i : Int) by omega), hli]
       simp only [cond_true, Option.bind_some, p_whole, decide_eq_false hw]
       rfl
def runOk (now n : Int) (r : Run) : Bool := shB n (-1) r.shares && (okR r.need && (decide (now < r.til) && decide (r.til ≤ 281474976710656)))
theorem p_runsRight (l : List Run) (hl : l.length ≤ maxLen) (hs : ∀ r ∈ l, r.shares.length ≤ maxLen) (now n : Int) : f122 l now n = some (l.all (runOk now n)) := by
 unfold f122 F122
 rw [all_loop l (fun z => ((z, ()), ())) (runOk now n) true hl]
 · simp
 · intro next
   simp [l122_0]
 · intro z x next h0 h1 h2 h3
   simp only [l122_0, h0, h1, h2, h3, decide_true, cond_true, Option.bind_some, p_ShRight _ (hs x (List.mem_of_getElem? h2)), p_vecRight, runOk]
   cases shB n (-1) x.shares
   · rfl
   · cases okR x.need
     · rfl
     · by_cases g1 : x.til ≤ now
       · rw [decide_eq_true g1, decide_eq_false (show ¬ now < x.til by omega)]; rfl
       · by_cases g2 : 281474976710656 < x.til
         · rw [decide_eq_false g1, decide_eq_true g2, decide_eq_true (show now < x.til by omega), decide_eq_false (show ¬ x.til ≤ 281474976710656 by omega)]; rfl
         · rw [decide_eq_false g1, decide_eq_false g2, decide_eq_true (show now < x.til by omega), decide_eq_true (show x.til ≤ 281474976710656 by omega)]; rfl
def apV (V : Vals) (ds : List Vals) : Vals := ds.foldl minV V
def posD (N : Nat) (now : Int) (D : Vals) : Prop := ∀ k, k < N → ∀ t, now ≤ t → posR (D k t)
theorem minV_le {N : Nat} {now : Int} {V D : Vals} (h : posD N now D) : ∀ k, k < N → ∀ t, now ≤ t → leR (minV V D k t) (V k t) := fun k hk t ht => sub_le (h k hk t ht)
theorem minV_mono {N : Nat} {now : Int} {V W D : Vals} (h : ∀ k, k < N → ∀ t, now ≤ t → leR (V k t) (W k t)) : ∀ k, k < N → ∀ t, now ≤ t → leR (minV V D k t) (minV W D k t) := fun k hk t ht => sub_mono (h k hk t ht)
theorem apV_le {N : Nat} {now : Int} : ∀ (ds : List Vals) (V : Vals), (∀ D ∈ ds, posD N now D) → ∀ k, k < N → ∀ t, now ≤ t → leR (apV V ds k t) (V k t)
 | [], V, _, k, _, t, _ => leR.refl _
 | D :: ds, V, h, k, hk, t, ht => (apV_le ds (minV V D) (fun D' hD => h D' (by simp [hD])) k hk t ht).trans (minV_le (h D (by simp)) k hk t ht)
theorem OkV.mono {N : Nat} {now : Int} {V W : Vals} (h : OkV now N V) (hl : ∀ k, k < N → ∀ t, now ≤ t → leR (V k t) (W k t)) : OkV now N W := fun k hk t ht => pos_of_le (hl k hk t ht) (h k hk t ht)
def runD (now : Int) (r : Run) : Vals := takeD now r.til r.shares r.need
def bookD (now : Int) (caps : List Res) (b : Booking) : Vals := fun k t => if b.node = (k : Int) ∧ (now ≤ t ∧ b.fro ≤ t) ∧ t < b.to then caps.getD k zeroR else zeroR
theorem bookD_pos {now : Int} {caps : List Res} {N : Nat} (hc : ∀ c ∈ caps, okR c = true) (b : Booking) : posD N now (bookD now caps b) := fun k hk t ht => by
 unfold bookD
 split
 · rw [List.getD_eq_getElem?_getD]
   cases hk : caps[k]? with
   | none => exact pos_zero
   | some c => exact okR_pos (hc c (List.mem_of_getElem? hk))
 · exact pos_zero
theorem runD_pos {now n : Int} {N : Nat} {r : Run} (h : runOk now n r = true) : posD N now (runD now r) := fun k hk t ht => by
 unfold runOk at h
 simp only [Bool.and_eq_true] at h
 exact takeD_pos h.1 h.2.1 k t
end NM
end Go.Proofs.Ytmnhkpekmgobbaa
end
section
namespace Go.Proofs.Ytmnhkpekmgobbaa
namespace NM
open AM
abbrev NewR := ((Unit × (Int × Unit)) ⊕ ((Unit × (Int × Unit)) × Prof))
def NewG (now : Int) (N : Nat) (parts : List (List Int)) (V : Vals) (o : Option NewR) : Prop :=
 (OkV now N V ∧ ∃ nodes', o = some (.inr (((), 0, ()), prof now parts nodes')) ∧ nodes'.length = N ∧ PRep now 100 nodes' V) ∨ (¬ OkV now N V ∧ ∃ e, e ≠ 0 ∧ o = some (.inl ((), e, ())))
theorem books_loop {now : Int} {s : Spec} {parts : List (List Int)} {nodes : List (List Step)} {books : List Booking} {V : Vals} {B : Nat} (h0 : 0 ≤ now) (hN : nodes.length = s.nodes.length) (hc : ∀ c ∈ s.nodes, okR c = true)
   (hB : ∀ b ∈ books, wholeP b s.nodes.length) (hl : books.length ≤ 16) (hr : PRep now B nodes V) (hb : B ≤ 60) (hov : OkV now s.nodes.length V) :
   NewG now s.nodes.length parts (apV V (books.map (bookD now s.nodes))) (LN LOOPS (fun (s33 : ((Unit × (Unit × (Int × Unit))) × (Spec × ((Int × (Unit × (Unit × Unit))) × ((List (List Int)) × ((List (List Step)) × Unit)))))) nx34 => l62_0 f126 now books nx34 s33.1.2.2.1 s33.2.1 s33.2.2.1.1 s33.2.2.2.1 s33.2.2.2.2.1) (((), (), 0, ()), (s, (now, (), (), ()), parts, nodes, ()))) := by
 refine inv_loop (G := NewG now s.nodes.length parts (apV V (books.map (bookD now s.nodes)))) books.length (small_lt (by omega)) (fun z i => (((), (), (i : Int), ()), (s, (now, (), (), ()), parts, z, ())))
   (fun z i => z.length = s.nodes.length ∧ ∃ W, PRep now (B + 2 * i) z W ∧ OkV now s.nodes.length W ∧ apV W ((books.drop i).map (bookD now s.nodes)) = apV V (books.map (bookD now s.nodes))) ?_ ?_ nodes ⟨hN, V, hr, hov, rfl⟩
 · rintro z ⟨hz, W, h1, h2, h3⟩
   rw [List.drop_length] at h3
   have h3 : W = apV V (books.map (bookD now s.nodes)) := h3
   refine ⟨_, .inl ⟨h3 ▸ h2, z, rfl, hz, h3 ▸ h1.more (by omega)⟩, fun next => ?_⟩
   simp only [l62_0]
   rw [decide_eq_false (show ¬ ((books.length : Nat) : Int) < (books.length : Int) by omega)]
   rfl
 · rintro z i hi ⟨hz, W, h1, h2, h3⟩
   have hbi : books[i]? = some books[i] := List.getElem?_eq_getElem hi
   have hdr : books.drop i = books[i] :: books.drop (i + 1) := List.drop_eq_getElem_cons hi
   have hw := hB _ (List.getElem_mem hi)
   rw [hdr] at h3
   generalize books[i] = b at hbi hw h3
   have h3 : apV (minV W (bookD now s.nodes b)) ((books.drop (i + 1)).map (bookD now s.nodes)) = apV V (books.map (bookD now s.nodes)) := h3
   have hle : ∀ k, k < s.nodes.length → ∀ t, now ≤ t → leR (apV V (books.map (bookD now s.nodes)) k t) (minV W (bookD now s.nodes b) k t) := by
     rw [← h3]
     exact apV_le _ _ fun D hD => by
       obtain ⟨u, _, rfl⟩ := List.mem_map.1 hD
       exact bookD_pos hc u
   obtain ⟨w1, w2, w3, w4, w5, w6, w7⟩ := hw
   have t0 : Int.toNat (i : Int) = i := by omega
   by_cases hto : b.to ≤ now
   · have hd : ∀ k t, now ≤ t → minV W (bookD now s.nodes b) k t = W k t := fun k t ht => by
       unfold minV bookD
       rw [if_neg (by omega), sub_zero]
     refine .inl ⟨z, ⟨hz, minV W (bookD now s.nodes b), ⟨fun k l hk => ⟨(h1.ok k l hk).1, by have := (h1.ok k l hk).2; omega⟩, fun k l hk t ht => by rw [hd k t ht]; exact h1.val k l hk t ht⟩, fun k hk t ht => by rw [hd k t ht]; exact h2 k hk t ht, h3⟩, fun next => ?_⟩
     simp only [l62_0]
     rw [t0, decide_eq_true (show (i : Int) < (books.length : Int) by omega), decide_eq_true (show (0 : Int) ≤ (i : Int) by omega), hbi]
     simp only [cond_true, Option.bind_some]
     rw [decide_eq_true hto, wi (by omega) (by omega)]
     rfl
   · have hkn : b.node.toNat < s.nodes.length := by omega
     have hx : z[b.node.toNat]? = some (z[b.node.toNat]'(by omega)) := List.getElem?_eq_getElem (by omega)
     have hcp : s.nodes[b.node.toNat]? = some s.nodes[b.node.toNat] := List.getElem?_eq_getElem hkn
     have hcok := hc _ (List.getElem_mem hkn)
     have hcd : ∀ k : Nat, b.node = (k : Int) → s.nodes.getD k zeroR = s.nodes[b.node.toNat] := fun k hk => by
       have : b.node.toNat = k := by omega
       rw [List.getD_eq_getElem?_getD, ← this, hcp]
       rfl
     generalize s.nodes[b.node.toNat] = cap at hcp hcok hcd
     generalize (z[b.node.toNat]'(by omega)) = x at hx
     obtain ⟨hxo, hxl⟩ := h1.ok _ _ hx
     have hxv := h1.val _ _ hx
     let fr : Int := if now > b.fro then now else b.fro
     have hfr : now ≤ fr ∧ b.fro ≤ fr ∧ (∀ t, fr ≤ t ↔ now ≤ t ∧ b.fro ≤ t) ∧ fr < b.to := by
       show now ≤ (if now > b.fro then now else b.fro) ∧ b.fro ≤ (if now > b.fro then now else b.fro) ∧ (∀ t, (if now > b.fro then now else b.fro) ≤ t ↔ now ≤ t ∧ b.fro ≤ t) ∧ (if now > b.fro then now else b.fro) < b.to
       split
       · exact ⟨by omega, by omega, fun t => by omega, by omega⟩
       · exact ⟨by omega, by omega, fun t => by omega, by omega⟩
     have hgo : ∀ next : _ → Option NewR, l62_0 f126 now books next (i : Int) s now parts z = cond (!decide ((changeR (fun y => subR y cap) x fr b.to cap).2.1 = 0)) (some (.inl ((), (changeR (fun y => subR y cap) x fr b.to cap).2.1, ())))
         (next (((), (), ((i + 1 : Nat) : Int), ()), (s, (now, (), (), ()), parts, List.set z b.node.toNat (changeR (fun y => subR y cap) x fr b.to cap).1, ()))) := by
       intro next
       unfold l62_0
       rw [t0, decide_eq_true (show (i : Int) < (books.length : Int) by omega), decide_eq_true (show (0 : Int) ≤ (i : Int) by omega), hbi]
       simp only [cond_true, Option.bind_some]
       rw [decide_eq_false hto, decide_eq_true w3, decide_eq_true (show b.node.toNat < z.length by omega), hx, hcp]
       simp only [cond_true, cond_false, Option.bind_some]
       rw [p_Take x _ _ _ (by omega), wi (show (-9223372036854775808 : Int) ≤ (i : Int) + 1 by omega) (by omega)]
       rfl
     rcases take_one hxo hcok hfr.1 hfr.2.2.2 (by omega) with ⟨y, q1, q2, q3, q4, q5⟩ | ⟨q1, t, q2, q3, q4⟩
     · have hval : ∀ t, now ≤ t → ∀ k : Nat, b.node = (k : Int) → vl y t = minV W (bookD now s.nodes b) k t := fun t ht k hk => by
         unfold minV bookD
         have e1 : b.node.toNat = k := by omega
         rw [q5 t ht, hcd k hk, ← e1, ← hxv t ht]
         have := hfr.2.2.1 t
         by_cases hi2 : fr ≤ t ∧ t < b.to
         · rw [if_pos hi2, if_pos ⟨by omega, this.1 hi2.1, hi2.2⟩]
         · rw [if_neg hi2, if_neg (fun h => hi2 ⟨this.2 h.2.1, h.2.2⟩), sub_zero]
       have hoth : ∀ k t, b.node ≠ ((k : Nat) : Int) → minV W (bookD now s.nodes b) k t = W k t := fun k t hk => by
         unfold minV bookD
         rw [if_neg (fun h => hk h.1), sub_zero]
       have hzs : ∀ (k : Nat) (l : List Step), (z.set b.node.toNat y)[k]? = some l → (b.node = (k : Int) ∧ l = y) ∨ (b.node ≠ (k : Int) ∧ z[k]? = some l) := fun k l hk => by
         by_cases e : b.node.toNat = k
         · subst e
           rw [List.getElem?_set_self (by omega)] at hk
           cases hk
           exact .inl ⟨by omega, rfl⟩
         · rw [List.getElem?_set_ne e] at hk
           exact .inr ⟨by omega, hk⟩
       refine .inl ⟨z.set b.node.toNat y, ⟨by rw [List.length_set]; exact hz, minV W (bookD now s.nodes b), ⟨fun k l hk => ?_, fun k l hk t ht => ?_⟩, fun k hk t ht => ?_, h3⟩, fun next => ?_⟩
       · rcases hzs k l hk with ⟨_, rfl⟩ | ⟨_, hk⟩
         · exact ⟨q2, by omega⟩
         · exact ⟨(h1.ok k l hk).1, by have := (h1.ok k l hk).2; omega⟩
       · rcases hzs k l hk with ⟨e, rfl⟩ | ⟨e, hk⟩
         · exact hval t ht k e
         · rw [hoth k t e]; exact h1.val k l hk t ht
       · by_cases e : b.node = (k : Int)
         · rw [← hval t ht k e]
           exact okR_pos (vl_ok q2 t)
         · rw [hoth k t e]; exact h2 k hk t ht
       · refine (hgo next).trans ?_
         rw [q1]
         rfl
     · refine .inr ⟨_, .inr ⟨fun hov2 => ?_, _, q1, rfl⟩, fun next => (hgo next).trans ?_⟩
       · have ht : now ≤ t := by omega
         have := pos_of_le (hle _ hkn t ht) (hov2 _ hkn t ht)
         unfold minV bookD at this
         rw [if_pos ⟨by omega, (hfr.2.2.1 t).1 q2, q3⟩, hcd _ (by omega), ← hxv t ht] at this
         exact q4 this
       · rw [decide_eq_false q1]
         rfl
theorem runs_loop {now : Int} {s : Spec} {parts : List (List Int)} {nodes : List (List Step)} {runs : List Run} {books : List Booking} {V : Vals} (h0 : 0 ≤ now) (hN : nodes.length = s.nodes.length) (hN2 : s.nodes.length ≤ 16) (hc : ∀ c ∈ s.nodes, okR c = true)
   (hB : ∀ b ∈ books, wholeP b s.nodes.length) (hl : books.length ≤ 16) (hR : ∀ r ∈ runs, runOk now s.nodes.length r = true ∧ r.shares.length ≤ 1000) (hrl : runs.length ≤ 20) (hr : PRep now 1 nodes V) (hov : OkV now s.nodes.length V) :
   NewG now s.nodes.length parts (apV V (runs.map (runD now) ++ books.map (bookD now s.nodes))) (LN LOOPS (fun (s24 : ((Unit × (Unit × (Int × Unit))) × (Spec × ((Int × (Unit × (Unit × Unit))) × ((List (List Int)) × ((List (List Step)) × Unit)))))) nx25 => l62_1 (@LN LOOPS) f125 f126 now runs books nx25 s24.1.2.2.1 s24.2.1 s24.2.2.1.1 s24.2.2.2.1 s24.2.2.2.2.1) (((), (), 0, ()), (s, (now, (), (), ()), parts, nodes, ()))) := by
 refine inv_loop (G := NewG now s.nodes.length parts (apV V (runs.map (runD now) ++ books.map (bookD now s.nodes)))) runs.length (small_lt (by omega)) (fun z i => (((), (), (i : Int), ()), (s, (now, (), (), ()), parts, z, ())))
   (fun z i => z.length = s.nodes.length ∧ ∃ W, PRep now (1 + 2 * i) z W ∧ OkV now s.nodes.length W ∧ apV W ((runs.drop i).map (runD now) ++ books.map (bookD now s.nodes)) = apV V (runs.map (runD now) ++ books.map (bookD now s.nodes))) ?_ ?_ nodes ⟨hN, V, hr, hov, rfl⟩
 · rintro z ⟨hz, W, h1, h2, h3⟩
   rw [List.drop_length] at h3
   have h3 : apV W (books.map (bookD now s.nodes)) = _ := h3
   refine ⟨_, ?_, fun next => by
     simp only [l62_1]
     rw [decide_eq_false (show ¬ ((runs.length : Nat) : Int) < (runs.length : Int) by omega)]
     simp only [cond_false]
     rfl⟩
   rw [← h3]
   exact books_loop h0 hz hc hB hl h1 (by omega) h2
 · rintro z i hi ⟨hz, W, h1, h2, h3⟩
   have hbi : runs[i]? = some runs[i] := List.getElem?_eq_getElem hi
   have hdr : runs.drop i = runs[i] :: runs.drop (i + 1) := List.drop_eq_getElem_cons hi
   have hw := hR _ (List.getElem_mem hi)
   rw [hdr] at h3
   generalize runs[i] = r at hbi hw h3
   have h3 : apV (minV W (runD now r)) ((runs.drop (i + 1)).map (runD now) ++ books.map (bookD now s.nodes)) = _ := h3
   have hle : ∀ k, k < s.nodes.length → ∀ t, now ≤ t → leR (apV V (runs.map (runD now) ++ books.map (bookD now s.nodes)) k t) (minV W (runD now r) k t) := by
     rw [← h3]
     exact apV_le _ _ fun D hD => by
       rcases List.mem_append.1 hD with hD | hD
       · obtain ⟨u, hu, rfl⟩ := List.mem_map.1 hD
         exact runD_pos (hR u (List.mem_of_mem_drop hu)).1
       · obtain ⟨u, _, rfl⟩ := List.mem_map.1 hD
         exact bookD_pos hc u
   have hw1 := hw.1
   unfold runOk at hw1
   simp only [Bool.and_eq_true, decide_eq_true_eq] at hw1
   obtain ⟨r1, r2, r3, r4⟩ := hw1
   have t0 : Int.toNat (i : Int) = i := by omega
   have hgo : ∀ (next : _ → Option NewR), l62_1 (@LN LOOPS) f125 f126 now runs books next (i : Int) s now parts z = Option.bind (f125 now r.til r.shares r.need now parts z) fun r32 =>
       cond (true && ((decide ((List.length r32.2.2.1) = (List.length parts))) && ((decide ((List.length r32.2.2.2.1) = (List.length z))) && true)))
       (cond (!decide (r32.1 = 0)) (some (.inl ((), r32.1, ()))) (next (((), (), ((i + 1 : Nat) : Int), ()), (s, (r32.2.1.1, (), (), ()), r32.2.2.1, r32.2.2.2.1, ())))) (none) := by
     intro next
     unfold l62_1
     rw [t0, decide_eq_true (show (i : Int) < (runs.length : Int) by omega), decide_eq_true (show (0 : Int) ≤ (i : Int) by omega), hbi, wi (show (-9223372036854775808 : Int) ≤ (i : Int) + 1 by omega) (by omega)]
     rfl
   have htk := p_take (parts := parts) (b := now) (e := r.til) (l := r.shares) (need := r.need) h1 (by omega) (by omega) (by rw [hz]; exact r1) hw.2 r2 (Int.le_refl _) r3 r4 (by rw [hz]; exact h2)
   rw [hz] at htk
   rcases htk with ⟨k1, z', k2, k3, k4⟩ | ⟨k1, er, k2, k3⟩
   · refine .inl ⟨z', ⟨k3, minV W (runD now r), k4.more (by omega), k1, h3⟩, fun next => (hgo next).trans ?_⟩
     rw [k2]
     simp only [Option.bind_some, prof, k3, hz, decide_true, Bool.and_self, cond_true, Bool.not_true, cond_false]
   · refine .inr ⟨some (.inl ((), er, ())), .inr ⟨fun h => k1 (h.mono hle), er, k2, rfl⟩, fun next => (hgo next).trans ?_⟩
     rw [k3]
     simp only [Option.bind_some, prof, decide_true, Bool.and_self, cond_true, k2, decide_false, Bool.not_false]
def V0 (s : Spec) : Vals := fun k _ => s.nodes.getD k zeroR
theorem p_StepsNew {now : Int} {n : Res} (h0 : 0 ≤ now) (h1 : now ≤ 1099511627776) (hn : okR n = true) : f124 now n = some ([⟨now, n⟩], 0, ()) ∧ stepsOk [⟨now, n⟩] = true := by
 have hok : stepsOk [⟨now, n⟩] = true := by
   unfold stepsOk rightFrom rightFrom
   simp [hn]
   omega
 refine ⟨?_, hok⟩
 unfold f124 F124
 rw [p_Right _ (by simp [maxLen]), hok]
 rfl
theorem p_CloneI (l : List Int) (hl : l.length ≤ 1000) : f123 l = some ((), (l, ())) := by
 have h8 : smallB l.length 8 = true := by
   unfold smallB
   simp only [Bool.and_eq_true, decide_eq_true_eq]
   omega
 unfold f123
 cases l with
 | nil => rfl
 | cons s l => simp only [cloneF, F123, List.isEmpty_cons, cond_false, Nat.zero_add, h8, cond_true, List.nil_append]
theorem small24 {n : Nat} (h : n ≤ 1000) : smallB n 24 = true := by
 unfold smallB
 simp only [Bool.and_eq_true, decide_eq_true_eq]
 omega
theorem nodes_loop {now : Int} {s z10 : Spec} {parts : List (List Int)} {runs : List Run} {books : List Booking} (hz10 : z10 = s) (h0 : 0 ≤ now) (h1 : now ≤ 1099511627776) (hN2 : s.nodes.length ≤ 16) (hc : ∀ c ∈ s.nodes, okR c = true)
   (hB : ∀ b ∈ books, wholeP b s.nodes.length) (hl : books.length ≤ 16) (hR : ∀ r ∈ runs, runOk now s.nodes.length r = true ∧ r.shares.length ≤ 1000) (hrl : runs.length ≤ 20) :
   NewG now s.nodes.length parts (apV (V0 s) (runs.map (runD now) ++ books.map (bookD now s.nodes))) (LN LOOPS (fun (s15 : ((Unit × (Unit × (Int × Unit))) × (Spec × ((Int × (Unit × (Unit × Unit))) × ((List (List Int)) × ((List (List Step)) × Unit)))))) nx16 => l62_2 (@LN LOOPS) f124 f125 f126 now runs books z10 nx16 s15.1.2.2.1 s15.2.1 s15.2.2.1.1 s15.2.2.2.1 s15.2.2.2.2.1) (((), (), 0, ()), (s, (now, (), (), ()), parts, [], ()))) := by
 subst hz10
 refine inv_loop (G := NewG now z10.nodes.length parts _) z10.nodes.length (small_lt (by omega)) (fun z i => (((), (), (i : Int), ()), (z10, (now, (), (), ()), parts, z, ())))
   (fun z i => z = (z10.nodes.take i).map fun n => [⟨now, n⟩]) ?_ ?_ [] (by simp)
 · rintro z rfl
   rw [List.take_length]
   refine ⟨_, ?_, fun next => by
     simp only [l62_2]
     rw [decide_eq_false (show ¬ ((z10.nodes.length : Nat) : Int) < (z10.nodes.length : Int) by omega)]
     simp only [cond_false]
     rfl⟩
   refine runs_loop h0 (by simp) hN2 hc hB hl hR hrl ⟨fun k l hk => ?_, fun k l hk t ht => ?_⟩ fun k hk t ht => ?_
   · rw [List.getElem?_map, Option.map_eq_some_iff] at hk
     obtain ⟨n, hn, rfl⟩ := hk
     exact ⟨⟨_, _, rfl, rfl, (p_StepsNew h0 h1 (hc n (List.mem_of_getElem? hn))).2⟩, by simp⟩
   · rw [List.getElem?_map, Option.map_eq_some_iff] at hk
     obtain ⟨n, hn, rfl⟩ := hk
     show n = z10.nodes.getD k zeroR
     rw [List.getD_eq_getElem?_getD, hn]
     rfl
   · unfold V0
     rw [List.getD_eq_getElem?_getD, List.getElem?_eq_getElem hk]
     exact okR_pos (hc _ (List.getElem_mem hk))
 · rintro z i hi rfl
   have hbi : z10.nodes[i]? = some z10.nodes[i] := List.getElem?_eq_getElem hi
   have t0 : Int.toNat (i : Int) = i := by omega
   refine .inl ⟨_, rfl, fun next => ?_⟩
   simp only [l62_2]
   rw [t0, decide_eq_true (show (i : Int) < (z10.nodes.length : Int) by omega), decide_eq_true (show (0 : Int) ≤ (i : Int) by omega), hbi, wi (show (-9223372036854775808 : Int) ≤ (i : Int) + 1 by omega) (by omega)]
   simp only [cond_true, Option.bind_some, (p_StepsNew h0 h1 (hc _ (List.getElem_mem hi))).1, decide_true, Bool.not_true, cond_false]
   rw [small24 (by rw [List.length_map, List.length_take]; omega), List.take_add_one, hbi, List.map_append]
   rfl
theorem parts_loop {now : Int} {s : Spec} {runs : List Run} {books : List Booking} (h0 : 0 ≤ now) (h1 : now ≤ 1099511627776) (hN2 : s.nodes.length ≤ 16) (hP : s.parts.length ≤ 8 ∧ ∀ p ∈ s.parts, p.length ≤ 1000) (hc : ∀ c ∈ s.nodes, okR c = true)
   (hB : ∀ b ∈ books, wholeP b s.nodes.length) (hl : books.length ≤ 16) (hR : ∀ r ∈ runs, runOk now s.nodes.length r = true ∧ r.shares.length ≤ 1000) (hrl : runs.length ≤ 20) :
   NewG now s.nodes.length s.parts (apV (V0 s) (runs.map (runD now) ++ books.map (bookD now s.nodes))) (LN LOOPS (fun (s7 : ((Unit × (Unit × (Int × Unit))) × (Spec × ((Int × (Unit × (Unit × Unit))) × ((List (List Int)) × Unit))))) nx8 => l62_3 (@LN LOOPS) f123 f124 f125 f126 s now runs books nx8 s7.1.2.2.1 s7.2.1 s7.2.2.1.1 s7.2.2.2.1) (((), (), 0, ()), (s, (now, (), (), ()), [], ()))) := by
 refine inv_loop (G := NewG now s.nodes.length s.parts _) s.parts.length (small_lt (by omega)) (fun z i => (((), (), (i : Int), ()), (s, (now, (), (), ()), z, ())))
   (fun z i => z = s.parts.take i) ?_ ?_ [] (by simp)
 · rintro z rfl
   rw [List.take_length]
   refine ⟨_, ?_, fun next => by
     simp only [l62_3]
     rw [decide_eq_false (show ¬ ((s.parts.length : Nat) : Int) < (s.parts.length : Int) by omega)]
     simp only [cond_false]
     rfl⟩
   exact nodes_loop rfl h0 h1 hN2 hc hB hl hR hrl
 · rintro z i hi rfl
   have hbi : s.parts[i]? = some s.parts[i] := List.getElem?_eq_getElem hi
   have t0 : Int.toNat (i : Int) = i := by omega
   refine .inl ⟨_, rfl, fun next => ?_⟩
   simp only [l62_3]
   rw [t0, decide_eq_true (show (i : Int) < (s.parts.length : Int) by omega), decide_eq_true (show (0 : Int) ≤ (i : Int) by omega), hbi, wi (show (-9223372036854775808 : Int) ≤ (i : Int) + 1 by omega) (by omega)]
   simp only [cond_true, Option.bind_some, p_CloneI _ (hP.2 _ (List.getElem_mem hi))]
   rw [small24 (by rw [List.length_take]; omega), List.take_add_one, hbi]
   rfl
def InP (s : Spec) (now : Int) (runs : List Run) (books : List Booking) : Prop := specOk s = true ∧ 0 ≤ now ∧ now ≤ 1099511627776 ∧ BooksP books s.nodes.length ∧ ∀ r ∈ runs, runOk now s.nodes.length r = true
theorem specOk_facts {s : Spec} (h : specOk s = true) : s.nodes.length ≤ 16 ∧ (∀ c ∈ s.nodes, okR c = true) ∧ s.parts.length ≤ 8 ∧ ∀ p ∈ s.parts, 1 ≤ p.length ∧ asc s.nodes.length (-1) p = true ∧ p.length ≤ 16 := by
 unfold specOk nodesOk partsOk at h
 simp only [Bool.and_eq_true, decide_eq_true_eq, List.all_eq_true] at h
 obtain ⟨⟨⟨a1, a2⟩, a3⟩, ⟨⟨b1, b2⟩, b3⟩, _⟩ := h
 refine ⟨a2, fun c hc => by rw [← resOk_okR]; exact a3 c hc, b2, fun p hp => ⟨(b3 p hp).1, (b3 p hp).2, ?_⟩⟩
 rcases asc_len (b3 p hp).2 with h | h
 · have := (b3 p hp).1
   rw [h] at this
   simp at this
 · omega
theorem p_New (s : Spec) (hs : Rng.P s) (now : Int) (runs : List Run) (books : List Booking) (hr : runs.length ≤ 12) (hrs : ∀ r ∈ runs, r.shares.length ≤ 40) (hb : books.length ≤ 20) :
   (InP s now runs books ∧ NewG now s.nodes.length s.parts (apV (V0 s) (runs.map (runD now) ++ books.map (bookD now s.nodes))) (f62 s now runs books)) ∨ (¬ InP s now runs books ∧ f62 s now runs books = some (.inl ((), 2, ()))) := by
 have hml : maxLen = 9223372036854775807 := rfl
 unfold f62 F62
 rw [p_SpecRight s hs]
 simp only [Option.bind_some]
 obtain ⟨bb, hb1, hb2⟩ := p_bookRight books (by omega) s.nodes.length
 rw [hb1, p_runsRight runs (by omega) (fun r hr => by have := hrs r hr; omega)]
 simp only [Option.bind_some]
 cases h1 : specOk s with
 | false => exact .inr ⟨fun h => (by have := h.1; rw [h1] at this; cases this), rfl⟩
 | true =>
   by_cases h2 : now < 0
   · rw [decide_eq_true h2]
     exact .inr ⟨fun h => by have := h.2.1; omega, rfl⟩
   by_cases h3 : 1099511627776 < now
   · rw [decide_eq_false h2, decide_eq_true h3]
     exact .inr ⟨fun h => by have := h.2.2.1; omega, rfl⟩
   rw [decide_eq_false h2, decide_eq_false h3]
   cases h4 : bb with
   | false =>
     refine .inr ⟨fun h => ?_, rfl⟩
     have := hb2.2 h.2.2.2.1
     rw [h4] at this
     cases this
   | true =>
     cases h5 : runs.all (runOk now (s.nodes.length : Int)) with
     | false =>
       refine .inr ⟨fun h => ?_, rfl⟩
       rw [List.all_eq_true.2 h.2.2.2.2] at h5
       cases h5
     | true =>
       have hB := hb2.1 h4
       have hR := List.all_eq_true.1 h5
       obtain ⟨f1, f2, f3, f4⟩ := specOk_facts h1
       refine .inl ⟨⟨h1, by omega, by omega, hB, hR⟩, ?_⟩
       simp only [Bool.not_true, cond_false]
       exact parts_loop (by omega) (by omega) f1 ⟨f3, fun p hp => by have := (f4 p hp).2.2; omega⟩ f2 hB.2.1 hB.1 (fun r hr => ⟨hR r hr, by have := hrs r hr; omega⟩) (by omega)
end NM
end Go.Proofs.Ytmnhkpekmgobbaa
end
