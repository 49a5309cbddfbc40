/-
  What the proof of PlanStays leans on, part 27. (Many texts laid together by program.)
-/
import Derived.Test.YtmnhkpekmgobbaaPkTz
set_option linter.unnecessarySimpa false
set_option linter.unusedSimpArgs false
set_option linter.unusedVariables false
section
namespace Go.Proofs.Ytmnhkpekmgobbaa
namespace NM
open AM
abbrev Prof2 := (Int × ((List (List Int)) × (Unit × Unit))) × ((List (List Step)) × Unit)
def prof2 (now : Int) (parts : List (List Int)) (nodes : List (List Step)) : Prof2 := ((now, parts, (), ()), nodes, ())
theorem p_take2 {now b e : Int} {B : Nat} {parts : List (List Int)} {nodes : List (List Step)} {V : Vals} {l : List Share} {need : Res} (hV : PRep now B nodes V) (hB : B ≤ 700) (hN : nodes.length ≤ 16)
   (hs : shB (nodes.length : Int) (-1) l = true) (hl : l.length ≤ 1000) (hn : okR need = true) (hb : now ≤ b) (he : b < e) (he2 : e ≤ 281474976710656) (hov : OkV now nodes.length V) :
   (OkV now nodes.length (minV V (takeD b e l need)) ∧ ∃ nodes', f125_1 b e l need now parts nodes = some (0, prof2 now parts nodes') ∧ nodes'.length = nodes.length ∧ PRep now (B + 2) nodes' (minV V (takeD b e l need))) ∨
   (¬ OkV now nodes.length (minV V (takeD b e l need)) ∧ ∃ er, er ≠ 0 ∧ f125_1 b e l need now parts nodes = some (er, prof2 now parts nodes)) := by
 have hbad : ∀ s ∈ l, ∀ x, nodes[s.node.toNat]? = some x → (∃ t, b ≤ t ∧ t < e ∧ ¬ posR (subR (vl x t) (mulR need s.many))) → ¬ OkV now nodes.length (minV V (takeD b e l need)) := by
   intro s hsm x hx ⟨t, h1, h2, h3⟩ hov2
   have hr := shB_mem hs s hsm
   have := hov2 s.node.toNat (by omega) t (by omega)
   unfold minV takeD at this
   rw [if_pos ⟨h1, h2⟩, onS_mem hs s hsm s.node.toNat (by omega), ← hV.val _ _ hx t (by omega)] at this
   exact h3 this
 unfold f125_1 F125_1
 have e0 : Int.toNat (l.length : Int) = l.length := by omega
 rw [e0, decide_eq_true (show (0 : Int) ≤ (l.length : Int) by omega), decide_eq_true (Nat.le_refl l.length), decide_eq_true (show l.length * 24 ≤ 1099511627776 by omega), decide_eq_true (show l.length ≤ 4294967296 by omega)]
 simp only [cond_true, Bool.and_self]
 -- what has been found of the first shares
 let Fnd : List (List Step) → Nat → Prop := fun tk i => tk.length = l.length ∧ ∀ (j : Nat) (s : Share), j < i → l[j]? = some s → ∃ x y, tk[j]? = some y ∧ nodes[s.node.toNat]? = some x ∧ OkL now y ∧ y.length ≤ B + 2 ∧ (∀ t, b ≤ t → t < e → posR (subR (vl x t) (mulR need s.many))) ∧
   ∀ t, now ≤ t → vl y t = if b ≤ t ∧ t < e then subR (vl x t) (mulR need s.many) else vl x t
 refine inv_loop (G := fun o => (OkV now nodes.length (minV V (takeD b e l need)) ∧ ∃ nodes', o = some (0, prof2 now parts nodes') ∧ nodes'.length = nodes.length ∧ PRep now (B + 2) nodes' (minV V (takeD b e l need))) ∨
   (¬ OkV now nodes.length (minV V (takeD b e l need)) ∧ ∃ er, er ≠ 0 ∧ o = some (er, prof2 now parts nodes)))
   l.length (small_lt (by omega)) (fun tk i => (((), (), (), (i : Int), ()), ((now, parts, (), ()), nodes, need, tk, ()))) Fnd ?_ ?_ (List.replicate l.length []) ⟨by simp, fun j s hj => by omega⟩
 · rintro tk ⟨ht1, ht2⟩
   refine ⟨_, ?_, fun next => by
     simp only [l125_1_1]
     rw [decide_eq_false (show ¬ ((l.length : Nat) : Int) < (l.length : Int) by omega)]
     simp only [cond_false]
     rfl⟩
   have hokv : OkV now nodes.length (minV V (takeD b e l need)) := by
     intro k hk t ht
     have hxk : nodes[k]? = some nodes[k] := List.getElem?_eq_getElem hk
     unfold minV takeD
     split
     · rename_i hi
       rcases Classical.em (∃ s ∈ l, s.node = (k : Int)) with ⟨s, hsm, hsk⟩ | hno
       · obtain ⟨j, hj, hjs⟩ := List.mem_iff_getElem.1 hsm
         obtain ⟨x, y, h1, h2, h3, h4, h5, h6⟩ := ht2 j s hj (by rw [List.getElem?_eq_getElem hj, hjs])
         have e1 : s.node.toNat = k := by omega
         rw [e1] at h2
         rw [onS_mem hs s hsm k hsk, ← hV.val _ _ h2 t ht]
         exact h5 t hi.1 hi.2
       · rw [onS_none l k fun s hs he => hno ⟨s, hs, he⟩, mul_zero, sub_zero]
         exact hov k hk t ht
     · rw [sub_zero]; exact hov k hk t ht
   -- the second loop: they are put in
   let Put : List (List Step) → Nat → Prop := fun z i => z.length = nodes.length ∧ ∀ k, k < nodes.length → (∃ (j : Nat) (s : Share), j < i ∧ l[j]? = some s ∧ s.node = (k : Int) ∧ z[k]? = tk[j]?) ∨ ((∀ (j : Nat) (s : Share), j < i → l[j]? = some s → s.node ≠ (k : Int)) ∧ z[k]? = nodes[k]?)
   refine inv_loop 
     (G := fun o => (OkV now nodes.length (minV V (takeD b e l need)) ∧ ∃ nodes', o = some (0, prof2 now parts nodes') ∧ nodes'.length = nodes.length ∧ PRep now (B + 2) nodes' (minV V (takeD b e l need))) ∨
     (¬ OkV now nodes.length (minV V (takeD b e l need)) ∧ ∃ er, er ≠ 0 ∧ o = some (er, prof2 now parts nodes)))
     l.length (small_lt (by omega)) (fun z i => (((), (), (i : Int), ()), ((now, parts, (), ()), z, tk, ()))) Put ?_ ?_ nodes ⟨rfl, fun k hk => .inr ⟨fun j s hj => by omega, rfl⟩⟩
   · rintro z ⟨hz1, hz2⟩
     refine ⟨_, .inl ⟨hokv, z, rfl, hz1, fun k x hx => ?_, fun k x hx t ht => ?_⟩, fun next => by
       simp only [l125_1_0]
       rw [decide_eq_false (show ¬ ((l.length : Nat) : Int) < (l.length : Int) by omega)]
       rfl⟩
     · have hk : k < nodes.length := by have := (List.getElem?_eq_some_iff.1 hx).1; omega
       rcases hz2 k hk with ⟨j, s, h1, h2, h3, h4⟩ | ⟨h1, h2⟩
       · obtain ⟨x', y, g1, g2, g3, g4, g5, g6⟩ := ht2 j s h1 h2
         rw [h4, g1] at hx
         cases hx
         exact ⟨g3, g4⟩
       · rw [h2] at hx
         have := hV.ok k x hx
         exact ⟨this.1, by omega⟩
     · have hk : k < nodes.length := by have := (List.getElem?_eq_some_iff.1 hx).1; omega
       unfold minV takeD
       rcases hz2 k hk with ⟨j, s, h1, h2, h3, h4⟩ | ⟨h1, h2⟩
       · obtain ⟨x', y, g1, g2, g3, g4, g5, g6⟩ := ht2 j s h1 h2
         rw [h4, g1] at hx
         cases hx
         have e1 : s.node.toNat = k := by omega
         rw [e1] at g2
         rw [g6 t ht, onS_mem hs s (List.mem_of_getElem? h2) k h3, ← hV.val _ _ g2 t ht]
         split
         · rfl
         · rw [sub_zero]
       · rw [h2] at hx
         rw [onS_none l k fun s hs he => by
           obtain ⟨j, hj, hjs⟩ := List.mem_iff_getElem.1 hs
           exact h1 j s hj (by rw [List.getElem?_eq_getElem hj, hjs]) he, mul_zero, hV.val _ _ hx t ht]
         split <;> rw [sub_zero]
   · rintro z i hi ⟨hz1, hz2⟩
     have hli : l[i]? = some l[i] := List.getElem?_eq_getElem hi
     obtain ⟨x, y, g1, g2, g3, g4, g5, g6⟩ := ht2 i l[i] hi hli
     have hr := shB_mem hs l[i] (List.getElem_mem hi)
     have hkn : l[i].node.toNat < nodes.length := by omega
     have hzn : z[l[i].node.toNat]? = some z[l[i].node.toNat] := List.getElem?_eq_getElem (by omega)
     refine .inl ⟨z.set l[i].node.toNat y, ⟨by simp [hz1], fun k hk => ?_⟩, fun next => ?_⟩
     · by_cases hek : l[i].node.toNat = k
       · refine .inl ⟨i, l[i], by omega, hli, by omega, ?_⟩
         rw [← hek, List.getElem?_set_self (by omega), g1]
       · rw [List.getElem?_set_ne hek]
         rcases hz2 k hk with ⟨j, s, h1, h2, h3, h4⟩ | ⟨h1, h2⟩
         · exact .inl ⟨j, s, by omega, h2, h3, h4⟩
         · refine .inr ⟨fun j s hj hjs => ?_, h2⟩
           by_cases hji : j = i
           · subst hji
             rw [hli] at hjs
             cases hjs
             omega
           · exact h1 j s (by omega) hjs
     · simp only [l125_1_0]
       have t0 : Int.toNat (i : Int) = i := by omega
       rw [t0, decide_eq_true (show (i : Int) < (l.length : Int) by omega), decide_eq_true (show (0 : Int) ≤ (i : Int) by omega), hli]
       simp only [cond_true, Option.bind_some, g1, hzn]
       rw [decide_eq_true (show i < tk.length by omega), decide_eq_true (show (0 : Int) ≤ l[i].node by omega), decide_eq_true (show l[i].node.toNat < z.length by omega), wi (by omega) (by omega)]
       rfl
 · rintro tk i hi ⟨ht1, ht2⟩
   have hli : l[i]? = some l[i] := List.getElem?_eq_getElem hi
   have hr := shB_mem hs l[i] (List.getElem_mem hi)
   have hkn : l[i].node.toNat < nodes.length := by omega
   have hx : nodes[l[i].node.toNat]? = some nodes[l[i].node.toNat] := List.getElem?_eq_getElem hkn
   generalize nodes[l[i].node.toNat] = x at hx
   obtain ⟨hxo, hxl⟩ := hV.ok _ _ hx
   obtain ⟨r, er, q1, q2⟩ := times_err hn hr.2.2.1 hr.2.2.2
   have hT : f157 need l[i].many = some (r, (er, ())) := q1
   have t0 : Int.toNat (i : Int) = i := by omega
   have hti : tk[i]? = some (tk[i]'(by omega)) := List.getElem?_eq_getElem (by omega)
   have hgo : ∀ next : _ → Option _, l125_1_1 (@LN LOOPS) f157 f126 b e l next (i : Int) now parts nodes need tk =
       cond (!decide (er = 0)) (some (er, prof2 now parts nodes)) (cond (!decide ((changeR (fun x => subR x r) x b e r).2.1 = 0)) (some ((changeR (fun x => subR x r) x b e r).2.1, prof2 now parts nodes))
         (next (((), (), (), IntKind.wrap .i64 ((i : Int) + 1), ()), ((now, parts, (), ()), nodes, need, List.set tk i (changeR (fun x => subR x r) x b e r).1, ())))) := by
     intro next
     unfold l125_1_1
     rw [t0, decide_eq_true (show (i : Int) < (l.length : Int) by omega), decide_eq_true (show (0 : Int) ≤ (i : Int) by omega), hli]
     simp only [cond_true, Option.bind_some, hT, hx, hti]
     rw [p_Take x b e r (by omega), decide_eq_true (show (0 : Int) ≤ l[i].node by omega), decide_eq_true hkn, decide_eq_true (show i < tk.length by omega)]
     rfl
   by_cases her : er = 0
   · obtain ⟨hrm, hro⟩ := q2 her
     rcases take_one hxo hro hb he he2 with ⟨y, h1, h2, h3, h4, h5⟩ | ⟨h1, h2⟩
     · refine .inl ⟨tk.set i y, ⟨by simp [ht1], fun j s hj hjs => ?_⟩, fun next => ?_⟩
       · by_cases hji : j = i
         · subst hji
           rw [hli] at hjs
           cases hjs
           rw [hrm] at h4 h5
           exact ⟨x, y, List.getElem?_set_self (by omega), hx, h2, by omega, h4, h5⟩
         · obtain ⟨x', y', g1, g⟩ := ht2 j s (by omega) hjs
           exact ⟨x', y', by rw [List.getElem?_set_ne (Ne.symm hji)]; exact g1, g⟩
       · refine (hgo next).trans ?_
         rw [h1, decide_eq_true her, wi (by omega) (by omega)]
         rfl
     · refine .inr ⟨some ((changeR (fun x => subR x r) x b e r).2.1, prof2 now parts nodes), .inr ⟨?_, _, h1, rfl⟩, fun next => (hgo next).trans ?_⟩
       · rw [hrm] at h2
         exact hbad l[i] (List.getElem_mem hi) x hx h2
       · rw [decide_eq_true her, decide_eq_false h1]
         rfl
   · refine .inr ⟨some (er, prof2 now parts nodes), .inr ⟨?_, er, her, rfl⟩, fun next => (hgo next).trans ?_⟩
     · refine hbad l[i] (List.getElem_mem hi) x hx ⟨b, Int.le_refl _, he, fun hp => ?_⟩
       have := times_ok hn hr.2.2.1 hr.2.2.2 (vl_ok hxo b) hp
       rw [q1] at this
       simp only [Option.some.injEq, Prod.mk.injEq] at this
       exact her this.2.1
     · rw [decide_eq_false her]
       rfl
theorem p_When2 {now : Int} {B : Nat} {parts : List (List Int)} {nodes : List (List Step)} {V : Vals} {part : List Int} (hV : PRep now B nodes V) (hB : B ≤ 700) (hN : nodes.length ≤ 16) (p0 many : Int) (need : Res) (wall at_ : Int)
   (h0 : 0 ≤ p0) (hp : parts[p0.toNat]? = some part) (hpt : PartOk nodes.length part) (hnow : 0 ≤ now) :
   (¬ condW now wall at_ ∧ f64 p0 many need wall at_ now parts nodes = some (([], (false, ())), prof2 now parts nodes)) ∨
   (condW now wall at_ ∧ ∃ fit, FitsV V part need at_ (at_ + wall) fit ∧ f64 p0 many need wall at_ now parts nodes = some (placeF fit part many, prof2 now parts nodes)) := by
 have hp0 := (List.getElem?_eq_some_iff.1 hp).1
 unfold f64 F64
 rw [decide_eq_false (show ¬ p0 < 0 by omega), decide_eq_false (show ¬ (parts.length : Int) ≤ p0 by omega)]
 simp only [cond_false]
 by_cases h1 : wall < 1
 · rw [decide_eq_true h1]; exact .inl ⟨fun h => by unfold condW at h; omega, rfl⟩
 by_cases h2 : 65536 < wall
 · rw [decide_eq_false h1, decide_eq_true h2]; exact .inl ⟨fun h => by unfold condW at h; omega, rfl⟩
 by_cases h3 : at_ < now
 · rw [decide_eq_false h1, decide_eq_false h2, decide_eq_true h3]; exact .inl ⟨fun h => by unfold condW at h; omega, rfl⟩
 by_cases h4 : 1099511627776 < at_
 · rw [decide_eq_false h1, decide_eq_false h2, decide_eq_false h3, decide_eq_true h4]; exact .inl ⟨fun h => by unfold condW at h; omega, rfl⟩
 rw [decide_eq_false h1, decide_eq_false h2, decide_eq_false h3, decide_eq_false h4]
 refine .inr ⟨⟨by omega, by omega, by omega, by omega⟩, ?_⟩
 have e0 : Int.toNat (nodes.length : Int) = nodes.length := by omega
 rw [e0, decide_eq_true (show (0 : Int) ≤ (nodes.length : Int) by omega), decide_eq_true (Nat.le_refl nodes.length), decide_eq_true (show nodes.length * 32 ≤ 1099511627776 by omega), decide_eq_true (show nodes.length ≤ 4294967296 by omega), decide_eq_true h0, hp]
 simp only [cond_true, cond_false, Bool.and_self, Option.bind_some]
 have hle : ∀ k : Int, 0 ≤ k → k < (nodes.length : Int) → ∃ x r, nodes[k.toNat]? = some x ∧ f128 x at_ (IntKind.wrap .i64 (at_ + wall)) = some r ∧ LeastP (V k.toNat) at_ (at_ + wall) r := fun k hk1 hk2 => by
   have hx : nodes[k.toNat]? = some (nodes[k.toNat]'(by omega)) := List.getElem?_eq_getElem (by omega)
   obtain ⟨g1, g2⟩ := hV.ok _ _ hx
   obtain ⟨r, g3, g4⟩ := least_of (b := at_) (e := at_ + wall) g1 (by omega) (by omega) (by omega)
   refine ⟨_, r, hx, ?_, g4.congr fun t ht1 ht2 => hV.val _ _ hx t (by omega)⟩
   rw [wi (by omega) (by omega)]
   exact g3
 refine inv_loop
   (G := fun o => ∃ fit, FitsV V part need at_ (at_ + wall) fit ∧ o = some (placeF fit part many, prof2 now parts nodes)) part.length (small_lt (by have := hpt.1; omega)) (fun (free : List Res) i => (((), (), (), (i : Int), ()), ((now, parts, (), ()), nodes, need, free, ())))
   (fun free i => free.length = nodes.length ∧ ∀ k ∈ part.take i, LeastP (V k.toNat) at_ (at_ + wall) (free.getD k.toNat zeroR)) ?_ ?_ (List.replicate nodes.length (Res.mk 0 0 0 0)) ⟨by simp, by simp⟩
 · rintro free ⟨g1, g2⟩
   rw [List.take_length] at g2
   refine ⟨_, ⟨fitI free need, ⟨fun k => free.getD k.toNat zeroR, g2, fun k hk => ?_⟩, rfl⟩, fun next => ?_⟩
   · have := hpt.2 k hk
     unfold fitI
     rw [if_neg (by omega)]
   · simp only [l64_0]
     rw [decide_eq_false (show ¬ ((part.length : Nat) : Int) < (part.length : Int) by omega), decide_eq_true h0, hp]
     simp only [cond_true, cond_false, Option.bind_some, p_Place _ _ _ _ hpt.1]
     rfl
 · rintro free i hi ⟨g1, g2⟩
   have hbi : part[i]? = some part[i] := List.getElem?_eq_getElem hi
   have hmem : part[i] ∈ part := List.getElem_mem hi
   have t0 : Int.toNat (i : Int) = i := by omega
   have htk : part.take (i + 1) = part.take i ++ [part[i]] := by rw [List.take_add_one, hbi]; rfl
   generalize part[i] = k at hbi hmem htk
   have hk := hpt.2 k hmem
   obtain ⟨x, r, q1, q2, q3⟩ := hle k hk.1 hk.2
   have hfk : free[k.toNat]? = some (free[k.toNat]'(by omega)) := List.getElem?_eq_getElem (by omega)
   refine .inl ⟨free.set k.toNat r, ⟨by rw [List.length_set]; exact g1, fun j hj => ?_⟩, fun next => ?_⟩
   · rw [List.getD_eq_getElem?_getD]
     by_cases e : k.toNat = j.toNat
     · rw [← e, List.getElem?_set_self (by omega)]
       exact q3
     · rw [List.getElem?_set_ne e, ← List.getD_eq_getElem?_getD]
       rw [htk, List.mem_append, List.mem_singleton] at hj
       rcases hj with hj | rfl
       · exact g2 j hj
       · exact absurd rfl e
   · simp only [l64_0]
     rw [t0, decide_eq_true (show (i : Int) < (part.length : Int) by omega), decide_eq_true (show (0 : Int) ≤ (i : Int) by omega), hbi]
     simp only [cond_true, Option.bind_some, q1, q2, hfk]
     rw [decide_eq_true hk.1, decide_eq_true (show k.toNat < nodes.length by omega), decide_eq_true (show k.toNat < free.length by omega), wi (by have := hpt.1; omega) (by have := hpt.1; omega)]
     rfl
theorem times_open2 (L : Lp) (g1 : (List Int) → Option (Unit × ((List Int) × Unit))) (g2 : (List Int) → Option (Unit × (Unit × ((List Int) × Unit)))) (p0 now : Int) (parts : List (List Int)) (nodes : List (List Step)) (part : List Int) (h0 : 0 ≤ p0) (hp0 : p0.toNat < parts.length) (hp : parts[p0.toNat]? = some part) :
   F127 L g1 g2 p0 now parts nodes = L (fun (s5 : ((Unit × (Unit × (Int × Unit))) × ((Int × ((List (List Int)) × (Unit × Unit))) × ((List (List Step)) × ((List Int) × Unit))))) nx6 => l127_1 L g1 g2 part nx6 s5.1.2.2.1 s5.2.1.1 s5.2.1.2.1 s5.2.2.1 s5.2.2.2.1) (((), (), 0, ()), ((now, parts, (), ()), nodes, [], ())) := by
 unfold F127
 rw [decide_eq_false (show ¬ p0 < 0 by omega), decide_eq_false (show ¬ (parts.length : Int) ≤ p0 by omega), decide_eq_true h0, hp]
 rfl
theorem times_round2 (L : Lp) (g1 : (List Int) → Option (Unit × ((List Int) × Unit))) (g2 : (List Int) → Option (Unit × (Unit × ((List Int) × Unit)))) (part : List Int) (next : ((Unit × (Unit × (Int × Unit))) × ((Int × ((List (List Int)) × (Unit × Unit))) × ((List (List Step)) × ((List Int) × Unit)))) → Option ((List Int) × ((Int × ((List (List Int)) × (Unit × Unit))) × ((List (List Step)) × Unit)))) (now : Int) (parts : List (List Int)) (nodes : List (List Step)) (acc : List Int) (i : Nat) (k : Int) (x : List Step)
   (hi : i < part.length) (hbi : part[i]? = some k) (hk : 0 ≤ k) (hkn : k.toNat < nodes.length) (hx : nodes[k.toNat]? = some x) :
   l127_1 L g1 g2 part next (i : Int) now parts nodes acc = L (fun (s14 : ((Unit × (Unit × (Int × Unit))) × ((Int × ((List (List Int)) × (Unit × Unit))) × ((List (List Step)) × ((List Int) × Unit))))) nx15 => l127_0 next (i : Int) x nx15 s14.1.2.2.1 s14.2.1.1 s14.2.1.2.1 s14.2.2.1 s14.2.2.2.1) (((), (), ((0 : Nat) : Int), ()), ((now, parts, (), ()), nodes, acc, ())) := by
 have t0 : Int.toNat (i : Int) = i := by omega
 unfold l127_1
 rw [t0, decide_eq_true (show (i : Int) < (part.length : Int) by omega), decide_eq_true (show (0 : Int) ≤ (i : Int) by omega), hbi]
 simp only [cond_true, Option.bind_some]
 rw [decide_eq_true hk, decide_eq_true hkn, hx]
 rfl
theorem p_times2 {now : Int} {B : Nat} {parts : List (List Int)} {nodes : List (List Step)} {V : Vals} {part : List Int} (hV : PRep now B nodes V) (hB : B ≤ 700) (hN : nodes.length ≤ 16) (p0 : Int)
   (h0 : 0 ≤ p0) (hp : parts[p0.toNat]? = some part) (hpt : PartOk nodes.length part) (hne : 1 ≤ part.length) (hlen : part.length ≤ 16) :
   ∃ ts, f127 p0 now parts nodes = some (ts, prof2 now parts nodes) ∧ ts.Pairwise (· ≤ ·) ∧ (∀ t, t ∈ ts ↔ t ∈ atsOf nodes part) ∧ ts.length ≤ 20000 := by
 have hp0 := (List.getElem?_eq_some_iff.1 hp).1
 have hx : ∀ k ∈ part, ∃ x, nodes[k.toNat]? = some x ∧ OkL now x ∧ x.length ≤ B := fun k hk => by
   have hkk := hpt.2 k hk
   have h := List.getElem?_eq_getElem (l := nodes) (i := k.toNat) (by omega)
   exact ⟨_, h, hV.ok _ _ h⟩
 have hlenA : ∀ l : List Int, (∀ k ∈ l, k ∈ part) → (atsOf nodes l).length ≤ l.length * B := by
   intro l
   induction l with
   | nil => intro _; simp [atsOf]
   | cons k l ih =>
     intro h
     obtain ⟨x, g1, g2, g3⟩ := hx k (h k (by simp))
     have := ih fun j hj => h j (by simp [hj])
     unfold atsOf at this ⊢
     rw [List.flatMap_cons, List.length_append, List.length_map, List.getD_eq_getElem?_getD, g1, List.length_cons, Nat.add_mul]
     simp only [Option.getD_some]
     omega
 have hall := hlenA part fun _ h => h
 have hle1 : part.length * B ≤ 16 * 700 := Nat.mul_le_mul hlen hB
 have hpos : 0 < (atsOf nodes part).length := by
   match part, hne, hx with
   | k :: l, _, hx =>
     obtain ⟨x, g1, ⟨s, tl, rfl, _, _⟩, g3⟩ := hx k (by simp)
     unfold atsOf
     rw [List.flatMap_cons, List.length_append, List.length_map, List.getD_eq_getElem?_getD, g1]
     simp only [Option.getD_some, List.length_cons]
     omega
 unfold f127
 rw [times_open2 (@LN LOOPS) _ _ p0 now parts nodes part h0 hp0 hp]
 refine inv_loop
   (G := fun o => ∃ ts : List Int, o = some (ts, prof2 now parts nodes) ∧ ts.Pairwise (· ≤ ·) ∧ (∀ t, t ∈ ts ↔ t ∈ atsOf nodes part) ∧ ts.length ≤ 20000) part.length (small_lt (by omega)) (fun (acc : List Int) i => (((), (), (i : Int), ()), ((now, parts, (), ()), nodes, acc, ())))
   (fun acc i => acc = atsOf nodes (part.take i)) ?_ ?_ [] rfl
 · rintro acc rfl
   rw [List.take_length]
   have hsl := sortL_len (atsOf nodes part)
   have e1 : f151 (atsOf nodes part) = some ((), (sortL (atsOf nodes part), ())) := by
     unfold f151 sortG
     rw [decide_eq_true ⟨hpos, by omega⟩]
     rfl
   have e2 : f171 (sortL (atsOf nodes part)) = some ((), ((), (Lib.compact (sortL (atsOf nodes part)), ()))) := by
     unfold f171 compactG
     rw [decide_eq_true ⟨by omega, by omega⟩]
     rfl
   refine ⟨_, ⟨Lib.compact (sortL (atsOf nodes part)), rfl, compact_sorted _ (sortL_sorted _), fun t => by rw [compact_mem, sortL_mem], by have := compact_len (sortL (atsOf nodes part)); omega⟩, fun next => ?_⟩
   simp only [l127_1]
   rw [decide_eq_false (show ¬ ((part.length : Nat) : Int) < (part.length : Int) by omega), e1]
   simp only [cond_false, Option.bind_some, hsl, decide_true, Bool.and_self, cond_true, e2]
   rfl
 · rintro acc i hi rfl
   have hbi : part[i]? = some part[i] := List.getElem?_eq_getElem hi
   have hmem : part[i] ∈ part := List.getElem_mem hi
   have t0 : Int.toNat (i : Int) = i := by omega
   have htk : part.take (i + 1) = part.take i ++ [part[i]] := by rw [List.take_add_one, hbi]; rfl
   generalize part[i] = k at hbi hmem htk
   obtain ⟨x, q1, q2, q3⟩ := hx k hmem
   have hk := hpt.2 k hmem
   have hacc := hlenA (part.take i) fun j hj => List.mem_of_mem_take hj
   have hti : (part.take i).length = i := by rw [List.length_take]; omega
   rw [hti] at hacc
   have hiB : i * B ≤ 16 * 700 := Nat.mul_le_mul (by omega) hB
   have hnew : atsOf nodes (part.take (i + 1)) = atsOf nodes (part.take i) ++ x.map fun s => s.at_ := by
     unfold atsOf
     rw [htk, List.flatMap_append]
     simp [q1]
   refine .inl ⟨_, rfl, fun next => ?_⟩
   rw [hnew]
   generalize atsOf nodes (part.take i) = acc at hacc
   refine (times_round2 (@LN LOOPS) _ _ part next now parts nodes acc i k x hi hbi hk.1 (by omega) q1).trans ?_
   have hres := loop_run (f := fun (s14 : ((Unit × (Unit × (Int × Unit))) × ((Int × ((List (List Int)) × (Unit × Unit))) × ((List (List Step)) × ((List Int) × Unit))))) nx15 => l127_0 next (i : Int) x nx15 s14.1.2.2.1 s14.2.1.1 s14.2.1.2.1 s14.2.2.1 s14.2.2.2.1)
     (r := next (((), (), ((i + 1 : Nat) : Int), ()), ((now, parts, (), ()), nodes, acc ++ x.map (fun s => s.at_), ()))) x.length (small_lt (by omega)) (fun j => (((), (), (j : Int), ()), ((now, parts, (), ()), nodes, acc ++ (x.take j).map (fun s => s.at_), ())))
     (fun j hj nx => by
       have hbj : x[j]? = some x[j] := List.getElem?_eq_getElem hj
       have tj : Int.toNat (j : Int) = j := by omega
       have hs8 : smallB ((acc ++ (x.take j).map (fun s => s.at_)).length + 1) 8 = true := by
         unfold smallB
         simp only [Bool.and_eq_true, decide_eq_true_eq, List.length_append, List.length_map, List.length_take]
         omega
       simp only [l127_0]
       rw [tj, decide_eq_true (show (j : Int) < (x.length : Int) by omega), decide_eq_true (show (0 : Int) ≤ (j : Int) by omega), hbj, hs8, wi (show (-9223372036854775808 : Int) ≤ (j : Int) + 1 by omega) (by omega), List.take_add_one, hbj]
       simp only [cond_true, Option.bind_some, Option.toList_some, List.map_append, List.map_cons, List.map_nil, List.append_assoc]
       rfl)
     (fun nx => by
       simp only [l127_0]
       rw [decide_eq_false (show ¬ ((x.length : Nat) : Int) < (x.length : Int) by omega), List.take_length, wi (show (-9223372036854775808 : Int) ≤ (i : Int) + 1 by omega) (by omega)]
       rfl)
   rw [List.take_zero, List.map_nil, List.append_nil] at hres
   exact hres
abbrev PlanT2 := ((Int × (Int × (List Share))) × (Bool × Unit)) × Prof2
def EarlyG2 (V : Vals) (now : Int) (parts : List (List Int)) (nodes : List (List Step)) (part : List Int) (p0 many : Int) (need : Res) (wall : Int) (o : Option PlanT2) : Prop :=
 (∃ t fit, o = some (((0, (t, greedy fit part many)), (true, ())), prof2 now parts nodes) ∧ condW now wall t ∧ FitsV V part need t (t + wall) fit ∧ 1 ≤ many ∧ many ≤ sumF fit part ∧ ∀ t', now ≤ t' → t' < t → ¬ OkAt V part many need now wall t') ∨
 (o = some (((0, (0, [])), (false, ())), prof2 now parts nodes) ∧ ∀ t', ¬ OkAt V part many need now wall t')
theorem p_Earliest2 {now : Int} {B : Nat} {parts : List (List Int)} {nodes : List (List Step)} {V : Vals} {part : List Int} (hV : PRep now B nodes V) (hB : B ≤ 700) (hN : nodes.length ≤ 16) (p0 many : Int) (need : Res) (wall : Int)
   (h0 : 0 ≤ p0) (hp : parts[p0.toNat]? = some part) (hpt : PartOk nodes.length part) (hne : 1 ≤ part.length) (hlen : part.length ≤ 16) (hnow : 0 ≤ now) :
   EarlyG2 V now parts nodes part p0 many need wall (f63 p0 many need wall now parts nodes) := by
 obtain ⟨ts, k1, k2, k3, k4⟩ := p_times2 hV hB hN p0 h0 hp hpt hne hlen
 -- what is found at the first times
 have hback : ∀ t', OkAt V part many need now wall t' → ∃ t0, t0 ∈ ts ∧ t0 ≤ t' ∧ now ≤ t0 ∧ ∀ o, f64 p0 many need wall t0 now parts nodes = some (o, prof2 now parts nodes) → o.2.1 = true := by
   rintro t' ⟨hc, fit, hf, hm, hs⟩
   obtain ⟨t0, g1, g2, g3, g4⟩ := step_back hV hpt hne hc hf
   refine ⟨t0, (k3 t0).2 g1, g3, g2, fun o ho => ?_⟩
   rcases p_When2 hV hB hN p0 many need wall t0 h0 hp hpt hnow with ⟨q1, _⟩ | ⟨q1, fit0, q2, q3⟩
   · exact absurd ⟨hc.1, hc.2.1, g2, by have := hc.2.2.2; omega⟩ q1
   · rw [ho] at q3
     simp only [Option.some.injEq, Prod.mk.injEq, and_true] at q3
     rw [q3, place_ok]
     have := sumF_mono part (g4 fit0 q2)
     exact ⟨hm, by omega⟩
 have hone : ∀ t, (∃ fit, f64 p0 many need wall t now parts nodes = some ((greedy fit part many, (true, ())), prof2 now parts nodes) ∧ condW now wall t ∧ FitsV V part need t (t + wall) fit ∧ 1 ≤ many ∧ many ≤ sumF fit part) ∨
     (∃ l, f64 p0 many need wall t now parts nodes = some ((l, (false, ())), prof2 now parts nodes)) := fun t => by
   rcases p_When2 hV hB hN p0 many need wall t h0 hp hpt hnow with ⟨q1, q2⟩ | ⟨q1, fit, q2, q3⟩
   · exact .inr ⟨_, q2⟩
   · unfold placeF at q3
     split at q3
     · exact .inr ⟨_, q3⟩
     · exact .inl ⟨fit, q3, q1, q2, by omega, by omega⟩
 have hpt0 : 0 < ts.length := by
   have h1 : ∃ t, t ∈ atsOf nodes part := by
     match part, hne, hpt with
     | k :: l, _, hpt =>
       have hkk := hpt.2 k (by simp)
       have h := List.getElem?_eq_getElem (l := nodes) (i := k.toNat) (by omega)
       obtain ⟨s, tl, e1, _, _⟩ := (hV.ok _ _ h).1
       refine ⟨s.at_, ?_⟩
       unfold atsOf
       rw [List.mem_flatMap]
       refine ⟨k, by simp, ?_⟩
       rw [List.getD_eq_getElem?_getD, h]
       simp only [Option.getD_some]
       rw [e1]
       simp
   obtain ⟨t, ht⟩ := h1
   exact List.length_pos_of_mem ((k3 t).2 ht)
 have hget : ∀ i (hi : i < ts.length), ts[i]? = some ts[i] := fun i hi => List.getElem?_eq_getElem hi
 have hsort := List.pairwise_iff_getElem.1 k2
 unfold f63 F63
 rw [k1]
 simp only [Option.bind_some, prof2, decide_true, Bool.and_self, cond_true]
 rw [decide_eq_false (show ¬ (0 : Int) = (ts.length : Int) by omega), hget 0 hpt0]
 simp only [cond_false, Option.bind_some]
 -- found at one
 have hfound : ∀ i (hi : i < ts.length) fit, (∀ j (hj : j < ts.length), j < i → ∃ l, f64 p0 many need wall ts[j] now parts nodes = some ((l, (false, ())), prof2 now parts nodes)) → condW now wall ts[i] → FitsV V part need ts[i] (ts[i] + wall) fit → 1 ≤ many → many ≤ sumF fit part →
     EarlyG2 V now parts nodes part p0 many need wall (some (((0, (ts[i], greedy fit part many)), (true, ())), prof2 now parts nodes)) := by
   intro i hi fit hbef q1 q2 q3 q4
   refine .inl ⟨ts[i], fit, rfl, q1, q2, q3, q4, fun t' g1 g2 g3 => ?_⟩
   obtain ⟨t0, a1, a2, a3, a4⟩ := hback t' g3
   obtain ⟨j, hj, rfl⟩ := List.mem_iff_getElem.1 a1
   have hji : j < i := by
     rcases Nat.lt_or_ge j i with h | h
     · exact h
     · rcases Nat.lt_or_ge i j with h' | h'
       · have := hsort i j hi hj h'; omega
       · have : i = j := by omega
         subst this
         omega
   obtain ⟨l, hl⟩ := hbef j hj hji
   have := a4 _ hl
   simp at this
 have hnone : (∀ j (hj : j < ts.length), ∃ l, f64 p0 many need wall ts[j] now parts nodes = some ((l, (false, ())), prof2 now parts nodes)) → EarlyG2 V now parts nodes part p0 many need wall (some (((0, (0, [])), (false, ())), prof2 now parts nodes)) := by
   intro h
   refine .inr ⟨rfl, fun t' g => ?_⟩
   obtain ⟨t0, a1, a2, a3, a4⟩ := hback t' g
   obtain ⟨j, hj, rfl⟩ := List.mem_iff_getElem.1 a1
   obtain ⟨l, hl⟩ := h j hj
   have := a4 _ hl
   simp at this
 have hW : ∀ t, f64 p0 many need wall t now parts nodes = f64 p0 many need wall t now parts nodes := fun _ => rfl
 rcases hone ts[0] with ⟨fit, q1, q2, q3, q4, q5⟩ | ⟨l, q1⟩
 · rw [q1]
   simp only [Option.bind_some, prof2, decide_true, Bool.and_self, cond_true]
   exact hfound 0 hpt0 fit (fun j hj h => by omega) q2 q3 q4 q5
 · have hf0 := q1
   rw [q1]
   simp only [Option.bind_some, prof2, decide_true, Bool.and_self, cond_true, cond_false]
   refine inv_loop
     (G := EarlyG2 V now parts nodes part p0 many need wall) (ts.length - 1) (small_lt (by omega)) (fun (_ : Unit) i => (((), (), (), ((i + 1 : Nat) : Int), ()), ((now, parts, (), ()), nodes, need, (0, 0, (), ()), ())))
     (fun _ i => ∀ j (hj : j < ts.length), j < i + 1 → ∃ l, f64 p0 many need wall ts[j] now parts nodes = some ((l, (false, ())), prof2 now parts nodes)) ?_ ?_ () (fun j hj h => by
       have : j = 0 := by omega
       subst this
       exact ⟨l, hf0⟩)
   · rintro _ h
     refine ⟨_, hnone fun j hj => h j hj (by omega), fun next => ?_⟩
     simp only [l63_0]
     rw [decide_eq_true (show (((ts.length - 1 + 1 : Nat)) : Int) = (ts.length : Int) by omega)]
     rfl
   · rintro _ i hi h
     have hi1 : i + 1 < ts.length := by omega
     have t0 : Int.toNat ((i + 1 : Nat) : Int) = i + 1 := by omega
     have hgo : ∀ next : _ → Option PlanT2, l63_0 f64 p0 many wall (ts, prof2 now parts nodes) next ((i + 1 : Nat) : Int) now parts nodes need 0 0 = Option.bind (f64 p0 many need wall ts[i + 1] now parts nodes) fun r21 =>
         cond (true && ((decide ((List.length r21.2.2.1) = (List.length nodes))) && true))
         (cond r21.1.2.1 (some (((0, (ts[i + 1], r21.1.1)), true, ()), ((r21.2.1.1, r21.2.1.2.1, (), ()), r21.2.2.1, ()))) (next (((), (), (), ((i + 1 + 1 : Nat) : Int), ()), ((r21.2.1.1, r21.2.1.2.1, (), ()), r21.2.2.1, need, (0, 0, (), ()), ())))) (none) := by
       intro next
       simp only [l63_0]
       rw [decide_eq_false (show ¬ (((i + 1 : Nat)) : Int) = (ts.length : Int) by omega), decide_eq_true (show (0 : Int) ≤ ((i + 1 : Nat) : Int) by omega), t0, hget (i + 1) hi1, wi (show (-9223372036854775808 : Int) ≤ ((i + 1 : Nat) : Int) + 1 by omega) (by omega)]
       rfl
     rcases hone ts[i + 1] with ⟨fit, q1, q2, q3, q4, q5⟩ | ⟨l, q1⟩
     · refine .inr ⟨_, hfound (i + 1) hi1 fit (fun j hj hji => h j hj hji) q2 q3 q4 q5, fun next => (hgo next).trans ?_⟩
       rw [q1]
       simp only [Option.bind_some, prof2, decide_true, Bool.and_self, cond_true]
     · refine .inl ⟨(), fun j hj hji => ?_, fun next => (hgo next).trans ?_⟩
       · by_cases e : j = i + 1
         · subst e; exact ⟨l, q1⟩
         · exact h j hj (by omega)
       · rw [q1]
         simp only [Option.bind_some, prof2, decide_true, Bool.and_self, cond_true, cond_false]
end NM
end Go.Proofs.Ytmnhkpekmgobbaa
end
section
namespace Go.Proofs.Ytmnhkpekmgobbaa
namespace NM
open AM
theorem p_Clone2 (now : Int) (parts : List (List Int)) (nodes : List (List Step)) (h1 : 0 < nodes.length) (h2 : nodes.length ≤ 4294967296) :
   f68 now parts nodes = some ((), ((now, parts, (), ()), nodes, (now, parts, (), ()), nodes, ())) := by
 have e : f131 nodes = some ((), (nodes, (nodes, ()))) := by
   unfold f131 cloneO
   rw [decide_eq_true ⟨h1, h2⟩]
   rfl
 unfold f68 F68
 rw [e]
 simp only [Option.bind_some, decide_true, Bool.and_self, cond_true]
theorem p_TakeM {now t wall : Int} {B : Nat} {parts : List (List Int)} {nodes : List (List Step)} {V : Vals} {l : List Share} {need : Res} (hV : PRep now B nodes V) (hB : B ≤ 700) (hN : nodes.length ≤ 16)
   (hs : shB (nodes.length : Int) (-1) l = true) (hl : l.length ≤ 1000) (hn : okR need = true) (hc : condW now wall t) (h0 : 0 ≤ now) (hov : OkV now nodes.length V) :
   (OkV now nodes.length (minV V (takeD t (t + wall) l need)) ∧ ∃ nodes', f69 t l need wall now parts nodes = some (0, prof2 now parts nodes') ∧ nodes'.length = nodes.length ∧ PRep now (B + 2) nodes' (minV V (takeD t (t + wall) l need))) ∨
   (¬ OkV now nodes.length (minV V (takeD t (t + wall) l need)) ∧ ∃ er, er ≠ 0 ∧ f69 t l need wall now parts nodes = some (er, prof2 now parts nodes)) := by
 have hml : maxLen = 9223372036854775807 := rfl
 obtain ⟨c1, c2, c3, c4⟩ := hc
 have htk := p_take2 (parts := parts) (b := t) (e := t + wall) hV hB hN hs hl hn c3 (by omega) (by omega) hov
 unfold f69 F69
 rw [decide_eq_false (show ¬ t < now by omega), decide_eq_false (show ¬ 1099511627776 < t by omega), p_ShRight l (by omega), hs, p_vecRight, hn, wi (show (-9223372036854775808 : Int) ≤ t + wall by omega) (by omega)]
 simp only [cond_false, Option.bind_some, Bool.not_true]
 rw [decide_eq_false (show ¬ wall < 1 by omega), decide_eq_false (show ¬ 65536 < wall by omega)]
 simp only [cond_false]
 rcases htk with ⟨k1, z, k2, k3, k4⟩ | ⟨k1, er, k2, k3⟩
 · refine .inl ⟨k1, z, ?_, k3, k4⟩
   rw [k2]
   simp only [Option.bind_some, prof2, k3, decide_true, Bool.and_self, cond_true]
 · refine .inr ⟨k1, er, k2, ?_⟩
   rw [k3]
   simp only [Option.bind_some, prof2, decide_true, Bool.and_self, cond_true]
theorem p_SameS (l : List Share) (hl : l.length ≤ 1000) : f132 l l = some true := by
 unfold f132 F132
 rw [decide_eq_true rfl]
 simp only [Bool.not_true, cond_false]
 exact loop_run (f := fun (s2 : ((Int × Unit) × Unit)) nx3 => l132_0 l l nx3 s2.1.1) l.length (small_lt (by omega)) (fun i => (((i : Int), ()), ()))
   (fun i hi next => by
     have hbi : l[i]? = some l[i] := List.getElem?_eq_getElem hi
     have t0 : Int.toNat (i : Int) = i := by omega
     simp only [l132_0]
     rw [t0, decide_eq_true (show (i : Int) < (l.length : Int) by omega), decide_eq_true (show (0 : Int) ≤ (i : Int) by omega), hbi, wi (show (-9223372036854775808 : Int) ≤ (i : Int) + 1 by omega) (by omega)]
     simp only [cond_true, Option.bind_some, decide_true, Bool.and_self, Bool.not_true, cond_false]
     rfl)
   (fun next => by
     simp only [l132_0]
     rw [decide_eq_false (show ¬ ((l.length : Nat) : Int) < (l.length : Int) by omega)]
     rfl)
theorem p_SameP (a : Int × (Int × List Share)) (hl : a.2.2.length ≤ 1000) : f70 a a = some true := by
 unfold f70 F70
 rw [decide_eq_true rfl, decide_eq_true rfl, p_SameS _ hl]
 rfl
theorem asc_weak {e : Int} : ∀ {l : List Int} {a b : Int}, asc e a l = true → b ≤ a → asc e b l = true
 | [], _, _, _, _ => rfl
 | k :: l, a, b, h, hb => by
   simp only [asc, Bool.and_eq_true, decide_eq_true_eq] at h ⊢
   exact ⟨⟨by omega, h.1.2⟩, h.2⟩
theorem asc_nodup {e : Int} : ∀ {l : List Int} {a : Int}, asc e a l = true → l.Nodup
 | [], _, _ => List.nodup_nil
 | k :: l, a, h => by
   have h' := h
   simp only [asc, Bool.and_eq_true, decide_eq_true_eq] at h'
   refine List.nodup_cons.2 ⟨fun hk => ?_, asc_nodup h'.2⟩
   have := (asc_mem h'.2 k hk).1
   omega
theorem greedy_right {fit : Int → Int} {n e : Int} : ∀ (l : List Int) (a left : Int), asc e a l = true → e ≤ n → (∀ k ∈ l, 0 ≤ fit k ∧ fit k ≤ 64) → 0 ≤ left → shB n a (greedy fit l left) = true
 | [], _, _, _, _, _, _ => rfl
 | k :: l, a, left, ha, he, hf, h0 => by
   have hk := hf k (by simp)
   have hl := fun j hj => hf j (List.mem_cons_of_mem k hj)
   have h' := ha
   simp only [asc, Bool.and_eq_true, decide_eq_true_eq] at h'
   simp only [greedy]
   by_cases hz : left = 0
   · rw [if_pos hz]; rfl
   · rw [if_neg hz]
     by_cases hn : (if left < fit k then left else fit k) = 0
     · rw [if_pos hn]
       exact greedy_right l a left (asc_weak h'.2 (by omega)) he hl h0
     · rw [if_neg hn]
       have h1 : 1 ≤ (if left < fit k then left else fit k) ∧ (if left < fit k then left else fit k) ≤ 64 ∧ 0 ≤ left - (if left < fit k then left else fit k) := by split <;> split at hn <;> omega
       have ih := greedy_right l k _ h'.2 he hl h1.2.2
       simp only [shB]
       rw [ih, decide_eq_true h'.1.1, decide_eq_true (show k < n by omega), decide_eq_true h1.1, decide_eq_true h1.2.1]
       rfl
end NM
end Go.Proofs.Ytmnhkpekmgobbaa
end
section
namespace Go.Proofs.Ytmnhkpekmgobbaa
namespace NM
open AM
theorem p_Earliest_no2 {now : Int} {parts : List (List Int)} {nodes : List (List Step)} (p0 many : Int) (need : Res) (wall : Int) (h : p0 < 0 ∨ (parts.length : Int) ≤ p0) :
   f63 p0 many need wall now parts nodes = some (((0, (0, [])), (false, ())), prof2 now parts nodes) := by
 have ht : f127 p0 now parts nodes = some ([], prof2 now parts nodes) := by
   unfold f127 F127
   by_cases h1 : p0 < 0
   · rw [decide_eq_true h1]; rfl
   · rw [decide_eq_false h1, decide_eq_true (show (parts.length : Int) ≤ p0 by omega)]; rfl
 unfold f63 F63
 rw [ht]
 simp only [Option.bind_some, prof2, decide_true, Bool.and_self, cond_true]
 rfl
theorem plan_takes {now wall many : Int} {need : Res} {part : List Int} {N : Nat} {V : Vals} {t : Int} {fit : Int → Int} (hp : PartOk N part) (hc : condW now wall t) (hm : 0 ≤ many) (hf : FitsV V part need t (t + wall) fit) (hok : OkV now N V) :
   OkV now N (minV V (takeD t (t + wall) (greedy fit part many) need)) := by
 obtain ⟨lst, a1, a2⟩ := hf
 have h0 : ∀ k ∈ part, 0 ≤ fit k := fun k hk => by rw [a2 k hk]; exact countI_nonneg _ _
 intro k hk τ hτ
 unfold minV takeD
 split
 · rename_i hi
   have key : ∀ l : List Share, (∀ s ∈ l, s.node ∈ part ∧ 1 ≤ s.many ∧ s.many ≤ fit s.node) → posR (subR (V k τ) (mulR need (onS l k))) := by
     intro l
     induction l with
     | nil => intro _; simp only [onS]; rw [mul_zero, sub_zero]; exact hok k hk τ hτ
     | cons s l ih =>
       intro h
       simp only [onS]
       by_cases e : s.node = (k : Int)
       · rw [if_pos e]
         obtain ⟨n1, n2, n3⟩ := h s (by simp)
         rw [a2 _ n1] at n3
         obtain ⟨_, c⟩ := countI_fit (by omega) n3
         have h1 := (c n2).2.trans ((a1 _ n1).le τ hi.1 hi.2)
         have e2 : s.node.toNat = k := by omega
         rw [e2] at h1
         unfold leR at h1
         unfold posR subR
         simp only
         omega
       · rw [if_neg e]
         exact ih fun u hu => h u (List.mem_cons_of_mem s hu)
   exact key _ (greedy_mem part many h0 hm)
 · rw [sub_zero]; exact hok k hk τ hτ
theorem has_fits {now : Int} {B : Nat} {nodes : List (List Step)} {V : Vals} {part : List Int} (hV : PRep now B nodes V) (hB : B ≤ 700) (hpt : PartOk nodes.length part) (need : Res) (wall t : Int) (hc : condW now wall t) : ∃ fit, FitsV V part need t (t + wall) fit := by
 obtain ⟨c1, c2, c3, c4⟩ := hc
 have h : ∀ k : Int, ∃ r, k ∈ part → LeastP (V k.toNat) t (t + wall) r := fun k => by
   rcases Classical.em (k ∈ part) with hk | hk
   · have hkk := hpt.2 k hk
     have hx : nodes[k.toNat]? = some (nodes[k.toNat]'(by omega)) := List.getElem?_eq_getElem (by omega)
     obtain ⟨g1, g2⟩ := hV.ok _ _ hx
     obtain ⟨r, _, g4⟩ := least_of (b := t) (e := t + wall) g1 (by omega) (by omega) (by omega)
     exact ⟨r, fun _ => g4.congr fun τ h1 h2 => hV.val _ _ hx τ (by omega)⟩
   · exact ⟨zeroR, fun h => absurd h hk⟩
 refine ⟨fun k => countI (Classical.choose (h k)) need, fun k => Classical.choose (h k), fun k hk => Classical.choose_spec (h k) hk, fun _ _ => rfl⟩
theorem okAt_back {now wall many : Int} {need : Res} {part : List Int} {N : Nat} {V : Vals} {ds : List Vals} (hp : PartOk N part) (hd : ∀ D ∈ ds, posD N now D) (hfits : ∀ t, condW now wall t → ∃ fit, FitsV V part need t (t + wall) fit) {t : Int}
   (h : OkAt (apV V ds) part many need now wall t) : OkAt V part many need now wall t := by
 obtain ⟨hc, fit', hf', h1, h2⟩ := h
 obtain ⟨fit, hf⟩ := hfits t hc
 have := sumF_mono part (fits_mono hf' hf fun k hk τ g1 g2 => ⟨τ, g1, g2, apV_le ds V hd k.toNat (by have := hp.2 k hk; omega) τ (by have := hc.2.2.1; omega)⟩)
 exact ⟨hc, fit, hf, h1, by omega⟩
theorem stays_end {now wall many p0 : Int} {need : Res} {part : List Int} {parts : List (List Int)} {nodes : List (List Step)} {N : Nat} {V : Vals} {ds : List Vals} {t : Int} {fit : Int → Int} {o : Option PlanT2} (hp : PartOk N part) (hnd : part.Nodup) (hc : condW now wall t) (hm : 1 ≤ many) (hs : many ≤ sumF fit part)
   (hf : FitsV V part need t (t + wall) fit) (hmin : ∀ t', now ≤ t' → t' < t → ¬ OkAt V part many need now wall t') (hd : ∀ D ∈ ds, posD N now D) (hok : OkV now N (apV (minV V (takeD t (t + wall) (greedy fit part many) need)) ds))
   (hfits : ∀ t, condW now wall t → ∃ fit, FitsV V part need t (t + wall) fit) (hfits' : ∃ fit', FitsV (apV V ds) part need t (t + wall) fit') (E : EarlyG2 (apV V ds) now parts nodes part p0 many need wall o) :
   o = some (((0, (t, greedy fit part many)), (true, ())), prof2 now parts nodes) := by
 obtain ⟨fit', hf'⟩ := hfits'
 obtain ⟨g1, g2⟩ := stays_core hp hnd hc hm hs hf hd hok hf'
 have hat : OkAt (apV V ds) part many need now wall t := ⟨hc, fit', hf', hm, g2⟩
 rcases E with ⟨t2, fit2, e1, e2, e3, e4, e5, e6⟩ | ⟨e1, e2⟩
 · have h1 : ¬ t < t2 := fun h => e6 t hc.2.2.1 h hat
   have h2 : ¬ t2 < t := fun h => hmin t2 e2.2.2.1 h (okAt_back hp hd hfits ⟨e2, fit2, e3, e4, e5⟩)
   have h3 : t2 = t := by omega
   subst h3
   rw [e1, (stays_core hp hnd hc hm hs hf hd hok e3).1]
 · exact absurd hat (e2 t)
theorem stays_none {now wall many p0 : Int} {need : Res} {part : List Int} {parts : List (List Int)} {nodes : List (List Step)} {N : Nat} {V : Vals} {ds : List Vals} {o : Option PlanT2} (hp : PartOk N part) (hd : ∀ D ∈ ds, posD N now D) (hfits : ∀ t, condW now wall t → ∃ fit, FitsV V part need t (t + wall) fit)
   (hno : ∀ t', ¬ OkAt V part many need now wall t') (E : EarlyG2 (apV V ds) now parts nodes part p0 many need wall o) : o = some (((0, (0, [])), (false, ())), prof2 now parts nodes) := by
 rcases E with ⟨t2, fit2, e1, e2, e3, e4, e5, e6⟩ | ⟨e1, e2⟩
 · exact absurd (okAt_back hp hd hfits ⟨e2, fit2, e3, e4, e5⟩) (hno t2)
 · exact e1
end NM
end Go.Proofs.Ytmnhkpekmgobbaa
end
