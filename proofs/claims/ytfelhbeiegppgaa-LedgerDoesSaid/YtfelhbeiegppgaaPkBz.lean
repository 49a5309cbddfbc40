/-
  What the proof of LedgerDoes leans on, part 26. (Many texts laid together by program.)
-/
import Derived.Test.YtfelhbeiegppgaaPkBy
set_option linter.unnecessarySimpa false
set_option linter.unusedSimpArgs false
set_option linter.unusedVariables false
section
namespace Go.Proofs.Ytfelhbeiegppgaa
namespace NM
open AM
theorem okR_iff (x : Res) : okR x = true ↔ (0 ≤ x.cpu ∧ x.cpu ≤ 1048576) ∧ (0 ≤ x.mem ∧ x.mem ≤ 1048576) ∧ (0 ≤ x.gpu ∧ x.gpu ≤ 1048576) ∧ (0 ≤ x.lic ∧ x.lic ≤ 1048576) := by
 unfold okR okN
 simp only [Bool.and_eq_true, decide_eq_true_eq]
 constructor
 · rintro ⟨⟨⟨a, b⟩, c⟩, d⟩; exact ⟨a, b, c, d⟩
 · rintro ⟨a, b, c, d⟩; exact ⟨⟨⟨a, b⟩, c⟩, d⟩
theorem loop_run {σ ω : Type} {f : σ → (σ → Option ω) → Option ω} {r : Option ω} (n : Nat) (hn : n < LOOPS) (s : Nat → σ) (hs : ∀ i, i < n → ∀ next, f (s i) next = next (s (i + 1))) (hend : ∀ next, f (s n) next = r) : LN LOOPS f (s 0) = r := by
 have key : ∀ m i, i ≤ n → n - i < m → loopN f m (s i) = r := by
   intro m
   induction m with
   | zero => intro i _ h; omega
   | succ m ih =>
     intro i hi hm
     simp only [loopN]
     rcases Nat.lt_or_ge i n with h | h
     · rw [hs i h]
       exact ih (i + 1) h (by omega)
     · have : i = n := by omega
       subst this
       exact hend _
 exact key LOOPS 0 (Nat.zero_le _) (by omega)
theorem inv_loop {σ ω β : Type} {f : σ → (σ → Option ω) → Option ω} {G : Option ω → Prop} (n : Nat) (hn : n < LOOPS) (mk : β → Nat → σ) (Inv : β → Nat → Prop)
   (hend : ∀ b, Inv b n → ∃ r, G r ∧ ∀ next, f (mk b n) next = r)
   (hstep : ∀ b i, i < n → Inv b i → (∃ b', Inv b' (i + 1) ∧ ∀ next, f (mk b i) next = next (mk b' (i + 1))) ∨ ∃ r, G r ∧ ∀ next, f (mk b i) next = r)
   (b : β) (hb : Inv b 0) : G (LN LOOPS f (mk b 0)) := by
 have key : ∀ m i b, i ≤ n → n - i < m → Inv b i → G (loopN f m (mk b i)) := by
   intro m
   induction m with
   | zero => intro i b _ h _; omega
   | succ m ih =>
     intro i b hi hm hb
     simp only [loopN]
     rcases Nat.lt_or_ge i n with h | h
     · rcases hstep b i h hb with ⟨b', h1, h2⟩ | ⟨r, h1, h2⟩
       · rw [h2]
         exact ih (i + 1) b' h (by omega) h1
       · rw [h2]
         exact h1
     · have : i = n := by omega
       subst this
       obtain ⟨r, h1, h2⟩ := hend b hb
       rw [h2]
       exact h1
 exact key LOOPS 0 b (Nat.zero_le _) (by omega) hb
theorem small_lt {n : Nat} (h : n ≤ 1000000) : n < LOOPS := by unfold LOOPS; omega
def leR (a b : Res) : Prop := a.cpu ≤ b.cpu ∧ a.mem ≤ b.mem ∧ a.gpu ≤ b.gpu ∧ a.lic ≤ b.lic
def posR (a : Res) : Prop := 0 ≤ a.cpu ∧ 0 ≤ a.mem ∧ 0 ≤ a.gpu ∧ 0 ≤ a.lic
theorem leR.refl (a : Res) : leR a a := ⟨Int.le_refl _, Int.le_refl _, Int.le_refl _, Int.le_refl _⟩
theorem leR.trans {a b c : Res} (h : leR a b) (k : leR b c) : leR a c := by unfold leR at *; omega
theorem sub_zero (a : Res) : subR a zeroR = a := by unfold subR zeroR; simp
theorem pos_zero : posR zeroR := by unfold posR zeroR; simp
theorem okR_le {a b : Res} (h : okR a = true) (hp : posR b) (hb : leR b a) : okR b = true := by
 rw [okR_iff] at h ⊢
 unfold posR at hp
 unfold leR at hb
 omega
theorem okR_pos {a : Res} (h : okR a = true) : posR a := by rw [okR_iff] at h; unfold posR; omega
theorem resOk_okR (a : Res) : resOk a = okR a := by
 rw [Bool.eq_iff_iff, okR_iff]
 unfold resOk
 simp only [decide_eq_true_eq]
 omega
theorem mul_pos {x : Res} {n : Int} (hx : posR x) (hn : 0 ≤ n) : posR (mulR x n) := by
 unfold posR mulR at *
 exact ⟨Int.mul_nonneg hx.1 hn, Int.mul_nonneg hx.2.1 hn, Int.mul_nonneg hx.2.2.1 hn, Int.mul_nonneg hx.2.2.2 hn⟩
theorem mul_zero (x : Res) : mulR x 0 = zeroR := by unfold mulR zeroR; simp
def shB (n : Int) : Int → List Share → Bool
 | _, [] => true
 | last, s :: l => decide (last < s.node) && (decide (s.node < n) && (decide (1 ≤ s.many) && (decide (s.many ≤ 64) && shB n s.node l)))
theorem shB_cons {n last : Int} {s : Share} {l : List Share} (h : shB n last (s :: l) = true) : last < s.node ∧ s.node < n ∧ 1 ≤ s.many ∧ s.many ≤ 64 ∧ shB n s.node l = true := by
 simp only [shB, Bool.and_eq_true, decide_eq_true_eq] at h
 exact h
theorem shB_mem {n : Int} : ∀ {last : Int} {l : List Share}, shB n last l = true → ∀ s ∈ l, last < s.node ∧ s.node < n ∧ 1 ≤ s.many ∧ s.many ≤ 64
 | last, [], _, s, hs => by simp at hs
 | last, x :: l, h, s, hs => by
   obtain ⟨h1, h2, h3, h4, h5⟩ := shB_cons h
   rcases List.mem_cons.1 hs with rfl | hs
   · exact ⟨h1, h2, h3, h4⟩
   · have := shB_mem h5 s hs
     exact ⟨by omega, this.2⟩
def onS : List Share → Nat → Int
 | [], _ => 0
 | s :: l, k => if s.node = (k : Int) then s.many else onS l k
theorem onS_none : ∀ (l : List Share) (k : Nat), (∀ s ∈ l, s.node ≠ (k : Int)) → onS l k = 0
 | [], _, _ => rfl
 | s :: l, k, h => by
   simp only [onS]
   rw [if_neg (h s (by simp))]
   exact onS_none l k fun u hu => h u (by simp [hu])
theorem onS_mem {n : Int} : ∀ {last : Int} {l : List Share}, shB n last l = true → ∀ s ∈ l, ∀ k : Nat, s.node = (k : Int) → onS l k = s.many
 | last, [], _, s, hs, k, hk => by simp at hs
 | last, x :: l, h, s, hs, k, hk => by
   obtain ⟨h1, h2, h3, h4, h5⟩ := shB_cons h
   simp only [onS]
   rcases List.mem_cons.1 hs with rfl | hs
   · rw [if_pos hk]
   · have := (shB_mem h5 s hs).1
     rw [if_neg (by omega)]
     exact onS_mem h5 s hs k hk
theorem onS_nonneg {n : Int} {last : Int} {l : List Share} (h : shB n last l = true) (k : Nat) : 0 ≤ onS l k := by
 rcases Classical.em (∃ s ∈ l, s.node = (k : Int)) with ⟨s, hs, hk⟩ | hno
 · rw [onS_mem h s hs k hk]
   have := (shB_mem h s hs).2.2.1
   omega
 · rw [onS_none l k fun s hs he => hno ⟨s, hs, he⟩]
   exact Int.le_refl _
theorem p_ShRight (l : List Share) (hl : l.length ≤ maxLen) (n : Int) : f44 l n = some (shB n (-1) l) := by
 unfold f44 F44
 have key := list_loop (f := fun (s2 : ((Int × (Int × Unit)) × Unit)) nx3 => l44_0 l n nx3 s2.1.1 s2.1.2.1) l (fun last z => (((last, z, ()), ()) : ((Int × (Int × Unit)) × Unit)))
   (fun last (s : Share) => if last < s.node ∧ s.node < n ∧ 1 ≤ s.many ∧ s.many ≤ 64 then .inl s.node else .inr (some false)) (fun _ => some true) hl
   (fun b next => by simp [l44_0])
   (fun b z x next g0 g1 g2 g3 => by
     simp only [l44_0, g0, g1, g2, g3, decide_true, cond_true, Option.bind_some]
     by_cases h1 : x.node ≤ b
     · rw [decide_eq_true h1, if_neg (by omega)]; rfl
     · by_cases h2 : n ≤ x.node
       · rw [decide_eq_false h1, decide_eq_true h2, if_neg (by omega)]; rfl
       · by_cases h3 : x.many < 1
         · rw [decide_eq_false h1, decide_eq_false h2, decide_eq_true h3, if_neg (by omega)]; rfl
         · by_cases h4 : 64 < x.many
           · rw [decide_eq_false h1, decide_eq_false h2, decide_eq_false h3, decide_eq_true h4, if_neg (by omega)]; rfl
           · rw [decide_eq_false h1, decide_eq_false h2, decide_eq_false h3, decide_eq_false h4, if_pos ⟨by omega, by omega, by omega, by omega⟩]; rfl) (-1)
 refine key.trans ?_
 have : ∀ (l : List Share) (last : Int), runL (fun last (s : Share) => if last < s.node ∧ s.node < n ∧ 1 ≤ s.many ∧ s.many ≤ 64 then .inl s.node else .inr (some false)) (fun _ => some true) l last = some (shB n last l) := by
   intro l
   induction l with
   | nil => intro last; rfl
   | cons s l ih =>
     intro last
     simp only [runL, shB]
     by_cases h : last < s.node ∧ s.node < n ∧ 1 ≤ s.many ∧ s.many ≤ 64
     · rw [if_pos h]
       simp only [ih]
       simp [h.1, h.2.1, h.2.2.1, h.2.2.2]
     · rw [if_neg h]
       simp only [Option.some.injEq]
       by_cases h1 : last < s.node <;> by_cases h2 : s.node < n <;> by_cases h3 : 1 ≤ s.many <;> by_cases h4 : s.many ≤ 64 <;> simp [h1, h2, h3, h4]
       exact absurd ⟨h1, h2, h3, h4⟩ h
 exact this l (-1)
theorem p_CloneR (l : List Res) (hl : l.length ≤ 4294967295) : f41 l = some ((), (l, ())) := by
 unfold f41 cloneF
 cases l with
 | nil => rfl
 | cons x l =>
   unfold F41
   have : smallB (0 + (x :: l).length) 32 = true := by
     simp only [smallB, Bool.and_eq_true, decide_eq_true_eq]
     simp at hl ⊢
     omega
   simp only [List.isEmpty_cons, cond_false, this, cond_true, List.nil_append]
theorem p_CloneS (l : List Share) (hl : l.length ≤ 4294967295) : f75 l = some ((), (l, ())) := by
 unfold f75 cloneF
 cases l with
 | nil => rfl
 | cons x l =>
   unfold F75
   have : smallB (0 + (x :: l).length) 16 = true := by
     simp only [smallB, Bool.and_eq_true, decide_eq_true_eq]
     simp at hl ⊢
     omega
   simp only [List.isEmpty_cons, cond_false, this, cond_true, List.nil_append]
structure OpR (op : Res → Res → Res) (g : Res → Res → Option (Res × (Int × Unit))) : Prop where
 zero : ∀ x, op x zeroR = x
 run : ∀ x y, okR x = true → okR y = true → g x y = some (if okR (op x y) = true then (op x y, (0, ())) else (zeroR, (20, ())))
 fit : ∀ x d, okR x = true → posR d → okR (op x d) = true → okR d = true
theorem op_sub : OpR subR f46 where
 zero := sub_zero
 run x y hx hy := by
   show vecSub x y = _
   unfold vecSub sumG withinG
   rw [if_pos hx, if_pos hy]
   by_cases h : okR (subR x y) = true
   · rw [if_pos h, if_pos h]
   · rw [if_neg h, if_neg h]
 fit x d hx hd h := by
   refine okR_le hx hd ?_
   have := okR_pos h
   unfold posR subR at this
   unfold leR
   simp only at this
   omega
theorem op_add : OpR addR f43 where
 zero x := by unfold addR zeroR; simp
 run x y hx hy := by
   show vecAdd x y = _
   unfold vecAdd sumG withinG
   rw [if_pos hx, if_pos hy]
   by_cases h : okR (addR x y) = true
   · rw [if_pos h, if_pos h]
   · rw [if_neg h, if_neg h]
 fit x d hx hd h := by
   refine okR_le h hd ?_
   have := okR_pos hx
   unfold posR at this
   unfold leR addR
   simp only
   omega
def opAll (op : Res → Res → Res) (fr : List Res) (need : Res) (l : List Share) : List Res := fr.mapIdx fun k x => op x (mulR need (onS l k))
theorem opAll_len (op : Res → Res → Res) (fr : List Res) (need : Res) (l : List Share) : (opAll op fr need l).length = fr.length := by simp [opAll]
theorem opAll_get (op : Res → Res → Res) (fr : List Res) (need : Res) (l : List Share) (k : Nat) : (opAll op fr need l)[k]? = (fr[k]?).map fun x => op x (mulR need (onS l k)) := by
 unfold opAll
 rw [List.getElem?_mapIdx]
theorem opAll_nil {op : Res → Res → Res} {g : Res → Res → Option (Res × (Int × Unit))} (O : OpR op g) (fr : List Res) (need : Res) : opAll op fr need [] = fr := by
 apply List.ext_getElem?
 intro k
 rw [opAll_get]
 have : onS [] k = 0 := rfl
 rw [this, mul_zero]
 cases fr[k]? with
 | none => rfl
 | some x => simp [O.zero]
theorem onS_later {n : Int} {last : Int} {l : List Share} (h : shB n last l = true) {k : Nat} (hk : (k : Int) ≤ last) : onS l k = 0 :=
 onS_none l k fun s hs he => by have := (shB_mem h s hs).1; omega
theorem opAll_cons {op : Res → Res → Res} {g : Res → Res → Option (Res × (Int × Unit))} (O : OpR op g) {fr : List Res} {need : Res} {s : Share} {l : List Share} {n : Int} (h : shB n s.node l = true) {k : Nat} (hk : s.node = (k : Int)) {x : Res} (hx : fr[k]? = some x) :
   opAll op (fr.set k (op x (mulR need s.many))) need l = opAll op fr need (s :: l) := by
 apply List.ext_getElem?
 intro j
 rw [opAll_get, opAll_get, List.getElem?_set]
 have hl := (List.getElem?_eq_some_iff.1 hx).1
 by_cases hj : k = j
 · subst hj
   rw [if_pos rfl, if_pos hl, hx, onS_later h (by omega), mul_zero]
   simp only [Option.map_some, onS]
   rw [if_pos hk, O.zero]
 · rw [if_neg hj]
   have : onS (s :: l) j = onS l j := by
     simp only [onS]
     rw [if_neg (by omega)]
   rw [this]
theorem times_all {need : Res} {n : Int} (hn : okR need = true) (h1 : 1 ≤ n) (h2 : n ≤ 64) : vecTimes need n = some (if okR (mulR need n) = true then (mulR need n, (0, ())) else (zeroR, (20, ()))) := by
 unfold vecTimes timesG withinG
 rw [if_pos hn, if_neg (show ¬ n < 0 by omega), if_neg (show ¬ 1048576 < n by omega)]
 by_cases hz : nilR need = true
 · have e : mulR need n = zeroR := by
     unfold nilR at hz
     simp only [Bool.and_eq_true, decide_eq_true_eq] at hz
     unfold mulR zeroR
     rw [hz.1, hz.2.1, hz.2.2.1, hz.2.2.2]
     simp
   rw [if_pos hz, e]
   rfl
 · rw [if_neg hz]
   by_cases hm : okR (mulR need n) = true
   · rw [if_pos hm, if_pos hm]
   · rw [if_neg hm, if_neg hm]
def chStep (op : Res → Res → Res) (need : Res) (z : (List Res) × (Int × Unit) → Option (((List Res) × (Int × Unit)) × (((List Res) × (Unit × Unit)) × ((List (Int × Alloc)) × Unit)))) (cur : List Res) (s : Share) : List Res ⊕ Option (((List Res) × (Int × Unit)) × (((List Res) × (Unit × Unit)) × ((List (Int × Alloc)) × Unit))) :=
 match cur[s.node.toNat]? with
 | some x => if okR (op x (mulR need s.many)) = true then .inl (cur.set s.node.toNat (op x (mulR need s.many))) else .inr (z ([], (20, ())))
 | none => .inr none
theorem run_change {op : Res → Res → Res} {g : Res → Res → Option (Res × (Int × Unit))} (O : OpR op g) {need : Res} {z : (List Res) × (Int × Unit) → Option (((List Res) × (Int × Unit)) × (((List Res) × (Unit × Unit)) × ((List (Int × Alloc)) × Unit)))} : ∀ (l : List Share) (last : Int) (cur : List Res), -1 ≤ last → shB (cur.length : Int) last l = true → (∀ x ∈ cur, okR x = true) →
   runL (chStep op need z) (fun cur => z (cur, (0, ()))) l cur = z (cond ((opAll op cur need l).all okR) (opAll op cur need l, (0, ())) ([], (20, ())))
 | [], last, cur, _, _, hc => by
   rw [opAll_nil O]
   have : cur.all okR = true := List.all_eq_true.2 hc
   rw [this]
   rfl
 | s :: l, last, cur, h0, h, hc => by
   obtain ⟨h1, h2, h3, h4, h5⟩ := shB_cons h
   obtain ⟨k, hk⟩ : ∃ k : Nat, s.node = (k : Int) := ⟨s.node.toNat, by omega⟩
   have hkl : k < cur.length := by omega
   have hx : cur[k]? = some cur[k] := List.getElem?_eq_getElem hkl
   simp only [runL, chStep]
   rw [show s.node.toNat = k by omega, hx]
   simp only
   by_cases hok : okR (op cur[k] (mulR need s.many)) = true
   · rw [if_pos hok]
     simp only
     have ih := run_change O (need := need) (z := z) l s.node (cur.set k (op cur[k] (mulR need s.many))) (by omega) (by rw [List.length_set]; exact h5) (fun y hy => by
       rcases List.mem_or_eq_of_mem_set hy with hy | rfl
       · exact hc y hy
       · exact hok)
     rw [opAll_cons O h5 hk hx] at ih
     exact ih
   · rw [if_neg hok]
     simp only
     have : (opAll op cur need (s :: l)).all okR = false := by
       rw [List.all_eq_false]
       refine ⟨op cur[k] (mulR need s.many), ?_, hok⟩
       apply List.mem_of_getElem? (i := k)
       rw [opAll_get, hx]
       simp only [Option.map_some, onS]
       rw [if_pos hk]
     rw [this]
     rfl
theorem p_changeG {op : Res → Res → Res} {g : Res → Res → Option (Res × (Int × Unit))} (O : OpR op g) (a : Alloc) (fr : List Res) (m : (List (Int × Alloc))) (hs : shB (fr.length : Int) (-1) a.shares = true) (hl : a.shares.length ≤ 1000) (hfl : fr.length ≤ 1000) (hn : okR a.need = true) (hf : ∀ x ∈ fr, okR x = true) :
   F42 (@LN LOOPS) f41 f71 g a fr m = some (cond ((opAll op fr a.need a.shares).all okR) (opAll op fr a.need a.shares, (0, ())) ([], (20, ())), ((fr, (), ()), m, ())) := by
 unfold F42
 rw [p_CloneR fr (by omega)]
 simp only [Option.bind_some]
 have key := list_loopI (f := fun (s4 : ((Unit × (Unit × (Int × Unit))) × (((List Res) × (Unit × Unit)) × ((List (Int × Alloc)) × (Alloc × ((List Res) × Unit)))))) nx5 => l42_0 f71 g a nx5 s4.1.2.2.1 s4.2.1.1 s4.2.2.1 s4.2.2.2.1 s4.2.2.2.2.1) a.shares
   (fun (cur : List Res) z => ((((), (), z, ()), ((fr, (), ()), m, a, cur, ())) : ((Unit × (Unit × (Int × Unit))) × (((List Res) × (Unit × Unit)) × ((List (Int × Alloc)) × (Alloc × ((List Res) × Unit)))))))
   (fun cur _ => cur.length = fr.length ∧ ∀ x ∈ cur, okR x = true)
   (chStep op a.need fun r => some (r, ((fr, (), ()), m, ()))) (fun cur => some ((cur, (0, ())), ((fr, (), ()), m, ()))) (by have : maxLen = 9223372036854775807 := rfl; omega)
   (fun b next hb => by simp only [l42_0, decide_eq_false (Int.lt_irrefl _), cond_false])
   (fun cur z s next hb h0 h1 h2 h3 => by
     obtain ⟨hb1, hb2⟩ := hb
     have hm := shB_mem hs s (List.mem_of_getElem? h2)
     obtain ⟨k, hk⟩ : ∃ k : Nat, s.node = (k : Int) := ⟨s.node.toNat, by omega⟩
     have hkl : k < cur.length := by omega
     have hx : cur[k]? = some cur[k] := List.getElem?_eq_getElem hkl
     have hxo := hb2 cur[k] (List.getElem_mem hkl)
     simp only [chStep]
     rw [show s.node.toNat = k by omega, hx]
     simp only
     have ht : f71 a.need s.many = _ := times_all hn hm.2.2.1 hm.2.2.2
     simp only [l42_0]
     rw [decide_eq_true h1, decide_eq_true h0, h2]
     simp only [cond_true, Option.bind_some]
     rw [ht]
     simp only [Option.bind_some]
     by_cases hok : okR (op cur[k] (mulR a.need s.many)) = true
     · rw [if_pos hok]
       have hmo : okR (mulR a.need s.many) = true := O.fit _ _ hxo (mul_pos (okR_pos hn) (by omega)) hok
       rw [if_pos hmo]
       refine ⟨⟨by simpa using hb1, fun y hy => ?_⟩, ?_⟩
       · rcases List.mem_or_eq_of_mem_set hy with hy | rfl
         · exact hb2 y hy
         · exact hok
       · simp only [decide_true, Bool.not_true, cond_false]
         rw [decide_eq_true (show (0 : Int) ≤ s.node by omega), show s.node.toNat = k by omega, decide_eq_true hkl, hx]
         simp only [cond_true, Option.bind_some]
         rw [O.run _ _ hxo hmo, if_pos hok, h3]
         rfl
     · rw [if_neg hok]
       by_cases hmo : okR (mulR a.need s.many) = true
       · rw [if_pos hmo]
         simp only [decide_true, Bool.not_true, cond_false]
         rw [decide_eq_true (show (0 : Int) ≤ s.node by omega), show s.node.toNat = k by omega, decide_eq_true hkl, hx]
         simp only [cond_true, Option.bind_some]
         rw [O.run _ _ hxo hmo, if_neg hok]
         rfl
       · rw [if_neg hmo]
         rfl) fr ⟨rfl, hf⟩
 refine key.trans ?_
 exact run_change O a.shares (-1) fr (by omega) hs hf
theorem p_Sub (a : Alloc) (fr : List Res) (m : (List (Int × Alloc))) (hs : shB (fr.length : Int) (-1) a.shares = true) (hl : a.shares.length ≤ 1000) (hfl : fr.length ≤ 1000) (hn : okR a.need = true) (hf : ∀ x ∈ fr, okR x = true) :
   f42 a fr m = some (cond ((opAll subR fr a.need a.shares).all okR) (opAll subR fr a.need a.shares, (0, ())) ([], (20, ())), ((fr, (), ()), m, ())) := p_changeG op_sub a fr m hs hl hfl hn hf
theorem p_Add (a : Alloc) (fr : List Res) (m : (List (Int × Alloc))) (hs : shB (fr.length : Int) (-1) a.shares = true) (hl : a.shares.length ≤ 1000) (hfl : fr.length ≤ 1000) (hn : okR a.need = true) (hf : ∀ x ∈ fr, okR x = true) :
   f42_1 a fr m = some (cond ((opAll addR fr a.need a.shares).all okR) (opAll addR fr a.need a.shares, (0, ())) ([], (20, ())), ((fr, (), ()), m, ())) := p_changeG op_add a fr m hs hl hfl hn hf
end NM
end Go.Proofs.Ytfelhbeiegppgaa
end
section
namespace Go.Proofs.Ytfelhbeiegppgaa
namespace NM
open AM
theorem addR_assoc (a b c : Res) : addR (addR a b) c = addR a (addR b c) := by unfold addR; simp only [Res.mk.injEq]; omega
theorem addR_left (a b c : Res) : addR a (addR b c) = addR b (addR a c) := by unfold addR; simp only [Res.mk.injEq]; omega
theorem sub_add (x d s : Res) : addR (subR x d) (addR d s) = addR x s := by unfold addR subR; simp only [Res.mk.injEq]; omega
theorem add_pos {a b : Res} (h : posR a) (k : posR b) : posR (addR a b) := by unfold posR addR at *; simp only; omega
theorem le_add {a b c : Res} (h : posR c) : leR (addR a b) (addR a (addR b c)) := by unfold posR at h; unfold leR addR; simp only; omega
/- maps -/
section
variable {α : Type}
abbrev AscM (m : List (Int × α)) : Prop := m.Pairwise fun p q => p.1 < q.1
theorem mgetN : ∀ {m : List (Int × α)} {k : Int}, mget k m = none → ∀ p ∈ m, p.1 ≠ k
 | [], _, _, p, hp => by simp at hp
 | q :: m, k, h, p, hp => by
   simp only [mget] at h
   by_cases hq : q.1 = k
   · rw [decide_eq_true hq] at h; cases h
   · rw [decide_eq_false hq] at h
     rcases List.mem_cons.1 hp with rfl | hp
     · exact hq
     · exact mgetN h p hp
theorem mget_mem : ∀ {m : List (Int × α)} {k : Int} {a : α}, mget k m = some a → (k, a) ∈ m
 | [], _, _, h => by cases h
 | q :: m, k, a, h => by
   simp only [mget] at h
   by_cases hq : q.1 = k
   · rw [decide_eq_true hq] at h
     cases h
     subst hq
     exact List.mem_cons_self ..
   · rw [decide_eq_false hq] at h
     exact List.mem_cons_of_mem _ (mget_mem h)
theorem mset_mem {k : Int} {v : α} : ∀ {m : List (Int × α)} {p : Int × α}, p ∈ mset k v m → p = (k, v) ∨ p ∈ m
 | [], p, h => by simpa [mset] using h
 | q :: m, p, h => by
   simp only [mset] at h
   by_cases h1 : k < q.1
   · rw [decide_eq_true h1] at h
     simpa using h
   · rw [decide_eq_false h1] at h
     by_cases h2 : q.1 = k
     · rw [decide_eq_true h2] at h
       rcases List.mem_cons.1 h with rfl | h
       · exact .inl rfl
       · exact .inr (List.mem_cons_of_mem _ h)
     · rw [decide_eq_false h2] at h
       rcases List.mem_cons.1 h with rfl | h
       · exact .inr (List.mem_cons_self ..)
       · rcases mset_mem h with h | h
         · exact .inl h
         · exact .inr (List.mem_cons_of_mem _ h)
theorem mset_ascM {k : Int} {v : α} : ∀ {m : List (Int × α)}, AscM m → AscM (mset k v m)
 | [], _ => List.pairwise_singleton _ _
 | q :: m, h => by
   obtain ⟨g1, g2⟩ := List.pairwise_cons.1 h
   simp only [mset]
   by_cases h1 : k < q.1
   · rw [decide_eq_true h1]
     refine List.pairwise_cons.2 ⟨fun p hp => ?_, h⟩
     rcases List.mem_cons.1 hp with rfl | hp
     · exact h1
     · have := g1 p hp; show k < p.1; omega
   · rw [decide_eq_false h1]
     by_cases h2 : q.1 = k
     · rw [decide_eq_true h2]
       refine List.pairwise_cons.2 ⟨fun p hp => ?_, g2⟩
       have := g1 p hp; show k < p.1; omega
     · rw [decide_eq_false h2]
       refine List.pairwise_cons.2 ⟨fun p hp => ?_, mset_ascM g2⟩
       rcases mset_mem hp with rfl | hp
       · show q.1 < k; omega
       · exact g1 p hp
theorem mset_len {k : Int} {v : α} : ∀ {m : List (Int × α)}, (mset k v m).length ≤ m.length + 1
 | [] => by simp [mset]
 | q :: m => by
   simp only [mset]
   by_cases h1 : k < q.1
   · rw [decide_eq_true h1]; simp
   · rw [decide_eq_false h1]
     by_cases h2 : q.1 = k
     · rw [decide_eq_true h2]; simp
     · rw [decide_eq_false h2]
       have := mset_len (k := k) (v := v) (m := m)
       simp
       omega
end
def dA (a : Alloc) (k : Nat) : Res := mulR a.need (onS a.shares k)
def sumM : List Alloc → Nat → Res
 | [], _ => zeroR
 | a :: l, k => addR (dA a k) (sumM l k)
theorem sum_put {k : Int} {v : Alloc} {j : Nat} : ∀ {m : (List (Int × Alloc))}, (∀ p ∈ m, p.1 ≠ k) → sumM ((mset k v m).map (·.2)) j = addR (dA v j) (sumM (m.map (·.2)) j)
 | [], _ => rfl
 | q :: m, h => by
   simp only [mset]
   by_cases h1 : k < q.1
   · rw [decide_eq_true h1]; rfl
   · rw [decide_eq_false h1, decide_eq_false (h q (by simp))]
     simp only [cond_false, List.map_cons, sumM]
     rw [sum_put fun p hp => h p (by simp [hp]), addR_left]
theorem mdel_none {k : Int} {m : (List (Int × Alloc))} (h : ∀ p ∈ m, p.1 ≠ k) : mdel k m = m := by
 unfold mdel
 rw [List.filter_eq_self]
 intro p hp
 simp [h p hp]
theorem sum_del {k : Int} {v : Alloc} {j : Nat} : ∀ {m : (List (Int × Alloc))}, AscM m → mget k m = some v → sumM (m.map (·.2)) j = addR (dA v j) (sumM ((mdel k m).map (·.2)) j)
 | [], _, h => by cases h
 | q :: m, ha, h => by
   obtain ⟨g1, g2⟩ := List.pairwise_cons.1 ha
   simp only [mget] at h
   by_cases hq : q.1 = k
   · rw [decide_eq_true hq] at h
     cases h
     have e : mdel k (q :: m) = m := by
       have : mdel k (q :: m) = mdel k m := by simp [mdel, hq]
       rw [this]
       exact mdel_none fun p hp => by have := g1 p hp; omega
     rw [e]
     rfl
   · rw [decide_eq_false hq] at h
     have e : mdel k (q :: m) = q :: mdel k m := by simp [mdel, hq]
     rw [e]
     simp only [List.map_cons, sumM]
     rw [sum_del g2 h, addR_left]
structure AlOk (n : Int) (p : Int × Alloc) : Prop where
 key : p.2.job = p.1
 lo : 1 ≤ p.1
 hi : p.1 ≤ 1048576
 some : p.2.shares ≠ []
 few : p.2.shares.length ≤ 40
 sh : shB n (-1) p.2.shares = true
 need : okR p.2.need = true
structure LInv (nodes fr : List Res) (m : (List (Int × Alloc))) (B : Nat) : Prop where
 nn : nodes.length ≤ 16
 nok : ∀ x ∈ nodes, okR x = true
 len : fr.length = nodes.length
 ok : ∀ x ∈ fr, okR x = true
 asc : AscM m
 al : ∀ p ∈ m, AlOk (nodes.length : Int) p
 sum : ∀ k x, fr[k]? = some x → nodes[k]? = some (addR x (sumM (m.map (·.2)) k))
 cnt : m.length ≤ B
theorem AlOk.pos {n : Int} {p : Int × Alloc} (h : AlOk n p) (k : Nat) : posR (dA p.2 k) := mul_pos (okR_pos h.need) (onS_nonneg h.sh k)
theorem sum_pos {n : Int} {k : Nat} : ∀ {m : (List (Int × Alloc))}, (∀ p ∈ m, AlOk n p) → posR (sumM (m.map (·.2)) k)
 | [], _ => pos_zero
 | p :: m, h => add_pos ((h p (by simp)).pos k) (sum_pos fun q hq => h q (by simp [hq]))
def takeB (n : Int) (a : Alloc) : Bool := decide (1 ≤ a.job) && (decide (a.job ≤ 1048576) && (decide (a.shares ≠ []) && (shB n (-1) a.shares && okR a.need)))
def takeL (a : Alloc) (fr : List Res) (m : (List (Int × Alloc))) : Int × (List Res × (List (Int × Alloc))) :=
 cond (takeB (fr.length : Int) a) (cond (mget a.job m).isSome (31, (fr, m)) (cond ((opAll subR fr a.need a.shares).all okR) (0, (opAll subR fr a.need a.shares, mset a.job a m)) (20, (fr, m)))) (2, (fr, m))
def giveL (job : Int) (fr : List Res) (m : (List (Int × Alloc))) : Int × (List Res × (List (Int × Alloc))) := match mget job m with
 | none => (30, (fr, m))
 | some a => (0, (opAll addR fr a.need a.shares, mdel job m))
theorem takeB_ok {n : Int} {a : Alloc} (h : takeB n a = true) (hf : a.shares.length ≤ 40) : AlOk n (a.job, a) := by
 simp only [takeB, Bool.and_eq_true, decide_eq_true_eq] at h
 exact ⟨rfl, h.1, h.2.1, h.2.2.1, hf, h.2.2.2.1, h.2.2.2.2⟩
theorem inv_take {nodes fr : List Res} {m : (List (Int × Alloc))} {B : Nat} (I : LInv nodes fr m B) {a : Alloc} (hf : a.shares.length ≤ 40) : LInv nodes (takeL a fr m).2.1 (takeL a fr m).2.2 (B + 1) := by
 have same : LInv nodes fr m (B + 1) := { I with cnt := Nat.le_succ_of_le I.cnt }
 unfold takeL
 cases h1 : takeB (fr.length : Int) a with
 | false => exact same
 | true =>
   simp only [cond_true]
   cases h2 : mget a.job m with
   | some b => exact same
   | none =>
     simp only [Option.isSome_none, cond_false]
     cases h3 : (opAll subR fr a.need a.shares).all okR with
     | false => exact same
     | true =>
       simp only [cond_true]
       have hA := takeB_ok h1 hf
       rw [I.len] at hA
       refine ⟨I.nn, I.nok, by rw [opAll_len]; exact I.len, List.all_eq_true.1 h3, mset_ascM I.asc, fun p hp => ?_, fun k x hx => ?_, Nat.le_trans mset_len (Nat.succ_le_succ I.cnt)⟩
       · rcases mset_mem hp with rfl | hp
         · exact hA
         · exact I.al p hp
       · rw [opAll_get, Option.map_eq_some_iff] at hx
         obtain ⟨y, hy, rfl⟩ := hx
         rw [I.sum k y hy, sum_put (mgetN h2)]
         exact congrArg some (sub_add _ _ _).symm
theorem give_ok {nodes fr : List Res} {m : (List (Int × Alloc))} {B : Nat} (I : LInv nodes fr m B) {job : Int} {a : Alloc} (h : mget job m = some a) : (opAll addR fr a.need a.shares).all okR = true := by
 rw [List.all_eq_true]
 intro x hx
 obtain ⟨k, hk⟩ := List.getElem?_of_mem hx
 rw [opAll_get, Option.map_eq_some_iff] at hk
 obtain ⟨y, hy, rfl⟩ := hk
 have hn := I.sum k y hy
 rw [sum_del I.asc h] at hn
 have hA := I.al _ (mget_mem h)
 refine okR_le (I.nok _ (List.mem_of_getElem? hn)) (add_pos (okR_pos (I.ok y (List.mem_of_getElem? hy))) (hA.pos k)) (le_add (sum_pos fun p hp => I.al p ?_))
 exact (List.mem_filter.1 hp).1
theorem inv_give {nodes fr : List Res} {m : (List (Int × Alloc))} {B : Nat} (I : LInv nodes fr m B) {job : Int} : LInv nodes (giveL job fr m).2.1 (giveL job fr m).2.2 (B + 1) := by
 unfold giveL
 cases h : mget job m with
 | none => exact { I with cnt := Nat.le_succ_of_le I.cnt }
 | some a =>
   refine ⟨I.nn, I.nok, by rw [opAll_len]; exact I.len, List.all_eq_true.1 (give_ok I h), I.asc.filter _, fun p hp => I.al p (List.mem_filter.1 hp).1, fun k x hx => ?_, Nat.le_trans (List.length_filter_le _ _) (Nat.le_succ_of_le I.cnt)⟩
   rw [opAll_get, Option.map_eq_some_iff] at hx
   obtain ⟨y, hy, rfl⟩ := hx
   rw [I.sum k y hy, sum_del I.asc h]
   exact congrArg some (addR_assoc _ _ _).symm
theorem loop_run0 {σ ω : Type} {f : σ → (σ → Option ω) → Option ω} {r : Option ω} (n : Nat) (hn : n < LOOPS) (s : Nat → σ) (s0 : σ) (h0 : s0 = s 0) (hs : ∀ i, i < n → ∀ next, f (s i) next = next (s (i + 1))) (hend : ∀ next, f (s n) next = r) : LN LOOPS f s0 = r := by
 rw [h0]
 exact loop_run n hn s hs hend
theorem kOk_of {k : Int} (h1 : -9223372036854775808 ≤ k) (h2 : k ≤ 9223372036854775807) : kOk k = true := by
 simp only [kOk, Bool.and_eq_true, decide_eq_true_eq]
 exact ⟨h1, h2⟩
theorem p_own (a : Alloc) (h : a.shares.length ≤ 1000) : f47 a = some a := by
 unfold f47 F47
 rw [p_CloneS _ (by omega)]
 rfl
theorem p_TakeL {nodes fr : List Res} {m : (List (Int × Alloc))} {B : Nat} (I : LInv nodes fr m B) (hB : B ≤ 1000) {a : Alloc} (hf : a.shares.length ≤ 40) :
   f19_1 a fr m = some ((takeL a fr m).1, (((takeL a fr m).2.1, (), ()), (takeL a fr m).2.2, ())) := by
 have hml : maxLen = 9223372036854775807 := rfl
 have hm := I.cnt
 have hnn := I.nn
 have hfl := I.len
 unfold f19_1 F19_1 takeL takeB
 by_cases h1 : a.job < 1
 · rw [decide_eq_true h1, decide_eq_false (show ¬ 1 ≤ a.job by omega)]; rfl
 rw [decide_eq_false h1, decide_eq_true (show 1 ≤ a.job by omega)]
 simp only [cond_false, Bool.true_and]
 by_cases h2 : 1048576 < a.job
 · rw [decide_eq_true h2, decide_eq_false (show ¬ a.job ≤ 1048576 by omega)]; rfl
 rw [decide_eq_false h2, decide_eq_true (show a.job ≤ 1048576 by omega)]
 simp only [cond_false, Bool.true_and]
 by_cases h3 : a.shares = []
 · rw [decide_eq_true (show ((a.shares.length : Int) = 0) by rw [h3]; rfl), decide_eq_false (show ¬ a.shares ≠ [] from fun h => h h3)]; rfl
 have h3' : ¬ ((a.shares.length : Int) = 0) := fun h => h3 (List.eq_nil_of_length_eq_zero (by omega))
 rw [decide_eq_false h3', decide_eq_true h3]
 simp only [cond_false, Bool.true_and]
 rw [p_ShRight _ (by omega)]
 simp only [Option.bind_some]
 cases h4 : shB (fr.length : Int) (-1) a.shares with
 | false => rfl
 | true =>
   simp only [Bool.not_true, cond_false, Bool.true_and]
   rw [p_vecRight]
   simp only [Option.bind_some]
   rw [show resOk a.need = okR a.need from resOk_okR _]
   cases h5 : okR a.need with
   | false => rfl
   | true =>
     simp only [Bool.not_true, cond_false, cond_true]
     have hl : fM1 a.job m = some (((mget a.job m).getD zMap, ((mget a.job m).isSome, ())), (m, ())) := by
       show mlook1 zMap a.job m = _
       unfold mlook1
       rw [kOk_of (by omega) (by omega)]
       rfl
     rw [hl]
     simp only [Option.bind_some]
     cases h6 : (mget a.job m).isSome with
     | true => rfl
     | false =>
       simp only [cond_false]
       rw [p_Sub a fr m h4 (by omega) (by omega) h5 I.ok]
       simp only [Option.bind_some]
       cases h7 : (opAll subR fr a.need a.shares).all okR with
       | false => rfl
       | true =>
         simp only [cond_true, decide_true, Bool.not_true, cond_false]
         rw [p_own a (by omega)]
         simp only [Option.bind_some]
         have hp : fM2 a.job a m = some ((), (mset a.job a m, ())) := by
           show mput a.job a m = _
           unfold mput
           rw [kOk_of (by omega) (by omega), decide_eq_true (show m.length < 4294967296 by omega)]
           rfl
         rw [hp]
         rfl
theorem p_GiveL {nodes fr : List Res} {m : (List (Int × Alloc))} {B : Nat} (I : LInv nodes fr m B) (hB : B ≤ 1000) {job : Int} (hj : I64 job) :
   f18_1 job fr m = some ((giveL job fr m).1, (((giveL job fr m).2.1, (), ()), (giveL job fr m).2.2, ())) := by
 have hm := I.cnt
 have hnn := I.nn
 have hfl := I.len
 have hk : kOk job = true := kOk_of hj.1 hj.2
 unfold f18_1 F18_1 giveL
 have hl : fM1 job m = some (((mget job m).getD zMap, ((mget job m).isSome, ())), (m, ())) := by
   show mlook1 zMap job m = _
   unfold mlook1
   rw [hk]
   rfl
 rw [hl]
 simp only [Option.bind_some]
 cases h : mget job m with
 | none => rfl
 | some a =>
   simp only [Option.isSome_some, Bool.not_true, cond_false, Option.getD_some]
   have hA := I.al _ (mget_mem h)
   rw [p_Add a fr m (by rw [hfl]; exact hA.sh) (by have := hA.few; simp only at this; omega) (by omega) hA.need I.ok]
   simp only [Option.bind_some]
   rw [give_ok I h]
   simp only [cond_true, decide_true, Bool.not_true, cond_false]
   have hp : fM3 job m = some ((), (mdel job m, ())) := by
     show mdrop job m = _
     unfold mdrop
     rw [hk]
     rfl
   rw [hp]
   rfl
theorem p_FreeL (fr : List Res) (m : (List (Int × Alloc))) (h : fr.length ≤ 1000) : f20_1 fr m = some (fr, ((fr, (), ()), m, ())) := by
 unfold f20_1 F20_1
 rw [p_CloneR fr (by omega)]
 rfl
theorem all_loopL {nodes fr : List Res} {m : (List (Int × Alloc))} {B : Nat} (I : LInv nodes fr m B) (hB : B ≤ 1000) : LN LOOPS (ω := (List Alloc) × (((List Res) × (Unit × Unit)) × ((List (Int × Alloc)) × Unit))) (fun (s4 : ((Unit × (Unit × (Unit × (Int × Unit)))) × (((List Res) × (Unit × Unit)) × ((List (Int × Alloc)) × ((List Alloc) × ((List Int) × Unit)))))) nx5 => l21_0 fM0 f47 ((), (((), ()), (m, (m.map (·.1), ())))) nx5 s4.1.2.2.2.1 s4.2.1.1 s4.2.2.1 s4.2.2.2.1 s4.2.2.2.2.1) (((), (), (), 0, ()), ((fr, (), ()), m, [], m.map (·.1), ())) = some (m.map (·.2), ((fr, (), ()), m, ())) := by
 have hm := I.cnt
 have hkl : (m.map (·.1)).length = m.length := List.length_map ..
 exact loop_run0 (f := fun (s4 : ((Unit × (Unit × (Unit × (Int × Unit)))) × (((List Res) × (Unit × Unit)) × ((List (Int × Alloc)) × ((List Alloc) × ((List Int) × Unit)))))) nx5 => l21_0 fM0 f47 ((), (((), ()), (m, (m.map (·.1), ())))) nx5 s4.1.2.2.2.1 s4.2.1.1 s4.2.2.1 s4.2.2.2.1 s4.2.2.2.2.1)
   (r := some (m.map (·.2), ((fr, (), ()), m, ()))) m.length (small_lt (by omega)) (fun i => ((((), (), (), (i : Int), ()), ((fr, (), ()), m, (m.map (·.2)).take i, m.map (·.1), ())) : ((Unit × (Unit × (Unit × (Int × Unit)))) × (((List Res) × (Unit × Unit)) × ((List (Int × Alloc)) × ((List Alloc) × ((List Int) × Unit)))))))
   (((), (), (), 0, ()), ((fr, (), ()), m, [], m.map (·.1), ())) (by simp)
   (fun i hi next => by
     have hA := I.al m[i] (List.getElem_mem hi)
     have g1 : (m.map (·.1))[i]? = some m[i].1 := by simp [hi]
     have g2 : mget m[i].1 m = some m[i].2 := mget_of I.asc (List.getElem?_eq_getElem hi)
     have g3 : fM0 m[i].1 m = some (m[i].2, (m, ())) := by
       show mlook0 zMap m[i].1 m = _
       unfold mlook0
       rw [kOk_of (by have := hA.lo; omega) (by have := hA.hi; omega), g2]
       rfl
     have g4 : (m.map (·.2)).take i ++ [m[i].2] = (m.map (·.2)).take (i + 1) := by
       rw [List.take_add_one]
       simp [hi]
     have g5 : smallB (((m.map (·.2)).take i).length + 1) 64 = true := by
       simp only [smallB, Bool.and_eq_true, decide_eq_true_eq, List.length_take, List.length_map]
       omega
     simp only [l21_0]
     rw [decide_eq_true (show (i : Int) < ((m.map (·.1)).length : Int) by omega), decide_eq_true (show (0 : Int) ≤ (i : Int) by omega), show Int.toNat (i : Int) = i by omega, decide_eq_true (show i < (m.map (·.1)).length by omega), g1]
     simp only [cond_true, Option.bind_some]
     rw [g3]
     simp only [Option.bind_some]
     rw [p_own _ (by have := hA.few; omega)]
     simp only [Option.bind_some]
     rw [g5, g4, wi (by omega) (by omega)]
     rfl)
   (fun next => by
     simp only [l21_0]
     rw [decide_eq_false (by omega)]
     have : (m.map (·.2)).take m.length = m.map (·.2) := List.take_of_length_le (by simp)
     rw [this]
     rfl)
theorem p_AllL {nodes fr : List Res} {m : (List (Int × Alloc))} {B : Nat} (I : LInv nodes fr m B) (hB : B ≤ 1000) : f21 fr m = some (m.map (·.2), ((fr, (), ()), m, ())) := by
 have hm := I.cnt
 unfold f21 F21
 have h1 : f49 m = some (((), ()), (m, ((), ()), ())) := rfl
 rw [h1]
 simp only [Option.bind_some]
 have h2 : f48 m = some ((), (((), ()), (m, (m.map (·.1), ())))) := by
   show mkeys m = _
   unfold mkeys
   rw [decide_eq_true (show m.length ≤ 4294967296 by omega)]
   rfl
 rw [h2]
 simp only [Option.bind_some]
 have hkl : (m.map (·.1)).length = m.length := List.length_map ..
 exact all_loopL I hB
end NM
end Go.Proofs.Ytfelhbeiegppgaa
end
section
namespace Go.Proofs.Ytfelhbeiegppgaa
namespace NM
open AM
theorem awake14 : f13 = some true := by kernel_rfl
def SmallR (b : Int) (a : Res) : Prop := posR a ∧ a.cpu ≤ b ∧ a.mem ≤ b ∧ a.gpu ≤ b ∧ a.lic ≤ b
theorem r_AddR {b : Int} (hb : b ≤ 1000000000000000) {x y : Res} (hx : SmallR b x) (hy : SmallR b y) : f22 x y = some (addR x y) := by
 unfold f22 F22 addR
 obtain ⟨⟨a1, a2, a3, a4⟩, a5, a6, a7, a8⟩ := hx
 obtain ⟨⟨b1, b2, b3, b4⟩, b5, b6, b7, b8⟩ := hy
 rw [wi (by omega) (by omega), wi (by omega) (by omega), wi (by omega) (by omega), wi (by omega) (by omega)]
theorem mul_small {x : Res} {n : Int} (hx : okR x = true) (h0 : 0 ≤ n) (hn : n ≤ 64) : SmallR 67108864 (mulR x n) := by
 have hp := mul_pos (okR_pos hx) h0
 rw [okR_iff] at hx
 have key : ∀ a : Int, 0 ≤ a → a ≤ 1048576 → a * n ≤ 67108864 := fun a h1 h2 => Int.le_trans (Int.mul_le_mul h2 hn h0 (by omega)) (by omega)
 exact ⟨hp, key _ hx.1.1 hx.1.2, key _ hx.2.1.1 hx.2.1.2, key _ hx.2.2.1.1 hx.2.2.1.2, key _ hx.2.2.2.1 hx.2.2.2.2⟩
theorem SmallR.more {a b : Int} {x : Res} (h : SmallR a x) (hab : a ≤ b) : SmallR b x := by unfold SmallR at *; exact ⟨h.1, by omega, by omega, by omega, by omega⟩
theorem SmallR.add {a b : Int} {x y : Res} (h : SmallR a x) (k : SmallR b y) : SmallR (a + b) (addR x y) := by
 unfold SmallR posR addR at *
 simp only
 omega
theorem ok_small {x : Res} (h : okR x = true) : SmallR 1048576 x := by
 have := okR_pos h
 rw [okR_iff] at h
 exact ⟨this, h.1.2, h.2.1.2, h.2.2.1.2, h.2.2.2.2⟩
theorem mulR_succ (x : Res) (n : Int) : addR (mulR x n) x = mulR x (n + 1) := by
 unfold addR mulR
 simp only [Res.mk.injEq, Int.mul_add, Int.mul_one, and_self]
theorem r_Times {need : Res} {n : Int} (hn : okR need = true) (h0 : 0 ≤ n) (h1 : n ≤ 64) : f23 need n = some (mulR need n) := by
 unfold f23 F23
 obtain ⟨N, rfl⟩ : ∃ N : Nat, n = (N : Int) := ⟨n.toNat, by omega⟩
 refine loop_run0 (f := fun (s2 : ((Unit × (Unit × (Unit × (Int × Unit)))) × (Res × (Res × (Res × Unit))))) nx3 => l23_0 f22 (N : Int) nx3 s2.1.2.2.2.1 s2.2.1 s2.2.2.1 s2.2.2.2.1) N (small_lt (by omega))
   (fun i => ((((), (), (), (i : Int), ()), (need, Res.mk 0 0 0 0, mulR need (i : Int), ())) : ((Unit × (Unit × (Unit × (Int × Unit)))) × (Res × (Res × (Res × Unit)))))) _ (by simp [mulR]) (fun i hi next => ?_) (fun next => ?_)
 · simp only [l23_0]
   rw [decide_eq_true (show (i : Int) < (N : Int) by omega), cond_true, r_AddR (b := 67108864) (by omega) (mul_small hn (by omega) (by omega)) ((ok_small hn).more (by omega)), wi (by omega) (by omega)]
   simp only [Option.bind_some, mulR_succ]
   rfl
 · simp only [l23_0]
   rw [decide_eq_false (by omega)]
   rfl
def sumOn (k : Int) : List Share → Int → Int
 | [], n => n
 | s :: l, n => sumOn k l (if s.node = k then n + s.many else n)
theorem sumOn_eq {n : Int} {k : Nat} : ∀ {l : List Share} {last : Int} {c : Int}, shB n last l = true → sumOn (k : Int) l c = c + onS l k
 | [], _, c, _ => by simp [sumOn, onS]
 | s :: l, last, c, h => by
   obtain ⟨h1, h2, h3, h4, h5⟩ := shB_cons h
   simp only [sumOn, onS]
   by_cases hk : s.node = (k : Int)
   · rw [if_pos hk, if_pos hk, sumOn_eq h5, onS_later h5 (by omega), Int.add_zero]
   · rw [if_neg hk, if_neg hk, sumOn_eq h5]
theorem r_On {n : Int} {last : Int} {l : List Share} (h : shB n last l = true) (hl : l.length ≤ 1000) (k : Nat) : f24 l (k : Int) = some (onS l k) := by
 have hml : maxLen = 9223372036854775807 := rfl
 unfold f24 F24
 have key := list_loopI (f := fun (s2 : ((Int × (Int × Unit)) × Unit)) nx3 => l24_0 l (k : Int) nx3 s2.1.1 s2.1.2.1) l (fun c z => (((c, z, ()), ()) : ((Int × (Int × Unit)) × Unit)))
   (fun c z => 0 ≤ c ∧ c ≤ 64 * z) (fun c (s : Share) => .inl (if s.node = (k : Int) then c + s.many else c)) (fun c => some c) (by omega)
   (fun b next hb => by simp only [l24_0, decide_eq_false (Int.lt_irrefl _), cond_false])
   (fun c z s next hb h0 h1 h2 h3 => by
     have hm := shB_mem h s (List.mem_of_getElem? h2)
     simp only [l24_0]
     rw [decide_eq_true h1, decide_eq_true h0, h2]
     simp only [cond_true, Option.bind_some]
     by_cases hk : s.node = (k : Int)
     · rw [decide_eq_true hk, if_pos hk, h3, wi (by omega) (by omega)]
       exact ⟨by omega, rfl⟩
     · rw [decide_eq_false hk, if_neg hk, h3]
       exact ⟨by omega, rfl⟩) 0 (by omega)
 refine key.trans ?_
 have e : ∀ (l : List Share) (c : Int), runL (ω := Int) (fun c (s : Share) => .inl (if s.node = (k : Int) then c + s.many else c)) (fun c => some c) l c = some (sumOn (k : Int) l c) := by
   intro l
   induction l with
   | nil => intro c; rfl
   | cons s l ih => intro c; simp only [runL, sumOn]; exact ih _
 rw [e, sumOn_eq h, Int.zero_add]
theorem on_le {n : Int} {last : Int} {l : List Share} (h : shB n last l = true) (k : Nat) : onS l k ≤ 64 := by
 rcases Classical.em (∃ s ∈ l, s.node = (k : Int)) with ⟨s, hs, hk⟩ | hno
 · rw [onS_mem h s hs k hk]
   exact (shB_mem h s hs).2.2.2
 · rw [onS_none l k fun s hs he => hno ⟨s, hs, he⟩]
   omega
theorem AlOk.small {n : Int} {p : Int × Alloc} (h : AlOk n p) (k : Nat) : SmallR 67108864 (dA p.2 k) := mul_small h.need (onS_nonneg h.sh k) (on_le h.sh k)
theorem r_d {n : Int} {p : Int × Alloc} (h : AlOk n p) (k : Nat) : f24 p.2.shares (k : Int) = some (onS p.2.shares k) ∧ f23 p.2.need (onS p.2.shares k) = some (dA p.2 k) :=
 ⟨r_On h.sh (by have := h.few; omega) k, r_Times h.need (onS_nonneg h.sh k) (on_le h.sh k)⟩
def accM (x : Res) (k : Nat) : List Alloc → Res
 | [] => x
 | a :: l => accM (addR x (dA a k)) k l
theorem accM_eq {k : Nat} : ∀ (l : List Alloc) (x : Res), accM x k l = addR x (sumM l k)
 | [], x => by simp [accM, sumM, addR, zeroR]
 | a :: l, x => by simp only [accM, sumM]; rw [accM_eq l, addR_assoc]
theorem accM_take {k : Nat} : ∀ (l : List Alloc) (x : Res) (i : Nat) (a : Alloc), l[i]? = some a → accM x k (l.take (i + 1)) = addR (accM x k (l.take i)) (dA a k)
 | [], x, i, a, h => by simp at h
 | b :: l, x, 0, a, h => by simp at h; subst h; simp [accM]
 | b :: l, x, i + 1, a, h => by
   simp at h
   simp only [List.take_succ_cons, accM]
   exact accM_take l _ i a h
theorem accM_small {n : Int} {k : Nat} {b : Int} : ∀ (m : List (Int × Alloc)) (x : Res), (∀ p ∈ m, AlOk n p) → SmallR b x → SmallR (b + 67108864 * m.length) (accM x k (m.map (·.2)))
 | [], x, _, h => by simpa [accM] using h
 | p :: m, x, h, hx => by
   simp only [List.map_cons, accM]
   have := accM_small (k := k) m (addR x (dA p.2 k)) (fun q hq => h q (by simp [hq])) (hx.add ((h p (by simp)).small k))
   refine this.more ?_
   simp only [List.length_cons]
   omega
def fewD (l : List (Bool × Alloc)) : Bool := decide (l.length ≤ 30) && l.all fun x => decide (x.2.shares.length ≤ 40)
theorem p_Few14 (l : List (Bool × Alloc)) : f15 l = some (fewD l) := by
 have hml : maxLen = 9223372036854775807 := rfl
 unfold f15 F15 fewD
 by_cases h : 30 < (l.length : Int)
 · rw [decide_eq_true h, decide_eq_false (by omega)]; rfl
 · rw [decide_eq_false h, decide_eq_true (show l.length ≤ 30 by omega)]
   simp only [cond_false, Bool.true_and]
   rw [all_loop (f := fun (s1 : ((Int × Unit) × Unit)) nx2 => l15_0 l nx2 s1.1.1) l (fun z => (((z, ()), ()) : ((Int × Unit) × Unit))) (fun x => decide (x.2.shares.length ≤ 40)) true (by omega)]
   · simp
   · intro next
     simp [l15_0]
   · intro z x next h0 h1 h2 h3
     simp only [l15_0]
     rw [decide_eq_true h1, decide_eq_true h0, h2, h3]
     simp only [cond_true, Option.bind_some]
     by_cases hx : 40 < (x.2.shares.length : Int)
     · rw [decide_eq_true hx, decide_eq_false (show ¬ x.2.shares.length ≤ 40 by omega)]; rfl
     · rw [decide_eq_false hx, decide_eq_true (show x.2.shares.length ≤ 40 by omega)]; rfl
theorem specOk_nodes {s : Spec} (h : specOk s = true) : s.nodes.length ≤ 16 ∧ ∀ x ∈ s.nodes, okR x = true := by
 have hn : nodesOk s = true := by
   simp only [specOk, Bool.and_eq_true] at h
   exact h.1
 simp only [nodesOk, Bool.and_eq_true, decide_eq_true_eq, List.all_eq_true] at hn
 exact ⟨hn.1.2, fun x hx => by rw [← resOk_okR]; exact hn.2 x hx⟩
theorem inv_new {s : Spec} (h : specOk s = true) : LInv s.nodes s.nodes [] 0 := by
 obtain ⟨h1, h2⟩ := specOk_nodes h
 refine ⟨h1, h2, rfl, h2, List.Pairwise.nil, fun p hp => by simp at hp, fun k x hx => ?_, Nat.le_refl _⟩
 rw [hx]
 simp [sumM, addR, zeroR]
theorem p_NewL (s : Spec) (hs : Rng.P s) (h : specOk s = true) : f17 s = some (.inr (((), 0, ()), ((s.nodes, (), ()), [], ()))) := by
 obtain ⟨h1, h2⟩ := specOk_nodes h
 unfold f17 F17
 rw [p_Right s hs, h]
 simp only [Option.bind_some, Bool.not_true, cond_false]
 rw [p_CloneR _ (by omega)]
 rfl
theorem p_NewN (s : Spec) (hs : Rng.P s) (h : specOk s = false) : f17 s = some (.inl ((), 2, ())) := by
 unfold f17 F17
 rw [p_Right s hs, h]
 rfl
end NM
end Go.Proofs.Ytfelhbeiegppgaa
end
