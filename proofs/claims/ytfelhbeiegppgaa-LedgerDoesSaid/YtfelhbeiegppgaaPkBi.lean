/-
  What the proof of LedgerDoes leans on, part 9. (Many texts laid together by program.)
-/
import Derived.Test.YtfelhbeiegppgaaPkBh
import Derived.LoopN
import Derived.ScopeJumps
set_option linter.unnecessarySimpa false
set_option linter.unusedSimpArgs false
set_option linter.unusedVariables false
section
namespace Go.Proofs.Ytfelhbeiegppgaa
namespace AM
def maskOf (acc : List Nat) (o : Oper) : Nat := o.after.toList.foldl (fun s e => if Region.binds .any e then s ||| 2 ^ e.on ||| acc.getD e.on 0 else s) 0
def masks : List Oper → List Nat → List Nat
 | [], acc => acc
 | o :: os, acc => masks os (acc ++ [maskOf acc o])
def edgesB (ops : List Oper) (i : Nat) : Bool := match ops[i]? with | some o => o.after.toList.all (fun e => !Region.binds .any e || decide (e.on < i)) | none => false
def chkDraw (P : Program) (ops : Array Oper) (al : List AOper) : Bool :=
 all2 (chkOper P ops) ops.toList al && (List.range ops.toList.length).all (edgesB ops.toList) &&
 (List.range ops.toList.length).all fun j => (List.range j).all fun i => ((masks ops.toList []).getD j 0).testBit i || pairOK (al.getD i default) (al.getD j default)
section
variable {P : Program} {K : Oracle} {base : Nat}
theorem maskOf_bit {acc : List Nat} {o : Oper} {j : Nat} (h : (maskOf acc o).testBit j = true) : ∃ e, e ∈ o.after.toList ∧ Region.binds .any e = true ∧ (j = e.on ∨ (acc.getD e.on 0).testBit j = true) := by
 unfold maskOf at h
 have key : ∀ (l : List Edge) (s : Nat), (l.foldl (fun s e => if Region.binds .any e then s ||| 2 ^ e.on ||| acc.getD e.on 0 else s) s).testBit j = true → s.testBit j = true ∨ ∃ e, e ∈ l ∧ Region.binds .any e = true ∧ (j = e.on ∨ (acc.getD e.on 0).testBit j = true) := by
   intro l
   induction l with
   | nil => intro s h; exact .inl h
   | cons e l ih =>
     intro s h
     simp only [List.foldl_cons] at h
     rcases ih _ h with h1 | ⟨e', he', h1⟩
     · split at h1
       · rename_i hb
         rw [Nat.testBit_or, Nat.testBit_or, Nat.testBit_two_pow] at h1
         simp only [Bool.or_eq_true, decide_eq_true_eq] at h1
         rcases h1 with (h1 | h1) | h1
         · exact .inl h1
         · exact .inr ⟨e, by simp, hb, .inl h1.symm⟩
         · exact .inr ⟨e, by simp, hb, .inr h1⟩
       · exact .inl h1
     · exact .inr ⟨e', by simp [he'], h1⟩
 rcases key _ _ h with h1 | h1
 · simp at h1
 · exact h1
theorem masks_inv {L : Nat → Prop} : ∀ (os : List Oper) (acc : List Nat), (∀ (k m : Nat), acc[k]? = some m → L k → ∀ j, m.testBit j = true → L j) →
   (∀ (i : Nat) (o : Oper), os[i]? = some o → L (acc.length + i) → ∀ e, e ∈ o.after.toList → Region.binds .any e = true → L e.on) → ∀ (k m : Nat), (masks os acc)[k]? = some m → L k → ∀ j, m.testBit j = true → L j
 | [], acc, h, _ => h
 | o :: os, acc, h, hc => by
   refine masks_inv os (acc ++ [maskOf acc o]) (fun k m hk hL j hj => ?_) (fun i o' hi hL e he hb => hc (i + 1) o' (by simpa using hi) (by simp at hL; rwa [show acc.length + (i + 1) = acc.length + 1 + i by omega]) e he hb)
   rw [List.getElem?_append] at hk
   split at hk
   · exact h k m hk hL j hj
   · rename_i hlt
     have hk0 : k = acc.length := by
       have := (List.getElem?_eq_some_iff.1 hk).1
       simp at this
       omega
     subst hk0
     simp at hk
     subst hk
     obtain ⟨e, he, hb, hor⟩ := maskOf_bit hj
     have hLe := hc 0 o (by simp) (by simpa using hL) e he hb
     rcases hor with rfl | hor
     · exact hLe
     · cases hacc : acc[e.on]? with
       | none => rw [List.getD_eq_getElem?_getD, hacc] at hor; simp at hor
       | some m' => rw [List.getD_eq_getElem?_getD, hacc] at hor; exact h e.on m' hacc hLe j hor
def runIdx (K : Oracle) (base : Nat) (al : List AOper) : List Nat → St → Option St
 | [], st => some st
 | i :: is, st => (runOp K base (al.getD i default) st).bind (runIdx K base al is)
theorem runIdx_range (al : List AOper) (st : St) : runIdx K base al (List.range al.length) st = runOps K base al st := by
 have key : ∀ (l : List AOper) (k : Nat) (st : St), (∀ j, l[j]? = al[k + j]?) → runIdx K base al (List.range' k l.length) st = runOps K base l st := by
   intro l
   induction l with
   | nil => intro k st _; rfl
   | cons o l ih =>
     intro k st h
     have h0 : al[k]? = some o := by simpa using (h 0).symm
     simp only [List.length_cons, List.range'_succ, runIdx, runOps, List.getD_eq_getElem?_getD, h0, Option.getD_some]
     congr 1
     funext s
     exact ih (k + 1) s (fun j => by have := h (j + 1); simpa [Nat.add_assoc, Nat.add_comm 1 j] using this)
 rw [List.range_eq_range']
 exact key al 0 st (by simp)
theorem front {al : List AOper} {i : Nat} (R2 : List Nat) : ∀ (R1 : List Nat) (st st' : St), (∀ j, j ∈ R1 → pairOK (al.getD j default) (al.getD i default) = true) → runIdx K base al (R1 ++ i :: R2) st = some st' →
   ∃ s1, runOp K base (al.getD i default) st = some s1 ∧ runIdx K base al (R1 ++ R2) s1 = some st'
 | [], st, st', _, h => by
   simp only [List.nil_append, runIdx, Option.bind_eq_some_iff] at h
   exact h
 | j :: R1, st, st', hp, h => by
   simp only [List.cons_append, runIdx, Option.bind_eq_some_iff] at h
   obtain ⟨s0, h0, h1⟩ := h
   obtain ⟨s1, h2, h3⟩ := front R2 R1 s0 st' (fun k hk => hp k (by simp [hk])) h1
   obtain ⟨t1, h4, h5⟩ := swap (hp j (by simp)) h0 h2
   refine ⟨t1, h4, ?_⟩
   simp only [List.cons_append, runIdx, h5, Option.bind_some]
   exact h3
def left (n : Nat) (listed : Array Bool) : List Nat := (List.range n).filter fun i => !listed.getD i true
theorem range_split {n i : Nat} (h : i < n) : List.range n = List.range i ++ i :: List.range' (i + 1) (n - i - 1) := by
 rw [List.range_eq_range', List.range_eq_range', show n = i + (n - i - 1 + 1) by omega, ← List.range'_append (s := 0) (m := i) (n := n - i - 1 + 1) (step := 1)]
 simp only [Nat.zero_add, Nat.one_mul, List.range'_succ]
 congr 3
 omega
theorem left_take {n i : Nat} {listed : Array Bool} (hs : listed.size = n) (hi : i < n) (hl : listed.getD i true = false) :
   ∃ R1 R2, left n listed = R1 ++ i :: R2 ∧ left n (listed.setIfInBounds i true) = R1 ++ R2 ∧ ∀ j, j ∈ R1 → j < i ∧ listed.getD j true = false := by
 refine ⟨(List.range i).filter fun j => !listed.getD j true, (List.range' (i + 1) (n - i - 1)).filter fun j => !listed.getD j true, ?_, ?_, ?_⟩
 · unfold left
   rw [range_split hi, List.filter_append, List.filter_cons, if_pos (by simp [hl])]
 · unfold left
   have hne : ∀ j, j ≠ i → (listed.setIfInBounds i true).getD j true = listed.getD j true := fun j hj => by
     simp [Array.getD_eq_getD_getElem?, Array.getElem?_setIfInBounds, Ne.symm hj]
   have heq : (listed.setIfInBounds i true).getD i true = true := by
     simp [Array.getD_eq_getD_getElem?, Array.getElem?_setIfInBounds, hs, hi]
   rw [range_split hi, List.filter_append, List.filter_cons, if_neg (by simp [heq])]
   congr 1
   · exact List.filter_congr fun j hj => by rw [hne j (by simp at hj; omega)]
   · exact List.filter_congr fun j hj => by rw [hne j (by simp [List.mem_range'] at hj; omega)]
 · intro j hj
   simp only [List.mem_filter, List.mem_range, Bool.not_eq_true'] at hj
   exact hj
theorem any_sound (hK : Valid P K) {ops : Array Oper} {al : List AOper} (hc : chkDraw P ops al = true) {Q : Exit → Act → World → Prop} {st' : St} : ∀ (fuel : Nat) (listed : Array Bool) (st : St) (a : Act) (w : World) (μ : Nat → Loc) (S : Nat → Prop),
   listed.size = ops.size → (left ops.size listed).length ≤ fuel → (∀ (i : Nat) (o : Oper), ops[i]? = some o → listed.getD i true = true → ∀ e, e ∈ o.after.toList → Region.binds .any e = true → listed.getD e.on false = true) → Rep μ w S st a →
   runIdx K base al (left ops.size listed) st = some st' → (∀ a' w' μ1 S1, Rep μ1 w' S1 st' a' → Ext μ S w μ1 S1 w' → Up μ μ1 → st'.k = st.k → Q .normal a' w') → wpAny P .any ops Q fuel listed a w := by
 unfold chkDraw at hc
 simp only [Bool.and_eq_true] at hc
 obtain ⟨⟨hops, hedges⟩, hpairs⟩ := hc
 have hlen := all2_length hops
 have hsz : ops.toList.length = ops.size := by simp
 -- nothing ready: nothing left
 have stuck_ : ∀ listed : Array Bool, listed.size = ops.size → Region.ready .any ops listed = [] → left ops.size listed = [] := by
   intro listed hls hr
   cases hleft : left ops.size listed with
   | nil => rfl
   | cons i R =>
     exfalso
     have hi : i ∈ left ops.size listed := by rw [hleft]; simp
     have hmin : ∀ j, j < i → j < ops.size → listed.getD j true = true := by
       intro j hj hjn
       cases hjl : listed.getD j true with
       | true => rfl
       | false =>
         exfalso
         obtain ⟨R1, R2, h1, _, h3⟩ := left_take hls hjn hjl
         have hsorted : ∀ (n : Nat) (p : Nat → Bool), ((List.range n).filter p).Pairwise (· < ·) := fun n p => List.Pairwise.filter p List.pairwise_lt_range
         have := hsorted ops.size (fun i => !listed.getD i true)
         have hleft' : (List.range ops.size).filter (fun i => !listed.getD i true) = i :: R := hleft
         rw [hleft'] at this
         have hj' : j ∈ i :: R := by rw [← hleft', show (List.range ops.size).filter (fun i => !listed.getD i true) = left ops.size listed from rfl, h1]; simp
         rcases List.mem_cons.1 hj' with h4 | h4
         · omega
         · have := (List.pairwise_cons.1 this).1 j h4; omega
     have hin : i < ops.size ∧ listed.getD i true = false := by simpa [left] using hi
     have hoi : ops[i]? = some ops[i] := Array.getElem?_eq_getElem hin.1
     have hed := List.all_eq_true.1 hedges i (by simp; exact hin.1)
     unfold edgesB at hed
     rw [show ops.toList[i]? = some ops[i] by simpa using hoi] at hed
     simp only [List.all_eq_true, Bool.or_eq_true, Bool.not_eq_true', decide_eq_true_eq] at hed
     have : i ∈ Region.ready .any ops listed := by
       unfold Region.ready
       simp only [List.mem_filter, List.mem_range]
       refine ⟨hin.1, ?_⟩
       rw [hoi]
       simp only [hin.2, Bool.not_false, Bool.true_and, Option.map_some, Option.getD_some]
       rw [← Array.all_toList, List.all_eq_true]
       intro e he
       rcases hed e he with h1 | h1
       · simp [h1]
       · have h5 := hmin e.on h1 (by omega)
         have h6 : e.on < listed.size := by omega
         have : listed.getD e.on false = true := by
           rw [Array.getD_eq_getD_getElem?, Array.getElem?_eq_getElem h6] at h5 ⊢
           simpa using h5
         simp [this]
     rw [hr] at this
     cases this
 intro fuel
 induction fuel with
 | zero =>
   intro listed st a w μ S hls hfuel hclosed rep hrun hq
   have hnil : left ops.size listed = [] := List.eq_nil_of_length_eq_zero (by omega)
   rw [hnil] at hrun
   simp only [runIdx, Option.some.injEq] at hrun
   subst hrun
   refine ⟨?_, hq a w μ S rep (Ext.refl _ _ _) (Up.refl _) rfl⟩
   unfold Region.ready
   rw [List.filter_eq_nil_iff]
   intro i hi
   have hi' : i < ops.size := by simpa using hi
   have : listed.getD i true = true := by
     cases h : listed.getD i true with
     | true => rfl
     | false =>
       have : i ∈ left ops.size listed := by unfold left; simp only [List.mem_filter, List.mem_range]; exact ⟨hi', by rw [h]; rfl⟩
       rw [hnil] at this
       cases this
   simp [this]
 | succ fuel ih =>
   intro listed st a w μ S hls hfuel hclosed rep hrun hq
   refine ⟨fun hr => ?_, fun i hi => ?_⟩
   · rw [stuck_ listed hls hr] at hrun
     simp only [runIdx, Option.some.injEq] at hrun
     subst hrun
     exact hq a w μ S rep (Ext.refl _ _ _) (Up.refl _) rfl
   · unfold Region.ready at hi
     simp only [List.mem_filter, List.mem_range] at hi
     obtain ⟨hin, hi2⟩ := hi
     have hoi : ops[i]? = some ops[i] := Array.getElem?_eq_getElem hin
     rw [hoi] at hi2
     simp only [Option.map_some, Option.getD_some, Bool.and_eq_true, Bool.not_eq_true'] at hi2
     obtain ⟨hun, hed⟩ := hi2
     rw [← Array.all_toList, List.all_eq_true] at hed
     obtain ⟨R1, R2, h1, h2, h3⟩ := left_take hls hin hun
     rw [h1] at hrun
     have hali : al[i]? = some (al.getD i default) := by
       have : i < al.length := by rw [← hlen, hsz]; exact hin
       rw [List.getD_eq_getElem?_getD, List.getElem?_eq_getElem this]
       rfl
     have hpr : ∀ j, j ∈ R1 → pairOK (al.getD j default) (al.getD i default) = true := fun j hj => by
       obtain ⟨hji, hjl⟩ := h3 j hj
       have h4 := List.all_eq_true.1 (List.all_eq_true.1 hpairs i (by rw [hsz]; simpa using hin)) j (by simpa using hji)
       simp only [Bool.or_eq_true] at h4
       rcases h4 with h4 | h4
       · exfalso
         -- j comes before i: then it is listed
         have hm : ∃ m, (masks ops.toList [])[i]? = some m ∧ m.testBit j = true := by
           cases hmi : (masks ops.toList [])[i]? with
           | none => rw [List.getD_eq_getElem?_getD, hmi] at h4; simp at h4
           | some m => rw [List.getD_eq_getElem?_getD, hmi] at h4; exact ⟨m, rfl, h4⟩
         obtain ⟨m, hm1, hm2⟩ := hm
         have hL : listed.getD j false = true := by
           have := masks_inv (L := fun k => k = i ∨ listed.getD k false = true) ops.toList [] (by simp) (fun k o hk hLk e he hb => by
             simp only [List.length_nil, Nat.zero_add] at hLk
             have hk' : ops[k]? = some o := by simpa using hk
             rcases hLk with rfl | hLk
             · rw [hoi] at hk'
               cases hk'
               have := hed e he
               simp only [Bool.or_eq_true, Bool.not_eq_true'] at this
               rcases this with h5 | h5
               · rw [hb] at h5; cases h5
               · exact .inr h5
             · have hlt : k < listed.size := by
                 rcases Nat.lt_or_ge k listed.size with h | h
                 · exact h
                 · rw [Array.getD_eq_getD_getElem?, Array.getElem?_eq_none h] at hLk; cases hLk
               refine .inr (hclosed k o hk' ?_ e he hb)
               rw [Array.getD_eq_getD_getElem?, Array.getElem?_eq_getElem hlt] at hLk ⊢
               simpa using hLk) i m hm1 (.inl rfl) j hm2
           rcases this with h5 | h5
           · omega
           · exact h5
         have hlt : j < listed.size := by omega
         rw [Array.getD_eq_getD_getElem?, Array.getElem?_eq_getElem hlt] at hL hjl
         simp at hL hjl
         rw [hL] at hjl
         cases hjl
       · exact h4
     obtain ⟨s1, hs1, hs2⟩ := front R2 R1 st st' hpr hrun
     have hco : chkOper P ops ops[i] (al.getD i default) = true := all2_get hops i _ _ (by simpa using hoi) hali
     have hstep := runOp_sound hK (ops := ops) rep hco hs1 (wpAny P .any ops Q fuel (listed.setIfInBounds i true)) Q (fun a1 w1 μ1 S1 r1 x1 u1 hk1 => by
       refine ih (listed.setIfInBounds i true) s1 a1 w1 μ1 S1 (by simpa using hls) ?_ ?_ r1 (by rw [h2]; exact hs2) (fun a2 w2 μ2 S2 r2 x2 u2 hk2 => hq a2 w2 μ2 S2 r2 (x1.trans x2) (u1.trans u2) (hk2.trans hk1))
       · rw [h2]
         rw [h1] at hfuel
         simp at hfuel ⊢
         omega
       · intro k o hk hlk e he hb
         have hset : ∀ d, listed.getD e.on false = true → (listed.setIfInBounds i true).getD e.on d = true := fun d h5 => by
           have hlt : e.on < listed.size := by
             rcases Nat.lt_or_ge e.on listed.size with h | h
             · exact h
             · rw [Array.getD_eq_getD_getElem?, Array.getElem?_eq_none h] at h5; cases h5
           rw [Array.getD_eq_getD_getElem?] at h5 ⊢
           rw [Array.getElem?_setIfInBounds]
           split
           · rename_i hie; subst hie; simp [hlt]
           · rw [Array.getElem?_eq_getElem hlt] at h5 ⊢; simpa using h5
         by_cases hki : k = i
         · subst hki
           rw [hoi] at hk
           cases hk
           have := hed e he
           simp only [Bool.or_eq_true, Bool.not_eq_true'] at this
           rcases this with h5 | h5
           · rw [hb] at h5; cases h5
           · exact hset false h5
         · refine hset false (hclosed k o hk ?_ e he hb)
           rw [Array.getD_eq_getD_getElem?, Array.getElem?_setIfInBounds, if_neg (fun e => hki e.symm)] at hlk
           rw [Array.getD_eq_getD_getElem?]
           exact hlk)
     unfold wpOp
     rw [hoi]
     simp only
     split
     · rename_i hw; rw [if_pos hw] at hstep; exact .inl hstep
     · rename_i hw; rw [if_neg hw] at hstep; exact hstep
theorem draw_sound (hK : Valid P K) (hmix : P.follows .mixedOrders = true) {id : Nat} {ops : Array Oper} {al : List AOper} (hc : chkDraw P ops al = true) {Q : Exit → Act → World → Prop} {st st' : St} {a : Act} {w : World} {μ : Nat → Loc} {S : Nat → Prop}
   (rep : Rep μ w S st a) (h : runOps K base al st = some st') (hq : ∀ a' w' μ1 S1, Rep μ1 w' S1 st' a' → Ext μ S w μ1 S1 w' → Up μ μ1 → st'.k = st.k → Q .normal a' w') : (Code.region id ops true).wp P Q a w := by
 refine wp_region_any hmix ?_
 have hleft : left ops.size (Array.replicate ops.size false) = List.range ops.size := by
   unfold left
   rw [List.filter_eq_self]
   intro i hi
   have hi' : i < ops.size := by simpa using hi
   simp [Array.getD_eq_getD_getElem?, hi']
 have hlen : al.length = ops.size := by
   unfold chkDraw at hc
   simp only [Bool.and_eq_true] at hc
   have := all2_length hc.1.1
   simpa using this.symm
 have rep' : Rep μ w.drew S st a := ⟨⟨rep.tmps.size, fun t v hv => (rep.tmps.vr t v hv).heap rfl, rep.tmps.defers⟩, rep.heap.heap rfl⟩
 refine any_sound (base := base) (st' := st') hK hc ops.size (Array.replicate ops.size false) st a w.drew μ S (by simp) (by rw [hleft]; simp) (fun i o hi hl => ?_) rep' (by rw [hleft, ← hlen, runIdx_range]; exact h) (fun a' w' μ1 S1 r1 x1 u1 hk => hq a' w' μ1 S1 r1 ((Ext.heap (w := w) (w' := w.drew) rfl rfl rfl rfl).trans x1) u1 hk)
 exfalso
 have hi' : i < ops.size := (Array.getElem?_eq_some_iff.1 hi).1
 simp [Array.getD_eq_getD_getElem?, hi'] at hl
end
end AM
end Go.Proofs.Ytfelhbeiegppgaa
end
section
namespace Go.Proofs.Ytfelhbeiegppgaa
namespace AM
def chkCode (P : Program) : Code → ACode → Bool
 | .skip, .skip => true
 | .region _ ops false, .region _ al => all2 (chkOper P ops) ops.toList al
 | .region _ ops true, .region _ al => chkDraw P ops al
 | .seq a b, .seq a' b' => chkCode P a a' && chkCode P b b'
 | .cond c a b, .cond c' a' b' => chkOpd c c' && chkCode P a a' && chkCode P b b'
 | .block id c, .block id' c' => id == id' && chkCode P c c'
 | .loop c, .loop _ c' => chkCode P c c'
 | .exit id, .exit id' => id == id'
 | .ret, .ret => true
 | .label _, .label => true
 | .goto l, .goto l' => l == l'
 | .scope c, .scope l _ rest body => chkCode P c body && (match findLabel c l with | some r => chkCode' P r rest | none => false)
 | _, _ => false
where
 /-- the same, for the code behind a label (no scope in it) -/
 chkCode' (P : Program) : Code → ACode → Bool
 | .skip, .skip => true
 | .region _ ops false, .region _ al => all2 (chkOper P ops) ops.toList al
 | .region _ ops true, .region _ al => chkDraw P ops al
 | .seq a b, .seq a' b' => chkCode' P a a' && chkCode' P b b'
 | .cond c a b, .cond c' a' b' => chkOpd c c' && chkCode' P a a' && chkCode' P b b'
 | .block id c, .block id' c' => id == id' && chkCode' P c c'
 | .loop c, .loop _ c' => chkCode' P c c'
 | .exit id, .exit id' => id == id'
 | .ret, .ret => true
 | .label _, .label => true
 | .goto l, .goto l' => l == l'
 | _, _ => false
def exitOf : AExit → Exit
 | .normal => .normal
 | .exit id => .exit id
 | .ret => .ret
 | .goto l => .goto l
def KeepsK (k : Nat) (μ μ' : Nat → Loc) : Prop := ∀ b, b < k → μ b ≠ .free → μ' b = μ b ∨ μ' b = .dead
theorem KeepsK.refl (k : Nat) (μ : Nat → Loc) : KeepsK k μ μ := fun _ _ _ => .inl rfl
theorem KeepsK.of_up {k : Nat} {μ μ' : Nat → Loc} (h : Up μ μ') : KeepsK k μ μ' := fun b _ hb => h b hb
theorem KeepsK.trans {k : Nat} {a b c : Nat → Loc} (h : KeepsK k a b) (g : KeepsK k b c) : KeepsK k a c := fun x hx hf => by
 rcases h x hx hf with e | e
 · rcases g x hx (by rw [e]; exact hf) with e' | e'
   · exact .inl (e'.trans e)
   · exact .inr e'
 · rcases g x hx (by rw [e]; simp) with e' | e'
   · exact .inr (e'.trans e)
   · exact .inr e'
section
variable {P : Program} {K : Oracle} {N : Nat}
def Ends (μ : Nat → Loc) (w : World) (S : Nat → Prop) (k : Nat) (st' : St) (Q : Act → World → Prop) : Prop :=
 ∀ a' w' μ1 S1, Rep μ1 w' S1 st' a' → Ext μ S w μ1 S1 w' → KeepsK k μ μ1 → st'.k = k → Q a' w'
theorem Ends.after {μ μ1 : Nat → Loc} {w w1 : World} {S S1 : Nat → Prop} {k : Nat} {st' : St} {Q : Act → World → Prop} (h : Ends μ w S k st' Q) (x : Ext μ S w μ1 S1 w1) (kk : KeepsK k μ μ1) : Ends μ1 w1 S1 k st' Q :=
 fun a' w' μ2 S2 r x2 k2 hk => h a' w' μ2 S2 r (x.trans x2) (kk.trans k2) hk
theorem norm_sound {μ : Nat → Loc} {w : World} {S : Nat → Prop} {st s : St} {a : Act} {keep : List Nat} (rep : Rep μ w S st a) (h : norm keep st = some s) :
   ∃ μ1, Rep μ1 w S s a ∧ Ext μ S w μ1 S w ∧ KeepsK st.k μ μ1 ∧ s.k = st.k := by
 unfold norm at h
 simp only at h
 generalize hts : (st.tmps.zipIdx.map fun (x : AVal × Nat) => match x with | (v, t) => if keep.contains t then v else AVal.undef) = ts at h
 generalize hids : reach st.heap (List.range st.k) (ts.flatMap AVal.ownT) = ids at h
 split at h
 · rename_i hc
   simp only [Option.some.injEq] at h
   subst h
   refine ⟨pick μ ids, ⟨⟨?_, fun t v hv => ?_, rep.tmps.defers⟩, ?_⟩, ?_, fun b hb hf => .inl ?_, rfl⟩
   · have : ts.length = st.tmps.length := by rw [← hts]; simp
     simp [this, rep.tmps.size]
   · simp only [List.getElem?_map, Option.map_eq_some_iff] at hv
     obtain ⟨v0, hv0, rfl⟩ := hv
     refine VR.renT (pick_follows ids) ?_
     rw [← hts, List.getElem?_map] at hv0
     simp only [Option.map_eq_some_iff] at hv0
     obtain ⟨⟨v1, t1⟩, hz, heq⟩ := hv0
     rw [List.getElem?_zipIdx] at hz
     simp only [Option.map_eq_some_iff, Prod.mk.injEq] at hz
     obtain ⟨v2, hv2, rfl, ht⟩ := hz
     simp only at heq
     split at heq
     · rw [← heq]; exact rep.tmps.vr t v2 hv2
     · rw [← heq]; exact .undef _
   · refine pack_rep rep.heap hc.1 (fun m hm => hm) (fun m ho hS => ?_) rep.heap.inS
     obtain ⟨c, hc', hh⟩ := pick_owned ho
     exact rep.heap.apart m ⟨c, hh⟩ hS
   · refine ⟨rfl, rfl, rfl, Nat.le_refl _, fun _ _ _ => rfl, fun _ h => h, fun _ h => .inl h, fun m ho => ?_⟩
     obtain ⟨c, hc', hh⟩ := pick_owned ho
     exact .inl ⟨c, hh⟩
   · have : ids[b]? = some b := by
       have h1 : (ids.take st.k)[b]? = some b := by rw [hc.2, List.getElem?_range hb]
       rw [List.getElem?_take, if_pos hb] at h1
       exact h1
     unfold pick
     rw [this]
 · cases h
def Sound (P : Program) (K : Oracle) (N : Nat) (c : Code) (ac : ACode) : Prop :=
 ∀ (st st' : St) (e : AExit) (a : Act) (w : World) (μ : Nat → Loc) (S : Nat → Prop) (Q : Exit → Act → World → Prop), Rep μ w S st a → exec K N ac st = some (e, st') → Ends μ w S st.k st' (Q (exitOf e)) → c.wp P Q a w
theorem free_replicate {hp : Heap} {n b : Nat} (h : (hp ++ List.replicate n Slot.free).get b ≠ none) : hp.get b = (hp ++ List.replicate n Slot.free).get b := by
 rw [get_of_slot, get_of_slot] at *
 rcases Nat.lt_or_ge b hp.length with hl | hl
 · rw [List.getElem?_append_left hl]
 · exfalso
   rw [List.getElem?_append_right hl, List.getElem?_replicate] at h
   by_cases h1 : b - hp.length < n
   · rw [if_pos h1] at h; exact h rfl
   · rw [if_neg h1] at h; exact h rfl
theorem HRep.more {μ : Nat → Loc} {w : World} {S : Nat → Prop} {hp : Heap} (r : HRep μ w S hp) (n : Nat) : HRep μ w S (hp ++ List.replicate n .free) where
 live b k hb := r.live b k (by rw [free_replicate (n := n) (by rw [hb]; simp)]; exact hb)
 gone b hb := by
   cases hk : hp.get b with
   | none => exact r.gone b hk
   | some k =>
     exfalso
     have hlt := Heap.get_lt hk
     rw [get_of_slot, List.getElem?_append, if_pos hlt, ← get_of_slot, hk] at hb
     cases hb
 free b hb := by
   rcases Nat.lt_or_ge b hp.length with hl | hl
   · refine r.free b ?_
     rcases hb with hb | hb
     · rw [free_of_slot, List.getElem?_append, if_pos hl, ← free_of_slot] at hb; exact .inl hb
     · simp at hb; exact .inr (by omega)
   · exact r.free b (.inr hl)
 inj := r.inj
 apart := r.apart
 inS := r.inS
 gl := r.gl
theorem region_sound (hK : Valid P K) (hmix : P.follows .mixedOrders = true) {id ids : Nat} {ops : Array Oper} {al : List AOper} {d : Bool} (hc : (if d then chkDraw P ops al else all2 (chkOper P ops) ops.toList al) = true) : Sound P K N (.region id ops d) (.region ids al) := by
 intro st st' e a w μ S Q rep h hq
 simp only [exec, Option.map_eq_some_iff, Prod.mk.injEq] at h
 obtain ⟨s, hs, rfl, rfl⟩ := h
 have rep' : Rep μ w S ⟨st.tmps, st.heap ++ List.replicate ids .free, st.k⟩ a := ⟨rep.tmps, rep.heap.more ids⟩
 have fin : ∀ a' w' μ1 S1, Rep μ1 w' S1 s a' → Ext μ S w μ1 S1 w' → Up μ μ1 → s.k = st.k → Q .normal a' w' := fun a' w' μ1 S1 r x u hk => hq a' w' μ1 S1 r x (KeepsK.of_up u) hk
 cases d with
 | true => exact draw_sound hK hmix hc rep' hs fin
 | false => exact wp_region_list (runOps_sound hK ops.toList al _ s a w μ S hc rep' hs fin)
theorem seq_sound {x y : Code} {x' y' : ACode} (hx : Sound P K N x x') (hy : Sound P K N y y') : Sound P K N (.seq x y) (.seq x' y') := by
 intro st st' e a w μ S Q rep h hq
 simp only [exec] at h
 refine wp_seq ?_
 cases hex : exec K N x' st with
 | none => rw [hex] at h; cases h
 | some p =>
   obtain ⟨e1, s1⟩ := p
   rw [hex] at h
   refine hx st s1 e1 a w μ S _ rep hex fun a1 w1 μ1 S1 r1 x1 k1 hk1 => ?_
   cases e1 with
   | normal =>
     simp only at h
     exact hy s1 st' e a1 w1 μ1 S1 Q r1 h (by rw [hk1]; exact hq.after x1 k1)
   | exit i => simp only [Option.some.injEq, Prod.mk.injEq] at h; obtain ⟨rfl, rfl⟩ := h; exact hq a1 w1 μ1 S1 r1 x1 k1 hk1
   | ret => simp only [Option.some.injEq, Prod.mk.injEq] at h; obtain ⟨rfl, rfl⟩ := h; exact hq a1 w1 μ1 S1 r1 x1 k1 hk1
   | goto l => simp only [Option.some.injEq, Prod.mk.injEq] at h; obtain ⟨rfl, rfl⟩ := h; exact hq a1 w1 μ1 S1 r1 x1 k1 hk1
theorem cond_sound {c : Operand} {c' : Opd} {x y : Code} {x' y' : ACode} (hc : chkOpd c c' = true) (hx : Sound P K N x x') (hy : Sound P K N y y') : Sound P K N (.cond c x y) (.cond c' x' y') := by
 intro st st' e a w μ S Q rep h hq
 simp only [exec] at h
 split at h
 · rename_i t ht
   have hv := rep.tmps.look rep.heap.gl hc
   rw [ht] at hv
   refine wp_cond (t := t) hv.bool_inv ?_
   cases t with
   | true => exact hx st st' e a w μ S Q rep h hq
   | false => exact hy st st' e a w μ S Q rep h hq
 · cases h
theorem block_sound {id : Nat} {c : Code} {c' : ACode} (hc : Sound P K N c c') : Sound P K N (.block id c) (.block id c') := by
 intro st st' e a w μ S Q rep h hq
 simp only [exec] at h
 refine wp_block ?_
 cases hex : exec K N c' st with
 | none => rw [hex] at h; cases h
 | some p =>
   obtain ⟨e1, s1⟩ := p
   rw [hex] at h
   refine hc st s1 e1 a w μ S _ rep hex fun a1 w1 μ1 S1 r1 x1 k1 hk1 => ?_
   cases e1 with
   | exit i =>
     simp only at h
     simp only [exitOf, Exit.inBlock]
     split at h
     · rename_i hi
       rw [if_pos hi]
       simp only [Option.some.injEq, Prod.mk.injEq] at h
       obtain ⟨rfl, rfl⟩ := h
       exact hq a1 w1 μ1 S1 r1 x1 k1 hk1
     · rename_i hi
       rw [if_neg hi]
       simp only [Option.some.injEq, Prod.mk.injEq] at h
       obtain ⟨rfl, rfl⟩ := h
       exact hq a1 w1 μ1 S1 r1 x1 k1 hk1
   | normal => simp only [Option.some.injEq, Prod.mk.injEq] at h; obtain ⟨rfl, rfl⟩ := h; exact hq a1 w1 μ1 S1 r1 x1 k1 hk1
   | ret => simp only [Option.some.injEq, Prod.mk.injEq] at h; obtain ⟨rfl, rfl⟩ := h; exact hq a1 w1 μ1 S1 r1 x1 k1 hk1
   | goto l => simp only [Option.some.injEq, Prod.mk.injEq] at h; obtain ⟨rfl, rfl⟩ := h; exact hq a1 w1 μ1 S1 r1 x1 k1 hk1
theorem loop_sound {keep : List Nat} {c : Code} {c' : ACode} (hc : Sound P K N c c') : Sound P K N (.loop c) (.loop keep c') := by
 intro st st' e a w μ S Q rep h hq
 simp only [exec] at h
 have key : ∀ (n : Nat) (st : St) (a : Act) (w : World) (μ : Nat → Loc) (S : Nat → Prop), Rep μ w S st a → iter keep (exec K N c') n st = some (e, st') → Ends μ w S st.k st' (Q (exitOf e)) → Code.rounds P c Q n a w := by
   intro n
   induction n with
   | zero => intro st a w μ S rep h _; simp [iter] at h
   | succ n ih =>
     intro st a w μ S rep h hq
     simp only [iter] at h
     split at h
     · rename_i s hs
       obtain ⟨μ0, rep0, x0, k0, hk0⟩ := norm_sound rep hs
       rw [rounds_succ]
       cases hex : exec K N c' s with
       | none => rw [hex] at h; cases h
       | some p =>
         obtain ⟨e1, s1⟩ := p
         rw [hex] at h
         refine hc s s1 e1 a w μ0 S _ rep0 hex fun a1 w1 μ1 S1 r1 x1 k1 hk1 => ?_
         have hk1' : s1.k = st.k := hk1.trans hk0
         have k1' : KeepsK st.k μ μ1 := k0.trans (by rw [← hk0]; exact k1)
         cases e1 with
         | normal =>
           simp only at h
           exact ih s1 a1 w1 μ1 S1 r1 h (by rw [hk1']; exact hq.after (x0.trans x1) k1')
         | exit i => simp only [Option.some.injEq, Prod.mk.injEq] at h; obtain ⟨rfl, rfl⟩ := h; exact hq a1 w1 μ1 S1 r1 (x0.trans x1) k1' hk1'
         | ret => simp only [Option.some.injEq, Prod.mk.injEq] at h; obtain ⟨rfl, rfl⟩ := h; exact hq a1 w1 μ1 S1 r1 (x0.trans x1) k1' hk1'
         | goto l => simp only [Option.some.injEq, Prod.mk.injEq] at h; obtain ⟨rfl, rfl⟩ := h; exact hq a1 w1 μ1 S1 r1 (x0.trans x1) k1' hk1'
     · cases h
 exact wp_loop_rounds N (key N st a w μ S rep h hq)
def passes (P : Program) (l : Nat) (rest : Code) (Q : Exit → Act → World → Prop) : Nat → Act → World → Prop
 | 0, _, _ => False
 | n + 1, a, w => rest.wp P (Exit.jump l (passes P l rest Q n) Q) a w
theorem wp_scope_passes {Q : Exit → Act → World → Prop} {a : Act} {w : World} {c rest : Code} (l n : Nat) (hf : findLabel c l = some rest) (first : c.wp P (Exit.jump l (passes P l rest Q n) Q) a w) : (Code.scope c).wp P Q a w := by
 intro b k cs
 have hg : gotoIn l (.inScope c :: k) = some (.code rest :: .inScope c :: k) := by simp [gotoIn, hf]
 have key : ∀ n a w, passes P l rest Q n a w → ∃ e a' w', Q e a' w' ∧ Arrives P (lone (b.at a (.code rest :: .inScope c :: k)) cs w) b k cs e a' w' := by
   intro n
   induction n with
   | zero => intro a w h; exact h.elim
   | succ n ih =>
     intro a w h
     obtain ⟨e, a₁, w₁, hq, harr⟩ := h b (.inScope c :: k) cs
     cases e with
     | normal => exact ⟨.normal, a₁, w₁, hq, Steps.trans harr (.one step_inScope)⟩
     | exit id => exact ⟨.exit id, a₁, w₁, hq, fun k' hk => harr k' (by simp [exitTo, hk])⟩
     | goto l' =>
       obtain ⟨rfl, hJ'⟩ := hq
       obtain ⟨e₂, a₂, w₂, hq₂, harr₂⟩ := ih a₁ w₁ hJ'
       exact ⟨e₂, a₂, w₂, hq₂, .of_steps (harr _ hg) harr₂⟩
     | ret => exact ⟨_, a₁, w₁, hq, harr⟩
     | panic ch => exact ⟨_, a₁, w₁, hq, harr⟩
     | outgrown => exact ⟨_, a₁, w₁, hq, harr⟩
 obtain ⟨e, a₁, w₁, hq, harr⟩ := first b (.inScope c :: k) cs
 cases e with
 | normal => exact ⟨.normal, a₁, w₁, hq, .head step_scope (Steps.trans harr (.one step_inScope))⟩
 | exit id => exact ⟨.exit id, a₁, w₁, hq, fun k' hk => .head step_scope (harr k' (by simp [exitTo, hk]))⟩
 | goto l' =>
   obtain ⟨rfl, hJ'⟩ := hq
   obtain ⟨e₂, a₂, w₂, hq₂, harr₂⟩ := key n a₁ w₁ hJ'
   exact ⟨e₂, a₂, w₂, hq₂, .of_steps (.head step_scope (harr _ hg)) harr₂⟩
 | ret => exact ⟨_, a₁, w₁, hq, .of_steps (.one step_scope) harr⟩
 | panic ch => exact ⟨_, a₁, w₁, hq, .of_steps (.one step_scope) harr⟩
 | outgrown => exact ⟨_, a₁, w₁, hq, .of_steps (b := b) (k := k) (cs := cs) (e := .outgrown) (.one step_scope) harr⟩
theorem scope_sound {l : Nat} {keep : List Nat} {c r : Code} {rest body : ACode} (hf : findLabel c l = some r) (hr : Sound P K N r rest) (hb : Sound P K N c body) : Sound P K N (.scope c) (.scope l keep rest body) := by
 intro st st' e a w μ S Q rep h hq
 simp only [exec] at h
 have key : ∀ (n : Nat) (st : St) (a : Act) (w : World) (μ : Nat → Loc) (S : Nat → Prop), Rep μ w S st a → jump l keep (exec K N rest) n st = some (e, st') → Ends μ w S st.k st' (Q (exitOf e)) → passes P l r Q n a w := by
   intro n
   induction n with
   | zero => intro st a w μ S rep h _; simp [jump] at h
   | succ n ih =>
     intro st a w μ S rep h hq
     simp only [jump] at h
     split at h
     · rename_i s hs
       obtain ⟨μ0, rep0, x0, k0, hk0⟩ := norm_sound rep hs
       show r.wp P _ a w
       cases hex : exec K N rest s with
       | none => rw [hex] at h; cases h
       | some p =>
         obtain ⟨e1, s1⟩ := p
         rw [hex] at h
         refine hr s s1 e1 a w μ0 S _ rep0 hex fun a1 w1 μ1 S1 r1 x1 k1 hk1 => ?_
         have hk1' : s1.k = st.k := hk1.trans hk0
         have k1' : KeepsK st.k μ μ1 := k0.trans (by rw [← hk0]; exact k1)
         cases e1 with
         | goto l' =>
           simp only at h
           split at h
           · rename_i hl
             exact ⟨hl, ih s1 a1 w1 μ1 S1 r1 h (by rw [hk1']; exact hq.after (x0.trans x1) k1')⟩
           · cases h
         | exit i => simp only [Option.some.injEq, Prod.mk.injEq] at h; obtain ⟨rfl, rfl⟩ := h; exact hq a1 w1 μ1 S1 r1 (x0.trans x1) k1' hk1'
         | ret => simp only [Option.some.injEq, Prod.mk.injEq] at h; obtain ⟨rfl, rfl⟩ := h; exact hq a1 w1 μ1 S1 r1 (x0.trans x1) k1' hk1'
         | normal => simp only [Option.some.injEq, Prod.mk.injEq] at h; obtain ⟨rfl, rfl⟩ := h; exact hq a1 w1 μ1 S1 r1 (x0.trans x1) k1' hk1'
     · cases h
 refine wp_scope_passes l N hf ?_
 cases hex : exec K N body st with
 | none => rw [hex] at h; cases h
 | some p =>
   obtain ⟨e1, s1⟩ := p
   rw [hex] at h
   refine hb st s1 e1 a w μ S _ rep hex fun a1 w1 μ1 S1 r1 x1 k1 hk1 => ?_
   cases e1 with
   | goto l' =>
     simp only at h
     split at h
     · rename_i hl
       exact ⟨hl, key N s1 a1 w1 μ1 S1 r1 h (by rw [hk1]; exact hq.after x1 k1)⟩
     · cases h
   | exit i => simp only [Option.some.injEq, Prod.mk.injEq] at h; obtain ⟨rfl, rfl⟩ := h; exact hq a1 w1 μ1 S1 r1 x1 k1 hk1
   | ret => simp only [Option.some.injEq, Prod.mk.injEq] at h; obtain ⟨rfl, rfl⟩ := h; exact hq a1 w1 μ1 S1 r1 x1 k1 hk1
   | normal => simp only [Option.some.injEq, Prod.mk.injEq] at h; obtain ⟨rfl, rfl⟩ := h; exact hq a1 w1 μ1 S1 r1 x1 k1 hk1
theorem skip_sound : Sound P K N .skip .skip := by
 intro st st' e a w μ S Q rep h hq
 simp only [exec, Option.some.injEq, Prod.mk.injEq] at h
 obtain ⟨rfl, rfl⟩ := h
 exact wp_skip (hq a w μ S rep (Ext.refl _ _ _) (KeepsK.refl _ _) rfl)
theorem label_sound {l : Nat} : Sound P K N (.label l) .label := by
 intro st st' e a w μ S Q rep h hq
 simp only [exec, Option.some.injEq, Prod.mk.injEq] at h
 obtain ⟨rfl, rfl⟩ := h
 exact wp_label (hq a w μ S rep (Ext.refl _ _ _) (KeepsK.refl _ _) rfl)
theorem exit_sound {id : Nat} : Sound P K N (.exit id) (.exit id) := by
 intro st st' e a w μ S Q rep h hq
 simp only [exec, Option.some.injEq, Prod.mk.injEq] at h
 obtain ⟨rfl, rfl⟩ := h
 exact wp_exit (hq a w μ S rep (Ext.refl _ _ _) (KeepsK.refl _ _) rfl)
theorem goto_sound {l : Nat} : Sound P K N (.goto l) (.goto l) := by
 intro st st' e a w μ S Q rep h hq
 simp only [exec, Option.some.injEq, Prod.mk.injEq] at h
 obtain ⟨rfl, rfl⟩ := h
 exact wp_goto (hq a w μ S rep (Ext.refl _ _ _) (KeepsK.refl _ _) rfl)
theorem ret_sound : Sound P K N .ret .ret := by
 intro st st' e a w μ S Q rep h hq
 simp only [exec, Option.some.injEq, Prod.mk.injEq] at h
 obtain ⟨rfl, rfl⟩ := h
 exact wp_ret (hq a w μ S rep (Ext.refl _ _ _) (KeepsK.refl _ _) rfl)
theorem code_sound' (hK : Valid P K) (hmix : P.follows .mixedOrders = true) : ∀ (ac : ACode) (c : Code), chkCode.chkCode' P c ac = true → Sound P K N c ac := by
 intro ac
 induction ac with
 | skip => intro c h; cases c <;> simp [chkCode.chkCode'] at h; exact skip_sound
 | region ids al => intro c h; cases c <;> try (simp [chkCode.chkCode'] at h; done)
                    rename_i id ops d; cases d <;> exact region_sound hK hmix h
 | seq a b iha ihb => intro c h; cases c <;> simp [chkCode.chkCode'] at h; exact seq_sound (iha _ h.1) (ihb _ h.2)
 | cond c a b iha ihb => intro c h; cases c <;> simp [chkCode.chkCode'] at h; exact cond_sound h.1.1 (iha _ h.1.2) (ihb _ h.2)
 | block id b ih => intro c h; cases c <;> simp [chkCode.chkCode'] at h; obtain ⟨rfl, h⟩ := h; exact block_sound (ih _ h)
 | loop keep b ih => intro c h; cases c <;> simp [chkCode.chkCode'] at h; exact loop_sound (ih _ h)
 | exit id => intro c h; cases c <;> simp [chkCode.chkCode'] at h; subst h; exact exit_sound
 | ret => intro c h; cases c <;> simp [chkCode.chkCode'] at h; exact ret_sound
 | label => intro c h; cases c <;> simp [chkCode.chkCode'] at h; exact label_sound
 | goto l => intro c h; cases c <;> simp [chkCode.chkCode'] at h; subst h; exact goto_sound
 | scope l keep rest body ihr ihb => intro c h; cases c <;> simp [chkCode.chkCode'] at h
theorem code_sound (hK : Valid P K) (hmix : P.follows .mixedOrders = true) : ∀ (ac : ACode) (c : Code), chkCode P c ac = true → Sound P K N c ac := by
 intro ac
 induction ac with
 | skip => intro c h; cases c <;> simp [chkCode] at h; exact skip_sound
 | region ids al => intro c h; cases c <;> try (simp [chkCode] at h; done)
                    rename_i id ops d; cases d <;> exact region_sound hK hmix h
 | seq a b iha ihb => intro c h; cases c <;> simp [chkCode] at h; exact seq_sound (iha _ h.1) (ihb _ h.2)
 | cond c a b iha ihb => intro c h; cases c <;> simp [chkCode] at h; exact cond_sound h.1.1 (iha _ h.1.2) (ihb _ h.2)
 | block id b ih => intro c h; cases c <;> simp [chkCode] at h; obtain ⟨rfl, h⟩ := h; exact block_sound (ih _ h)
 | loop keep b ih => intro c h; cases c <;> simp [chkCode] at h; exact loop_sound (ih _ h)
 | exit id => intro c h; cases c <;> simp [chkCode] at h; subst h; exact exit_sound
 | ret => intro c h; cases c <;> simp [chkCode] at h; exact ret_sound
 | label => intro c h; cases c <;> simp [chkCode] at h; exact label_sound
 | goto l => intro c h; cases c <;> simp [chkCode] at h; subst h; exact goto_sound
 | scope l keep rest body ihr ihb =>
   intro c h
   cases c <;> simp [chkCode] at h
   rename_i c0
   obtain ⟨h1, h2⟩ := h
   split at h2
   · rename_i r hf
     exact scope_sound hf (code_sound' hK hmix rest r h2) (ihb _ h1)
   · cases h2
end
end AM
end Go.Proofs.Ytfelhbeiegppgaa
end
section
namespace Go.Proofs.Ytfelhbeiegppgaa
namespace AM
open Go.RowKit
def chkRes (P : Program) : ResultVar → RVar → Bool
 | .tmp t, .tmp t' => t == t'
 | .cell a t, .cell agg n a' => a == a' && szB P t n && aggB P t agg && (agg || n == 1)
 | _, _ => false
def chkFunc (P : Program) (fn : Func) (af : AFunc) : Bool :=
 fn.ntmps == af.ntmps && all2 (chkRes P) fn.results.toList af.results && !(fn.name == "runtime.NumGoroutine") && (match fn.body with | some c => chkCode P c af.code | none => false)
section
variable {P : Program} {K : Oracle} {μ : Nat → Loc} {w : World} {S : Nat → Prop}
def resSem (tmps : Array Value) : ResultVar → Sem Value
 | .tmp t => pure (tmps.getD t undef)
 | .cell ad t => do loadVar t (← asAddr (tmps.getD ad undef))
theorem results_eq (fn : Func) (tmps : Array Value) : results fn tmps = (do let vs ← fn.results.mapM (resSem tmps); pure (if h : vs.size = 1 then vs[0] else .tuple vs)) := by
 unfold results
 congr 1
theorem res_sound {st : St} {a : Act} (rep : Rep μ w S st a) {x : ResultVar} {y : RVar} {r : AVal} (hc : chkRes P x y = true) (h : resOf st.heap st.tmps y = some r) :
   ∃ cv, (resSem a.tmps x).run P w = .ok cv w ∧ VR μ w S r cv := by
 unfold chkRes at hc
 split at hc
 · rename_i t t'
   simp only [beq_iff_eq] at hc
   subst hc
   simp only [resOf, Option.some.injEq] at h
   subst h
   refine ⟨_, rfl, ?_⟩
   have := rep.tmps.look rep.heap.gl (x := .tmp t) (y := .tmp t) (by simp [chkOpd])
   exact this
 · rename_i ad t agg n ad'
   simp only [Bool.and_eq_true, beq_iff_eq, Bool.or_eq_true] at hc
   obtain ⟨⟨⟨rfl, h1⟩, h2⟩, h3⟩ := hc
   simp only [resOf] at h
   have hv : VR μ w S (st.tmps.getD ad .undef) (a.tmps.getD ad undef) := rep.tmps.look rep.heap.gl (x := .tmp ad) (y := .tmp ad) (by simp [chkOpd])
   obtain ⟨cv, hr, hcv⟩ := load_sound (P := P) rep.heap h1 h2 hv h h3
   have hp : ∃ p, a.tmps.getD ad undef = .pointer (some p) := by
     unfold loadVal at h
     rw [if_neg (fun e => by rcases h3 with h3 | h3 <;> simp [h3] at e)] at h
     split at h
     · rename_i cs hcs
       obtain ⟨p, _, hp, _⟩ := load_cells rep.heap hv hcs
       exact ⟨p, hp⟩
     · cases h
   obtain ⟨p, hp⟩ := hp
   refine ⟨cv, ?_, hcv⟩
   simp only [resSem]
   rw [hp] at hr ⊢
   simpa [Instr.loadAt, Instr.sureAddr, asAddr] using hr
 · cases hc
theorem results_sound {st : St} {a : Act} {fn : Func} {rs : List RVar} {r : AVal} (rep : Rep μ w S st a) (hc : all2 (chkRes P) fn.results.toList rs = true) (h : resultsOf st.heap st.tmps rs = some r) :
   ∃ cv, (results fn a.tmps).run P w = .ok cv w ∧ VR μ w S r cv := by
 have key : ∀ (xs : List ResultVar) (ys : List RVar) (vs : List AVal), all2 (chkRes P) xs ys = true → allOf (resOf st.heap st.tmps) ys = some vs →
     ∃ cvs : List Value, (xs.mapM (resSem a.tmps)).run P w = .ok cvs w ∧ vs.length = cvs.length ∧ vs.length = ys.length ∧ ∀ (j : Nat) (c : AVal) (u : Value), vs[j]? = some c → cvs[j]? = some u → VR μ w S c u := by
   intro xs
   induction xs with
   | nil =>
     intro ys vs hc h
     cases ys with
     | nil => simp [allOf] at h; subst h; exact ⟨[], by simp, rfl, rfl, by simp⟩
     | cons y ys => simp [all2] at hc
   | cons x xs ih =>
     intro ys vs hc h
     cases ys with
     | nil => simp [all2] at hc
     | cons y ys =>
       simp only [all2, Bool.and_eq_true] at hc
       simp only [allOf] at h
       split at h
       · rename_i v hv
         split at h
         · rename_i vs' hvs
           simp only [Option.some.injEq] at h
           subst h
           obtain ⟨cv, h1, h2⟩ := res_sound rep hc.1 hv
           obtain ⟨cvs, h3, h4, h6, h5⟩ := ih ys vs' hc.2 hvs
           refine ⟨cv :: cvs, ?_, by simp [h4], by simp [h6], fun j c u hj hu => ?_⟩
           · rw [List.mapM_cons]
             simp only [Sem.run_bind, h1, Result.andThen_ok, h3, Sem.run_pure]
           · cases j with
             | zero => simp at hj hu; subst hj; subst hu; exact h2
             | succ j => simp at hj hu; exact h5 j c u hj hu
         · cases h
       · cases h
 have hrun : ∀ cvs : List Value, (fn.results.toList.mapM (resSem a.tmps)).run P w = .ok cvs w →
     (results fn a.tmps).run P w = .ok (if h : cvs.toArray.size = 1 then cvs.toArray[0] else .tuple cvs.toArray) w := fun cvs hr => by
   rw [results_eq, Array.mapM_eq_mapM_toList]
   simp only [Sem.run_bind, Sem.run_map, hr]
   rfl
 have hlen := all2_length hc
 unfold resultsOf at h
 split at h
 · rename_i y
   obtain ⟨cvs, h1, h2, h4, h3⟩ := key fn.results.toList [y] [r] hc (by simp [allOf, h])
   cases cvs with
   | nil => simp at h2
   | cons cv cvs =>
     cases cvs with
     | cons _ _ => simp at h2
     | nil => exact ⟨cv, by rw [hrun _ h1]; rfl, h3 0 r cv rfl rfl⟩
 · rename_i hne
   simp only [Option.map_eq_some_iff] at h
   obtain ⟨vs, hvs, rfl⟩ := h
   obtain ⟨cvs, h1, h2, h4, h3⟩ := key fn.results.toList rs vs hc hvs
   refine ⟨.tuple cvs.toArray, ?_, .tup vs cvs.toArray (by simpa using h2) (fun j c u hj hu => h3 j c u hj (by simpa using hu))⟩
   rw [hrun _ h1, dif_neg]
   intro h5
   have : rs.length = 1 := by simp at h5; omega
   match rs, this with
   | [y], _ => exact hne y rfl
theorem body_ok (hK : Valid P K) (hmix : P.follows .mixedOrders = true) {f : Nat} {fn : Func} {af : AFunc} (hf : P.funcs[f]? = some fn) (hc : chkFunc P fn af = true) {args : List AVal} {hp : Heap} {r : AVal} {hp' : Heap}
   (h : runBody K af args hp = some (r, hp')) : CallOk P f args hp r hp' := by
 unfold chkFunc at hc
 simp only [Bool.and_eq_true, beq_iff_eq] at hc
 obtain ⟨⟨⟨hnt, hres⟩, hname⟩, hcode⟩ := hc
 split at hcode
 case h_2 => cases hcode
 rename_i c hb
 intro μ0 w0 S0 cargs r0 hl hargs
 refine calls_of_wp hf hb ?_
 unfold runBody at h
 -- the start
 have rep0 : Rep μ0 w0 S0 ⟨args ++ List.replicate (af.ntmps - args.length) .undef, hp, hp.length⟩ { tmps := cargs ++ Array.replicate (fn.ntmps - cargs.size) undef, defers := [] } := by
   refine ⟨⟨by simp [hl, hnt], fun t v hv => ?_, rfl⟩, r0⟩
   rw [List.getElem?_append] at hv
   split at hv
   · rename_i ht
     have ht2 : t < cargs.size := by omega
     have hcv : (cargs ++ Array.replicate (fn.ntmps - cargs.size) undef).getD t undef = cargs[t] := by
       rw [Array.getD_eq_getD_getElem?, Array.getElem?_append_left ht2, Array.getElem?_eq_getElem ht2]
       rfl
     rw [hcv]
     exact hargs t v _ hv (Array.getElem?_eq_getElem ht2)
   · rw [List.getElem?_replicate] at hv
     split at hv
     · simp only [Option.some.injEq] at hv; subst hv; exact .undef _
     · cases hv
 have fin : ∀ (st : St), leave af st = some (r, hp') → ∀ a' w' μ1 S1, Rep μ1 w' S1 st a' → Ext μ0 S0 w0 μ1 S1 w' → KeepsK hp.length μ0 μ1 → st.k = hp.length →
     a'.defers = [] ∧ ∃ v, (results fn a'.tmps).run P w' = .ok v w' ∧ ∃ v' μ' S', Ending.returned v = .returned v' ∧ HRep μ' w' S' hp' ∧ Ext μ0 S0 w0 μ' S' w' ∧ VR μ' w' S' r v' ∧ hp.length ≤ hp'.length ∧ ∀ b, b < hp.length → μ0 b ≠ .free → μ' b = μ0 b ∨ μ' b = .dead := by
   intro st hl a' w' μ1 S1 rep x1 k1 hk
   refine ⟨rep.tmps.defers, ?_⟩
   unfold leave at hl
   split at hl
   case h_1 => cases hl
   rename_i r1 hr1
   obtain ⟨cv, hrun, hcv⟩ := results_sound rep hres hr1
   refine ⟨cv, hrun, cv, ?_⟩
   split at hl
   case h_1 => cases hl
   rename_i r2 shown hr2
   simp only at hl
   generalize hids : reach st.heap (List.range st.k) r2.ownT = ids at hl
   split at hl
   case isFalse => cases hl
   rename_i hcond
   obtain ⟨hn, htake, hshown⟩ := hcond
   simp only [Option.some.injEq, Prod.mk.injEq] at hl
   obtain ⟨rfl, rfl⟩ := hl
   have hshown : ∀ b, b ∈ shown → b ∉ ids := fun b hb => by have := List.all_eq_true.1 hshown b hb; simpa using this
   have hvr : VR μ1 w' (With S1 μ1 shown) r2 cv := by
     split at hr2
     · exact viewT_sound rep.heap hcv hr2 μ1
     · simp only [Option.some.injEq, Prod.mk.injEq] at hr2
       obtain ⟨rfl, rfl⟩ := hr2
       exact hcv.mono (Up.refl _) (fun _ _ => rfl) (fun m hm => .inl hm)
   refine ⟨pick μ1 ids, With S1 μ1 shown, rfl, ?_, x1.trans ?_, hvr.renT (pick_follows ids), ?_, fun b hb hf => ?_⟩
   · refine pack_rep rep.heap hn (fun m hm => .inl hm) (fun m ho hS => ?_) (fun m hS => ?_)
     · obtain ⟨c, hc', hh⟩ := pick_owned ho
       rcases hS with hS | ⟨b, hb, hb'⟩
       · exact rep.heap.apart m ⟨c, hh⟩ hS
       · exact hshown b hb (by rw [rep.heap.inj b c m hb' hh]; exact hc')
     · rcases hS with hS | ⟨b, hb, hb'⟩
       · exact rep.heap.inS m hS
       · exact rep.heap.lt ⟨b, hb'⟩
   · refine ⟨rfl, rfl, rfl, Nat.le_refl _, fun _ _ _ => rfl, fun _ h => .inl h, fun m hm => ?_, fun m ho => ?_⟩
     · rcases hm with hm | ⟨b, hb, hb'⟩
       · exact .inl hm
       · exact .inr (.inl ⟨b, hb'⟩)
     · obtain ⟨c, hc', hh⟩ := pick_owned ho
       exact .inl ⟨c, hh⟩
   · have : (ids.take st.k).length = st.k := by rw [htake]; simp
     simp only [List.length_take] at this
     simp only [packHeap, List.length_map]
     omega
   · have hb' : ids[b]? = some b := by
       have h1 : (ids.take st.k)[b]? = some b := by rw [htake, List.getElem?_range (by omega)]
       rw [List.getElem?_take, if_pos (by omega)] at h1
       exact h1
     have : pick μ1 ids b = μ1 b := by unfold pick; rw [hb']
     rw [this]
     exact k1 b hb hf
 split at h
 · rename_i st hex
   exact code_sound hK hmix af.code c hcode _ st .normal _ w0 μ0 S0 _ rep0 hex (fun a' w' μ1 S1 rep x1 k1 hk => fin st h a' w' μ1 S1 rep x1 k1 hk)
 · rename_i st hex
   exact code_sound hK hmix af.code c hcode _ st .ret _ w0 μ0 S0 _ rep0 hex (fun a' w' μ1 S1 rep x1 k1 hk => fin st h a' w' μ1 S1 rep x1 k1 hk)
 · cases h
def Ok (P : Program) (f : Nat) (g : List AVal → Heap → Option (AVal × Heap)) : Prop := Enters P f ∧ ∀ args hp r hp', g args hp = some (r, hp') → CallOk P f args hp r hp'
def tab : List (Nat × (List AVal → Heap → Option (AVal × Heap))) → Oracle
 | [], _, _, _ => none
 | (f, g) :: l, f', args, hp => if f' = f then g args hp else tab l f' args hp
theorem tab_nil : Valid P (tab []) := fun f args hp r hp' h => by simp [tab] at h
theorem tab_cons {f : Nat} {g : List AVal → Heap → Option (AVal × Heap)} {l : List (Nat × (List AVal → Heap → Option (AVal × Heap)))} (h : Ok P f g) (hl : Valid P (tab l)) (hpb : f < PB := by decide) : Valid P (tab ((f, g) :: l)) := fun f' args hp r hp' hk => by
 simp only [tab] at hk
 split at hk
 · rename_i he; subst he; exact ⟨fun _ => ⟨h.1, h.2 args hp r hp' hk⟩, fun h' => absurd h' (Nat.not_le_of_lt hpb)⟩
 · exact hl f' args hp r hp' hk
theorem Ok.body (hmix : P.follows .mixedOrders = true) {l : List (Nat × (List AVal → Heap → Option (AVal × Heap)))} (hK : Valid P (tab l)) {f : Nat} {fn : Func} {af : AFunc} (hf : P.funcs[f]? = some fn) (hc : chkFunc P fn af = true) : Ok P f (runBody (tab l) af) := by
 refine ⟨⟨fn, hf, ?_, ?_⟩, fun args hp r hp' h => body_ok hK hmix hf hc h⟩
 · unfold chkFunc at hc
   simp only [Bool.and_eq_true, Bool.not_eq_true'] at hc
   exact hc.1.2
 · unfold chkFunc at hc
   simp only [Bool.and_eq_true] at hc
   cases hb : fn.body with
   | none => rw [hb] at hc; cases hc.2
   | some c => rfl
theorem Ok.calls {f : Nat} {g : List AVal → Heap → Option (AVal × Heap)} (h : Ok P f g) {args : List AVal} {cargs : Array Value} {w : World} {r : AVal} {hp' : Heap} (hg : g args [] = some (r, hp')) (hl : args.length = cargs.size)
   (ha : ∀ (j : Nat) (a : AVal) (v : Value), args[j]? = some a → cargs[j]? = some v → VR (fun _ => .free) w (fun m => m < w.heap.size) a v) (hgl : GlobR w (fun m => m < w.heap.size) := by exact GlobR.nil rfl) :
   Calls P f cargs w fun e w' => ∃ v μ' S', e = .returned v ∧ VR μ' w' S' r v ∧ Below w.heap.size w w' := by
 have r0 : HRep (fun _ => .free) w (fun m => m < w.heap.size) [] := by
   refine ⟨fun b k hb => ?_, fun _ _ => .inl rfl, fun _ _ => rfl, fun b b' m h => ?_, fun m ho => ?_, fun m hm => hm, hgl⟩
   · simp [Heap.get] at hb
   · cases h
   · obtain ⟨b, hb⟩ := ho; cases hb
 refine (h.2 args [] r hp' hg (fun _ => .free) w (fun m => m < w.heap.size) cargs r0 hl ha).mono fun e w' ⟨v, μ', S', he, _, x, hv, _⟩ => ⟨v, μ', S', he, hv, ?_⟩
 exact ⟨x.os, x.tape, x.output, x.size, fun m hm => x.same m hm (fun ho => by obtain ⟨b, hb⟩ := ho; cases hb)⟩
end
end AM
end Go.Proofs.Ytfelhbeiegppgaa
end
section
namespace Go.Proofs.Ytfelhbeiegppgaa
namespace AM
theorem pureOp_move (ρ : Opd → AVal) (x : Opd) : pureOp (.move x) ρ =
   (some (ρ x)) := rfl
theorem pureOp_pick (ρ : Opd → AVal) (c : Opd) (a : Opd) (b : Opd) : pureOp (.pick c a b) ρ =
   (match ρ c with | .bool t => some (if t then ρ a else ρ b) | _ => none) := rfl
theorem pureOp_build (ρ : Opd → AVal) (zero : List AVal) (parts : List (Nat × Nat × Opd)) : pureOp (.build zero parts) ρ =
   ((fillP ρ zero parts).map .agg) := rfl
theorem pureOp_nilCheck (ρ : Opd → AVal) (x : Opd) : pureOp (.nilCheck x) ρ =
   (match ρ x with | .ptr b i f => some (.ptr b i f) | .iptr cs o => some (.iptr cs o) | .fn f c => some (.fn f c) | _ => none) := rfl
theorem pureOp_bin (ρ : Opd → AVal) (op : BinOp) (x : Opd) (y : Opd) : pureOp (.bin op x y) ρ =
   (binop op (ρ x) (ρ y)) := rfl
theorem pureOp_eqB (ρ : Opd → AVal) (neg : Bool) (x : Opd) (y : Opd) : pureOp (.eqB neg x y) ρ =
   (match ρ x, ρ y with | .bool a, .bool b => some (.bool (if neg then !(a == b) else a == b)) | _, _ => none) := rfl
theorem pureOp_eqP (ρ : Opd → AVal) (neg : Bool) (x : Opd) (y : Opd) : pureOp (.eqP neg x y) ρ =
   ((eqPtr (ρ x) (ρ y)).map fun r => .bool (if neg then !r else r)) := rfl
theorem pureOp_eqI (ρ : Opd → AVal) (neg : Bool) (x : Opd) (y : Opd) : pureOp (.eqI neg x y) ρ =
   ((eqIface (ρ x) (ρ y)).map fun r => .bool (if neg then !r else r)) := rfl
theorem pureOp_eqAgg (ρ : Opd → AVal) (neg : Bool × List CK) (x : Opd) (y : Opd) : pureOp (.eqAgg neg x y) ρ =
   (match ρ x, ρ y with
   | .agg a, .agg b => (cellsEq neg.2 a b).map fun r => .bool (if neg.1 then !r else r)
   | _, _ => none) := rfl
theorem pureOp_un (ρ : Opd → AVal) (op : UnOp) (x : Opd) : pureOp (.un op x) ρ =
   (unop op (ρ x)) := rfl
theorem pureOp_conv (ρ : Opd → AVal) (k : IntKind) (x : Opd) : pureOp (.conv k x) ρ =
   (match ρ x with | .int _ n => some (.int k (k.wrap n)) | _ => none) := rfl
theorem pureOp_slice (ρ : Opd → AVal) (el : Nat) (x : Opd) (lo : Option Opd) (hi : Option Opd) (mx : Option Opd) : pureOp (.slice el x lo hi mx) ρ =
   (
   match bound ρ lo 0 with
   | none => none
   | some l =>
     match optIdx ρ hi, optIdx ρ mx with
     | some h, some m => sliceVal el (ρ x) l h m
     | _, _ => none) := rfl
theorem pureOp_sliceStr (ρ : Opd → AVal) (x : Opd) (lo : Option Opd) (hi : Option Opd) : pureOp (.sliceStr x lo hi) ρ =
   (match ρ x with
   | .str s => match bound ρ lo 0, bound ρ hi s.length with
     | some l, some h => if l ≤ h ∧ h ≤ s.length then some (.str ((s.take h).drop l)) else none
     | _, _ => none
   | _ => none) := rfl
theorem pureOp_fieldAddr (ρ : Opd → AVal) (off : Nat) (x : Opd) : pureOp (.fieldAddr off x) ρ =
   (match ρ x with | .ptr b i f => some (.ptr b i (f + off)) | .iptr cs o => some (.iptr cs (o + off)) | _ => none) := rfl
theorem pureOp_field (ρ : Opd → AVal) (agg : Bool) (off : Nat) (n : Nat) (x : Opd) : pureOp (.field agg off n x) ρ =
   (match ρ x with | .agg cs => partOf agg cs off n | _ => none) := rfl
theorem pureOp_indexSl (ρ : Opd → AVal) (e : Nat) (x : Opd) (i : Opd) : pureOp (.indexSl e x i) ρ =
   (match ρ x, idxNat (ρ i) with
   | .imm e' xs, some k => if e' = e then (xs[k]?).map fun c => .iptr c 0 else none
   | .sl b off len e', some k => if k < len ∧ e' = e then some (.ptr b (off + k) 0) else none
   | _, _ => none) := rfl
theorem pureOp_indexArr (ρ : Opd → AVal) (len : Nat) (e : Nat) (x : Opd) (i : Opd) : pureOp (.indexArr len e x i) ρ =
   (match ρ x, idxNat (ρ i) with
   | .ptr b j f, some k => if k < len then some (.ptr b j (f + k * e)) else none
   | .iptr cs o, some k => if k < len then some (.iptr cs (o + k * e)) else none
   | _, _ => none) := rfl
theorem pureOp_indexVal (ρ : Opd → AVal) (agg : Bool) (len : Nat) (e : Nat) (x : Opd) (i : Opd) : pureOp (.indexVal agg len e x i) ρ =
   (match ρ x, idxNat (ρ i) with
   | .agg cs, some k => if k < len then partOf agg cs (k * e) e else none
   | _, _ => none) := rfl
theorem pureOp_indexStr (ρ : Opd → AVal) (x : Opd) (i : Opd) : pureOp (.indexStr x i) ρ =
   (match ρ x, idxNat (ρ i) with
   | .str s, some k => match s[k]? with | some c => some (.int .u8 (c.toNat : Int)) | none => none
   | _, _ => none) := rfl
theorem pureOp_extract (ρ : Opd → AVal) (x : Opd) (i : Nat) : pureOp (.extract x i) ρ =
   (match ρ x with | .tup vs => vs[i]? | _ => none) := rfl
theorem pureOp_makeFunc (ρ : Opd → AVal) (f : Nat) (cap : List Opd) : pureOp (.makeFunc f cap) ρ =
   (if (cap.map ρ).all AVal.cellB = true then some (.fn f (cap.map ρ)) else none) := rfl
theorem pureOp_len (ρ : Opd → AVal) (x : Opd) : pureOp (.len x) ρ =
   (match lenVal (ρ x) with | some n => some (.int .i64 (n : Int)) | none => none) := rfl
theorem pureOp_lenStr (ρ : Opd → AVal) (x : Opd) : pureOp (.lenStr x) ρ =
   (match ρ x with | .str s => some (.int .i64 s.length) | _ => none) := rfl
theorem pureOp_minmax (ρ : Opd → AVal) (isMax : Bool) (x : Opd) (y : Opd) : pureOp (.minmax isMax x y) ρ =
   (match ρ x, ρ y with
   | .int k a, .int k' b => if k = k' then some (.int k (if isMax then (if b > a then b else a) else (if b < a then b else a))) else none
   | _, _ => none) := rfl
theorem pureOp_flt (ρ : Opd → AVal) (op : FOp) (x y : Opd) : pureOp (.flt op x y) ρ = fop op (ρ x) (ρ y) := rfl
attribute [simp] pureOp_flt pureOp_move pureOp_pick pureOp_build pureOp_nilCheck pureOp_bin pureOp_eqB pureOp_eqP pureOp_eqI pureOp_eqAgg pureOp_un pureOp_conv pureOp_slice pureOp_sliceStr pureOp_fieldAddr pureOp_field pureOp_indexSl pureOp_indexArr pureOp_indexVal pureOp_indexStr pureOp_extract pureOp_makeFunc pureOp_len pureOp_lenStr pureOp_minmax
attribute [simp] runBody exec runOps runOp effOp isPure isNew newOp look binop binInt isShift setTmp leave resultsOf resOf viewT viewV viewP reach reachOnce addNew alive nodupB packHeap
  AVal.renT AVal.renV AVal.renC AVal.renP DEEP AVal.immP AVal.immC AVal.cellB AVal.bareC AVal.bareV AVal.bareT AVal.ownT AVal.ownV AVal.ownC AVal.ownP Heap.get Heap.isFree allOn allOf index kill settle storeVal loadVal loadCells
  putAt cellsOf fillP fillS partOf idxNat bound optIdx sliceVal lenVal unop cellEq cellsEq eqPtr eqIface binStr appended rowsFlat settleRows smallB notIn appendVal chunks sliceArrVal norm backTo Slot.ren layBack argView visible callVal seesB
  Blk.owns Blk.ren tab List.zipIdx
theorem iter_succ (keep : List Nat) (f : St → Option (AExit × St)) (n : Nat) (st : St) : iter keep f (n + 1) st = match norm keep st with
   | some s => match f s with
     | some (.normal, s') => iter keep f n s'
     | r => r
   | none => none := by
 cases h : norm keep st with
 | none => simp only [iter, h]
 | some s =>
   simp only [iter, h]
   cases f s with
   | none => rfl
   | some p => obtain ⟨e, s'⟩ := p; cases e <;> rfl
def roundN (keep : List Nat) (f : St → Option (AExit × St)) (s : St) : Option St := match f s with
 | some (.normal, s') => norm keep s'
 | _ => none
theorem iter_upto {keep : List Nat} {f : St → Option (AExit × St)} {H : Nat → St} {m N : Nat} {r : AExit × St} {st0 : St} (h0 : norm keep st0 = some (H 0)) (h1 : ∀ k, k < m → roundN keep f (H k) = some (H (k + 1))) (h2 : f (H m) = some r) (hr : r.1 ≠ .normal) (hN : m < N) :
   iter keep f N st0 = some r := by
 have key : ∀ (d k N : Nat) (st : St), k + d = m → d < N → norm keep st = some (H k) → iter keep f N st = some r := by
   intro d
   induction d with
   | zero =>
     intro k N st hk hN h0
     obtain ⟨N, rfl⟩ : ∃ M, N = M + 1 := ⟨N - 1, by omega⟩
     have : k = m := by omega
     subst this
     rw [iter_succ, h0]
     simp only [h2]
     obtain ⟨e, s⟩ := r
     cases e with
     | normal => exact absurd rfl hr
     | _ => rfl
   | succ d ih =>
     intro k N st hk hN h0
     obtain ⟨N, rfl⟩ : ∃ M, N = M + 1 := ⟨N - 1, by omega⟩
     have h := h1 k (by omega)
     unfold roundN at h
     rw [iter_succ, h0]
     simp only
     split at h
     · rename_i s' hs
       exact ih (k + 1) N s' (by omega) (by omega) h
     · cases h
 exact key m 0 N st0 (by omega) hN h0
theorem wrap64 {x : Int} (h1 : -9223372036854775808 ≤ x) (h2 : x ≤ 9223372036854775807) : IntKind.i64.wrap x = x := by
 simp [IntKind.wrap, IntKind.bits, IntKind.signed]; omega
end AM
end Go.Proofs.Ytfelhbeiegppgaa
end
