/-
  What the proof of SpecTexts leans on, part 9. (Many texts laid together by program.)
-/
import Derived.Test.YtjngkfdclcgfhaaGreatDoorPkTh
import Derived.LoopN
import Derived.ScopeJumps
import Derived.Shelf.Strings.OnBuilder
import Derived.Shelf.LaysM
import Derived.Shelf.Strconv.Itoa3
import Derived.Shelf.LaysC
import Derived.Shelf.Strconv.AtoiAll
import Derived.Shelf.Strings.Search1
import Derived.Shelf.Strings.Search2
import Derived.Shelf.Strings.Search3
import Derived.Test.YtjngkfdclcgfhaaGreatDoorProg
import Derived.RangeFuncNested
import Derived.RangeFuncBound
import Derived.RangeFuncCalls
import Derived.RangeFuncLeaves
import Derived.Below
set_option linter.unnecessarySimpa false
set_option linter.unusedSimpArgs false
set_option linter.unusedVariables false
section
namespace Go.Proofs.YtjngkfdclcgfhaaGreatDoor
namespace AM
def maskOf (acc : List Nat) (o : Oper) : Nat := o.after.toList.foldl (fun s e => if Region.binds .any e then s ||| 2 ^ e.on ||| acc.getD e.on 0 else s) 0
def masks : List Oper → List Nat → List Nat
 | [], acc => acc
 | o :: os, acc => masks os (acc ++ [maskOf acc o])
def edgesB (ops : List Oper) (i : Nat) : Bool := match ops[i]? with | some o => o.after.toList.all (fun e => !Region.binds .any e || decide (e.on < i)) | none => false
def chkDraw (P : Program) (ops : Array Oper) (al : List AOper) : Bool :=
 all2 (chkOper P ops) ops.toList al && (List.range ops.toList.length).all (edgesB ops.toList) &&
 (List.range ops.toList.length).all fun j => (List.range j).all fun i => ((masks ops.toList []).getD j 0).testBit i || pairOK (al.getD i default) (al.getD j default)
section
variable {P : Program} {K : Oracle} {base : Nat}
theorem maskOf_bit {acc : List Nat} {o : Oper} {j : Nat} (h : (maskOf acc o).testBit j = true) : ∃ e, e ∈ o.after.toList ∧ Region.binds .any e = true ∧ (j = e.on ∨ (acc.getD e.on 0).testBit j = true) := by
 unfold maskOf at h
 have key : ∀ (l : List Edge) (s : Nat), (l.foldl (fun s e => if Region.binds .any e then s ||| 2 ^ e.on ||| acc.getD e.on 0 else s) s).testBit j = true → s.testBit j = true ∨ ∃ e, e ∈ l ∧ Region.binds .any e = true ∧ (j = e.on ∨ (acc.getD e.on 0).testBit j = true) := by
   intro l
   induction l with
   | nil => intro s h; exact .inl h
   | cons e l ih =>
     intro s h
     simp only [List.foldl_cons] at h
     rcases ih _ h with h1 | ⟨e', he', h1⟩
     · split at h1
       · rename_i hb
         rw [Nat.testBit_or, Nat.testBit_or, Nat.testBit_two_pow] at h1
         simp only [Bool.or_eq_true, decide_eq_true_eq] at h1
         rcases h1 with (h1 | h1) | h1
         · exact .inl h1
         · exact .inr ⟨e, by simp, hb, .inl h1.symm⟩
         · exact .inr ⟨e, by simp, hb, .inr h1⟩
       · exact .inl h1
     · exact .inr ⟨e', by simp [he'], h1⟩
 rcases key _ _ h with h1 | h1
 · simp at h1
 · exact h1
theorem masks_inv {L : Nat → Prop} : ∀ (os : List Oper) (acc : List Nat), (∀ (k m : Nat), acc[k]? = some m → L k → ∀ j, m.testBit j = true → L j) →
   (∀ (i : Nat) (o : Oper), os[i]? = some o → L (acc.length + i) → ∀ e, e ∈ o.after.toList → Region.binds .any e = true → L e.on) → ∀ (k m : Nat), (masks os acc)[k]? = some m → L k → ∀ j, m.testBit j = true → L j
 | [], acc, h, _ => h
 | o :: os, acc, h, hc => by
   refine masks_inv os (acc ++ [maskOf acc o]) (fun k m hk hL j hj => ?_) (fun i o' hi hL e he hb => hc (i + 1) o' (by simpa using hi) (by simp at hL; rwa [show acc.length + (i + 1) = acc.length + 1 + i by omega]) e he hb)
   rw [List.getElem?_append] at hk
   split at hk
   · exact h k m hk hL j hj
   · rename_i hlt
     have hk0 : k = acc.length := by
       have := (List.getElem?_eq_some_iff.1 hk).1
       simp at this
       omega
     subst hk0
     simp at hk
     subst hk
     obtain ⟨e, he, hb, hor⟩ := maskOf_bit hj
     have hLe := hc 0 o (by simp) (by simpa using hL) e he hb
     rcases hor with rfl | hor
     · exact hLe
     · cases hacc : acc[e.on]? with
       | none => rw [List.getD_eq_getElem?_getD, hacc] at hor; simp at hor
       | some m' => rw [List.getD_eq_getElem?_getD, hacc] at hor; exact h e.on m' hacc hLe j hor
def runIdx (K : Oracle) (base : Nat) (al : List AOper) : List Nat → St → Option St
 | [], st => some st
 | i :: is, st => (runOp K base (al.getD i default) st).bind (runIdx K base al is)
theorem runIdx_range (al : List AOper) (st : St) : runIdx K base al (List.range al.length) st = runOps K base al st := by
 have key : ∀ (l : List AOper) (k : Nat) (st : St), (∀ j, l[j]? = al[k + j]?) → runIdx K base al (List.range' k l.length) st = runOps K base l st := by
   intro l
   induction l with
   | nil => intro k st _; rfl
   | cons o l ih =>
     intro k st h
     have h0 : al[k]? = some o := by simpa using (h 0).symm
     simp only [List.length_cons, List.range'_succ, runIdx, runOps, List.getD_eq_getElem?_getD, h0, Option.getD_some]
     congr 1
     funext s
     exact ih (k + 1) s (fun j => by have := h (j + 1); simpa [Nat.add_assoc, Nat.add_comm 1 j] using this)
 rw [List.range_eq_range']
 exact key al 0 st (by simp)
theorem front {al : List AOper} {i : Nat} (R2 : List Nat) : ∀ (R1 : List Nat) (st st' : St), (∀ j, j ∈ R1 → pairOK (al.getD j default) (al.getD i default) = true) → runIdx K base al (R1 ++ i :: R2) st = some st' →
   ∃ s1, runOp K base (al.getD i default) st = some s1 ∧ runIdx K base al (R1 ++ R2) s1 = some st'
 | [], st, st', _, h => by
   simp only [List.nil_append, runIdx, Option.bind_eq_some_iff] at h
   exact h
 | j :: R1, st, st', hp, h => by
   simp only [List.cons_append, runIdx, Option.bind_eq_some_iff] at h
   obtain ⟨s0, h0, h1⟩ := h
   obtain ⟨s1, h2, h3⟩ := front R2 R1 s0 st' (fun k hk => hp k (by simp [hk])) h1
   obtain ⟨t1, h4, h5⟩ := swap (hp j (by simp)) h0 h2
   refine ⟨t1, h4, ?_⟩
   simp only [List.cons_append, runIdx, h5, Option.bind_some]
   exact h3
def left (n : Nat) (listed : Array Bool) : List Nat := (List.range n).filter fun i => !listed.getD i true
theorem range_split {n i : Nat} (h : i < n) : List.range n = List.range i ++ i :: List.range' (i + 1) (n - i - 1) := by
 rw [List.range_eq_range', List.range_eq_range', show n = i + (n - i - 1 + 1) by omega, ← List.range'_append (s := 0) (m := i) (n := n - i - 1 + 1) (step := 1)]
 simp only [Nat.zero_add, Nat.one_mul, List.range'_succ]
 congr 3
 omega
theorem left_take {n i : Nat} {listed : Array Bool} (hs : listed.size = n) (hi : i < n) (hl : listed.getD i true = false) :
   ∃ R1 R2, left n listed = R1 ++ i :: R2 ∧ left n (listed.setIfInBounds i true) = R1 ++ R2 ∧ ∀ j, j ∈ R1 → j < i ∧ listed.getD j true = false := by
 refine ⟨(List.range i).filter fun j => !listed.getD j true, (List.range' (i + 1) (n - i - 1)).filter fun j => !listed.getD j true, ?_, ?_, ?_⟩
 · unfold left
   rw [range_split hi, List.filter_append, List.filter_cons, if_pos (by simp [hl])]
 · unfold left
   have hne : ∀ j, j ≠ i → (listed.setIfInBounds i true).getD j true = listed.getD j true := fun j hj => by
     simp [Array.getD_eq_getD_getElem?, Array.getElem?_setIfInBounds, Ne.symm hj]
   have heq : (listed.setIfInBounds i true).getD i true = true := by
     simp [Array.getD_eq_getD_getElem?, Array.getElem?_setIfInBounds, hs, hi]
   rw [range_split hi, List.filter_append, List.filter_cons, if_neg (by simp [heq])]
   congr 1
   · exact List.filter_congr fun j hj => by rw [hne j (by simp at hj; omega)]
   · exact List.filter_congr fun j hj => by rw [hne j (by simp [List.mem_range'] at hj; omega)]
 · intro j hj
   simp only [List.mem_filter, List.mem_range, Bool.not_eq_true'] at hj
   exact hj
theorem any_sound (hK : Valid P K) {ops : Array Oper} {al : List AOper} (hc : chkDraw P ops al = true) {Q : Exit → Act → World → Prop} {st' : St} : ∀ (fuel : Nat) (listed : Array Bool) (st : St) (a : Act) (w : World) (μ : Nat → Loc) (S : Nat → Prop),
   listed.size = ops.size → (left ops.size listed).length ≤ fuel → (∀ (i : Nat) (o : Oper), ops[i]? = some o → listed.getD i true = true → ∀ e, e ∈ o.after.toList → Region.binds .any e = true → listed.getD e.on false = true) → Rep μ w S st a →
   runIdx K base al (left ops.size listed) st = some st' → (∀ a' w' μ1 S1, Rep μ1 w' S1 st' a' → Ext μ S w μ1 S1 w' → Up μ μ1 → st'.k = st.k → Q .normal a' w') → wpAny P .any ops Q fuel listed a w := by
 unfold chkDraw at hc
 simp only [Bool.and_eq_true] at hc
 obtain ⟨⟨hops, hedges⟩, hpairs⟩ := hc
 have hlen := all2_length hops
 have hsz : ops.toList.length = ops.size := by simp
 -- nothing ready: nothing left
 have stuck_ : ∀ listed : Array Bool, listed.size = ops.size → Region.ready .any ops listed = [] → left ops.size listed = [] := by
   intro listed hls hr
   cases hleft : left ops.size listed with
   | nil => rfl
   | cons i R =>
     exfalso
     have hi : i ∈ left ops.size listed := by rw [hleft]; simp
     have hmin : ∀ j, j < i → j < ops.size → listed.getD j true = true := by
       intro j hj hjn
       cases hjl : listed.getD j true with
       | true => rfl
       | false =>
         exfalso
         obtain ⟨R1, R2, h1, _, h3⟩ := left_take hls hjn hjl
         have hsorted : ∀ (n : Nat) (p : Nat → Bool), ((List.range n).filter p).Pairwise (· < ·) := fun n p => List.Pairwise.filter p List.pairwise_lt_range
         have := hsorted ops.size (fun i => !listed.getD i true)
         have hleft' : (List.range ops.size).filter (fun i => !listed.getD i true) = i :: R := hleft
         rw [hleft'] at this
         have hj' : j ∈ i :: R := by rw [← hleft', show (List.range ops.size).filter (fun i => !listed.getD i true) = left ops.size listed from rfl, h1]; simp
         rcases List.mem_cons.1 hj' with h4 | h4
         · omega
         · have := (List.pairwise_cons.1 this).1 j h4; omega
     have hin : i < ops.size ∧ listed.getD i true = false := by simpa [left] using hi
     have hoi : ops[i]? = some ops[i] := Array.getElem?_eq_getElem hin.1
     have hed := List.all_eq_true.1 hedges i (by simp; exact hin.1)
     unfold edgesB at hed
     rw [show ops.toList[i]? = some ops[i] by simpa using hoi] at hed
     simp only [List.all_eq_true, Bool.or_eq_true, Bool.not_eq_true', decide_eq_true_eq] at hed
     have : i ∈ Region.ready .any ops listed := by
       unfold Region.ready
       simp only [List.mem_filter, List.mem_range]
       refine ⟨hin.1, ?_⟩
       rw [hoi]
       simp only [hin.2, Bool.not_false, Bool.true_and, Option.map_some, Option.getD_some]
       rw [← Array.all_toList, List.all_eq_true]
       intro e he
       rcases hed e he with h1 | h1
       · simp [h1]
       · have h5 := hmin e.on h1 (by omega)
         have h6 : e.on < listed.size := by omega
         have : listed.getD e.on false = true := by
           rw [Array.getD_eq_getD_getElem?, Array.getElem?_eq_getElem h6] at h5 ⊢
           simpa using h5
         simp [this]
     rw [hr] at this
     cases this
 intro fuel
 induction fuel with
 | zero =>
   intro listed st a w μ S hls hfuel hclosed rep hrun hq
   have hnil : left ops.size listed = [] := List.eq_nil_of_length_eq_zero (by omega)
   rw [hnil] at hrun
   simp only [runIdx, Option.some.injEq] at hrun
   subst hrun
   refine ⟨?_, hq a w μ S rep (Ext.refl _ _ _) (Up.refl _) rfl⟩
   unfold Region.ready
   rw [List.filter_eq_nil_iff]
   intro i hi
   have hi' : i < ops.size := by simpa using hi
   have : listed.getD i true = true := by
     cases h : listed.getD i true with
     | true => rfl
     | false =>
       have : i ∈ left ops.size listed := by unfold left; simp only [List.mem_filter, List.mem_range]; exact ⟨hi', by rw [h]; rfl⟩
       rw [hnil] at this
       cases this
   simp [this]
 | succ fuel ih =>
   intro listed st a w μ S hls hfuel hclosed rep hrun hq
   refine ⟨fun hr => ?_, fun i hi => ?_⟩
   · rw [stuck_ listed hls hr] at hrun
     simp only [runIdx, Option.some.injEq] at hrun
     subst hrun
     exact hq a w μ S rep (Ext.refl _ _ _) (Up.refl _) rfl
   · unfold Region.ready at hi
     simp only [List.mem_filter, List.mem_range] at hi
     obtain ⟨hin, hi2⟩ := hi
     have hoi : ops[i]? = some ops[i] := Array.getElem?_eq_getElem hin
     rw [hoi] at hi2
     simp only [Option.map_some, Option.getD_some, Bool.and_eq_true, Bool.not_eq_true'] at hi2
     obtain ⟨hun, hed⟩ := hi2
     rw [← Array.all_toList, List.all_eq_true] at hed
     obtain ⟨R1, R2, h1, h2, h3⟩ := left_take hls hin hun
     rw [h1] at hrun
     have hali : al[i]? = some (al.getD i default) := by
       have : i < al.length := by rw [← hlen, hsz]; exact hin
       rw [List.getD_eq_getElem?_getD, List.getElem?_eq_getElem this]
       rfl
     have hpr : ∀ j, j ∈ R1 → pairOK (al.getD j default) (al.getD i default) = true := fun j hj => by
       obtain ⟨hji, hjl⟩ := h3 j hj
       have h4 := List.all_eq_true.1 (List.all_eq_true.1 hpairs i (by rw [hsz]; simpa using hin)) j (by simpa using hji)
       simp only [Bool.or_eq_true] at h4
       rcases h4 with h4 | h4
       · exfalso
         -- j comes before i: then it is listed
         have hm : ∃ m, (masks ops.toList [])[i]? = some m ∧ m.testBit j = true := by
           cases hmi : (masks ops.toList [])[i]? with
           | none => rw [List.getD_eq_getElem?_getD, hmi] at h4; simp at h4
           | some m => rw [List.getD_eq_getElem?_getD, hmi] at h4; exact ⟨m, rfl, h4⟩
         obtain ⟨m, hm1, hm2⟩ := hm
         have hL : listed.getD j false = true := by
           have := masks_inv (L := fun k => k = i ∨ listed.getD k false = true) ops.toList [] (by simp) (fun k o hk hLk e he hb => by
             simp only [List.length_nil, Nat.zero_add] at hLk
             have hk' : ops[k]? = some o := by simpa using hk
             rcases hLk with rfl | hLk
             · rw [hoi] at hk'
               cases hk'
               have := hed e he
               simp only [Bool.or_eq_true, Bool.not_eq_true'] at this
               rcases this with h5 | h5
               · rw [hb] at h5; cases h5
               · exact .inr h5
             · have hlt : k < listed.size := by
                 rcases Nat.lt_or_ge k listed.size with h | h
                 · exact h
                 · rw [Array.getD_eq_getD_getElem?, Array.getElem?_eq_none h] at hLk; cases hLk
               refine .inr (hclosed k o hk' ?_ e he hb)
               rw [Array.getD_eq_getD_getElem?, Array.getElem?_eq_getElem hlt] at hLk ⊢
               simpa using hLk) i m hm1 (.inl rfl) j hm2
           rcases this with h5 | h5
           · omega
           · exact h5
         have hlt : j < listed.size := by omega
         rw [Array.getD_eq_getD_getElem?, Array.getElem?_eq_getElem hlt] at hL hjl
         simp at hL hjl
         rw [hL] at hjl
         cases hjl
       · exact h4
     obtain ⟨s1, hs1, hs2⟩ := front R2 R1 st st' hpr hrun
     have hco : chkOper P ops ops[i] (al.getD i default) = true := all2_get hops i _ _ (by simpa using hoi) hali
     have hstep := runOp_sound hK (ops := ops) rep hco hs1 (wpAny P .any ops Q fuel (listed.setIfInBounds i true)) Q (fun a1 w1 μ1 S1 r1 x1 u1 hk1 => by
       refine ih (listed.setIfInBounds i true) s1 a1 w1 μ1 S1 (by simpa using hls) ?_ ?_ r1 (by rw [h2]; exact hs2) (fun a2 w2 μ2 S2 r2 x2 u2 hk2 => hq a2 w2 μ2 S2 r2 (x1.trans x2) (u1.trans u2) (hk2.trans hk1))
       · rw [h2]
         rw [h1] at hfuel
         simp at hfuel ⊢
         omega
       · intro k o hk hlk e he hb
         have hset : ∀ d, listed.getD e.on false = true → (listed.setIfInBounds i true).getD e.on d = true := fun d h5 => by
           have hlt : e.on < listed.size := by
             rcases Nat.lt_or_ge e.on listed.size with h | h
             · exact h
             · rw [Array.getD_eq_getD_getElem?, Array.getElem?_eq_none h] at h5; cases h5
           rw [Array.getD_eq_getD_getElem?] at h5 ⊢
           rw [Array.getElem?_setIfInBounds]
           split
           · rename_i hie; subst hie; simp [hlt]
           · rw [Array.getElem?_eq_getElem hlt] at h5 ⊢; simpa using h5
         by_cases hki : k = i
         · subst hki
           rw [hoi] at hk
           cases hk
           have := hed e he
           simp only [Bool.or_eq_true, Bool.not_eq_true'] at this
           rcases this with h5 | h5
           · rw [hb] at h5; cases h5
           · exact hset false h5
         · refine hset false (hclosed k o hk ?_ e he hb)
           rw [Array.getD_eq_getD_getElem?, Array.getElem?_setIfInBounds, if_neg (fun e => hki e.symm)] at hlk
           rw [Array.getD_eq_getD_getElem?]
           exact hlk)
     unfold wpOp
     rw [hoi]
     simp only
     split
     · rename_i hw; rw [if_pos hw] at hstep; exact .inl hstep
     · rename_i hw; rw [if_neg hw] at hstep; exact hstep
theorem draw_sound (hK : Valid P K) (hmix : P.follows .mixedOrders = true) {id : Nat} {ops : Array Oper} {al : List AOper} (hc : chkDraw P ops al = true) {Q : Exit → Act → World → Prop} {st st' : St} {a : Act} {w : World} {μ : Nat → Loc} {S : Nat → Prop}
   (rep : Rep μ w S st a) (h : runOps K base al st = some st') (hq : ∀ a' w' μ1 S1, Rep μ1 w' S1 st' a' → Ext μ S w μ1 S1 w' → Up μ μ1 → st'.k = st.k → Q .normal a' w') : (Code.region id ops true).wp P Q a w := by
 refine wp_region_any hmix ?_
 have hleft : left ops.size (Array.replicate ops.size false) = List.range ops.size := by
   unfold left
   rw [List.filter_eq_self]
   intro i hi
   have hi' : i < ops.size := by simpa using hi
   simp [Array.getD_eq_getD_getElem?, hi']
 have hlen : al.length = ops.size := by
   unfold chkDraw at hc
   simp only [Bool.and_eq_true] at hc
   have := all2_length hc.1.1
   simpa using this.symm
 have rep' : Rep μ w.drew S st a := ⟨⟨rep.tmps.size, fun t v hv => (rep.tmps.vr t v hv).heap rfl, rep.tmps.defers⟩, rep.heap.heap rfl⟩
 refine any_sound (base := base) (st' := st') hK hc ops.size (Array.replicate ops.size false) st a w.drew μ S (by simp) (by rw [hleft]; simp) (fun i o hi hl => ?_) rep' (by rw [hleft, ← hlen, runIdx_range]; exact h) (fun a' w' μ1 S1 r1 x1 u1 hk => hq a' w' μ1 S1 r1 ((Ext.heap (w := w) (w' := w.drew) rfl rfl rfl rfl).trans x1) u1 hk)
 exfalso
 have hi' : i < ops.size := (Array.getElem?_eq_some_iff.1 hi).1
 simp [Array.getD_eq_getD_getElem?, hi'] at hl
end
end AM
end Go.Proofs.YtjngkfdclcgfhaaGreatDoor
end
section
namespace Go.Proofs.YtjngkfdclcgfhaaGreatDoor
namespace AM
def exitOf : AExit → Exit
 | .normal => .normal
 | .exit id => .exit id
 | .ret => .ret
 | .goto l => .goto l
def KeepsK (k : Nat) (μ μ' : Nat → Loc) : Prop := ∀ b, b < k → μ b ≠ .free → μ' b = μ b ∨ μ' b = .dead
theorem KeepsK.refl (k : Nat) (μ : Nat → Loc) : KeepsK k μ μ := fun _ _ _ => .inl rfl
theorem KeepsK.of_up {k : Nat} {μ μ' : Nat → Loc} (h : Up μ μ') : KeepsK k μ μ' := fun b _ hb => h b hb
theorem KeepsK.trans {k : Nat} {a b c : Nat → Loc} (h : KeepsK k a b) (g : KeepsK k b c) : KeepsK k a c := fun x hx hf => by
 rcases h x hx hf with e | e
 · rcases g x hx (by rw [e]; exact hf) with e' | e'
   · exact .inl (e'.trans e)
   · exact .inr e'
 · rcases g x hx (by rw [e]; simp) with e' | e'
   · exact .inr (e'.trans e)
   · exact .inr e'
section
variable {P : Program} {K : Oracle} {N : Nat}
theorem norm_sound {μ : Nat → Loc} {w : World} {S : Nat → Prop} {st s : St} {a : Act} {keep : List Nat} (rep : Rep μ w S st a) (h : norm keep st = some s) :
   ∃ μ1, Rep μ1 w S s a ∧ Ext μ S w μ1 S w ∧ KeepsK st.k μ μ1 ∧ s.k = st.k := by
 unfold norm at h
 simp only at h
 generalize hts : (st.tmps.zipIdx.map fun (x : AVal × Nat) => match x with | (v, t) => if keep.contains t then v else AVal.undef) = ts at h
 generalize hids : reach st.heap (List.range st.k) (ts.flatMap AVal.ownT) = ids at h
 split at h
 · rename_i hc
   simp only [Option.some.injEq] at h
   subst h
   refine ⟨pick μ ids, ⟨⟨?_, fun t v hv => ?_, rep.tmps.defers⟩, ?_⟩, ?_, fun b hb hf => .inl ?_, rfl⟩
   · have : ts.length = st.tmps.length := by rw [← hts]; simp
     simp [this, rep.tmps.size]
   · simp only [List.getElem?_map, Option.map_eq_some_iff] at hv
     obtain ⟨v0, hv0, rfl⟩ := hv
     refine VR.renT (pick_follows ids) ?_
     rw [← hts, List.getElem?_map] at hv0
     simp only [Option.map_eq_some_iff] at hv0
     obtain ⟨⟨v1, t1⟩, hz, heq⟩ := hv0
     rw [List.getElem?_zipIdx] at hz
     simp only [Option.map_eq_some_iff, Prod.mk.injEq] at hz
     obtain ⟨v2, hv2, rfl, ht⟩ := hz
     simp only at heq
     split at heq
     · rw [← heq]; exact rep.tmps.vr t v2 hv2
     · rw [← heq]; exact .undef _
   · refine pack_rep rep.heap hc.1 (fun m hm => hm) (fun m ho hS => ?_) rep.heap.inS
     obtain ⟨c, hc', n, e, hh⟩ := pick_owned ho
     exact rep.heap.apart m ⟨c, n, e, hh⟩ hS
   · refine ⟨rfl, rfl, rfl, Nat.le_refl _, fun _ _ _ => rfl, fun _ h => h, fun _ h => .inl h, fun m ho => ?_⟩
     obtain ⟨c, hc', n, e, hh⟩ := pick_owned ho
     exact .inl ⟨c, n, e, hh⟩
   · have : ids[b]? = some b := by
       have h1 : (ids.take st.k)[b]? = some b := by rw [hc.2, List.getElem?_range hb]
       rw [List.getElem?_take, if_pos hb] at h1
       exact h1
     unfold pick
     rw [this]
 · cases h
theorem free_replicate {hp : Heap} {n b : Nat} (h : (hp ++ List.replicate n Slot.free).get b ≠ none) : hp.get b = (hp ++ List.replicate n Slot.free).get b := by
 rw [get_of_slot, get_of_slot] at *
 rcases Nat.lt_or_ge b hp.length with hl | hl
 · rw [List.getElem?_append_left hl]
 · exfalso
   rw [List.getElem?_append_right hl, List.getElem?_replicate] at h
   by_cases h1 : b - hp.length < n
   · rw [if_pos h1] at h; exact h rfl
   · rw [if_neg h1] at h; exact h rfl
theorem HRep.more {μ : Nat → Loc} {w : World} {S : Nat → Prop} {hp : Heap} (r : HRep μ w S hp) (n : Nat) : HRep μ w S (hp ++ List.replicate n .free) where
 live b k hb := r.live b k (by rw [free_replicate (n := n) (by rw [hb]; simp)]; exact hb)
 gone b hb := by
   cases hk : hp.get b with
   | none => exact r.gone b hk
   | some k =>
     exfalso
     have hlt := Heap.get_lt hk
     rw [get_of_slot, List.getElem?_append, if_pos hlt, ← get_of_slot, hk] at hb
     cases hb
 free b hb := by
   rcases Nat.lt_or_ge b hp.length with hl | hl
   · refine r.free b ?_
     rcases hb with hb | hb
     · rw [free_of_slot, List.getElem?_append, if_pos hl, ← free_of_slot] at hb; exact .inl hb
     · simp at hb; exact .inr (by omega)
   · exact r.free b (.inr hl)
 inj := r.inj
 apart := r.apart
 inS := r.inS
 gl := r.gl
def passes (P : Program) (l : Nat) (rest : Code) (Q : Exit → Act → World → Prop) : Nat → Act → World → Prop
 | 0, _, _ => False
 | n + 1, a, w => rest.wp P (Exit.jump l (passes P l rest Q n) Q) a w
theorem wp_scope_passes {Q : Exit → Act → World → Prop} {a : Act} {w : World} {c rest : Code} (l n : Nat) (hf : findLabel c l = some rest) (first : c.wp P (Exit.jump l (passes P l rest Q n) Q) a w) : (Code.scope c).wp P Q a w := by
 intro b k cs
 have hg : gotoIn l (.inScope c :: k) = some (.code rest :: .inScope c :: k) := by simp [gotoIn, hf]
 have key : ∀ n a w, passes P l rest Q n a w → ∃ e a' w', Q e a' w' ∧ Arrives P (lone (b.at a (.code rest :: .inScope c :: k)) cs w) b k cs e a' w' := by
   intro n
   induction n with
   | zero => intro a w h; exact h.elim
   | succ n ih =>
     intro a w h
     obtain ⟨e, a₁, w₁, hq, harr⟩ := h b (.inScope c :: k) cs
     cases e with
     | normal => exact ⟨.normal, a₁, w₁, hq, Steps.trans harr (.one step_inScope)⟩
     | exit id => exact ⟨.exit id, a₁, w₁, hq, fun k' hk => harr k' (by simp [exitTo, hk])⟩
     | goto l' =>
       obtain ⟨rfl, hJ'⟩ := hq
       obtain ⟨e₂, a₂, w₂, hq₂, harr₂⟩ := ih a₁ w₁ hJ'
       exact ⟨e₂, a₂, w₂, hq₂, .of_steps (harr _ hg) harr₂⟩
     | ret => exact ⟨_, a₁, w₁, hq, harr⟩
     | panic ch => exact ⟨_, a₁, w₁, hq, harr⟩
     | outgrown => exact ⟨_, a₁, w₁, hq, harr⟩
 obtain ⟨e, a₁, w₁, hq, harr⟩ := first b (.inScope c :: k) cs
 cases e with
 | normal => exact ⟨.normal, a₁, w₁, hq, .head step_scope (Steps.trans harr (.one step_inScope))⟩
 | exit id => exact ⟨.exit id, a₁, w₁, hq, fun k' hk => .head step_scope (harr k' (by simp [exitTo, hk]))⟩
 | goto l' =>
   obtain ⟨rfl, hJ'⟩ := hq
   obtain ⟨e₂, a₂, w₂, hq₂, harr₂⟩ := key n a₁ w₁ hJ'
   exact ⟨e₂, a₂, w₂, hq₂, .of_steps (.head step_scope (harr _ hg)) harr₂⟩
 | ret => exact ⟨_, a₁, w₁, hq, .of_steps (.one step_scope) harr⟩
 | panic ch => exact ⟨_, a₁, w₁, hq, .of_steps (.one step_scope) harr⟩
 | outgrown => exact ⟨_, a₁, w₁, hq, .of_steps (b := b) (k := k) (cs := cs) (e := .outgrown) (.one step_scope) harr⟩
end
end AM
end Go.Proofs.YtjngkfdclcgfhaaGreatDoor
end
section
namespace Go.Proofs.YtjngkfdclcgfhaaGreatDoor
namespace AM
open Go.RowKit
def chkRes (P : Program) : ResultVar → RVar → Bool
 | .tmp t, .tmp t' => t == t'
 | .cell a t, .cell agg n a' => a == a' && szB P t n && aggB P t agg && (agg || n == 1)
 | _, _ => false
section
variable {P : Program} {K : Oracle} {μ : Nat → Loc} {w : World} {S : Nat → Prop}
def resSem (tmps : Array Value) : ResultVar → Sem Value
 | .tmp t => pure (tmps.getD t undef)
 | .cell ad t => do loadVar t (← asAddr (tmps.getD ad undef))
theorem results_eq (fn : Func) (tmps : Array Value) : results fn tmps = (do let vs ← fn.results.mapM (resSem tmps); pure (if h : vs.size = 1 then vs[0] else .tuple vs)) := by
 unfold results
 congr 1
theorem res_sound {st : St} {a : Act} (rep : Rep μ w S st a) {x : ResultVar} {y : RVar} {r : AVal} (hc : chkRes P x y = true) (h : resOf st.heap st.tmps y = some r) :
   ∃ cv, (resSem a.tmps x).run P w = .ok cv w ∧ VR μ w S r cv := by
 unfold chkRes at hc
 split at hc
 · rename_i t t'
   simp only [beq_iff_eq] at hc
   subst hc
   simp only [resOf, Option.some.injEq] at h
   subst h
   refine ⟨_, rfl, ?_⟩
   have := rep.tmps.look rep.heap.gl (x := .tmp t) (y := .tmp t) (by simp [chkOpd])
   exact this
 · rename_i ad t agg n ad'
   simp only [Bool.and_eq_true, beq_iff_eq, Bool.or_eq_true] at hc
   obtain ⟨⟨⟨rfl, h1⟩, h2⟩, h3⟩ := hc
   simp only [resOf] at h
   have hv : VR μ w S (st.tmps.getD ad .undef) (a.tmps.getD ad undef) := rep.tmps.look rep.heap.gl (x := .tmp ad) (y := .tmp ad) (by simp [chkOpd])
   obtain ⟨cv, hr, hcv⟩ := load_sound (P := P) rep.heap h1 h2 hv h h3
   have hp : ∃ p, a.tmps.getD ad undef = .pointer (some p) := by
     unfold loadVal at h
     rw [if_neg (fun e => by rcases h3 with h3 | h3 <;> simp [h3] at e)] at h
     split at h
     · rename_i cs hcs
       obtain ⟨p, _, hp, _⟩ := load_cells rep.heap hv hcs
       exact ⟨p, hp⟩
     · cases h
   obtain ⟨p, hp⟩ := hp
   refine ⟨cv, ?_, hcv⟩
   simp only [resSem]
   rw [hp] at hr ⊢
   simpa [Instr.loadAt, Instr.sureAddr, asAddr] using hr
 · cases hc
theorem results_sound {st : St} {a : Act} {fn : Func} {rs : List RVar} {r : AVal} (rep : Rep μ w S st a) (hc : all2 (chkRes P) fn.results.toList rs = true) (h : resultsOf st.heap st.tmps rs = some r) :
   ∃ cv, (results fn a.tmps).run P w = .ok cv w ∧ VR μ w S r cv := by
 have key : ∀ (xs : List ResultVar) (ys : List RVar) (vs : List AVal), all2 (chkRes P) xs ys = true → allOf (resOf st.heap st.tmps) ys = some vs →
     ∃ cvs : List Value, (xs.mapM (resSem a.tmps)).run P w = .ok cvs w ∧ vs.length = cvs.length ∧ vs.length = ys.length ∧ ∀ (j : Nat) (c : AVal) (u : Value), vs[j]? = some c → cvs[j]? = some u → VR μ w S c u := by
   intro xs
   induction xs with
   | nil =>
     intro ys vs hc h
     cases ys with
     | nil => simp [allOf] at h; subst h; exact ⟨[], by simp, rfl, rfl, by simp⟩
     | cons y ys => simp [all2] at hc
   | cons x xs ih =>
     intro ys vs hc h
     cases ys with
     | nil => simp [all2] at hc
     | cons y ys =>
       simp only [all2, Bool.and_eq_true] at hc
       simp only [allOf] at h
       split at h
       · rename_i v hv
         split at h
         · rename_i vs' hvs
           simp only [Option.some.injEq] at h
           subst h
           obtain ⟨cv, h1, h2⟩ := res_sound rep hc.1 hv
           obtain ⟨cvs, h3, h4, h6, h5⟩ := ih ys vs' hc.2 hvs
           refine ⟨cv :: cvs, ?_, by simp [h4], by simp [h6], fun j c u hj hu => ?_⟩
           · rw [List.mapM_cons]
             simp only [Sem.run_bind, h1, Result.andThen_ok, h3, Sem.run_pure]
           · cases j with
             | zero => simp at hj hu; subst hj; subst hu; exact h2
             | succ j => simp at hj hu; exact h5 j c u hj hu
         · cases h
       · cases h
 have hrun : ∀ cvs : List Value, (fn.results.toList.mapM (resSem a.tmps)).run P w = .ok cvs w →
     (results fn a.tmps).run P w = .ok (if h : cvs.toArray.size = 1 then cvs.toArray[0] else .tuple cvs.toArray) w := fun cvs hr => by
   rw [results_eq, Array.mapM_eq_mapM_toList]
   simp only [Sem.run_bind, Sem.run_map, hr]
   rfl
 have hlen := all2_length hc
 unfold resultsOf at h
 split at h
 · rename_i y
   obtain ⟨cvs, h1, h2, h4, h3⟩ := key fn.results.toList [y] [r] hc (by simp [allOf, h])
   cases cvs with
   | nil => simp at h2
   | cons cv cvs =>
     cases cvs with
     | cons _ _ => simp at h2
     | nil => exact ⟨cv, by rw [hrun _ h1]; rfl, h3 0 r cv rfl rfl⟩
 · rename_i hne
   simp only [Option.map_eq_some_iff] at h
   obtain ⟨vs, hvs, rfl⟩ := h
   obtain ⟨cvs, h1, h2, h4, h3⟩ := key fn.results.toList rs vs hc hvs
   refine ⟨.tuple cvs.toArray, ?_, .tup vs cvs.toArray (by simpa using h2) (fun j c u hj hu => h3 j c u hj (by simpa using hu))⟩
   rw [hrun _ h1, dif_neg]
   intro h5
   have : rs.length = 1 := by simp at h5; omega
   match rs, this with
   | [y], _ => exact hne y rfl
def tab : List (Nat × (List AVal → Heap → Option (AVal × Heap))) → Oracle
 | [], _, _, _ => none
 | (f, g) :: l, f', args, hp => if f' = f then g args hp else tab l f' args hp
end
end AM
end Go.Proofs.YtjngkfdclcgfhaaGreatDoor
end
section
namespace Go.Proofs.YtjngkfdclcgfhaaGreatDoor
namespace AM
theorem pureOp_move (ρ : Opd → AVal) (x : Opd) : pureOp (.move x) ρ =
   (some (ρ x)) := rfl
theorem pureOp_pick (ρ : Opd → AVal) (c : Opd) (a : Opd) (b : Opd) : pureOp (.pick c a b) ρ =
   (match ρ c with | .bool t => some (if t then ρ a else ρ b) | _ => none) := rfl
theorem pureOp_build (ρ : Opd → AVal) (zero : List AVal) (parts : List (Nat × Nat × Opd)) : pureOp (.build zero parts) ρ =
   ((fillP ρ zero parts).map .agg) := rfl
theorem pureOp_nilCheck (ρ : Opd → AVal) (x : Opd) : pureOp (.nilCheck x) ρ =
   (match ρ x with | .ptr b i f => some (.ptr b i f) | .iptr cs o => some (.iptr cs o) | .fn f c => some (.fn f c) | _ => none) := rfl
theorem pureOp_bin (ρ : Opd → AVal) (op : BinOp) (x : Opd) (y : Opd) : pureOp (.bin op x y) ρ =
   (binop op (ρ x) (ρ y)) := rfl
theorem pureOp_eqB (ρ : Opd → AVal) (neg : Bool) (x : Opd) (y : Opd) : pureOp (.eqB neg x y) ρ =
   (match ρ x, ρ y with | .bool a, .bool b => some (.bool (if neg then !(a == b) else a == b)) | _, _ => none) := rfl
theorem pureOp_eqP (ρ : Opd → AVal) (neg : Bool) (x : Opd) (y : Opd) : pureOp (.eqP neg x y) ρ =
   ((eqPtr (ρ x) (ρ y)).map fun r => .bool (if neg then !r else r)) := rfl
theorem pureOp_eqI (ρ : Opd → AVal) (neg : Bool) (x : Opd) (y : Opd) : pureOp (.eqI neg x y) ρ =
   ((eqIface (ρ x) (ρ y)).map fun r => .bool (if neg then !r else r)) := rfl
theorem pureOp_eqAgg (ρ : Opd → AVal) (neg : Bool × List CK) (x : Opd) (y : Opd) : pureOp (.eqAgg neg x y) ρ =
   (match ρ x, ρ y with
   | .agg a, .agg b => (cellsEq neg.2 a b).map fun r => .bool (if neg.1 then !r else r)
   | _, _ => none) := rfl
theorem pureOp_un (ρ : Opd → AVal) (op : UnOp) (x : Opd) : pureOp (.un op x) ρ =
   (unop op (ρ x)) := rfl
theorem pureOp_conv (ρ : Opd → AVal) (k : IntKind) (x : Opd) : pureOp (.conv k x) ρ =
   (match ρ x with | .int _ n => some (.int k (k.wrap n)) | _ => none) := rfl
theorem pureOp_slice (ρ : Opd → AVal) (el : Nat) (x : Opd) (lo : Option Opd) (hi : Option Opd) (mx : Option Opd) : pureOp (.slice el x lo hi mx) ρ =
   (
   match bound ρ lo 0 with
   | none => none
   | some l =>
     match optIdx ρ hi, optIdx ρ mx with
     | some h, some m => sliceVal el (ρ x) l h m
     | _, _ => none) := rfl
theorem pureOp_sliceStr (ρ : Opd → AVal) (x : Opd) (lo : Option Opd) (hi : Option Opd) : pureOp (.sliceStr x lo hi) ρ =
   (match ρ x with
   | .str s => match bound ρ lo 0, bound ρ hi s.length with
     | some l, some h => if l ≤ h ∧ h ≤ s.length then some (.str ((s.take h).drop l)) else none
     | _, _ => none
   | _ => none) := rfl
theorem pureOp_fieldAddr (ρ : Opd → AVal) (off : Nat) (x : Opd) : pureOp (.fieldAddr off x) ρ =
   (match ρ x with | .ptr b i f => some (.ptr b i (f + off)) | .iptr cs o => some (.iptr cs (o + off)) | _ => none) := rfl
theorem pureOp_field (ρ : Opd → AVal) (agg : Bool) (off : Nat) (n : Nat) (x : Opd) : pureOp (.field agg off n x) ρ =
   (match ρ x with | .agg cs => partOf agg cs off n | _ => none) := rfl
theorem pureOp_indexSl (ρ : Opd → AVal) (e : Nat) (x : Opd) (i : Opd) : pureOp (.indexSl e x i) ρ =
   (match ρ x, idxNat (ρ i) with
   | .imm e' xs, some k => if e' = e then (xs[k]?).map fun c => .iptr c 0 else none
   | .sl b off len e', some k => if k < len ∧ e' = e then some (.ptr b (off + k) 0) else none
   | _, _ => none) := rfl
theorem pureOp_indexArr (ρ : Opd → AVal) (len : Nat) (e : Nat) (x : Opd) (i : Opd) : pureOp (.indexArr len e x i) ρ =
   (match ρ x, idxNat (ρ i) with
   | .ptr b j f, some k => if k < len then some (.ptr b j (f + k * e)) else none
   | .iptr cs o, some k => if k < len then some (.iptr cs (o + k * e)) else none
   | _, _ => none) := rfl
theorem pureOp_indexVal (ρ : Opd → AVal) (agg : Bool) (len : Nat) (e : Nat) (x : Opd) (i : Opd) : pureOp (.indexVal agg len e x i) ρ =
   (match ρ x, idxNat (ρ i) with
   | .agg cs, some k => if k < len then partOf agg cs (k * e) e else none
   | _, _ => none) := rfl
theorem pureOp_indexStr (ρ : Opd → AVal) (x : Opd) (i : Opd) : pureOp (.indexStr x i) ρ =
   (match ρ x, idxNat (ρ i) with
   | .str s, some k => match s[k]? with | some c => some (.int .u8 (c.toNat : Int)) | none => none
   | _, _ => none) := rfl
theorem pureOp_extract (ρ : Opd → AVal) (x : Opd) (i : Nat) : pureOp (.extract x i) ρ =
   (match ρ x with | .tup vs => vs[i]? | _ => none) := rfl
theorem pureOp_makeFunc (ρ : Opd → AVal) (f : Nat) (cap : List Opd) : pureOp (.makeFunc f cap) ρ =
   (if (cap.map ρ).all AVal.cellB = true then some (.fn f (cap.map ρ)) else none) := rfl
theorem pureOp_len (ρ : Opd → AVal) (x : Opd) : pureOp (.len x) ρ =
   (match lenVal (ρ x) with | some n => some (.int .i64 (n : Int)) | none => none) := rfl
theorem pureOp_lenStr (ρ : Opd → AVal) (x : Opd) : pureOp (.lenStr x) ρ =
   (match ρ x with | .str s => some (.int .i64 s.length) | _ => none) := rfl
theorem pureOp_minmax (ρ : Opd → AVal) (isMax : Bool) (x : Opd) (y : Opd) : pureOp (.minmax isMax x y) ρ =
   (match ρ x, ρ y with
   | .int k a, .int k' b => if k = k' then some (.int k (if isMax then (if b > a then b else a) else (if b < a then b else a))) else none
   | _, _ => none) := rfl
theorem pureOp_flt (ρ : Opd → AVal) (op : FOp) (x y : Opd) : pureOp (.flt op x y) ρ = fop op (ρ x) (ρ y) := rfl
attribute [simp] pureOp_flt pureOp_move pureOp_pick pureOp_build pureOp_nilCheck pureOp_bin pureOp_eqB pureOp_eqP pureOp_eqI pureOp_eqAgg pureOp_un pureOp_conv pureOp_slice pureOp_sliceStr pureOp_fieldAddr pureOp_field pureOp_indexSl pureOp_indexArr pureOp_indexVal pureOp_indexStr pureOp_extract pureOp_makeFunc pureOp_len pureOp_lenStr pureOp_minmax
attribute [simp] runBody exec runOps runOp effOp isPure isNew newOp look binop binInt isShift setTmp leave resultsOf resOf viewT viewV viewP reach reachOnce addNew alive nodupB packHeap
  AVal.renT AVal.renV AVal.renC AVal.renP DEEP AVal.immP AVal.immC AVal.cellB AVal.bareC AVal.bareV AVal.bareT AVal.ownT AVal.ownV AVal.ownC AVal.ownP Heap.get Heap.isFree allOn allOf index kill settle storeVal loadVal loadCells
  putAt cellsOf fillP fillS partOf idxNat bound optIdx sliceVal lenVal unop cellEq cellsEq eqPtr eqIface binStr appended rowsFlat settleRows smallB notIn appendVal chunks sliceArrVal norm backTo Slot.ren layBack argView visible callVal seesB
  Blk.owns Blk.ren tab List.zipIdx
theorem wrap64 {x : Int} (h1 : -9223372036854775808 ≤ x) (h2 : x ≤ 9223372036854775807) : IntKind.i64.wrap x = x := by
 simp [IntKind.wrap, IntKind.bits, IntKind.signed]; omega
end AM
end Go.Proofs.YtjngkfdclcgfhaaGreatDoor
end
section
namespace Go.Proofs
open Go.Shelf
def Tryz.lays156_ren : Go.Shelf.Ren := ⟨fun | 156 => 28 | 165 => 51 | 166 => 52 | 169 => 53 | 240 => 64 | 241 => 65 | 276 => 79 | 277 => 80 | n => n, fun | 31 => 54 | 9 => 9 | 3 => 3 | 4 => 4 | 0 => 0 | 20 => 20 | 72 => 81 | 76 => 85 | 70 => 78 | 37 => 79 | 75 => 84 | 127 => 97 | 164 => 111 | 5 => 5 | 80 => 87 | n => n, fun | n => n⟩
theorem Tryz.lays156 : Go.Proofs.Lays.n156 Tryz.prog Tryz.lays156_ren := {
 mixed := by kernel_rfl
 f156 := Tryz.func28.trans (congrArg some (by kernel_rfl))
 f165 := Tryz.func51.trans (congrArg some (by kernel_rfl))
 f166 := Tryz.func52.trans (congrArg some (by kernel_rfl))
 f169 := Tryz.func53.trans (congrArg some (by kernel_rfl))
 f240 := Tryz.func64.trans (congrArg some (by kernel_rfl))
 f241 := Tryz.func65.trans (congrArg some (by kernel_rfl))
 f276 := Tryz.func79.trans (congrArg some (by kernel_rfl))
 f277 := Tryz.func80.trans (congrArg some (by kernel_rfl))
 t0 := Tryz.underlying0
 a0 := Tryz.isAgg0
 z0 := Tryz.sizeOf0
 v0 := Tryz.zeroValue0
 t3 := Tryz.underlying3
 a3 := Tryz.isAgg3
 z3 := Tryz.sizeOf3
 v3 := Tryz.zeroValue3
 t4 := Tryz.underlying4
 a4 := Tryz.isAgg4
 z4 := Tryz.sizeOf4
 v4 := Tryz.zeroValue4
 t9 := Tryz.underlying9
 a9 := Tryz.isAgg9
 z9 := Tryz.sizeOf9
 v9 := Tryz.zeroValue9
 t20 := Tryz.underlying20
 a20 := Tryz.isAgg20
 z20 := Tryz.sizeOf20
 v20 := Tryz.zeroValue20
 t31 := Tryz.underlying54
 a31 := Tryz.isAgg54
 z31 := Tryz.sizeOf54
 v31 := Tryz.zeroValue54
 t37 := Tryz.underlying79
 a37 := Tryz.isAgg79
 z37 := Tryz.sizeOf79
 v37 := Tryz.zeroValue79
 t70 := Tryz.underlying78
 a70 := Tryz.isAgg78
 z70 := Tryz.sizeOf78
 v70 := Tryz.zeroValue78
 t72 := Tryz.underlying81
 a72 := Tryz.isAgg81
 z72 := Tryz.sizeOf81
 v72 := Tryz.zeroValue81
 t75 := Tryz.underlying84
 a75 := Tryz.isAgg84
 z75 := Tryz.sizeOf84
 v75 := Tryz.zeroValue84
 t76 := Tryz.underlying85
 a76 := Tryz.isAgg85
 z76 := Tryz.sizeOf85
 v76 := Tryz.zeroValue85
 t127 := Tryz.underlying97
 a127 := Tryz.isAgg97
 z127 := Tryz.sizeOf97
 v127 := Tryz.zeroValue97
 t164 := Tryz.underlying111
 a164 := Tryz.isAgg111
 z164 := Tryz.sizeOf111
 v164 := Tryz.zeroValue111 }
theorem Tryz.Builder_Extra_156 : Builder.Extra Tryz.prog Tryz.lays156_ren := {
 sizeBuilder := by kernel_rfl
 liesBuilder := by kernel_rfl
 t5 := Tryz.underlying5
 a5 := Tryz.isAgg5
 z5 := Tryz.sizeOf5
 v5 := Tryz.zeroValue5
 infoByte := by kernel_rfl
 cellsByte := by kernel_rfl
 sizeByte := by kernel_rfl
 neB5 := by decide }
open Go.RowKit in
theorem Tryz.strings_Join (bk o c : Nat) (xs : List ByteArray) (sep : ByteArray) (w : World) (hcells : ∀ (j : Nat) x, xs[j]? = some x → w.cell? ⟨bk, o + j, none⟩ = some (.string x)) (hbk : bk < w.heap.size) (hN : xs.length ≤ 140737488355328) (hcap : xs.length ≤ c) (hlen : (Lib.join (xs.map (·.data.toList)) sep.data.toList).length ≤ 140737488355328) :
   Calls Tryz.prog 28 #[.slice (some ⟨bk, o, none⟩) xs.length c, .string sep] w fun e w' => e = .returned (.string ⟨(Lib.join (xs.map (·.data.toList)) sep.data.toList).toArray⟩) ∧ Below w.heap.size w w' := Any.strings_Join Tryz.lays156 Tryz.Builder_Extra_156 bk o c xs sep w hcells hbk hN hcap hlen
def Tryz.laysM171_ren : Go.Shelf.Ren := ⟨fun | 171 => 27 | 243 => 50 | 246 => 63 | 283 => 75 | 284 => 76 | 285 => 77 | 286 => 78 | 129 => 92 | 317 => 91 | 318 => 93 | 319 => 94 | 320 => 95 | 337 => 100 | 338 => 101 | n => n, fun | 3 => 3 | 9 => 9 | 2 => 2 | 4 => 4 | 171 => 105 | 0 => 0 | 53 => 106 | 37 => 79 | 5 => 5 | 173 => 109 | 212 => 127 | 51 => 114 | 20 => 20 | 213 => 128 | 46 => 101 | 232 => 145 | 233 => 146 | n => n, fun | 17 => 1 | 18 => 6 | 19 => 7 | n => n⟩
theorem Tryz.laysM171 : Go.Proofs.LaysM.n171 Tryz.prog Tryz.laysM171_ren := {
 mixed := by kernel_rfl
 f129 := Tryz.func92.trans (congrArg some (by kernel_rfl))
 f171 := Tryz.func27.trans (congrArg some (by kernel_rfl))
 f243 := Tryz.func50.trans (congrArg some (by kernel_rfl))
 f246 := Tryz.func63.trans (congrArg some (by kernel_rfl))
 f283 := Tryz.func75.trans (congrArg some (by kernel_rfl))
 f284 := Tryz.func76.trans (congrArg some (by kernel_rfl))
 f285 := Tryz.func77.trans (congrArg some (by kernel_rfl))
 f286 := Tryz.func78.trans (congrArg some (by kernel_rfl))
 f317 := Tryz.func91.trans (congrArg some (by kernel_rfl))
 f318 := Tryz.func93.trans (congrArg some (by kernel_rfl))
 f319 := Tryz.func94.trans (congrArg some (by kernel_rfl))
 f320 := Tryz.func95.trans (congrArg some (by kernel_rfl))
 f337 := Tryz.func100.trans (congrArg some (by kernel_rfl))
 f338 := Tryz.func101.trans (congrArg some (by kernel_rfl))
 t0 := Tryz.underlying0
 a0 := Tryz.isAgg0
 z0 := Tryz.sizeOf0
 v0 := Tryz.zeroValue0
 t2 := Tryz.underlying2
 a2 := Tryz.isAgg2
 z2 := Tryz.sizeOf2
 v2 := Tryz.zeroValue2
 t3 := Tryz.underlying3
 a3 := Tryz.isAgg3
 z3 := Tryz.sizeOf3
 v3 := Tryz.zeroValue3
 t4 := Tryz.underlying4
 a4 := Tryz.isAgg4
 z4 := Tryz.sizeOf4
 v4 := Tryz.zeroValue4
 t5 := Tryz.underlying5
 a5 := Tryz.isAgg5
 z5 := Tryz.sizeOf5
 v5 := Tryz.zeroValue5
 t9 := Tryz.underlying9
 a9 := Tryz.isAgg9
 z9 := Tryz.sizeOf9
 v9 := Tryz.zeroValue9
 t20 := Tryz.underlying20
 a20 := Tryz.isAgg20
 z20 := Tryz.sizeOf20
 v20 := Tryz.zeroValue20
 t37 := Tryz.underlying79
 a37 := Tryz.isAgg79
 z37 := Tryz.sizeOf79
 v37 := Tryz.zeroValue79
 t46 := Tryz.underlying101
 a46 := Tryz.isAgg101
 z46 := Tryz.sizeOf101
 v46 := Tryz.zeroValue101
 t51 := Tryz.underlying114
 a51 := Tryz.isAgg114
 z51 := Tryz.sizeOf114
 v51 := Tryz.zeroValue114
 t53 := Tryz.underlying106
 a53 := Tryz.isAgg106
 z53 := Tryz.sizeOf106
 v53 := Tryz.zeroValue106
 t171 := Tryz.underlying105
 a171 := Tryz.isAgg105
 z171 := Tryz.sizeOf105
 v171 := Tryz.zeroValue105
 t173 := Tryz.underlying109
 a173 := Tryz.isAgg109
 z173 := Tryz.sizeOf109
 v173 := Tryz.zeroValue109
 t212 := Tryz.underlying127
 a212 := Tryz.isAgg127
 z212 := Tryz.sizeOf127
 v212 := Tryz.zeroValue127
 t213 := Tryz.underlying128
 a213 := Tryz.isAgg128
 z213 := Tryz.sizeOf128
 t232 := Tryz.underlying145
 a232 := Tryz.isAgg145
 z232 := Tryz.sizeOf145
 v232 := Tryz.zeroValue145
 t233 := Tryz.underlying146
 a233 := Tryz.isAgg146
 z233 := Tryz.sizeOf146
 v233 := Tryz.zeroValue146
 g17 := by kernel_rfl
 g18 := by kernel_rfl
 g19 := by kernel_rfl
 i0 := by kernel_rfl
 i2 := by kernel_rfl
 i3 := by kernel_rfl
 i4 := by kernel_rfl
 i5 := by kernel_rfl
 i9 := by kernel_rfl
 i20 := by kernel_rfl
 i37 := by kernel_rfl
 i46 := by kernel_rfl
 i51 := by kernel_rfl
 i53 := by kernel_rfl
 i171 := by kernel_rfl
 i173 := by kernel_rfl
 i212 := by kernel_rfl
 i232 := by kernel_rfl
 i233 := by kernel_rfl
 m17 := by kernel_rfl
 m18 := by kernel_rfl
 m19 := by kernel_rfl }
open Go.RowKit Go.Sort Go.Lib in
theorem Tryz.strconv_Itoa (n : Int) (h0 : -9223372036854775808 ≤ n) (h1 : n ≤ 9223372036854775807) (w : World) (htab : Lib.TabIs Tryz.prog w "internal/strconv.uint64pow10" .u64 Lib.pow10Tab) :
   Calls Tryz.prog 27 #[.int .i64 n] w fun e w' => e = .returned (.string ⟨(Lib.itoa n).toArray⟩) ∧ ∃ k os, w' = grow (w.drewN k) os := Any.strconv_Itoa Tryz.laysM171 n h0 h1 w htab
def Tryz.laysC172_ren : Go.Shelf.Ren := ⟨fun | 172 => 60 | 244 => 73 | 245 => 74 | 247 => 86 | 279 => 87 | 280 => 88 | 281 => 89 | 282 => 90 | 287 => 97 | 316 => 98 | 171 => 27 | 205 => 99 | 321 => 102 | 322 => 103 | 243 => 50 | 246 => 63 | 283 => 75 | 284 => 76 | 285 => 77 | 286 => 78 | 129 => 92 | 317 => 91 | 318 => 93 | 319 => 94 | 320 => 95 | 337 => 100 | 338 => 101 | n => n, fun | 9 => 9 | 3 => 3 | 75 => 84 | 76 => 85 | 4 => 4 | 5 => 5 | 167 => 120 | 37 => 79 | 0 => 0 | 85 => 121 | 2 => 2 | 168 => 123 | 53 => 106 | 175 => 130 | 46 => 101 | 210 => 134 | 127 => 97 | 145 => 144 | 143 => 142 | 21 => 21 | 171 => 105 | 173 => 109 | 212 => 127 | 51 => 114 | 20 => 20 | 213 => 128 | 232 => 145 | 233 => 146 | 80 => 87 | n => n, fun | 15 => 2 | 16 => 3 | 17 => 1 | 18 => 6 | 19 => 7 | n => n⟩
theorem Tryz.laysC172 : Go.Proofs.LaysC.n172 Tryz.prog Tryz.laysC172_ren := {
 mixed := by kernel_rfl
 f129 := Tryz.func92.trans (congrArg some (by kernel_rfl))
 f171 := Tryz.func27.trans (congrArg some (by kernel_rfl))
 f172 := Tryz.func60.trans (congrArg some (by kernel_rfl))
 f205 := Tryz.func99.trans (congrArg some (by kernel_rfl))
 f243 := Tryz.func50.trans (congrArg some (by kernel_rfl))
 f244 := Tryz.func73.trans (congrArg some (by kernel_rfl))
 f245 := Tryz.func74.trans (congrArg some (by kernel_rfl))
 f246 := Tryz.func63.trans (congrArg some (by kernel_rfl))
 f247 := Tryz.func86.trans (congrArg some (by kernel_rfl))
 f279 := Tryz.func87.trans (congrArg some (by kernel_rfl))
 f280 := Tryz.func88.trans (congrArg some (by kernel_rfl))
 f281 := Tryz.func89.trans (congrArg some (by kernel_rfl))
 f282 := Tryz.func90.trans (congrArg some (by kernel_rfl))
 f283 := Tryz.func75.trans (congrArg some (by kernel_rfl))
 f284 := Tryz.func76.trans (congrArg some (by kernel_rfl))
 f285 := Tryz.func77.trans (congrArg some (by kernel_rfl))
 f286 := Tryz.func78.trans (congrArg some (by kernel_rfl))
 f287 := Tryz.func97.trans (congrArg some (by kernel_rfl))
 f316 := Tryz.func98.trans (congrArg some (by kernel_rfl))
 f317 := Tryz.func91.trans (congrArg some (by kernel_rfl))
 f318 := Tryz.func93.trans (congrArg some (by kernel_rfl))
 f319 := Tryz.func94.trans (congrArg some (by kernel_rfl))
 f320 := Tryz.func95.trans (congrArg some (by kernel_rfl))
 f321 := Tryz.func102.trans (congrArg some (by kernel_rfl))
 f322 := Tryz.func103.trans (congrArg some (by kernel_rfl))
 f337 := Tryz.func100.trans (congrArg some (by kernel_rfl))
 f338 := Tryz.func101.trans (congrArg some (by kernel_rfl))
 t0 := Tryz.underlying0
 a0 := Tryz.isAgg0
 z0 := Tryz.sizeOf0
 v0 := Tryz.zeroValue0
 t2 := Tryz.underlying2
 a2 := Tryz.isAgg2
 z2 := Tryz.sizeOf2
 v2 := Tryz.zeroValue2
 t3 := Tryz.underlying3
 a3 := Tryz.isAgg3
 z3 := Tryz.sizeOf3
 v3 := Tryz.zeroValue3
 t4 := Tryz.underlying4
 a4 := Tryz.isAgg4
 z4 := Tryz.sizeOf4
 v4 := Tryz.zeroValue4
 t5 := Tryz.underlying5
 a5 := Tryz.isAgg5
 z5 := Tryz.sizeOf5
 v5 := Tryz.zeroValue5
 t9 := Tryz.underlying9
 a9 := Tryz.isAgg9
 z9 := Tryz.sizeOf9
 v9 := Tryz.zeroValue9
 t20 := Tryz.underlying20
 a20 := Tryz.isAgg20
 z20 := Tryz.sizeOf20
 v20 := Tryz.zeroValue20
 t21 := Tryz.underlying21
 a21 := Tryz.isAgg21
 z21 := Tryz.sizeOf21
 v21 := Tryz.zeroValue21
 t37 := Tryz.underlying79
 a37 := Tryz.isAgg79
 z37 := Tryz.sizeOf79
 v37 := Tryz.zeroValue79
 t46 := Tryz.underlying101
 a46 := Tryz.isAgg101
 z46 := Tryz.sizeOf101
 v46 := Tryz.zeroValue101
 t51 := Tryz.underlying114
 a51 := Tryz.isAgg114
 z51 := Tryz.sizeOf114
 v51 := Tryz.zeroValue114
 t53 := Tryz.underlying106
 a53 := Tryz.isAgg106
 z53 := Tryz.sizeOf106
 v53 := Tryz.zeroValue106
 t75 := Tryz.underlying84
 a75 := Tryz.isAgg84
 z75 := Tryz.sizeOf84
 v75 := Tryz.zeroValue84
 t76 := Tryz.underlying85
 a76 := Tryz.isAgg85
 z76 := Tryz.sizeOf85
 v76 := Tryz.zeroValue85
 t85 := Tryz.underlying121
 a85 := Tryz.isAgg121
 z85 := Tryz.sizeOf121
 v85 := Tryz.zeroValue121
 t127 := Tryz.underlying97
 a127 := Tryz.isAgg97
 z127 := Tryz.sizeOf97
 v127 := Tryz.zeroValue97
 t143 := Tryz.underlying142
 a143 := Tryz.isAgg142
 z143 := Tryz.sizeOf142
 v143 := Tryz.zeroValue142
 t145 := Tryz.underlying144
 a145 := Tryz.isAgg144
 z145 := Tryz.sizeOf144
 v145 := Tryz.zeroValue144
 t167 := Tryz.underlying120
 a167 := Tryz.isAgg120
 z167 := Tryz.sizeOf120
 v167 := Tryz.zeroValue120
 t168 := Tryz.underlying123
 a168 := Tryz.isAgg123
 z168 := Tryz.sizeOf123
 v168 := Tryz.zeroValue123
 t171 := Tryz.underlying105
 a171 := Tryz.isAgg105
 z171 := Tryz.sizeOf105
 v171 := Tryz.zeroValue105
 t173 := Tryz.underlying109
 a173 := Tryz.isAgg109
 z173 := Tryz.sizeOf109
 v173 := Tryz.zeroValue109
 t175 := Tryz.underlying130
 a175 := Tryz.isAgg130
 z175 := Tryz.sizeOf130
 v175 := Tryz.zeroValue130
 t210 := Tryz.underlying134
 a210 := Tryz.isAgg134
 z210 := Tryz.sizeOf134
 v210 := Tryz.zeroValue134
 t212 := Tryz.underlying127
 a212 := Tryz.isAgg127
 z212 := Tryz.sizeOf127
 v212 := Tryz.zeroValue127
 t213 := Tryz.underlying128
 a213 := Tryz.isAgg128
 z213 := Tryz.sizeOf128
 t232 := Tryz.underlying145
 a232 := Tryz.isAgg145
 z232 := Tryz.sizeOf145
 v232 := Tryz.zeroValue145
 t233 := Tryz.underlying146
 a233 := Tryz.isAgg146
 z233 := Tryz.sizeOf146
 v233 := Tryz.zeroValue146
 g15 := by kernel_rfl
 g16 := by kernel_rfl
 g17 := by kernel_rfl
 g18 := by kernel_rfl
 g19 := by kernel_rfl
 t80 := Tryz.underlying87
 a80 := Tryz.isAgg87
 z80 := Tryz.sizeOf87
 v80 := Tryz.zeroValue87
 i0 := by kernel_rfl
 i2 := by kernel_rfl
 i3 := by kernel_rfl
 i4 := by kernel_rfl
 i5 := by kernel_rfl
 i9 := by kernel_rfl
 i20 := by kernel_rfl
 i21 := by kernel_rfl
 i37 := by kernel_rfl
 i46 := by kernel_rfl
 i51 := by kernel_rfl
 i53 := by kernel_rfl
 i75 := by kernel_rfl
 i76 := by kernel_rfl
 i80 := by kernel_rfl
 i85 := by kernel_rfl
 i127 := by kernel_rfl
 i143 := by kernel_rfl
 i145 := by kernel_rfl
 i167 := by kernel_rfl
 i168 := by kernel_rfl
 i171 := by kernel_rfl
 i173 := by kernel_rfl
 i175 := by kernel_rfl
 i210 := by kernel_rfl
 i212 := by kernel_rfl
 i232 := by kernel_rfl
 i233 := by kernel_rfl
 m15 := by kernel_rfl
 m16 := by kernel_rfl
 m17 := by kernel_rfl
 m18 := by kernel_rfl
 m19 := by kernel_rfl
 c0 := by kernel_rfl
 c2 := by kernel_rfl
 c3 := by kernel_rfl
 c4 := by kernel_rfl
 c5 := by kernel_rfl
 c9 := by kernel_rfl
 c20 := by kernel_rfl
 c21 := by kernel_rfl
 c37 := by kernel_rfl
 c46 := by kernel_rfl
 c51 := by kernel_rfl
 c53 := by kernel_rfl
 c75 := by kernel_rfl
 c76 := by kernel_rfl
 c80 := by kernel_rfl
 c85 := by kernel_rfl
 c127 := by kernel_rfl
 c143 := by kernel_rfl
 c145 := by kernel_rfl
 c167 := by kernel_rfl
 c168 := by kernel_rfl
 c171 := by kernel_rfl
 c173 := by kernel_rfl
 c175 := by kernel_rfl
 c210 := by kernel_rfl
 c212 := by kernel_rfl
 c213 := by kernel_rfl
 c232 := by kernel_rfl
 c233 := by kernel_rfl }
open Go.RowKit in
theorem Tryz.strconv_Atoi_ok (s : ByteArray) (hmax : s.size ≤ 9223372036854775806) (v : Int) (h : Lib.atoiAll s.data.toList = .ok v) (w : World) :
   Calls Tryz.prog 60 #[.string s] w fun e w' => e = .returned (.tuple #[.int .i64 v, .nilIface]) ∧ (w' = w ∨ ∃ t, w' = Lib.bytesWorld w 5 t) := Any.strconv_Atoi_ok Tryz.laysC172 s hmax v h w
open Go.RowKit in
theorem Tryz.strconv_Atoi_syntax (s : ByteArray) (hlim : s.size ≤ 281474976710656) (h : Lib.atoiAll s.data.toList = Lib.atoiAll []) (ev : Value) (w : World) (hv : w.cell? ⟨2, 0, none⟩ = some ev) (hev : ev = .nilIface ∨ ∃ te pe, ev = .iface te pe) :
   Calls Tryz.prog 60 #[.string s] w fun e w' => ∃ N, e = .returned (.tuple #[.int .i64 (0), .iface 123 (.pointer (some ⟨N, 0, none⟩))]) ∧ w.heap.size ≤ N ∧ w'.heap[N]? = some (.cells #[.string ⟨#[65, 116, 111, 105]⟩, .string s, ev] 134 (0, 0)) ∧ Below w.heap.size w w' := Any.strconv_Atoi_syntax Tryz.laysC172 s hlim (h.trans rfl) ev w hv hev
open Go.RowKit in
theorem Tryz.strconv_Atoi_range (s : ByteArray) (hlim : s.size ≤ 281474976710656) (h : Lib.atoiAll s.data.toList = .range) (ev : Value) (w : World) (hv : w.cell? ⟨3, 0, none⟩ = some ev) (hev : ev = .nilIface ∨ ∃ te pe, ev = .iface te pe) :
   Calls Tryz.prog 60 #[.string s] w fun e w' => ∃ N, e = .returned (.tuple #[.int .i64 (Lib.atoiSat s.data.toList), .iface 123 (.pointer (some ⟨N, 0, none⟩))]) ∧ w.heap.size ≤ N ∧ w'.heap[N]? = some (.cells #[.string ⟨#[65, 116, 111, 105]⟩, .string s, ev] 134 (0, 0)) ∧ Below w.heap.size w w' := Any.strconv_Atoi_range Tryz.laysC172 s hlim h ev w hv hev
def Tryz.lays219_ren : Go.Shelf.Ren := ⟨fun | 219 => 56 | 217 => 67 | 225 => 68 | 224 => 69 | 267 => 70 | 266 => 81 | 314 => 82 | n => n, fun | 9 => 9 | 3 => 3 | 4 => 4 | 5 => 5 | 46 => 101 | 146 => 115 | 51 => 114 | n => n, fun | 1 => 0 | n => n⟩
theorem Tryz.lays219 : Go.Proofs.Lays.n219 Tryz.prog Tryz.lays219_ren := {
 mixed := by kernel_rfl
 f217 := Tryz.func67.trans (congrArg some (by kernel_rfl))
 f219 := Tryz.func56.trans (congrArg some (by kernel_rfl))
 f224 := Tryz.func69.trans (congrArg some (by kernel_rfl))
 f225 := Tryz.func68.trans (congrArg some (by kernel_rfl))
 f266 := Tryz.func81.trans (congrArg some (by kernel_rfl))
 f267 := Tryz.func70.trans (congrArg some (by kernel_rfl))
 f314 := Tryz.func82.trans (congrArg some (by kernel_rfl))
 t3 := Tryz.underlying3
 a3 := Tryz.isAgg3
 z3 := Tryz.sizeOf3
 v3 := Tryz.zeroValue3
 t4 := Tryz.underlying4
 a4 := Tryz.isAgg4
 z4 := Tryz.sizeOf4
 v4 := Tryz.zeroValue4
 t5 := Tryz.underlying5
 a5 := Tryz.isAgg5
 z5 := Tryz.sizeOf5
 v5 := Tryz.zeroValue5
 t9 := Tryz.underlying9
 a9 := Tryz.isAgg9
 z9 := Tryz.sizeOf9
 v9 := Tryz.zeroValue9
 t46 := Tryz.underlying101
 a46 := Tryz.isAgg101
 z46 := Tryz.sizeOf101
 v46 := Tryz.zeroValue101
 t51 := Tryz.underlying114
 a51 := Tryz.isAgg114
 z51 := Tryz.sizeOf114
 v51 := Tryz.zeroValue114
 t146 := Tryz.underlying115
 a146 := Tryz.isAgg115
 z146 := Tryz.sizeOf115
 v146 := Tryz.zeroValue115
 g1 := by kernel_rfl }
open Go.RowKit Go.Lib in
theorem Tryz.stringslite_Index_one (s : ByteArray) (c : UInt8) (w : World) :
   Calls Tryz.prog 56 #[.string s, .string ⟨#[c]⟩] w fun e w' => e = .returned (.int .i64 (Lib.indexByte s.data.toList c)) ∧ w' = w := Any.stringslite_Index_one Tryz.lays219 s c w
def Tryz.lays143_ren : Go.Shelf.Ren := ⟨fun | 143 => 85 | 219 => 56 | 217 => 67 | 225 => 68 | 224 => 69 | 267 => 70 | 266 => 81 | 314 => 82 | n => n, fun | 9 => 9 | 3 => 3 | 4 => 4 | 5 => 5 | 46 => 101 | 146 => 115 | 51 => 114 | n => n, fun | 1 => 0 | n => n⟩
theorem Tryz.lays143 : Go.Proofs.Lays.n143 Tryz.prog Tryz.lays143_ren := {
 mixed := by kernel_rfl
 f143 := Tryz.func85.trans (congrArg some (by kernel_rfl))
 f217 := Tryz.func67.trans (congrArg some (by kernel_rfl))
 f219 := Tryz.func56.trans (congrArg some (by kernel_rfl))
 f224 := Tryz.func69.trans (congrArg some (by kernel_rfl))
 f225 := Tryz.func68.trans (congrArg some (by kernel_rfl))
 f266 := Tryz.func81.trans (congrArg some (by kernel_rfl))
 f267 := Tryz.func70.trans (congrArg some (by kernel_rfl))
 f314 := Tryz.func82.trans (congrArg some (by kernel_rfl))
 t3 := Tryz.underlying3
 a3 := Tryz.isAgg3
 z3 := Tryz.sizeOf3
 v3 := Tryz.zeroValue3
 t4 := Tryz.underlying4
 a4 := Tryz.isAgg4
 z4 := Tryz.sizeOf4
 v4 := Tryz.zeroValue4
 t5 := Tryz.underlying5
 a5 := Tryz.isAgg5
 z5 := Tryz.sizeOf5
 v5 := Tryz.zeroValue5
 t9 := Tryz.underlying9
 a9 := Tryz.isAgg9
 z9 := Tryz.sizeOf9
 v9 := Tryz.zeroValue9
 t46 := Tryz.underlying101
 a46 := Tryz.isAgg101
 z46 := Tryz.sizeOf101
 v46 := Tryz.zeroValue101
 t51 := Tryz.underlying114
 a51 := Tryz.isAgg114
 z51 := Tryz.sizeOf114
 v51 := Tryz.zeroValue114
 t146 := Tryz.underlying115
 a146 := Tryz.isAgg115
 z146 := Tryz.sizeOf115
 v146 := Tryz.zeroValue115
 g1 := by kernel_rfl }
open Go.RowKit Go.Lib in
theorem Tryz.strings_Index_one (s : ByteArray) (c : UInt8) (w : World) :
   Calls Tryz.prog 85 #[.string s, .string ⟨#[c]⟩] w fun e w' => e = .returned (.int .i64 (Lib.indexByte s.data.toList c)) ∧ w' = w := Any.strings_Index_one Tryz.lays143 s c w
end Go.Proofs
end
section
namespace Go.Proofs.YtjngkfdclcgfhaaGreatDoor
open Go.RowKit
def turnPost {α : Type} (Kp : World → World → Prop) (I Ix : List α → World → Prop) (xs : List α) (W : World) : Exit → Act → World → Prop
 | .normal, _, W' => KeepsOthers W W' ∧ Kp W W' ∧ I xs W'
 | .ret, _, W' => KeepsOthers W W' ∧ Ix xs W'
 | _, _, _ => False
theorem range_turn {α : Type} {F : Fence} {n : Nat} {P : Program} {g : Operand} {ps : Array Tmp} {assign body : Code} {Q : Exit → Act → World → Prop} {a : Act} {w : World}
   (hro : F.round = none) (h1 : 1 ≤ n) {gf : Nat} {lb : Array Value} (hg : a.eval g = .func (.func gf) #[] lb) (hFg : F.fn gf) (eg : ∀ args w, (callFunc gf args).run P w = .ok (.enter gf args) w)
   {encs : α → Array Value} (Tu Kp : World → World → Prop) (S Sp Np : List α → Prop)
   (hTu : ∀ A B, Tu A B → ∀ (k : Nat) (o : Obj), A.heap[k]? = some o → o.isCells = false → B.heap[k]? = some o)
   (hseq : ∀ (l : Nat) (J Jx : List α → World → Prop) (W : World), Below w.heap.size w W → (∀ s A B, J s A → Tu A B → J s B) →
     (∀ pre x W1, J pre W1 → Np (pre ++ [x]) → YieldAt F (n - 1 - 1) P l (encs x) W1 fun e W' => (e = .returned (.bool true) ∧ J (pre ++ [x]) W' ∧ Kp W1 W') ∨ (e = .returned (.bool false) ∧ Jx (pre ++ [x]) W')) →
     J [] W →
     CallsIn F (n - 1) P gf (#[.func (.yield l) #[] #[]] ++ lb) W fun e W' => (∃ v, e = .returned v) ∧ ((∃ xs, S xs ∧ J xs W') ∨ (∃ pre, Sp pre ∧ Jx pre W')))
   (hKt : ∀ {A B C : World}, Kp A B → Kp B C → Kp A C) (hKb : ∀ (W : World) (l : Nat) (o o' : Obj), w.heap.size ≤ l → W.heap[l]? = some o → o.isCells = false → Kp W (W.putObj l o')) (hps : ∀ x, (encs x).size = ps.size)
   (I Ix : List α → World → Prop) (hI : OwnFrom w.heap.size I) (hIx : OwnFrom w.heap.size Ix) (hIt : ∀ s A B, I s A → Tu A B → I s B) (h0 : I [] w) (a₁ : α → Act)
   (hassign : ∀ (l : Nat) (x : α) (W : World) (K : Act → World → Prop), K (a₁ x) W →
     assign.wpIn (F.inRound l) (n - 1 - 1) P (Exit.then K (fun _ _ _ => False)) { tmps := (ps.zip (encs x)).foldl (fun t (p, v) => t.setIfInBounds p v) a.tmps, defers := [] } W)
   (hbody : ∀ (l : Nat) (pre : List α) (x : α) (W : World), I pre W → Np (pre ++ [x]) → w.heap.size ≤ W.heap.size → body.wpIn (F.inRound l) (n - 1 - 1) P (turnPost Kp I Ix (pre ++ [x]) W) (a₁ x) W)
   (hdone : ∀ (D : Nat) (xs : List α) (W : World), S xs → I xs W → W.heap[D]? = some (.deferred (some [])) → w.heap.size ≤ D → Q .normal { a with defers := { target := .collected D, args := #[] } :: a.defers } W)
   (hstop : ∀ (D : Nat) (pre : List α) (W : World), Sp pre → Ix pre W → W.heap[D]? = some (.deferred (some [])) → w.heap.size ≤ D → Code.ret.wpIn F n P Q { a with defers := { target := .collected D, args := #[] } :: a.defers } W) :
   (Code.rangeFunc g ps assign body).wpIn F n P Q a w := by
 refine wpIn_rangeFunc fun fn hfn => ?_
 rw [hro]
 obtain ⟨rec, hrec⟩ : ∃ rec : LoopState → Option Code → Loop, rec = fun st pe => { state := st, pending := pe, fn, tmps := a.tmps, params := ps, assign, body, defers := w.heap.size } := ⟨_, rfl⟩
 obtain ⟨W1, hW1⟩ : ∃ W1, (w.alloc (.deferred (some []))).alloc (.loop (rec .ready none)) = W1 := ⟨_, rfl⟩
 obtain ⟨l, hl⟩ : ∃ l, l = w.heap.size + 1 := ⟨_, rfl⟩
 have hL1 : W1.heap[l]? = some (.loop (rec .ready none)) := by
   rw [← hW1, hl]; have := World.alloc_heap_new (w.alloc (.deferred (some []))) (.loop (rec .ready none)); rwa [World.size_alloc] at this
 have hK1 : W1.heap[w.heap.size]? = some (.deferred (some [])) := by
   rw [← hW1]; exact (Below.heap_alloc _ _ _ (by simp)).trans (World.alloc_heap_new w _)
 have hI1 : I [] W1 := by rw [← hW1]; exact hI.alloc _ (hI.alloc _ h0)
 have hb1 : Below w.heap.size w W1 := by
   rw [← hW1]; exact (((Below.refl _ w).alloc (Nat.le_refl _) _).alloc (by simp) _)
 refine ⟨l, [{ target := .collected w.heap.size, args := #[] }], W1, { target := .fn (.func gf) lb, args := #[.func (.yield l) #[] #[]] }, W1, gf,
   #[.func (.yield l) #[] #[]] ++ lb, W1, ?_, ?_, ?_, ?_, fun _ => h1, ?_⟩
 · rw [← hW1, hrec, hl]; exact run_enterLoop_outer _ _ _ _ _
 · simp only [resolve, hg]
   simp [go_sem]
 · intro f' hf'; simp [Target.leads] at hf'; subst hf'; exact hFg
 · simp [invoke, go_sem, eg]
 refine (hseq l (fun pre W => I pre W ∧ W.heap[l]? = some (.loop (rec .ready none)) ∧ W.heap[w.heap.size]? = some (.deferred (some [])))
   (fun pre W => Ix pre W ∧ W.heap[l]? = some (.loop (rec .done (some .ret))) ∧ W.heap[w.heap.size]? = some (.deferred (some []))) W1 hb1 ?_ ?_ ⟨hI1, hL1, hK1⟩).mono ?_
 · rintro s A B ⟨q1, q2, q3⟩ ht
   exact ⟨hIt s A B q1 ht, hTu A B ht _ _ q2 rfl, hTu A B ht _ _ q3 rfl⟩
 · -- one round
   rintro pre x W ⟨hi, hrl, hk⟩ hnp
   have hlt : l < W.heap.size := (Array.getElem?_eq_some_iff.1 hrl).1
   have hy := run_yield (P := P) (args := encs x) hrl (by rw [hrec]; exact hps x)
   rw [hrec] at hy
   refine ⟨fn, _, assign, body, hy, roundIn_of_wpIn hfn (hassign _ x W _ ⟨_, run_beginRound hrl (by rw [hrec]), ?_⟩)⟩
   obtain ⟨W2, hW2⟩ : ∃ W2, W.putObj l (.loop { rec .ready none with state := .busy }) = W2 := ⟨_, rfl⟩
   rw [hW2]
   have hl2 : W2.heap[l]? = some (.loop { rec .ready none with state := .busy }) := by rw [← hW2]; exact World.putObj_heap_same hlt
   have hk2 : W2.heap[w.heap.size]? = some (.deferred (some [])) := by rw [← hW2]; exact (World.putObj_heap_other (by omega)).trans hk
   have hw2 : Kp W W2 := by rw [← hW2]; exact hKb _ _ _ _ (by omega) hrl rfl
   have hi2 : I pre W2 := by rw [← hW2]; exact hI.putObj _ hi (by omega) hrl rfl
   have hsz : w.heap.size ≤ W2.heap.size := by have := (Array.getElem?_eq_some_iff.1 hl2).1; omega
   refine wpIn_mono (hbody _ pre x _ hi2 hnp hsz) ?_
   rintro e a3 W3 hp
   have fin : ∀ jump : Option Code, KeepsOthers W2 W3 → (Instr.endRound l jump).run P W3 = .ok (.bool jump.isNone) (W3.putObj l (.loop (rec (if jump.isNone then .ready else .done) jump))) ∧
       W3.heap[l]? = some (.loop { rec .ready none with state := .busy }) ∧
       (W3.putObj l (.loop (rec (if jump.isNone then .ready else .done) jump))).heap[l]? = some (.loop (rec (if jump.isNone then .ready else .done) jump)) ∧
       (W3.putObj l (.loop (rec (if jump.isNone then .ready else .done) jump))).heap[w.heap.size]? = some (.deferred (some [])) := fun jump hk3 => by
     have hl3 := hk3.same _ _ hl2 rfl
     have := run_endRound (P := P) jump hl3
     rw [hrec] at this ⊢
     exact ⟨this, by rw [hrec] at hl3; exact hl3, World.putObj_heap_same (Array.getElem?_eq_some_iff.1 hl3).1, (World.putObj_heap_other (by omega)).trans (hk3.same _ _ hk2 rfl)⟩
   cases e with
   | normal =>
     obtain ⟨hk3, hkp3, hi3⟩ := hp
     obtain ⟨hr, hl3, hl4, hk4⟩ := fin none hk3
     exact ⟨_, _, hr, .inl ⟨rfl, ⟨hI.putObj _ hi3 (by omega) hl3 rfl, hl4, hk4⟩, hKt (hKt hw2 hkp3) (hKb _ _ _ _ (by omega) hl3 rfl)⟩⟩
   | ret =>
     obtain ⟨hk3, hi3⟩ := hp
     obtain ⟨hr, hl3, hl4, hk4⟩ := fin (some .ret) hk3
     exact ⟨_, _, hr, .inr ⟨rfl, hIx.putObj _ hi3 (by omega) hl3 rfl, hl4, hk4⟩⟩
   | exit id => exact hp.elim
   | goto t => exact hp.elim
   | panic ch => exact hp.elim
   | outgrown => exact hp.elim
 · rintro e W2 ⟨⟨v, rfl⟩, (⟨xs, hS, hi, hrl, hk⟩ | ⟨pre, hSp, hi, hrl, hk⟩)⟩
   · exact ⟨none, _, by have := run_endLoop (P := P) hrl (by rw [hrec]; simp); rw [hrec] at this; exact this, hdone _ xs _ hS (hI.putObj _ hi (by omega) hrl rfl) ((World.putObj_heap_other (by omega)).trans hk) (Nat.le_refl _)⟩
   · exact ⟨some .ret, _, by have := run_endLoop (P := P) hrl (by rw [hrec]; simp); rw [hrec] at this; exact this, hstop _ pre _ hSp (hIx.putObj _ hi (by omega) hrl rfl) ((World.putObj_heap_other (by omega)).trans hk) (Nat.le_refl _)⟩
end Go.Proofs.YtjngkfdclcgfhaaGreatDoor
end
