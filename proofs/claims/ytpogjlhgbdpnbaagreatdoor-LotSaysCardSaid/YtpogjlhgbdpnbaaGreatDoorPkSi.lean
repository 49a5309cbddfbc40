/-
  What the proof of LotSays leans on, part 9. (Many texts laid together by program.)
-/
import Derived.Test.YtpogjlhgbdpnbaaGreatDoorPkSh
import Derived.LoopN
import Derived.ScopeJumps
import Derived.Test.YtpogjlhgbdpnbaaGreatDoorProg
import Derived.WalkKit
import Derived.LoopTactic
import Derived.Below
import Derived.Laws.OwnMore
import Derived.Laws.Rows
import Derived.Deep.Draws
import Derived.Deep.AppendLies
import Derived.Deep.QuietTactic
import Derived.Deep.OwnRows
import Derived.BigQuiet
import Derived.Lib.Hide
import Derived.Outline
import Derived.OpenShut
import Derived.ProofKit
import Derived.Deep.Slices
import Derived.ChangeOld
import Derived.Carry
import Derived.Maps.AppendAt
import Derived.RegionTactic
import Derived.OwnWalk
import Derived.Lib.SliceRun
import Derived.WalkSpells
import Derived.WalkLawsBesides
set_option linter.unnecessarySimpa false
set_option linter.unusedSimpArgs false
set_option linter.unusedVariables false
section
namespace Go.Proofs.YtpogjlhgbdpnbaaGreatDoor
namespace AM
def maskOf (acc : List Nat) (o : Oper) : Nat := o.after.toList.foldl (fun s e => if Region.binds .any e then s ||| 2 ^ e.on ||| acc.getD e.on 0 else s) 0
def masks : List Oper → List Nat → List Nat
 | [], acc => acc
 | o :: os, acc => masks os (acc ++ [maskOf acc o])
def edgesB (ops : List Oper) (i : Nat) : Bool := match ops[i]? with | some o => o.after.toList.all (fun e => !Region.binds .any e || decide (e.on < i)) | none => false
def chkDraw (P : Program) (ops : Array Oper) (al : List AOper) : Bool :=
 all2 (chkOper P ops) ops.toList al && (List.range ops.toList.length).all (edgesB ops.toList) &&
 (List.range ops.toList.length).all fun j => (List.range j).all fun i => ((masks ops.toList []).getD j 0).testBit i || pairOK (al.getD i default) (al.getD j default)
section
variable {P : Program} {K : Oracle} {base : Nat}
theorem maskOf_bit {acc : List Nat} {o : Oper} {j : Nat} (h : (maskOf acc o).testBit j = true) : ∃ e, e ∈ o.after.toList ∧ Region.binds .any e = true ∧ (j = e.on ∨ (acc.getD e.on 0).testBit j = true) := by
 unfold maskOf at h
 have key : ∀ (l : List Edge) (s : Nat), (l.foldl (fun s e => if Region.binds .any e then s ||| 2 ^ e.on ||| acc.getD e.on 0 else s) s).testBit j = true → s.testBit j = true ∨ ∃ e, e ∈ l ∧ Region.binds .any e = true ∧ (j = e.on ∨ (acc.getD e.on 0).testBit j = true) := by
   intro l
   induction l with
   | nil => intro s h; exact .inl h
   | cons e l ih =>
     intro s h
     simp only [List.foldl_cons] at h
     rcases ih _ h with h1 | ⟨e', he', h1⟩
     · split at h1
       · rename_i hb
         rw [Nat.testBit_or, Nat.testBit_or, Nat.testBit_two_pow] at h1
         simp only [Bool.or_eq_true, decide_eq_true_eq] at h1
         rcases h1 with (h1 | h1) | h1
         · exact .inl h1
         · exact .inr ⟨e, by simp, hb, .inl h1.symm⟩
         · exact .inr ⟨e, by simp, hb, .inr h1⟩
       · exact .inl h1
     · exact .inr ⟨e', by simp [he'], h1⟩
 rcases key _ _ h with h1 | h1
 · simp at h1
 · exact h1
theorem masks_inv {L : Nat → Prop} : ∀ (os : List Oper) (acc : List Nat), (∀ (k m : Nat), acc[k]? = some m → L k → ∀ j, m.testBit j = true → L j) →
   (∀ (i : Nat) (o : Oper), os[i]? = some o → L (acc.length + i) → ∀ e, e ∈ o.after.toList → Region.binds .any e = true → L e.on) → ∀ (k m : Nat), (masks os acc)[k]? = some m → L k → ∀ j, m.testBit j = true → L j
 | [], acc, h, _ => h
 | o :: os, acc, h, hc => by
   refine masks_inv os (acc ++ [maskOf acc o]) (fun k m hk hL j hj => ?_) (fun i o' hi hL e he hb => hc (i + 1) o' (by simpa using hi) (by simp at hL; rwa [show acc.length + (i + 1) = acc.length + 1 + i by omega]) e he hb)
   rw [List.getElem?_append] at hk
   split at hk
   · exact h k m hk hL j hj
   · rename_i hlt
     have hk0 : k = acc.length := by
       have := (List.getElem?_eq_some_iff.1 hk).1
       simp at this
       omega
     subst hk0
     simp at hk
     subst hk
     obtain ⟨e, he, hb, hor⟩ := maskOf_bit hj
     have hLe := hc 0 o (by simp) (by simpa using hL) e he hb
     rcases hor with rfl | hor
     · exact hLe
     · cases hacc : acc[e.on]? with
       | none => rw [List.getD_eq_getElem?_getD, hacc] at hor; simp at hor
       | some m' => rw [List.getD_eq_getElem?_getD, hacc] at hor; exact h e.on m' hacc hLe j hor
def runIdx (K : Oracle) (base : Nat) (al : List AOper) : List Nat → St → Option St
 | [], st => some st
 | i :: is, st => (runOp K base (al.getD i default) st).bind (runIdx K base al is)
theorem runIdx_range (al : List AOper) (st : St) : runIdx K base al (List.range al.length) st = runOps K base al st := by
 have key : ∀ (l : List AOper) (k : Nat) (st : St), (∀ j, l[j]? = al[k + j]?) → runIdx K base al (List.range' k l.length) st = runOps K base l st := by
   intro l
   induction l with
   | nil => intro k st _; rfl
   | cons o l ih =>
     intro k st h
     have h0 : al[k]? = some o := by simpa using (h 0).symm
     simp only [List.length_cons, List.range'_succ, runIdx, runOps, List.getD_eq_getElem?_getD, h0, Option.getD_some]
     congr 1
     funext s
     exact ih (k + 1) s (fun j => by have := h (j + 1); simpa [Nat.add_assoc, Nat.add_comm 1 j] using this)
 rw [List.range_eq_range']
 exact key al 0 st (by simp)
theorem front {al : List AOper} {i : Nat} (R2 : List Nat) : ∀ (R1 : List Nat) (st st' : St), (∀ j, j ∈ R1 → pairOK (al.getD j default) (al.getD i default) = true) → runIdx K base al (R1 ++ i :: R2) st = some st' →
   ∃ s1, runOp K base (al.getD i default) st = some s1 ∧ runIdx K base al (R1 ++ R2) s1 = some st'
 | [], st, st', _, h => by
   simp only [List.nil_append, runIdx, Option.bind_eq_some_iff] at h
   exact h
 | j :: R1, st, st', hp, h => by
   simp only [List.cons_append, runIdx, Option.bind_eq_some_iff] at h
   obtain ⟨s0, h0, h1⟩ := h
   obtain ⟨s1, h2, h3⟩ := front R2 R1 s0 st' (fun k hk => hp k (by simp [hk])) h1
   obtain ⟨t1, h4, h5⟩ := swap (hp j (by simp)) h0 h2
   refine ⟨t1, h4, ?_⟩
   simp only [List.cons_append, runIdx, h5, Option.bind_some]
   exact h3
def left (n : Nat) (listed : Array Bool) : List Nat := (List.range n).filter fun i => !listed.getD i true
theorem range_split {n i : Nat} (h : i < n) : List.range n = List.range i ++ i :: List.range' (i + 1) (n - i - 1) := by
 rw [List.range_eq_range', List.range_eq_range', show n = i + (n - i - 1 + 1) by omega, ← List.range'_append (s := 0) (m := i) (n := n - i - 1 + 1) (step := 1)]
 simp only [Nat.zero_add, Nat.one_mul, List.range'_succ]
 congr 3
 omega
theorem left_take {n i : Nat} {listed : Array Bool} (hs : listed.size = n) (hi : i < n) (hl : listed.getD i true = false) :
   ∃ R1 R2, left n listed = R1 ++ i :: R2 ∧ left n (listed.setIfInBounds i true) = R1 ++ R2 ∧ ∀ j, j ∈ R1 → j < i ∧ listed.getD j true = false := by
 refine ⟨(List.range i).filter fun j => !listed.getD j true, (List.range' (i + 1) (n - i - 1)).filter fun j => !listed.getD j true, ?_, ?_, ?_⟩
 · unfold left
   rw [range_split hi, List.filter_append, List.filter_cons, if_pos (by simp [hl])]
 · unfold left
   have hne : ∀ j, j ≠ i → (listed.setIfInBounds i true).getD j true = listed.getD j true := fun j hj => by
     simp [Array.getD_eq_getD_getElem?, Array.getElem?_setIfInBounds, Ne.symm hj]
   have heq : (listed.setIfInBounds i true).getD i true = true := by
     simp [Array.getD_eq_getD_getElem?, Array.getElem?_setIfInBounds, hs, hi]
   rw [range_split hi, List.filter_append, List.filter_cons, if_neg (by simp [heq])]
   congr 1
   · exact List.filter_congr fun j hj => by rw [hne j (by simp at hj; omega)]
   · exact List.filter_congr fun j hj => by rw [hne j (by simp [List.mem_range'] at hj; omega)]
 · intro j hj
   simp only [List.mem_filter, List.mem_range, Bool.not_eq_true'] at hj
   exact hj
theorem any_sound (hK : Valid P K) {ops : Array Oper} {al : List AOper} (hc : chkDraw P ops al = true) {Q : Exit → Act → World → Prop} {st' : St} : ∀ (fuel : Nat) (listed : Array Bool) (st : St) (a : Act) (w : World) (μ : Nat → Loc) (S : Nat → Prop),
   listed.size = ops.size → (left ops.size listed).length ≤ fuel → (∀ (i : Nat) (o : Oper), ops[i]? = some o → listed.getD i true = true → ∀ e, e ∈ o.after.toList → Region.binds .any e = true → listed.getD e.on false = true) → Rep μ w S st a →
   runIdx K base al (left ops.size listed) st = some st' → (∀ a' w' μ1 S1, Rep μ1 w' S1 st' a' → Ext μ S w μ1 S1 w' → Up μ μ1 → st'.k = st.k → Q .normal a' w') → wpAny P .any ops Q fuel listed a w := by
 unfold chkDraw at hc
 simp only [Bool.and_eq_true] at hc
 obtain ⟨⟨hops, hedges⟩, hpairs⟩ := hc
 have hlen := all2_length hops
 have hsz : ops.toList.length = ops.size := by simp
 -- nothing ready: nothing left
 have stuck_ : ∀ listed : Array Bool, listed.size = ops.size → Region.ready .any ops listed = [] → left ops.size listed = [] := by
   intro listed hls hr
   cases hleft : left ops.size listed with
   | nil => rfl
   | cons i R =>
     exfalso
     have hi : i ∈ left ops.size listed := by rw [hleft]; simp
     have hmin : ∀ j, j < i → j < ops.size → listed.getD j true = true := by
       intro j hj hjn
       cases hjl : listed.getD j true with
       | true => rfl
       | false =>
         exfalso
         obtain ⟨R1, R2, h1, _, h3⟩ := left_take hls hjn hjl
         have hsorted : ∀ (n : Nat) (p : Nat → Bool), ((List.range n).filter p).Pairwise (· < ·) := fun n p => List.Pairwise.filter p List.pairwise_lt_range
         have := hsorted ops.size (fun i => !listed.getD i true)
         have hleft' : (List.range ops.size).filter (fun i => !listed.getD i true) = i :: R := hleft
         rw [hleft'] at this
         have hj' : j ∈ i :: R := by rw [← hleft', show (List.range ops.size).filter (fun i => !listed.getD i true) = left ops.size listed from rfl, h1]; simp
         rcases List.mem_cons.1 hj' with h4 | h4
         · omega
         · have := (List.pairwise_cons.1 this).1 j h4; omega
     have hin : i < ops.size ∧ listed.getD i true = false := by simpa [left] using hi
     have hoi : ops[i]? = some ops[i] := Array.getElem?_eq_getElem hin.1
     have hed := List.all_eq_true.1 hedges i (by simp; exact hin.1)
     unfold edgesB at hed
     rw [show ops.toList[i]? = some ops[i] by simpa using hoi] at hed
     simp only [List.all_eq_true, Bool.or_eq_true, Bool.not_eq_true', decide_eq_true_eq] at hed
     have : i ∈ Region.ready .any ops listed := by
       unfold Region.ready
       simp only [List.mem_filter, List.mem_range]
       refine ⟨hin.1, ?_⟩
       rw [hoi]
       simp only [hin.2, Bool.not_false, Bool.true_and, Option.map_some, Option.getD_some]
       rw [← Array.all_toList, List.all_eq_true]
       intro e he
       rcases hed e he with h1 | h1
       · simp [h1]
       · have h5 := hmin e.on h1 (by omega)
         have h6 : e.on < listed.size := by omega
         have : listed.getD e.on false = true := by
           rw [Array.getD_eq_getD_getElem?, Array.getElem?_eq_getElem h6] at h5 ⊢
           simpa using h5
         simp [this]
     rw [hr] at this
     cases this
 intro fuel
 induction fuel with
 | zero =>
   intro listed st a w μ S hls hfuel hclosed rep hrun hq
   have hnil : left ops.size listed = [] := List.eq_nil_of_length_eq_zero (by omega)
   rw [hnil] at hrun
   simp only [runIdx, Option.some.injEq] at hrun
   subst hrun
   refine ⟨?_, hq a w μ S rep (Ext.refl _ _ _) (Up.refl _) rfl⟩
   unfold Region.ready
   rw [List.filter_eq_nil_iff]
   intro i hi
   have hi' : i < ops.size := by simpa using hi
   have : listed.getD i true = true := by
     cases h : listed.getD i true with
     | true => rfl
     | false =>
       have : i ∈ left ops.size listed := by unfold left; simp only [List.mem_filter, List.mem_range]; exact ⟨hi', by rw [h]; rfl⟩
       rw [hnil] at this
       cases this
   simp [this]
 | succ fuel ih =>
   intro listed st a w μ S hls hfuel hclosed rep hrun hq
   refine ⟨fun hr => ?_, fun i hi => ?_⟩
   · rw [stuck_ listed hls hr] at hrun
     simp only [runIdx, Option.some.injEq] at hrun
     subst hrun
     exact hq a w μ S rep (Ext.refl _ _ _) (Up.refl _) rfl
   · unfold Region.ready at hi
     simp only [List.mem_filter, List.mem_range] at hi
     obtain ⟨hin, hi2⟩ := hi
     have hoi : ops[i]? = some ops[i] := Array.getElem?_eq_getElem hin
     rw [hoi] at hi2
     simp only [Option.map_some, Option.getD_some, Bool.and_eq_true, Bool.not_eq_true'] at hi2
     obtain ⟨hun, hed⟩ := hi2
     rw [← Array.all_toList, List.all_eq_true] at hed
     obtain ⟨R1, R2, h1, h2, h3⟩ := left_take hls hin hun
     rw [h1] at hrun
     have hali : al[i]? = some (al.getD i default) := by
       have : i < al.length := by rw [← hlen, hsz]; exact hin
       rw [List.getD_eq_getElem?_getD, List.getElem?_eq_getElem this]
       rfl
     have hpr : ∀ j, j ∈ R1 → pairOK (al.getD j default) (al.getD i default) = true := fun j hj => by
       obtain ⟨hji, hjl⟩ := h3 j hj
       have h4 := List.all_eq_true.1 (List.all_eq_true.1 hpairs i (by rw [hsz]; simpa using hin)) j (by simpa using hji)
       simp only [Bool.or_eq_true] at h4
       rcases h4 with h4 | h4
       · exfalso
         -- j comes before i: then it is listed
         have hm : ∃ m, (masks ops.toList [])[i]? = some m ∧ m.testBit j = true := by
           cases hmi : (masks ops.toList [])[i]? with
           | none => rw [List.getD_eq_getElem?_getD, hmi] at h4; simp at h4
           | some m => rw [List.getD_eq_getElem?_getD, hmi] at h4; exact ⟨m, rfl, h4⟩
         obtain ⟨m, hm1, hm2⟩ := hm
         have hL : listed.getD j false = true := by
           have := masks_inv (L := fun k => k = i ∨ listed.getD k false = true) ops.toList [] (by simp) (fun k o hk hLk e he hb => by
             simp only [List.length_nil, Nat.zero_add] at hLk
             have hk' : ops[k]? = some o := by simpa using hk
             rcases hLk with rfl | hLk
             · rw [hoi] at hk'
               cases hk'
               have := hed e he
               simp only [Bool.or_eq_true, Bool.not_eq_true'] at this
               rcases this with h5 | h5
               · rw [hb] at h5; cases h5
               · exact .inr h5
             · have hlt : k < listed.size := by
                 rcases Nat.lt_or_ge k listed.size with h | h
                 · exact h
                 · rw [Array.getD_eq_getD_getElem?, Array.getElem?_eq_none h] at hLk; cases hLk
               refine .inr (hclosed k o hk' ?_ e he hb)
               rw [Array.getD_eq_getD_getElem?, Array.getElem?_eq_getElem hlt] at hLk ⊢
               simpa using hLk) i m hm1 (.inl rfl) j hm2
           rcases this with h5 | h5
           · omega
           · exact h5
         have hlt : j < listed.size := by omega
         rw [Array.getD_eq_getD_getElem?, Array.getElem?_eq_getElem hlt] at hL hjl
         simp at hL hjl
         rw [hL] at hjl
         cases hjl
       · exact h4
     obtain ⟨s1, hs1, hs2⟩ := front R2 R1 st st' hpr hrun
     have hco : chkOper P ops ops[i] (al.getD i default) = true := all2_get hops i _ _ (by simpa using hoi) hali
     have hstep := runOp_sound hK (ops := ops) rep hco hs1 (wpAny P .any ops Q fuel (listed.setIfInBounds i true)) Q (fun a1 w1 μ1 S1 r1 x1 u1 hk1 => by
       refine ih (listed.setIfInBounds i true) s1 a1 w1 μ1 S1 (by simpa using hls) ?_ ?_ r1 (by rw [h2]; exact hs2) (fun a2 w2 μ2 S2 r2 x2 u2 hk2 => hq a2 w2 μ2 S2 r2 (x1.trans x2) (u1.trans u2) (hk2.trans hk1))
       · rw [h2]
         rw [h1] at hfuel
         simp at hfuel ⊢
         omega
       · intro k o hk hlk e he hb
         have hset : ∀ d, listed.getD e.on false = true → (listed.setIfInBounds i true).getD e.on d = true := fun d h5 => by
           have hlt : e.on < listed.size := by
             rcases Nat.lt_or_ge e.on listed.size with h | h
             · exact h
             · rw [Array.getD_eq_getD_getElem?, Array.getElem?_eq_none h] at h5; cases h5
           rw [Array.getD_eq_getD_getElem?] at h5 ⊢
           rw [Array.getElem?_setIfInBounds]
           split
           · rename_i hie; subst hie; simp [hlt]
           · rw [Array.getElem?_eq_getElem hlt] at h5 ⊢; simpa using h5
         by_cases hki : k = i
         · subst hki
           rw [hoi] at hk
           cases hk
           have := hed e he
           simp only [Bool.or_eq_true, Bool.not_eq_true'] at this
           rcases this with h5 | h5
           · rw [hb] at h5; cases h5
           · exact hset false h5
         · refine hset false (hclosed k o hk ?_ e he hb)
           rw [Array.getD_eq_getD_getElem?, Array.getElem?_setIfInBounds, if_neg (fun e => hki e.symm)] at hlk
           rw [Array.getD_eq_getD_getElem?]
           exact hlk)
     unfold wpOp
     rw [hoi]
     simp only
     split
     · rename_i hw; rw [if_pos hw] at hstep; exact .inl hstep
     · rename_i hw; rw [if_neg hw] at hstep; exact hstep
theorem draw_sound (hK : Valid P K) (hmix : P.follows .mixedOrders = true) {id : Nat} {ops : Array Oper} {al : List AOper} (hc : chkDraw P ops al = true) {Q : Exit → Act → World → Prop} {st st' : St} {a : Act} {w : World} {μ : Nat → Loc} {S : Nat → Prop}
   (rep : Rep μ w S st a) (h : runOps K base al st = some st') (hq : ∀ a' w' μ1 S1, Rep μ1 w' S1 st' a' → Ext μ S w μ1 S1 w' → Up μ μ1 → st'.k = st.k → Q .normal a' w') : (Code.region id ops true).wp P Q a w := by
 refine wp_region_any hmix ?_
 have hleft : left ops.size (Array.replicate ops.size false) = List.range ops.size := by
   unfold left
   rw [List.filter_eq_self]
   intro i hi
   have hi' : i < ops.size := by simpa using hi
   simp [Array.getD_eq_getD_getElem?, hi']
 have hlen : al.length = ops.size := by
   unfold chkDraw at hc
   simp only [Bool.and_eq_true] at hc
   have := all2_length hc.1.1
   simpa using this.symm
 have rep' : Rep μ w.drew S st a := ⟨⟨rep.tmps.size, fun t v hv => (rep.tmps.vr t v hv).heap rfl, rep.tmps.defers⟩, rep.heap.heap rfl⟩
 refine any_sound (base := base) (st' := st') hK hc ops.size (Array.replicate ops.size false) st a w.drew μ S (by simp) (by rw [hleft]; simp) (fun i o hi hl => ?_) rep' (by rw [hleft, ← hlen, runIdx_range]; exact h) (fun a' w' μ1 S1 r1 x1 u1 hk => hq a' w' μ1 S1 r1 ((Ext.heap (w := w) (w' := w.drew) rfl rfl rfl rfl).trans x1) u1 hk)
 exfalso
 have hi' : i < ops.size := (Array.getElem?_eq_some_iff.1 hi).1
 simp [Array.getD_eq_getD_getElem?, hi'] at hl
end
end AM
end Go.Proofs.YtpogjlhgbdpnbaaGreatDoor
end
section
namespace Go.Proofs.YtpogjlhgbdpnbaaGreatDoor
namespace AM
def exitOf : AExit → Exit
 | .normal => .normal
 | .exit id => .exit id
 | .ret => .ret
 | .goto l => .goto l
def KeepsK (k : Nat) (μ μ' : Nat → Loc) : Prop := ∀ b, b < k → μ b ≠ .free → μ' b = μ b ∨ μ' b = .dead
theorem KeepsK.refl (k : Nat) (μ : Nat → Loc) : KeepsK k μ μ := fun _ _ _ => .inl rfl
theorem KeepsK.of_up {k : Nat} {μ μ' : Nat → Loc} (h : Up μ μ') : KeepsK k μ μ' := fun b _ hb => h b hb
theorem KeepsK.trans {k : Nat} {a b c : Nat → Loc} (h : KeepsK k a b) (g : KeepsK k b c) : KeepsK k a c := fun x hx hf => by
 rcases h x hx hf with e | e
 · rcases g x hx (by rw [e]; exact hf) with e' | e'
   · exact .inl (e'.trans e)
   · exact .inr e'
 · rcases g x hx (by rw [e]; simp) with e' | e'
   · exact .inr (e'.trans e)
   · exact .inr e'
section
variable {P : Program} {K : Oracle} {N : Nat}
theorem norm_sound {μ : Nat → Loc} {w : World} {S : Nat → Prop} {st s : St} {a : Act} {keep : List Nat} (rep : Rep μ w S st a) (h : norm keep st = some s) :
   ∃ μ1, Rep μ1 w S s a ∧ Ext μ S w μ1 S w ∧ KeepsK st.k μ μ1 ∧ s.k = st.k := by
 unfold norm at h
 simp only at h
 generalize hts : (st.tmps.zipIdx.map fun (x : AVal × Nat) => match x with | (v, t) => if keep.contains t then v else AVal.undef) = ts at h
 generalize hids : reach st.heap (List.range st.k) (ts.flatMap AVal.ownT) = ids at h
 split at h
 · rename_i hc
   simp only [Option.some.injEq] at h
   subst h
   refine ⟨pick μ ids, ⟨⟨?_, fun t v hv => ?_, rep.tmps.defers⟩, ?_⟩, ?_, fun b hb hf => .inl ?_, rfl⟩
   · have : ts.length = st.tmps.length := by rw [← hts]; simp
     simp [this, rep.tmps.size]
   · simp only [List.getElem?_map, Option.map_eq_some_iff] at hv
     obtain ⟨v0, hv0, rfl⟩ := hv
     refine VR.renT (pick_follows ids) ?_
     rw [← hts, List.getElem?_map] at hv0
     simp only [Option.map_eq_some_iff] at hv0
     obtain ⟨⟨v1, t1⟩, hz, heq⟩ := hv0
     rw [List.getElem?_zipIdx] at hz
     simp only [Option.map_eq_some_iff, Prod.mk.injEq] at hz
     obtain ⟨v2, hv2, rfl, ht⟩ := hz
     simp only at heq
     split at heq
     · rw [← heq]; exact rep.tmps.vr t v2 hv2
     · rw [← heq]; exact .undef _
   · refine pack_rep rep.heap hc.1 (fun m hm => hm) (fun m ho hS => ?_) rep.heap.inS
     obtain ⟨c, hc', n, e, hh⟩ := pick_owned ho
     exact rep.heap.apart m ⟨c, n, e, hh⟩ hS
   · refine ⟨rfl, rfl, rfl, Nat.le_refl _, fun _ _ _ => rfl, fun _ h => h, fun _ h => .inl h, fun m ho => ?_⟩
     obtain ⟨c, hc', n, e, hh⟩ := pick_owned ho
     exact .inl ⟨c, n, e, hh⟩
   · have : ids[b]? = some b := by
       have h1 : (ids.take st.k)[b]? = some b := by rw [hc.2, List.getElem?_range hb]
       rw [List.getElem?_take, if_pos hb] at h1
       exact h1
     unfold pick
     rw [this]
 · cases h
theorem free_replicate {hp : Heap} {n b : Nat} (h : (hp ++ List.replicate n Slot.free).get b ≠ none) : hp.get b = (hp ++ List.replicate n Slot.free).get b := by
 rw [get_of_slot, get_of_slot] at *
 rcases Nat.lt_or_ge b hp.length with hl | hl
 · rw [List.getElem?_append_left hl]
 · exfalso
   rw [List.getElem?_append_right hl, List.getElem?_replicate] at h
   by_cases h1 : b - hp.length < n
   · rw [if_pos h1] at h; exact h rfl
   · rw [if_neg h1] at h; exact h rfl
theorem HRep.more {μ : Nat → Loc} {w : World} {S : Nat → Prop} {hp : Heap} (r : HRep μ w S hp) (n : Nat) : HRep μ w S (hp ++ List.replicate n .free) where
 live b k hb := r.live b k (by rw [free_replicate (n := n) (by rw [hb]; simp)]; exact hb)
 gone b hb := by
   cases hk : hp.get b with
   | none => exact r.gone b hk
   | some k =>
     exfalso
     have hlt := Heap.get_lt hk
     rw [get_of_slot, List.getElem?_append, if_pos hlt, ← get_of_slot, hk] at hb
     cases hb
 free b hb := by
   rcases Nat.lt_or_ge b hp.length with hl | hl
   · refine r.free b ?_
     rcases hb with hb | hb
     · rw [free_of_slot, List.getElem?_append, if_pos hl, ← free_of_slot] at hb; exact .inl hb
     · simp at hb; exact .inr (by omega)
   · exact r.free b (.inr hl)
 inj := r.inj
 apart := r.apart
 inS := r.inS
 gl := r.gl
def passes (P : Program) (l : Nat) (rest : Code) (Q : Exit → Act → World → Prop) : Nat → Act → World → Prop
 | 0, _, _ => False
 | n + 1, a, w => rest.wp P (Exit.jump l (passes P l rest Q n) Q) a w
theorem wp_scope_passes {Q : Exit → Act → World → Prop} {a : Act} {w : World} {c rest : Code} (l n : Nat) (hf : findLabel c l = some rest) (first : c.wp P (Exit.jump l (passes P l rest Q n) Q) a w) : (Code.scope c).wp P Q a w := by
 intro b k cs
 have hg : gotoIn l (.inScope c :: k) = some (.code rest :: .inScope c :: k) := by simp [gotoIn, hf]
 have key : ∀ n a w, passes P l rest Q n a w → ∃ e a' w', Q e a' w' ∧ Arrives P (lone (b.at a (.code rest :: .inScope c :: k)) cs w) b k cs e a' w' := by
   intro n
   induction n with
   | zero => intro a w h; exact h.elim
   | succ n ih =>
     intro a w h
     obtain ⟨e, a₁, w₁, hq, harr⟩ := h b (.inScope c :: k) cs
     cases e with
     | normal => exact ⟨.normal, a₁, w₁, hq, Steps.trans harr (.one step_inScope)⟩
     | exit id => exact ⟨.exit id, a₁, w₁, hq, fun k' hk => harr k' (by simp [exitTo, hk])⟩
     | goto l' =>
       obtain ⟨rfl, hJ'⟩ := hq
       obtain ⟨e₂, a₂, w₂, hq₂, harr₂⟩ := ih a₁ w₁ hJ'
       exact ⟨e₂, a₂, w₂, hq₂, .of_steps (harr _ hg) harr₂⟩
     | ret => exact ⟨_, a₁, w₁, hq, harr⟩
     | panic ch => exact ⟨_, a₁, w₁, hq, harr⟩
     | outgrown => exact ⟨_, a₁, w₁, hq, harr⟩
 obtain ⟨e, a₁, w₁, hq, harr⟩ := first b (.inScope c :: k) cs
 cases e with
 | normal => exact ⟨.normal, a₁, w₁, hq, .head step_scope (Steps.trans harr (.one step_inScope))⟩
 | exit id => exact ⟨.exit id, a₁, w₁, hq, fun k' hk => .head step_scope (harr k' (by simp [exitTo, hk]))⟩
 | goto l' =>
   obtain ⟨rfl, hJ'⟩ := hq
   obtain ⟨e₂, a₂, w₂, hq₂, harr₂⟩ := key n a₁ w₁ hJ'
   exact ⟨e₂, a₂, w₂, hq₂, .of_steps (.head step_scope (harr _ hg)) harr₂⟩
 | ret => exact ⟨_, a₁, w₁, hq, .of_steps (.one step_scope) harr⟩
 | panic ch => exact ⟨_, a₁, w₁, hq, .of_steps (.one step_scope) harr⟩
 | outgrown => exact ⟨_, a₁, w₁, hq, .of_steps (b := b) (k := k) (cs := cs) (e := .outgrown) (.one step_scope) harr⟩
end
end AM
end Go.Proofs.YtpogjlhgbdpnbaaGreatDoor
end
section
namespace Go.Proofs.YtpogjlhgbdpnbaaGreatDoor
namespace AM
open Go.RowKit
def chkRes (P : Program) : ResultVar → RVar → Bool
 | .tmp t, .tmp t' => t == t'
 | .cell a t, .cell agg n a' => a == a' && szB P t n && aggB P t agg && (agg || n == 1)
 | _, _ => false
section
variable {P : Program} {K : Oracle} {μ : Nat → Loc} {w : World} {S : Nat → Prop}
def resSem (tmps : Array Value) : ResultVar → Sem Value
 | .tmp t => pure (tmps.getD t undef)
 | .cell ad t => do loadVar t (← asAddr (tmps.getD ad undef))
theorem results_eq (fn : Func) (tmps : Array Value) : results fn tmps = (do let vs ← fn.results.mapM (resSem tmps); pure (if h : vs.size = 1 then vs[0] else .tuple vs)) := by
 unfold results
 congr 1
theorem res_sound {st : St} {a : Act} (rep : Rep μ w S st a) {x : ResultVar} {y : RVar} {r : AVal} (hc : chkRes P x y = true) (h : resOf st.heap st.tmps y = some r) :
   ∃ cv, (resSem a.tmps x).run P w = .ok cv w ∧ VR μ w S r cv := by
 unfold chkRes at hc
 split at hc
 · rename_i t t'
   simp only [beq_iff_eq] at hc
   subst hc
   simp only [resOf, Option.some.injEq] at h
   subst h
   refine ⟨_, rfl, ?_⟩
   have := rep.tmps.look rep.heap.gl (x := .tmp t) (y := .tmp t) (by simp [chkOpd])
   exact this
 · rename_i ad t agg n ad'
   simp only [Bool.and_eq_true, beq_iff_eq, Bool.or_eq_true] at hc
   obtain ⟨⟨⟨rfl, h1⟩, h2⟩, h3⟩ := hc
   simp only [resOf] at h
   have hv : VR μ w S (st.tmps.getD ad .undef) (a.tmps.getD ad undef) := rep.tmps.look rep.heap.gl (x := .tmp ad) (y := .tmp ad) (by simp [chkOpd])
   obtain ⟨cv, hr, hcv⟩ := load_sound (P := P) rep.heap h1 h2 hv h h3
   have hp : ∃ p, a.tmps.getD ad undef = .pointer (some p) := by
     unfold loadVal at h
     rw [if_neg (fun e => by rcases h3 with h3 | h3 <;> simp [h3] at e)] at h
     split at h
     · rename_i cs hcs
       obtain ⟨p, _, hp, _⟩ := load_cells rep.heap hv hcs
       exact ⟨p, hp⟩
     · cases h
   obtain ⟨p, hp⟩ := hp
   refine ⟨cv, ?_, hcv⟩
   simp only [resSem]
   rw [hp] at hr ⊢
   simpa [Instr.loadAt, Instr.sureAddr, asAddr] using hr
 · cases hc
theorem results_sound {st : St} {a : Act} {fn : Func} {rs : List RVar} {r : AVal} (rep : Rep μ w S st a) (hc : all2 (chkRes P) fn.results.toList rs = true) (h : resultsOf st.heap st.tmps rs = some r) :
   ∃ cv, (results fn a.tmps).run P w = .ok cv w ∧ VR μ w S r cv := by
 have key : ∀ (xs : List ResultVar) (ys : List RVar) (vs : List AVal), all2 (chkRes P) xs ys = true → allOf (resOf st.heap st.tmps) ys = some vs →
     ∃ cvs : List Value, (xs.mapM (resSem a.tmps)).run P w = .ok cvs w ∧ vs.length = cvs.length ∧ vs.length = ys.length ∧ ∀ (j : Nat) (c : AVal) (u : Value), vs[j]? = some c → cvs[j]? = some u → VR μ w S c u := by
   intro xs
   induction xs with
   | nil =>
     intro ys vs hc h
     cases ys with
     | nil => simp [allOf] at h; subst h; exact ⟨[], by simp, rfl, rfl, by simp⟩
     | cons y ys => simp [all2] at hc
   | cons x xs ih =>
     intro ys vs hc h
     cases ys with
     | nil => simp [all2] at hc
     | cons y ys =>
       simp only [all2, Bool.and_eq_true] at hc
       simp only [allOf] at h
       split at h
       · rename_i v hv
         split at h
         · rename_i vs' hvs
           simp only [Option.some.injEq] at h
           subst h
           obtain ⟨cv, h1, h2⟩ := res_sound rep hc.1 hv
           obtain ⟨cvs, h3, h4, h6, h5⟩ := ih ys vs' hc.2 hvs
           refine ⟨cv :: cvs, ?_, by simp [h4], by simp [h6], fun j c u hj hu => ?_⟩
           · rw [List.mapM_cons]
             simp only [Sem.run_bind, h1, Result.andThen_ok, h3, Sem.run_pure]
           · cases j with
             | zero => simp at hj hu; subst hj; subst hu; exact h2
             | succ j => simp at hj hu; exact h5 j c u hj hu
         · cases h
       · cases h
 have hrun : ∀ cvs : List Value, (fn.results.toList.mapM (resSem a.tmps)).run P w = .ok cvs w →
     (results fn a.tmps).run P w = .ok (if h : cvs.toArray.size = 1 then cvs.toArray[0] else .tuple cvs.toArray) w := fun cvs hr => by
   rw [results_eq, Array.mapM_eq_mapM_toList]
   simp only [Sem.run_bind, Sem.run_map, hr]
   rfl
 have hlen := all2_length hc
 unfold resultsOf at h
 split at h
 · rename_i y
   obtain ⟨cvs, h1, h2, h4, h3⟩ := key fn.results.toList [y] [r] hc (by simp [allOf, h])
   cases cvs with
   | nil => simp at h2
   | cons cv cvs =>
     cases cvs with
     | cons _ _ => simp at h2
     | nil => exact ⟨cv, by rw [hrun _ h1]; rfl, h3 0 r cv rfl rfl⟩
 · rename_i hne
   simp only [Option.map_eq_some_iff] at h
   obtain ⟨vs, hvs, rfl⟩ := h
   obtain ⟨cvs, h1, h2, h4, h3⟩ := key fn.results.toList rs vs hc hvs
   refine ⟨.tuple cvs.toArray, ?_, .tup vs cvs.toArray (by simpa using h2) (fun j c u hj hu => h3 j c u hj (by simpa using hu))⟩
   rw [hrun _ h1, dif_neg]
   intro h5
   have : rs.length = 1 := by simp at h5; omega
   match rs, this with
   | [y], _ => exact hne y rfl
def tab : List (Nat × (List AVal → Heap → Option (AVal × Heap))) → Oracle
 | [], _, _, _ => none
 | (f, g) :: l, f', args, hp => if f' = f then g args hp else tab l f' args hp
end
end AM
end Go.Proofs.YtpogjlhgbdpnbaaGreatDoor
end
section
namespace Go.Proofs.YtpogjlhgbdpnbaaGreatDoor
namespace AM
theorem pureOp_move (ρ : Opd → AVal) (x : Opd) : pureOp (.move x) ρ =
   (some (ρ x)) := rfl
theorem pureOp_pick (ρ : Opd → AVal) (c : Opd) (a : Opd) (b : Opd) : pureOp (.pick c a b) ρ =
   (match ρ c with | .bool t => some (if t then ρ a else ρ b) | _ => none) := rfl
theorem pureOp_build (ρ : Opd → AVal) (zero : List AVal) (parts : List (Nat × Nat × Opd)) : pureOp (.build zero parts) ρ =
   ((fillP ρ zero parts).map .agg) := rfl
theorem pureOp_nilCheck (ρ : Opd → AVal) (x : Opd) : pureOp (.nilCheck x) ρ =
   (match ρ x with | .ptr b i f => some (.ptr b i f) | .iptr cs o => some (.iptr cs o) | .fn f c => some (.fn f c) | _ => none) := rfl
theorem pureOp_bin (ρ : Opd → AVal) (op : BinOp) (x : Opd) (y : Opd) : pureOp (.bin op x y) ρ =
   (binop op (ρ x) (ρ y)) := rfl
theorem pureOp_eqB (ρ : Opd → AVal) (neg : Bool) (x : Opd) (y : Opd) : pureOp (.eqB neg x y) ρ =
   (match ρ x, ρ y with | .bool a, .bool b => some (.bool (if neg then !(a == b) else a == b)) | _, _ => none) := rfl
theorem pureOp_eqP (ρ : Opd → AVal) (neg : Bool) (x : Opd) (y : Opd) : pureOp (.eqP neg x y) ρ =
   ((eqPtr (ρ x) (ρ y)).map fun r => .bool (if neg then !r else r)) := rfl
theorem pureOp_eqI (ρ : Opd → AVal) (neg : Bool) (x : Opd) (y : Opd) : pureOp (.eqI neg x y) ρ =
   ((eqIface (ρ x) (ρ y)).map fun r => .bool (if neg then !r else r)) := rfl
theorem pureOp_eqAgg (ρ : Opd → AVal) (neg : Bool × List CK) (x : Opd) (y : Opd) : pureOp (.eqAgg neg x y) ρ =
   (match ρ x, ρ y with
   | .agg a, .agg b => (cellsEq neg.2 a b).map fun r => .bool (if neg.1 then !r else r)
   | _, _ => none) := rfl
theorem pureOp_un (ρ : Opd → AVal) (op : UnOp) (x : Opd) : pureOp (.un op x) ρ =
   (unop op (ρ x)) := rfl
theorem pureOp_conv (ρ : Opd → AVal) (k : IntKind) (x : Opd) : pureOp (.conv k x) ρ =
   (match ρ x with | .int _ n => some (.int k (k.wrap n)) | _ => none) := rfl
theorem pureOp_slice (ρ : Opd → AVal) (el : Nat) (x : Opd) (lo : Option Opd) (hi : Option Opd) (mx : Option Opd) : pureOp (.slice el x lo hi mx) ρ =
   (
   match bound ρ lo 0 with
   | none => none
   | some l =>
     match optIdx ρ hi, optIdx ρ mx with
     | some h, some m => sliceVal el (ρ x) l h m
     | _, _ => none) := rfl
theorem pureOp_sliceStr (ρ : Opd → AVal) (x : Opd) (lo : Option Opd) (hi : Option Opd) : pureOp (.sliceStr x lo hi) ρ =
   (match ρ x with
   | .str s => match bound ρ lo 0, bound ρ hi s.length with
     | some l, some h => if l ≤ h ∧ h ≤ s.length then some (.str ((s.take h).drop l)) else none
     | _, _ => none
   | _ => none) := rfl
theorem pureOp_fieldAddr (ρ : Opd → AVal) (off : Nat) (x : Opd) : pureOp (.fieldAddr off x) ρ =
   (match ρ x with | .ptr b i f => some (.ptr b i (f + off)) | .iptr cs o => some (.iptr cs (o + off)) | _ => none) := rfl
theorem pureOp_field (ρ : Opd → AVal) (agg : Bool) (off : Nat) (n : Nat) (x : Opd) : pureOp (.field agg off n x) ρ =
   (match ρ x with | .agg cs => partOf agg cs off n | _ => none) := rfl
theorem pureOp_indexSl (ρ : Opd → AVal) (e : Nat) (x : Opd) (i : Opd) : pureOp (.indexSl e x i) ρ =
   (match ρ x, idxNat (ρ i) with
   | .imm e' xs, some k => if e' = e then (xs[k]?).map fun c => .iptr c 0 else none
   | .sl b off len e', some k => if k < len ∧ e' = e then some (.ptr b (off + k) 0) else none
   | _, _ => none) := rfl
theorem pureOp_indexArr (ρ : Opd → AVal) (len : Nat) (e : Nat) (x : Opd) (i : Opd) : pureOp (.indexArr len e x i) ρ =
   (match ρ x, idxNat (ρ i) with
   | .ptr b j f, some k => if k < len then some (.ptr b j (f + k * e)) else none
   | .iptr cs o, some k => if k < len then some (.iptr cs (o + k * e)) else none
   | _, _ => none) := rfl
theorem pureOp_indexVal (ρ : Opd → AVal) (agg : Bool) (len : Nat) (e : Nat) (x : Opd) (i : Opd) : pureOp (.indexVal agg len e x i) ρ =
   (match ρ x, idxNat (ρ i) with
   | .agg cs, some k => if k < len then partOf agg cs (k * e) e else none
   | _, _ => none) := rfl
theorem pureOp_indexStr (ρ : Opd → AVal) (x : Opd) (i : Opd) : pureOp (.indexStr x i) ρ =
   (match ρ x, idxNat (ρ i) with
   | .str s, some k => match s[k]? with | some c => some (.int .u8 (c.toNat : Int)) | none => none
   | _, _ => none) := rfl
theorem pureOp_extract (ρ : Opd → AVal) (x : Opd) (i : Nat) : pureOp (.extract x i) ρ =
   (match ρ x with | .tup vs => vs[i]? | _ => none) := rfl
theorem pureOp_makeFunc (ρ : Opd → AVal) (f : Nat) (cap : List Opd) : pureOp (.makeFunc f cap) ρ =
   (if (cap.map ρ).all AVal.cellB = true then some (.fn f (cap.map ρ)) else none) := rfl
theorem pureOp_len (ρ : Opd → AVal) (x : Opd) : pureOp (.len x) ρ =
   (match lenVal (ρ x) with | some n => some (.int .i64 (n : Int)) | none => none) := rfl
theorem pureOp_lenStr (ρ : Opd → AVal) (x : Opd) : pureOp (.lenStr x) ρ =
   (match ρ x with | .str s => some (.int .i64 s.length) | _ => none) := rfl
theorem pureOp_minmax (ρ : Opd → AVal) (isMax : Bool) (x : Opd) (y : Opd) : pureOp (.minmax isMax x y) ρ =
   (match ρ x, ρ y with
   | .int k a, .int k' b => if k = k' then some (.int k (if isMax then (if b > a then b else a) else (if b < a then b else a))) else none
   | _, _ => none) := rfl
theorem pureOp_flt (ρ : Opd → AVal) (op : FOp) (x y : Opd) : pureOp (.flt op x y) ρ = fop op (ρ x) (ρ y) := rfl
attribute [simp] pureOp_flt pureOp_move pureOp_pick pureOp_build pureOp_nilCheck pureOp_bin pureOp_eqB pureOp_eqP pureOp_eqI pureOp_eqAgg pureOp_un pureOp_conv pureOp_slice pureOp_sliceStr pureOp_fieldAddr pureOp_field pureOp_indexSl pureOp_indexArr pureOp_indexVal pureOp_indexStr pureOp_extract pureOp_makeFunc pureOp_len pureOp_lenStr pureOp_minmax
attribute [simp] runBody exec runOps runOp effOp isPure isNew newOp look binop binInt isShift setTmp leave resultsOf resOf viewT viewV viewP reach reachOnce addNew alive nodupB packHeap
  AVal.renT AVal.renV AVal.renC AVal.renP DEEP AVal.immP AVal.immC AVal.cellB AVal.bareC AVal.bareV AVal.bareT AVal.ownT AVal.ownV AVal.ownC AVal.ownP Heap.get Heap.isFree allOn allOf index kill settle storeVal loadVal loadCells
  putAt cellsOf fillP fillS partOf idxNat bound optIdx sliceVal lenVal unop cellEq cellsEq eqPtr eqIface binStr appended rowsFlat settleRows smallB notIn appendVal chunks sliceArrVal norm backTo Slot.ren layBack argView visible callVal seesB
  Blk.owns Blk.ren tab List.zipIdx
theorem wrap64 {x : Int} (h1 : -9223372036854775808 ≤ x) (h2 : x ≤ 9223372036854775807) : IntKind.i64.wrap x = x := by
 simp [IntKind.wrap, IntKind.bits, IntKind.signed]; omega
end AM
end Go.Proofs.YtpogjlhgbdpnbaaGreatDoor
end
section
namespace Go.Proofs.YtpogjlhgbdpnbaaGreatDoor
open Go.RowKit
theorem add_block (a : Addr) (n : Nat) : (a.add n).block = a.block := by unfold Addr.add; split <;> rfl
def Lt (B : Nat) (b : Nat) : Prop := b < B
def Same (S : Nat → Prop) (w w' : World) : Prop := ∀ p : Addr, S p.block → w'.cell? p = w.cell? p
class Lay (α : Type) where
 n : Nat
 agg : Bool
 pos : 0 < n
 R : World → (Nat → Prop) → α → List Value → Prop
 size : ∀ {w : World} {B : Nat → Prop} {x : α} {cs : List Value}, R w B x cs → cs.length = n
 one : ∀ {w : World} {B : Nat → Prop} {x : α} {cs : List Value}, R w B x cs → ∀ u ∈ cs, u.oneCell' = true
 keep : ∀ {w w' : World} {B : Nat → Prop} {x : α} {cs : List Value}, Same B w w' → R w B x cs → R w' B x cs
 mono : ∀ {w : World} {B B' : Nat → Prop} {x : α} {cs : List Value}, (∀ b, B b → B' b) → R w B x cs → R w B' x cs
def I64 (n : Int) : Prop := -9223372036854775808 ≤ n ∧ n ≤ 9223372036854775807
instance : Lay Int where
 n := 1
 agg := false
 pos := Nat.one_pos
 R _ _ x cs := cs = [.int .i64 x] ∧ I64 x
 size h := by rw [h.1]; rfl
 one h u hu := by rw [h.1] at hu; simp at hu; subst hu; rfl
 keep _ h := h
 mono _ h := h
instance : Lay Bool where
 n := 1
 agg := false
 pos := Nat.one_pos
 R _ _ x cs := cs = [.bool x]
 size h := by rw [h]; rfl
 one h u hu := by rw [h] at hu; simp at hu; subst hu; rfl
 keep _ h := h
 mono _ h := h
instance : Lay UInt8 where
 n := 1
 agg := false
 pos := Nat.one_pos
 R _ _ x cs := cs = [.int .u8 (x.toNat : Int)]
 size h := by rw [h]; rfl
 one h u hu := by rw [h] at hu; simp at hu; subst hu; rfl
 keep _ h := h
 mono _ h := h
instance : Lay ByteArray where
 n := 1
 agg := false
 pos := Nat.one_pos
 R _ _ x cs := cs = [.string x] ∧ x.size ≤ maxLen
 size h := by rw [h.1]; rfl
 one h u hu := by rw [h.1] at hu; simp at hu; subst hu; rfl
 keep _ h := h
 mono _ h := h
def Sl {α : Type} [Lay α] (w : World) (B : Nat → Prop) (A : Option Addr) (xs : List α) : Prop :=
 ∀ (k : Nat) (x : α), xs[k]? = some x → ∃ ad cs, A = some ad ∧ B ad.block ∧ Lay.R w B x cs ∧ ∀ j u, cs[j]? = some u → w.cell? (ad.add (k * Lay.n α + j)) = some u
section
variable {α : Type} [Lay α] {w w' : World} {B B' : Nat → Prop} {A : Option Addr} {xs : List α}
theorem Sl.keep (h : Sl w B A xs) (hs : Same B w w') : Sl w' B A xs := fun k x hk => by
 obtain ⟨ad, cs, rfl, hb, hr, hc⟩ := h k x hk
 exact ⟨ad, cs, rfl, hb, Lay.keep hs hr, fun j u hu => (hs _ (by rw [add_block]; exact hb)).trans (hc j u hu)⟩
theorem Sl.mono (h : Sl w B A xs) (hB : ∀ b, B b → B' b) : Sl w B' A xs := fun k x hk => by
 obtain ⟨ad, cs, rfl, hb, hr, hc⟩ := h k x hk
 exact ⟨ad, cs, rfl, hB _ hb, Lay.mono hB hr, hc⟩
end
theorem Sl.byte {w : World} {B : Nat → Prop} {A : Option Addr} {zs : List UInt8} (h : Sl w B A zs) {k : Nat} (hk : k < zs.length) :
   ∃ ad x, A = some ad ∧ zs[k]? = some x ∧ w.cell? (ad.add k) = some (.int .u8 (x.toNat : Int)) ∧ x.toNat < 256 := by
 obtain ⟨ad, cs, rfl, hb, h1, hc⟩ := h k _ (List.getElem?_eq_getElem hk)
 have h1 : cs = _ := h1
 subst h1
 exact ⟨ad, zs[k], rfl, List.getElem?_eq_getElem hk, by simpa [Lay.n] using hc 0 _ rfl, UInt8.toNat_lt _⟩
instance {α : Type} [Lay α] : Lay (List α) where
 n := 1
 agg := false
 pos := Nat.one_pos
 R w B xs cs := ∃ A c, cs = [.slice A xs.length c] ∧ xs.length ≤ c ∧ c ≤ maxLen ∧ (A = none → c = 0) ∧ Sl w B A xs
 size h := by obtain ⟨A, c, rfl, _⟩ := h; rfl
 one h u hu := by obtain ⟨A, c, rfl, _⟩ := h; simp at hu; subst hu; rfl
 keep hs h := by obtain ⟨A, c, rfl, hc, hm, hn, h⟩ := h; exact ⟨A, c, rfl, hc, hm, hn, h.keep hs⟩
 mono hB h := by obtain ⟨A, c, rfl, hc, hm, hn, h⟩ := h; exact ⟨A, c, rfl, hc, hm, hn, h.mono hB⟩
instance {α β : Type} [Lay α] [Lay β] : Lay (α × β) where
 n := Lay.n α + Lay.n β
 agg := true
 pos := by have : 0 < Lay.n α := Lay.pos; omega
 R w B x cs := ∃ c d, cs = c ++ d ∧ Lay.R w B x.1 c ∧ Lay.R w B x.2 d
 size h := by obtain ⟨c, d, rfl, h1, h2⟩ := h; rw [List.length_append, Lay.size h1, Lay.size h2]
 one h u hu := by
   obtain ⟨c, d, rfl, h1, h2⟩ := h
   rcases List.mem_append.1 hu with hu | hu
   · exact Lay.one h1 u hu
   · exact Lay.one h2 u hu
 keep hs h := by obtain ⟨c, d, rfl, h1, h2⟩ := h; exact ⟨c, d, rfl, Lay.keep hs h1, Lay.keep hs h2⟩
 mono hB h := by obtain ⟨c, d, rfl, h1, h2⟩ := h; exact ⟨c, d, rfl, Lay.mono hB h1, Lay.mono hB h2⟩
@[reducible] def Lay.iso {α β : Type} [Lay β] (f : α → β) : Lay α where
 n := Lay.n β
 agg := true
 pos := Lay.pos
 R w B x cs := Lay.R w B (f x) cs
 size h := Lay.size h
 one h := Lay.one h
 keep hs h := Lay.keep hs h
 mono hB h := Lay.mono hB h
def isAgg : Value → Bool | .agg _ => true | _ => false
def V {α : Type} [Lay α] (w : World) (B : Nat → Prop) (x : α) (v : Value) : Prop := Lay.R w B x v.cells.toList ∧ isAgg v = Lay.agg α
section
variable {α : Type} [Lay α] {w w' : World} {B B' : Nat → Prop} {x : α} {v : Value}
theorem V.cells_eq (h : Lay.agg α = false) (k : V w B x v) : v.cells.toList = [v] := by
 have h2 := k.2
 rw [h] at h2
 cases v <;> simp_all [isAgg, Value.cells]
theorem V.agg_eq (h : Lay.agg α = true) (k : V w B x v) : ∃ cs, v = .agg cs ∧ Lay.R w B x cs.toList := by
 have h2 := k.2
 rw [h] at h2
 cases v <;> simp [isAgg] at h2
 exact ⟨_, rfl, k.1⟩
end
def Rd (P : Program) (t : TypeId) (α : Type) [Lay α] : Prop :=
 ∀ {H : Type} {enc : TypeId × Value → H} {w : World} {base : Nat} {spare : Nat → Bool} {held : Bool} {fuel : Nat} {cs : List Value} {y : DataW H × List MemPlace},
   DataW.trod enc P w base spare held fuel t cs = some y → ∃ x : α, Lay.R w (Lt w.heap.size) x cs
theorem rd_int {P : Program} {t : TypeId} (ht : P.underlying t = some (.int .i64)) : Rd P t Int := fun h => by
 obtain ⟨n, rfl, _, hw⟩ := DataW.trod_int ht h
 refine ⟨n, rfl, ?_⟩
 simpa [I64, Lit.wf, IntKind.min, IntKind.max, IntKind.signed, IntKind.bits] using hw
theorem arg_of {P : Program} {H : Type} {enc : TypeId × Value → H} {w : World} {base : Nat} {spare : Nat → Bool} {held : Bool} {t : TypeId} {v : Value} {d : DataW H} {ps : List MemPlace} {α : Type} [Lay α] (h : Rd P t α) (hd : DataW.Trod enc P w base spare held t v d ps)
   (ha : isAgg v = Lay.agg α) : ∃ x : α, V w (Lt w.heap.size) x v := by
 obtain ⟨fuel, hf⟩ := hd
 obtain ⟨x, hx⟩ := h hf
 exact ⟨x, hx, ha⟩
theorem agg_int {P : Program} {w : World} {r : Reach} {b : Nat} {t : TypeId} {v : Value} {k : IntKind} (ht : P.underlying t = some (.int k)) (h : Value.okWide P w r b t v) : isAgg v = false := by
 obtain ⟨n, rfl⟩ := WideShapes.okWide_int ht h; rfl
def Rs {α : Type} [Lay α] (w : World) (B : Nat → Prop) : List α → List Value → Prop
 | [], cs => cs = []
 | x :: xs, cs => ∃ c r, cs = c ++ r ∧ Lay.R w B x c ∧ Rs w B xs r
section
variable {α : Type} [Lay α] {w w' : World} {B B' : Nat → Prop}
end
def Blk (w : World) (g : Nat) (t : TypeId) (cs : List Value) : Prop := w.heap[g]? = some (.cells cs.toArray t (0, 0))
section
variable {w w' : World} {g : Nat} {t : TypeId} {cs : List Value}
end
class Flat (α : Type) [Lay α] : Prop where
 flat : ∀ {w w' : World} {B B' : Nat → Prop} {x : α} {cs : List Value}, Lay.R w B x cs → Lay.R w' B' x cs
instance : Flat Int := ⟨fun h => h⟩
instance : Flat Bool := ⟨fun h => h⟩
instance : Flat UInt8 := ⟨fun h => h⟩
instance : Flat ByteArray := ⟨fun h => h⟩
instance {α β : Type} [Lay α] [Lay β] [Flat α] [Flat β] : Flat (α × β) := ⟨fun h => by obtain ⟨c, d, rfl, h1, h2⟩ := h; exact ⟨c, d, rfl, Flat.flat h1, Flat.flat h2⟩⟩
theorem Flat.iso {α β : Type} [Lay β] [Flat β] (f : α → β) : @Flat α (Lay.iso f) := @Flat.mk α (Lay.iso f) (fun h => Flat.flat (α := β) h)
def Src {α : Type} [Lay α] (w : World) (B : Nat → Prop) (A : Option Addr) (ys : List α) : Prop :=
 ∃ news, Rs w B ys news ∧ (ys ≠ [] → A ≠ none) ∧ ∀ ad, A = some ad → ∀ j u, news[j]? = some u → w.cell? (ad.add j) = some u
structure Elem (P : Program) (t e : TypeId) (bytes : Nat) (α : Type) [Lay α] : Prop where
 ty : P.underlying t = some (.slice e)
 small : bytes ≤ 4096
 info : ∃ i z, P.info? e = some i ∧ i.zero = some z ∧ i.size = Lay.n α ∧ i.bytes = bytes ∧ z.cells.size = Lay.n α
section
variable {α : Type} [Lay α] {base : Nat} {e : TypeId} {w w' : World} {B : Nat → Prop} {v : Value} {xs : List α}
end
section
variable {P : Program} (w : World)
end
structure Late (w : World) where
 val : World
 below : Below w.heap.size w val
instance {w : World} : Nonempty (Late w) := ⟨⟨w, Below.refl _ _⟩⟩
end Go.Proofs.YtpogjlhgbdpnbaaGreatDoor
end
section
namespace Go.Proofs.YtpogjlhgbdpnbaaGreatDoor
open Go.RowKit
theorem int_inv {w : World} {B : Nat → Prop} {x : Int} {cs : List Value} (h : Lay.R w B x cs) : cs = [.int .i64 x] ∧ I64 x := h
theorem bool_inv {w : World} {B : Nat → Prop} {x : Bool} {cs : List Value} (h : Lay.R w B x cs) : cs = [.bool x] := h
structure Res where
 cpu : Int
 mem : Int
 gpu : Int
 lic : Int
def Res.pr (x : Res) : Int × Int × Int × Int := (x.cpu, x.mem, x.gpu, x.lic)
def Res.of (y : Int × Int × Int × Int) : Res := ⟨y.1, y.2.1, y.2.2.1, y.2.2.2⟩
instance : Lay Res := Lay.iso Res.pr
structure Dep where
 job : Int
 ok : Bool
def Dep.pr (x : Dep) : Int × Bool := (x.job, x.ok)
def Dep.of (y : Int × Bool) : Dep := ⟨y.1, y.2⟩
instance : Lay Dep := Lay.iso Dep.pr
structure Queue where
 part : Int
 users : (List Int)
 maxJobs : Int
 maxRun : Int
 maxUser : Int
 qos : Int
def Queue.pr (x : Queue) : Int × (List Int) × Int × Int × Int × Int := (x.part, x.users, x.maxJobs, x.maxRun, x.maxUser, x.qos)
def Queue.of (y : Int × (List Int) × Int × Int × Int × Int) : Queue := ⟨y.1, y.2.1, y.2.2.1, y.2.2.2.1, y.2.2.2.2.1, y.2.2.2.2.2⟩
instance : Lay Queue := Lay.iso Queue.pr
structure Weights where
 age : Int
 size : Int
 qos : Int
 share : Int
def Weights.pr (x : Weights) : Int × Int × Int × Int := (x.age, x.size, x.qos, x.share)
def Weights.of (y : Int × Int × Int × Int) : Weights := ⟨y.1, y.2.1, y.2.2.1, y.2.2.2⟩
instance : Lay Weights := Lay.iso Weights.pr
structure Spec where
 nodes : (List Res)
 parts : (List (List Int))
 queues : (List Queue)
 users : Int
 weights : Weights
 decay : Int
 mode : Int
 jobs : Int
 ids : Int
 versions : Int
 linger : Int
 keep : Int
 inn : Int
 out : Int
 cache : Int
def Spec.pr (x : Spec) : (List Res) × (List (List Int)) × (List Queue) × Int × Weights × Int × Int × Int × Int × Int × Int × Int × Int × Int × Int := (x.nodes, x.parts, x.queues, x.users, x.weights, x.decay, x.mode, x.jobs, x.ids, x.versions, x.linger, x.keep, x.inn, x.out, x.cache)
def Spec.of (y : (List Res) × (List (List Int)) × (List Queue) × Int × Weights × Int × Int × Int × Int × Int × Int × Int × Int × Int × Int) : Spec := ⟨y.1, y.2.1, y.2.2.1, y.2.2.2.1, y.2.2.2.2.1, y.2.2.2.2.2.1, y.2.2.2.2.2.2.1, y.2.2.2.2.2.2.2.1, y.2.2.2.2.2.2.2.2.1, y.2.2.2.2.2.2.2.2.2.1, y.2.2.2.2.2.2.2.2.2.2.1, y.2.2.2.2.2.2.2.2.2.2.2.1, y.2.2.2.2.2.2.2.2.2.2.2.2.1, y.2.2.2.2.2.2.2.2.2.2.2.2.2.1, y.2.2.2.2.2.2.2.2.2.2.2.2.2.2⟩
instance : Lay Spec := Lay.iso Spec.pr
structure Job where
 id : Int
 user : Int
 queue : Int
 many : Int
 need : Res
 wall : Int
 after : (List Dep)
 state : Int
 ok : Bool
 kill : Bool
 version : Int
 born : Int
 start : Int
 fin : Int
 array : Int
def Job.pr (x : Job) : Int × Int × Int × Int × Res × Int × (List Dep) × Int × Bool × Bool × Int × Int × Int × Int × Int := (x.id, x.user, x.queue, x.many, x.need, x.wall, x.after, x.state, x.ok, x.kill, x.version, x.born, x.start, x.fin, x.array)
def Job.of (y : Int × Int × Int × Int × Res × Int × (List Dep) × Int × Bool × Bool × Int × Int × Int × Int × Int) : Job := ⟨y.1, y.2.1, y.2.2.1, y.2.2.2.1, y.2.2.2.2.1, y.2.2.2.2.2.1, y.2.2.2.2.2.2.1, y.2.2.2.2.2.2.2.1, y.2.2.2.2.2.2.2.2.1, y.2.2.2.2.2.2.2.2.2.1, y.2.2.2.2.2.2.2.2.2.2.1, y.2.2.2.2.2.2.2.2.2.2.2.1, y.2.2.2.2.2.2.2.2.2.2.2.2.1, y.2.2.2.2.2.2.2.2.2.2.2.2.2.1, y.2.2.2.2.2.2.2.2.2.2.2.2.2.2⟩
instance : Lay Job := Lay.iso Job.pr
structure Share where
 node : Int
 many : Int
def Share.pr (x : Share) : Int × Int := (x.node, x.many)
def Share.of (y : Int × Int) : Share := ⟨y.1, y.2⟩
instance : Lay Share := Lay.iso Share.pr
structure Alloc where
 job : Int
 need : Res
 shares : (List Share)
def Alloc.pr (x : Alloc) : Int × Res × (List Share) := (x.job, x.need, x.shares)
def Alloc.of (y : Int × Res × (List Share)) : Alloc := ⟨y.1, y.2.1, y.2.2⟩
instance : Lay Alloc := Lay.iso Alloc.pr
structure Run where
 need : Res
 shares : (List Share)
 til : Int
def Run.pr (x : Run) : Res × (List Share) × Int := (x.need, x.shares, x.til)
def Run.of (y : Res × (List Share) × Int) : Run := ⟨y.1, y.2.1, y.2.2⟩
instance : Lay Run := Lay.iso Run.pr
structure Booking where
 id : Int
 node : Int
 fro : Int
 to : Int
def Booking.pr (x : Booking) : Int × Int × Int × Int := (x.id, x.node, x.fro, x.to)
def Booking.of (y : Int × Int × Int × Int) : Booking := ⟨y.1, y.2.1, y.2.2.1, y.2.2.2⟩
instance : Lay Booking := Lay.iso Booking.pr
structure Step where
 at_ : Int
 free : Res
def Step.pr (x : Step) : Int × Res := (x.at_, x.free)
def Step.of (y : Int × Res) : Step := ⟨y.1, y.2⟩
instance : Lay Step := Lay.iso Step.pr
structure Request where
 kind : Int
 key : Int
 job : Int
 version : Int
 queue : Int
 many : Int
 need : Res
 wall : Int
 tasks : Int
 after : (List Dep)
 node : Int
 fro : Int
 to : Int
 id : Int
def Request.pr (x : Request) : Int × Int × Int × Int × Int × Int × Res × Int × Int × (List Dep) × Int × Int × Int × Int := (x.kind, x.key, x.job, x.version, x.queue, x.many, x.need, x.wall, x.tasks, x.after, x.node, x.fro, x.to, x.id)
def Request.of (y : Int × Int × Int × Int × Int × Int × Res × Int × Int × (List Dep) × Int × Int × Int × Int) : Request := ⟨y.1, y.2.1, y.2.2.1, y.2.2.2.1, y.2.2.2.2.1, y.2.2.2.2.2.1, y.2.2.2.2.2.2.1, y.2.2.2.2.2.2.2.1, y.2.2.2.2.2.2.2.2.1, y.2.2.2.2.2.2.2.2.2.1, y.2.2.2.2.2.2.2.2.2.2.1, y.2.2.2.2.2.2.2.2.2.2.2.1, y.2.2.2.2.2.2.2.2.2.2.2.2.1, y.2.2.2.2.2.2.2.2.2.2.2.2.2⟩
instance : Lay Request := Lay.iso Request.pr
structure Reply where
 key : Int
 err : Int
 job : Int
 version : Int
 nums : (List Int)
def Reply.pr (x : Reply) : Int × Int × Int × Int × (List Int) := (x.key, x.err, x.job, x.version, x.nums)
def Reply.of (y : Int × Int × Int × Int × (List Int)) : Reply := ⟨y.1, y.2.1, y.2.2.1, y.2.2.2.1, y.2.2.2.2⟩
instance : Lay Reply := Lay.iso Reply.pr
structure Call where
 user : Int
 request : Request
def Call.pr (x : Call) : Int × Request := (x.user, x.request)
def Call.of (y : Int × Request) : Call := ⟨y.1, y.2⟩
instance : Lay Call := Lay.iso Call.pr
structure Entry where
 kind : Int
 user : Int
 request : Request
 reply : Reply
 job : Int
 ok : Bool
def Entry.pr (x : Entry) : Int × Int × Request × Reply × Int × Bool := (x.kind, x.user, x.request, x.reply, x.job, x.ok)
def Entry.of (y : Int × Int × Request × Reply × Int × Bool) : Entry := ⟨y.1, y.2.1, y.2.2.1, y.2.2.2.1, y.2.2.2.2.1, y.2.2.2.2.2⟩
instance : Lay Entry := Lay.iso Entry.pr
structure Event where
 kind : Int
 user : Int
 request : Request
 bytes : (List UInt8)
 n : Int
 keep : Bool
 job : Int
 ok : Bool
def Event.pr (x : Event) : Int × Int × Request × (List UInt8) × Int × Bool × Int × Bool := (x.kind, x.user, x.request, x.bytes, x.n, x.keep, x.job, x.ok)
instance : Lay Event := Lay.iso Event.pr
end Go.Proofs.YtpogjlhgbdpnbaaGreatDoor
end
section
namespace Go.Proofs.YtpogjlhgbdpnbaaGreatDoor
open AM
class Enc (α : Type) [Lay α] where
 cells : α → List AVal
 ok : ∀ {w : World} {B S : Nat → Prop} {x : α} {cs : List Value}, Lay.R w B x cs → (∀ b, B b → S b) → cs.length = (cells x).length ∧ ∀ (j : Nat) (c : AVal) (v : Value), (cells x)[j]? = some c → cs[j]? = some v → IR w S c v
theorem one_cell {w : World} {S : Nat → Prop} {c : AVal} {v : Value} (h : IR w S c v) : [v].length = [c].length ∧ ∀ (j : Nat) (c' : AVal) (v' : Value), [c][j]? = some c' → [v][j]? = some v' → IR w S c' v' := by
 refine ⟨rfl, fun j c' v' hj hv => ?_⟩
 cases j with
 | zero => simp at hj hv; subst hj; subst hv; exact h
 | succ j => simp at hj
instance : Enc Int where
 cells x := [.int .i64 x]
 ok h _ := by rw [h.1]; exact one_cell (.int _ _)
instance : Enc Bool where
 cells x := [.bool x]
 ok h _ := by
   have h : _ = _ := h
   rw [h]; exact one_cell (.bool _)
instance : Enc UInt8 where
 cells x := [.int .u8 (x.toNat : Int)]
 ok h _ := by
   have h : _ = _ := h
   rw [h]; exact one_cell (.int _ _)
instance : Enc ByteArray where
 cells x := [.str x.data.toList]
 ok h _ := by rw [h.1]; exact one_cell (.str _)
instance {α : Type} [Lay α] [Enc α] : Enc (List α) where
 cells xs := [.imm (Lay.n α) (xs.map Enc.cells)]
 ok {w B S xs cs} h hS := by
   obtain ⟨A, c, rfl, hlc, hcm, hn, hsl⟩ := h
   have key : IR w S (.imm (Lay.n α) (xs.map Enc.cells)) (.slice A (xs.map (Enc.cells (α := α))).length c) := by
     refine .imm _ _ A c (fun i j => (match A with | some ad => (w.cell? (ad.add (i * Lay.n α + j))).getD undef | none => undef)) (by simpa using hlc) hn (fun i x hi => ?_) (fun i x j cc hi hj => ?_) (fun i x j cc hi hj => ?_)
     · rw [List.getElem?_map] at hi
       simp only [Option.map_eq_some_iff] at hi
       obtain ⟨y, hy, rfl⟩ := hi
       obtain ⟨ad, cs, _, _, hr, _⟩ := hsl i y hy
       rw [← (Enc.ok hr hS).1, Lay.size hr]
     · rw [List.getElem?_map] at hi
       simp only [Option.map_eq_some_iff] at hi
       obtain ⟨y, hy, rfl⟩ := hi
       obtain ⟨ad, cs, rfl, hb, hr, hcell⟩ := hsl i y hy
       have hl := (Enc.ok hr hS).1
       have hjl := (List.getElem?_eq_some_iff.1 hj).1
       have hlen := (List.getElem?_eq_some_iff.1 hy).1
       -- the first element shows that the address is plain
       obtain ⟨ad', cs', had, _, hr', hcell'⟩ := hsl 0 xs[0] (List.getElem?_eq_getElem (by omega))
       cases had
       have h0 : 0 < cs'.length := by rw [Lay.size hr']; exact Lay.pos
       have hplain := hcell' 0 cs'[0] (List.getElem?_eq_getElem h0)
       have hspot : ad.spot = none := by
         cases hsp : ad.spot with
         | none => rfl
         | some q =>
           exfalso
           simp only [Nat.zero_mul, Nat.add_zero, Addr.add, if_true, World.cell?] at hplain
           split at hplain
           · rw [hsp] at hplain; simp at hplain
           · cases hplain
       have hadd : ∀ n, ad.add n = ⟨ad.block, ad.off + n, none⟩ := fun n => by
         obtain ⟨b, o, s⟩ := ad
         simp only at hspot
         subst hspot
         exact add_mk b o n
       have hu := hcell j (cs[j]'(by omega)) (List.getElem?_eq_getElem _)
       refine ⟨ad.block, ad.off, by obtain ⟨b, o, s⟩ := ad; simp only at hspot; subst hspot; rfl, hS _ hb, ?_⟩
       simp only
       rw [← hadd, hu]
       rfl
     · rw [List.getElem?_map] at hi
       simp only [Option.map_eq_some_iff] at hi
       obtain ⟨y, hy, rfl⟩ := hi
       obtain ⟨ad, cs, rfl, hb, hr, hcell⟩ := hsl i y hy
       obtain ⟨hl, hir⟩ := Enc.ok hr hS
       have hjl := (List.getElem?_eq_some_iff.1 hj).1
       have hcs : cs[j]? = some (cs[j]'(by omega)) := List.getElem?_eq_getElem _
       simp only
       rw [hcell j _ hcs]
       exact hir j cc _ hj hcs
   rw [List.length_map] at key
   exact one_cell key
instance {α β : Type} [Lay α] [Lay β] [Enc α] [Enc β] : Enc (α × β) where
 cells x := Enc.cells x.1 ++ Enc.cells x.2
 ok h hS := by
   obtain ⟨c, d, rfl, h1, h2⟩ := h
   obtain ⟨l1, r1⟩ := Enc.ok h1 hS
   obtain ⟨l2, r2⟩ := Enc.ok h2 hS
   refine ⟨by simp [l1, l2], fun j a v hj hv => ?_⟩
   rw [List.getElem?_append] at hj hv
   rw [l1] at hv
   split at hj
   · rename_i hlt; rw [if_pos hlt] at hv; exact r1 j a v hj hv
   · rename_i hlt; rw [if_neg hlt] at hv; exact r2 _ a v hj hv
@[reducible] def Enc.iso {α β : Type} [Lay β] [Enc β] (f : α → β) : @Enc α (Lay.iso f) :=
 @Enc.mk α (Lay.iso f) (fun x => Enc.cells (f x)) (fun h hS => Enc.ok (α := β) h hS)
instance : Enc Res := Enc.iso Res.pr
instance : Enc Dep := Enc.iso Dep.pr
instance : Enc Queue := Enc.iso Queue.pr
instance : Enc Weights := Enc.iso Weights.pr
instance : Enc Spec := Enc.iso Spec.pr
instance : Enc Job := Enc.iso Job.pr
instance : Enc Share := Enc.iso Share.pr
instance : Enc Alloc := Enc.iso Alloc.pr
instance : Enc Run := Enc.iso Run.pr
instance : Enc Booking := Enc.iso Booking.pr
instance : Enc Step := Enc.iso Step.pr
instance : Enc Request := Enc.iso Request.pr
instance : Enc Reply := Enc.iso Reply.pr
instance : Enc Call := Enc.iso Call.pr
instance : Enc Entry := Enc.iso Entry.pr
instance : Enc Event := Enc.iso Event.pr
def encV {α : Type} [Lay α] [Enc α] (x : α) : AVal := if Lay.agg α then .agg (Enc.cells x) else (Enc.cells x).headD .undef
theorem V.vr {α : Type} [Lay α] [Enc α] {w : World} {B S : Nat → Prop} {x : α} {v : Value} (h : V w B x v) (hS : ∀ b, B b → S b) (μ : Nat → AM.Loc) : VR μ w S (encV x) v := by
 obtain ⟨hl, hr⟩ := Enc.ok h.1 hS
 unfold encV
 split
 · rename_i ha
   obtain ⟨cs, rfl, hR⟩ := h.agg_eq ha
   exact .agg _ cs (by simpa [Value.cells] using hl.symm) fun j c u hj hu => .imm _ _ (hr j c u hj (by simpa [Value.cells] using hu))
 · rename_i ha
   have hc := h.cells_eq (by simpa using ha)
   rw [hc] at hl hr
   match hx : Enc.cells x, hl, hr with
   | [c], _, hr => exact .imm _ _ (hr 0 c v rfl rfl)
end Go.Proofs.YtpogjlhgbdpnbaaGreatDoor
end
