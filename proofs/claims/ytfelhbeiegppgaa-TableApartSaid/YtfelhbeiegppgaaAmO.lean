/-
  Regions whose order is open; code; bodies.
-/
import Derived.Test.YtfelhbeiegppgaaAmN
set_option linter.unusedVariables false
set_option linter.unusedSimpArgs false
set_option linter.unnecessarySimpa false
namespace Go.Proofs.Ytfelhbeiegppgaa
namespace AM

def maskOf (acc : List Nat) (o : Oper) : Nat := o.after.toList.foldl (fun s e => if Region.binds .any e then s ||| 2 ^ e.on ||| acc.getD e.on 0 else s) 0
def masks : List Oper → List Nat → List Nat
  | [], acc => acc
  | o :: os, acc => masks os (acc ++ [maskOf acc o])

def edgesB (ops : List Oper) (i : Nat) : Bool := match ops[i]? with | some o => o.after.toList.all (fun e => !Region.binds .any e || decide (e.on < i)) | none => false

def chkDraw (P : Program) (ops : Array Oper) (al : List AOper) : Bool :=
  all2 (chkOper P ops) ops.toList al && (List.range ops.toList.length).all (edgesB ops.toList) &&
  (List.range ops.toList.length).all fun j => (List.range j).all fun i => ((masks ops.toList []).getD j 0).testBit i || pairOK (al.getD i default) (al.getD j default)

section
variable {P : Program} {K : Oracle} {base : Nat}

theorem maskOf_bit {acc : List Nat} {o : Oper} {j : Nat} (h : (maskOf acc o).testBit j = true) : ∃ e, e ∈ o.after.toList ∧ Region.binds .any e = true ∧ (j = e.on ∨ (acc.getD e.on 0).testBit j = true) := by
  unfold maskOf at h
  have key : ∀ (l : List Edge) (s : Nat), (l.foldl (fun s e => if Region.binds .any e then s ||| 2 ^ e.on ||| acc.getD e.on 0 else s) s).testBit j = true → s.testBit j = true ∨ ∃ e, e ∈ l ∧ Region.binds .any e = true ∧ (j = e.on ∨ (acc.getD e.on 0).testBit j = true) := by
    intro l
    induction l with
    | nil => intro s h; exact .inl h
    | cons e l ih =>
      intro s h
      simp only [List.foldl_cons] at h
      rcases ih _ h with h1 | ⟨e', he', h1⟩
      · split at h1
        · rename_i hb
          rw [Nat.testBit_or, Nat.testBit_or, Nat.testBit_two_pow] at h1
          simp only [Bool.or_eq_true, decide_eq_true_eq] at h1
          rcases h1 with (h1 | h1) | h1
          · exact .inl h1
          · exact .inr ⟨e, by simp, hb, .inl h1.symm⟩
          · exact .inr ⟨e, by simp, hb, .inr h1⟩
        · exact .inl h1
      · exact .inr ⟨e', by simp [he'], h1⟩
  rcases key _ _ h with h1 | h1
  · simp at h1
  · exact h1

theorem masks_inv {L : Nat → Prop} : ∀ (os : List Oper) (acc : List Nat), (∀ (k m : Nat), acc[k]? = some m → L k → ∀ j, m.testBit j = true → L j) →
    (∀ (i : Nat) (o : Oper), os[i]? = some o → L (acc.length + i) → ∀ e, e ∈ o.after.toList → Region.binds .any e = true → L e.on) → ∀ (k m : Nat), (masks os acc)[k]? = some m → L k → ∀ j, m.testBit j = true → L j
  | [], acc, h, _ => h
  | o :: os, acc, h, hc => by
    refine masks_inv os (acc ++ [maskOf acc o]) (fun k m hk hL j hj => ?_) (fun i o' hi hL e he hb => hc (i + 1) o' (by simpa using hi) (by simp at hL; rwa [show acc.length + (i + 1) = acc.length + 1 + i by omega]) e he hb)
    rw [List.getElem?_append] at hk
    split at hk
    · exact h k m hk hL j hj
    · rename_i hlt
      have hk0 : k = acc.length := by
        have := (List.getElem?_eq_some_iff.1 hk).1
        simp at this
        omega
      subst hk0
      simp at hk
      subst hk
      obtain ⟨e, he, hb, hor⟩ := maskOf_bit hj
      have hLe := hc 0 o (by simp) (by simpa using hL) e he hb
      rcases hor with rfl | hor
      · exact hLe
      · cases hacc : acc[e.on]? with
        | none => rw [List.getD_eq_getElem?_getD, hacc] at hor; simp at hor
        | some m' => rw [List.getD_eq_getElem?_getD, hacc] at hor; exact h e.on m' hacc hLe j hor

def runIdx (K : Oracle) (base : Nat) (al : List AOper) : List Nat → St → Option St
  | [], st => some st
  | i :: is, st => (runOp K base (al.getD i default) st).bind (runIdx K base al is)

theorem runIdx_range (al : List AOper) (st : St) : runIdx K base al (List.range al.length) st = runOps K base al st := by
  have key : ∀ (l : List AOper) (k : Nat) (st : St), (∀ j, l[j]? = al[k + j]?) → runIdx K base al (List.range' k l.length) st = runOps K base l st := by
    intro l
    induction l with
    | nil => intro k st _; rfl
    | cons o l ih =>
      intro k st h
      have h0 : al[k]? = some o := by simpa using (h 0).symm
      simp only [List.length_cons, List.range'_succ, runIdx, runOps, List.getD_eq_getElem?_getD, h0, Option.getD_some]
      congr 1
      funext s
      exact ih (k + 1) s (fun j => by have := h (j + 1); simpa [Nat.add_assoc, Nat.add_comm 1 j] using this)
  rw [List.range_eq_range']
  exact key al 0 st (by simp)

theorem front {al : List AOper} {i : Nat} (R2 : List Nat) : ∀ (R1 : List Nat) (st st' : St), (∀ j, j ∈ R1 → pairOK (al.getD j default) (al.getD i default) = true) → runIdx K base al (R1 ++ i :: R2) st = some st' →
    ∃ s1, runOp K base (al.getD i default) st = some s1 ∧ runIdx K base al (R1 ++ R2) s1 = some st'
  | [], st, st', _, h => by
    simp only [List.nil_append, runIdx, Option.bind_eq_some_iff] at h
    exact h
  | j :: R1, st, st', hp, h => by
    simp only [List.cons_append, runIdx, Option.bind_eq_some_iff] at h
    obtain ⟨s0, h0, h1⟩ := h
    obtain ⟨s1, h2, h3⟩ := front R2 R1 s0 st' (fun k hk => hp k (by simp [hk])) h1
    obtain ⟨t1, h4, h5⟩ := swap (hp j (by simp)) h0 h2
    refine ⟨t1, h4, ?_⟩
    simp only [List.cons_append, runIdx, h5, Option.bind_some]
    exact h3

/-- what is left -/
def left (n : Nat) (listed : Array Bool) : List Nat := (List.range n).filter fun i => !listed.getD i true

theorem range_split {n i : Nat} (h : i < n) : List.range n = List.range i ++ i :: List.range' (i + 1) (n - i - 1) := by
  rw [List.range_eq_range', List.range_eq_range', show n = i + (n - i - 1 + 1) by omega, ← List.range'_append (s := 0) (m := i) (n := n - i - 1 + 1) (step := 1)]
  simp only [Nat.zero_add, Nat.one_mul, List.range'_succ]
  congr 3
  omega

theorem left_take {n i : Nat} {listed : Array Bool} (hs : listed.size = n) (hi : i < n) (hl : listed.getD i true = false) :
    ∃ R1 R2, left n listed = R1 ++ i :: R2 ∧ left n (listed.setIfInBounds i true) = R1 ++ R2 ∧ ∀ j, j ∈ R1 → j < i ∧ listed.getD j true = false := by
  refine ⟨(List.range i).filter fun j => !listed.getD j true, (List.range' (i + 1) (n - i - 1)).filter fun j => !listed.getD j true, ?_, ?_, ?_⟩
  · unfold left
    rw [range_split hi, List.filter_append, List.filter_cons, if_pos (by simp [hl])]
  · unfold left
    have hne : ∀ j, j ≠ i → (listed.setIfInBounds i true).getD j true = listed.getD j true := fun j hj => by
      simp [Array.getD_eq_getD_getElem?, Array.getElem?_setIfInBounds, Ne.symm hj]
    have heq : (listed.setIfInBounds i true).getD i true = true := by
      simp [Array.getD_eq_getD_getElem?, Array.getElem?_setIfInBounds, hs, hi]
    rw [range_split hi, List.filter_append, List.filter_cons, if_neg (by simp [heq])]
    congr 1
    · exact List.filter_congr fun j hj => by rw [hne j (by simp at hj; omega)]
    · exact List.filter_congr fun j hj => by rw [hne j (by simp [List.mem_range'] at hj; omega)]
  · intro j hj
    simp only [List.mem_filter, List.mem_range, Bool.not_eq_true'] at hj
    exact hj

theorem any_sound (hK : Valid P K) {ops : Array Oper} {al : List AOper} (hc : chkDraw P ops al = true) {Q : Exit → Act → World → Prop} {st' : St} : ∀ (fuel : Nat) (listed : Array Bool) (st : St) (a : Act) (w : World) (μ : Nat → Loc) (S : Nat → Prop),
    listed.size = ops.size → (left ops.size listed).length ≤ fuel → (∀ (i : Nat) (o : Oper), ops[i]? = some o → listed.getD i true = true → ∀ e, e ∈ o.after.toList → Region.binds .any e = true → listed.getD e.on false = true) → Rep μ w S st a →
    runIdx K base al (left ops.size listed) st = some st' → (∀ a' w' μ1 S1, Rep μ1 w' S1 st' a' → Ext μ S w μ1 S1 w' → Up μ μ1 → st'.k = st.k → Q .normal a' w') → wpAny P .any ops Q fuel listed a w := by
  unfold chkDraw at hc
  simp only [Bool.and_eq_true] at hc
  obtain ⟨⟨hops, hedges⟩, hpairs⟩ := hc
  have hlen := all2_length hops
  have hsz : ops.toList.length = ops.size := by simp
  -- nothing ready: nothing left
  have stuck_ : ∀ listed : Array Bool, listed.size = ops.size → Region.ready .any ops listed = [] → left ops.size listed = [] := by
    intro listed hls hr
    cases hleft : left ops.size listed with
    | nil => rfl
    | cons i R =>
      exfalso
      have hi : i ∈ left ops.size listed := by rw [hleft]; simp
      have hmin : ∀ j, j < i → j < ops.size → listed.getD j true = true := by
        intro j hj hjn
        cases hjl : listed.getD j true with
        | true => rfl
        | false =>
          exfalso
          obtain ⟨R1, R2, h1, _, h3⟩ := left_take hls hjn hjl
          have hsorted : ∀ (n : Nat) (p : Nat → Bool), ((List.range n).filter p).Pairwise (· < ·) := fun n p => List.Pairwise.filter p List.pairwise_lt_range
          have := hsorted ops.size (fun i => !listed.getD i true)
          have hleft' : (List.range ops.size).filter (fun i => !listed.getD i true) = i :: R := hleft
          rw [hleft'] at this
          have hj' : j ∈ i :: R := by rw [← hleft', show (List.range ops.size).filter (fun i => !listed.getD i true) = left ops.size listed from rfl, h1]; simp
          rcases List.mem_cons.1 hj' with h4 | h4
          · omega
          · have := (List.pairwise_cons.1 this).1 j h4; omega
      have hin : i < ops.size ∧ listed.getD i true = false := by simpa [left] using hi
      have hoi : ops[i]? = some ops[i] := Array.getElem?_eq_getElem hin.1
      have hed := List.all_eq_true.1 hedges i (by simp; exact hin.1)
      unfold edgesB at hed
      rw [show ops.toList[i]? = some ops[i] by simpa using hoi] at hed
      simp only [List.all_eq_true, Bool.or_eq_true, Bool.not_eq_true', decide_eq_true_eq] at hed
      have : i ∈ Region.ready .any ops listed := by
        unfold Region.ready
        simp only [List.mem_filter, List.mem_range]
        refine ⟨hin.1, ?_⟩
        rw [hoi]
        simp only [hin.2, Bool.not_false, Bool.true_and, Option.map_some, Option.getD_some]
        rw [← Array.all_toList, List.all_eq_true]
        intro e he
        rcases hed e he with h1 | h1
        · simp [h1]
        · have h5 := hmin e.on h1 (by omega)
          have h6 : e.on < listed.size := by omega
          have : listed.getD e.on false = true := by
            rw [Array.getD_eq_getD_getElem?, Array.getElem?_eq_getElem h6] at h5 ⊢
            simpa using h5
          simp [this]
      rw [hr] at this
      cases this
  intro fuel
  induction fuel with
  | zero =>
    intro listed st a w μ S hls hfuel hclosed rep hrun hq
    have hnil : left ops.size listed = [] := List.eq_nil_of_length_eq_zero (by omega)
    rw [hnil] at hrun
    simp only [runIdx, Option.some.injEq] at hrun
    subst hrun
    refine ⟨?_, hq a w μ S rep (Ext.refl _ _ _) (Up.refl _) rfl⟩
    unfold Region.ready
    rw [List.filter_eq_nil_iff]
    intro i hi
    have hi' : i < ops.size := by simpa using hi
    have : listed.getD i true = true := by
      cases h : listed.getD i true with
      | true => rfl
      | false =>
        have : i ∈ left ops.size listed := by unfold left; simp only [List.mem_filter, List.mem_range]; exact ⟨hi', by rw [h]; rfl⟩
        rw [hnil] at this
        cases this
    simp [this]
  | succ fuel ih =>
    intro listed st a w μ S hls hfuel hclosed rep hrun hq
    refine ⟨fun hr => ?_, fun i hi => ?_⟩
    · rw [stuck_ listed hls hr] at hrun
      simp only [runIdx, Option.some.injEq] at hrun
      subst hrun
      exact hq a w μ S rep (Ext.refl _ _ _) (Up.refl _) rfl
    · unfold Region.ready at hi
      simp only [List.mem_filter, List.mem_range] at hi
      obtain ⟨hin, hi2⟩ := hi
      have hoi : ops[i]? = some ops[i] := Array.getElem?_eq_getElem hin
      rw [hoi] at hi2
      simp only [Option.map_some, Option.getD_some, Bool.and_eq_true, Bool.not_eq_true'] at hi2
      obtain ⟨hun, hed⟩ := hi2
      rw [← Array.all_toList, List.all_eq_true] at hed
      obtain ⟨R1, R2, h1, h2, h3⟩ := left_take hls hin hun
      rw [h1] at hrun
      have hali : al[i]? = some (al.getD i default) := by
        have : i < al.length := by rw [← hlen, hsz]; exact hin
        rw [List.getD_eq_getElem?_getD, List.getElem?_eq_getElem this]
        rfl
      have hpr : ∀ j, j ∈ R1 → pairOK (al.getD j default) (al.getD i default) = true := fun j hj => by
        obtain ⟨hji, hjl⟩ := h3 j hj
        have h4 := List.all_eq_true.1 (List.all_eq_true.1 hpairs i (by rw [hsz]; simpa using hin)) j (by simpa using hji)
        simp only [Bool.or_eq_true] at h4
        rcases h4 with h4 | h4
        · exfalso
          -- j comes before i: then it is listed
          have hm : ∃ m, (masks ops.toList [])[i]? = some m ∧ m.testBit j = true := by
            cases hmi : (masks ops.toList [])[i]? with
            | none => rw [List.getD_eq_getElem?_getD, hmi] at h4; simp at h4
            | some m => rw [List.getD_eq_getElem?_getD, hmi] at h4; exact ⟨m, rfl, h4⟩
          obtain ⟨m, hm1, hm2⟩ := hm
          have hL : listed.getD j false = true := by
            have := masks_inv (L := fun k => k = i ∨ listed.getD k false = true) ops.toList [] (by simp) (fun k o hk hLk e he hb => by
              simp only [List.length_nil, Nat.zero_add] at hLk
              have hk' : ops[k]? = some o := by simpa using hk
              rcases hLk with rfl | hLk
              · rw [hoi] at hk'
                cases hk'
                have := hed e he
                simp only [Bool.or_eq_true, Bool.not_eq_true'] at this
                rcases this with h5 | h5
                · rw [hb] at h5; cases h5
                · exact .inr h5
              · have hlt : k < listed.size := by
                  rcases Nat.lt_or_ge k listed.size with h | h
                  · exact h
                  · rw [Array.getD_eq_getD_getElem?, Array.getElem?_eq_none h] at hLk; cases hLk
                refine .inr (hclosed k o hk' ?_ e he hb)
                rw [Array.getD_eq_getD_getElem?, Array.getElem?_eq_getElem hlt] at hLk ⊢
                simpa using hLk) i m hm1 (.inl rfl) j hm2
            rcases this with h5 | h5
            · omega
            · exact h5
          have hlt : j < listed.size := by omega
          rw [Array.getD_eq_getD_getElem?, Array.getElem?_eq_getElem hlt] at hL hjl
          simp at hL hjl
          rw [hL] at hjl
          cases hjl
        · exact h4
      obtain ⟨s1, hs1, hs2⟩ := front R2 R1 st st' hpr hrun
      have hco : chkOper P ops ops[i] (al.getD i default) = true := all2_get hops i _ _ (by simpa using hoi) hali
      have hstep := runOp_sound hK (ops := ops) rep hco hs1 (wpAny P .any ops Q fuel (listed.setIfInBounds i true)) Q (fun a1 w1 μ1 S1 r1 x1 u1 hk1 => by
        refine ih (listed.setIfInBounds i true) s1 a1 w1 μ1 S1 (by simpa using hls) ?_ ?_ r1 (by rw [h2]; exact hs2) (fun a2 w2 μ2 S2 r2 x2 u2 hk2 => hq a2 w2 μ2 S2 r2 (x1.trans x2) (u1.trans u2) (hk2.trans hk1))
        · rw [h2]
          rw [h1] at hfuel
          simp at hfuel ⊢
          omega
        · intro k o hk hlk e he hb
          have hset : ∀ d, listed.getD e.on false = true → (listed.setIfInBounds i true).getD e.on d = true := fun d h5 => by
            have hlt : e.on < listed.size := by
              rcases Nat.lt_or_ge e.on listed.size with h | h
              · exact h
              · rw [Array.getD_eq_getD_getElem?, Array.getElem?_eq_none h] at h5; cases h5
            rw [Array.getD_eq_getD_getElem?] at h5 ⊢
            rw [Array.getElem?_setIfInBounds]
            split
            · rename_i hie; subst hie; simp [hlt]
            · rw [Array.getElem?_eq_getElem hlt] at h5 ⊢; simpa using h5
          by_cases hki : k = i
          · subst hki
            rw [hoi] at hk
            cases hk
            have := hed e he
            simp only [Bool.or_eq_true, Bool.not_eq_true'] at this
            rcases this with h5 | h5
            · rw [hb] at h5; cases h5
            · exact hset false h5
          · refine hset false (hclosed k o hk ?_ e he hb)
            rw [Array.getD_eq_getD_getElem?, Array.getElem?_setIfInBounds, if_neg (fun e => hki e.symm)] at hlk
            rw [Array.getD_eq_getD_getElem?]
            exact hlk)
      unfold wpOp
      rw [hoi]
      simp only
      split
      · rename_i hw; rw [if_pos hw] at hstep; exact .inl hstep
      · rename_i hw; rw [if_neg hw] at hstep; exact hstep

/-- a region whose order is open -/
theorem draw_sound (hK : Valid P K) (hmix : P.follows .mixedOrders = true) {id : Nat} {ops : Array Oper} {al : List AOper} (hc : chkDraw P ops al = true) {Q : Exit → Act → World → Prop} {st st' : St} {a : Act} {w : World} {μ : Nat → Loc} {S : Nat → Prop}
    (rep : Rep μ w S st a) (h : runOps K base al st = some st') (hq : ∀ a' w' μ1 S1, Rep μ1 w' S1 st' a' → Ext μ S w μ1 S1 w' → Up μ μ1 → st'.k = st.k → Q .normal a' w') : (Code.region id ops true).wp P Q a w := by
  refine wp_region_any hmix ?_
  have hleft : left ops.size (Array.replicate ops.size false) = List.range ops.size := by
    unfold left
    rw [List.filter_eq_self]
    intro i hi
    have hi' : i < ops.size := by simpa using hi
    simp [Array.getD_eq_getD_getElem?, hi']
  have hlen : al.length = ops.size := by
    unfold chkDraw at hc
    simp only [Bool.and_eq_true] at hc
    have := all2_length hc.1.1
    simpa using this.symm
  have rep' : Rep μ w.drew S st a := ⟨⟨rep.tmps.size, fun t v hv => (rep.tmps.vr t v hv).heap rfl, rep.tmps.defers⟩, rep.heap.heap rfl⟩
  refine any_sound (base := base) (st' := st') hK hc ops.size (Array.replicate ops.size false) st a w.drew μ S (by simp) (by rw [hleft]; simp) (fun i o hi hl => ?_) rep' (by rw [hleft, ← hlen, runIdx_range]; exact h) (fun a' w' μ1 S1 r1 x1 u1 hk => hq a' w' μ1 S1 r1 ((Ext.heap (w := w) (w' := w.drew) rfl rfl rfl rfl).trans x1) u1 hk)
  exfalso
  have hi' : i < ops.size := (Array.getElem?_eq_some_iff.1 hi).1
  simp [Array.getD_eq_getD_getElem?, hi'] at hl

end

end AM
end Go.Proofs.Ytfelhbeiegppgaa
