/-
  Bodies of the machine of plain data.
-/
import Derived.Test.YtfelhbeiegppgaaNmO
set_option linter.unusedVariables false
set_option linter.unusedSimpArgs false
namespace Go.Proofs.Ytfelhbeiegppgaa
namespace NM
open AM

noncomputable def canS (lens : Nat → Nat) : (h : HS) → h.den → Slot
  | .dead, _ => .dead
  | .typed t, xs => .live ⟨(ops t).size, true, xs.map (acells t)⟩
  | .cell flat r, x => .live ⟨(puts r x).length, flat, [cans lens r x]⟩
  | .one flat t, x => .live ⟨((ops t).cells x).length, flat, [acells t x]⟩
  | .many e r, x => .live ⟨e, false, cansR lens r x⟩
noncomputable def canH (lens : Nat → Nat) : (l : List HS) → denH l → Heap
  | [], _ => []
  | h :: l, x => canS lens h x.1 :: canH lens l x.2
def okRs (p : Sh → Bool) : Sh → Bool
  | .cons a l => okAll p a && okRs p l
  | .nil => true
  | .v _ | .undef | .nilp | .zsl | .nilfn | .nili | .ptr _ _ _ | .slw _ _ | .fn _ _ | .agg _ | .tup _ | .iptr _ _ | .rows _ _ => false
def okS (lv : Nat → Bool) : HS → Bool
  | .dead => true
  | .typed _ => true
  | .cell flat r => if flat then okAll okI r else okAll (okC lv) r
  | .one _ _ => true
  | .many _ r => okRs (okC lv) r
def liveB (l : List HS) (b : Nat) : Bool := match l[b]? with
  | some .dead => false
  | none => false
  | _ => true
def lensOf (hp : NHeap) (b : Nat) : Nat := match nget hp b with
  | some k => k.len
  | none => 0

section
variable {P : Program} {w : World} {S : Nat → Prop} {μ : Nat → AM.Loc} {hp : NHeap} {ahp : Heap}

theorem putH_live : ∀ {l : List HS} {x : denH l} {b : Nat}, liveB l b = true → ∃ k, nget (putH l x) b = some k
  | [], x, b, h => by simp [liveB] at h
  | h :: l, x, b, hb => by
    cases b with
    | zero =>
      simp only [liveB, List.getElem?_cons_zero] at hb
      cases h with
      | dead => cases hb
      | typed t => exact ⟨_, rfl⟩
      | cell flat r => exact ⟨_, rfl⟩
      | one flat t => exact ⟨_, rfl⟩
      | many e r => exact ⟨_, rfl⟩
    | succ b =>
      have := putH_live (l := l) (x := x.2) (b := b) (by simpa [liveB] using hb)
      simpa [nget, putH] using this
theorem putH_lens {l : List HS} {x : denH l} : Lens (putH l x) (liveB l) (lensOf (putH l x)) := fun b hb => by
  obtain ⟨k, hk⟩ := putH_live (x := x) hb
  exact ⟨k, hk, by unfold lensOf; rw [hk]⟩

theorem acells_map {t : Ty} (xs : List (den t)) : A2 (RX t) xs (xs.map (acells t)) := ⟨by simp, fun j x y hx hy => by
  rw [List.getElem?_map, hx] at hy
  cases hy
  exact (acells_rel t x).mono fun _ _ h => h.ri⟩

theorem okRs_rel {p : Sh → Bool} {lens : Nat → Nat} {R : NVal → AVal → Prop} (hp : ∀ (s : Sh) (x : s.den), p s = true → R (put s x) (can lens s x)) : ∀ {s : Sh} {x : s.den}, okRs p s = true → A2 (A2 R) (putsR s x) (cansR lens s x)
  | .cons a l, x, h => by
    simp only [okRs, Bool.and_eq_true] at h
    simp only [putsR, cansR]
    exact .cons (okAll_rel hp h.1) (okRs_rel hp h.2)
  | .nil, x, h => by simp only [putsR, cansR]; exact .nil
  | .v _, _, h => by cases h
  | .undef, _, h => by cases h
  | .nilp, _, h => by cases h
  | .zsl, _, h => by cases h
  | .nilfn, _, h => by cases h
  | .nili, _, h => by cases h
  | .ptr _ _ _, _, h => by cases h
  | .slw _ _, _, h => by cases h
  | .fn _ _, _, h => by cases h
  | .agg _, _, h => by cases h
  | .tup _, _, h => by cases h
  | .iptr _ _, _, h => by cases h
  | .rows _ _, _, h => by cases h
theorem okRs_conv {p : Sh → Bool} {lens : Nat → Nat} {R : NVal → AVal → Prop} {V : AVal → Value → Prop} (hp : ∀ (s : Sh) (x : s.den) (a : AVal) (cv : Value), p s = true → R (put s x) a → V a cv → V (can lens s x) cv) : ∀ {s : Sh} {x : s.den} {dss : List (List AVal)}, okRs p s = true → A2 (A2 R) (putsR s x) dss →
    (cansR lens s x).length = dss.length ∧ ∀ (i : Nat) (y y' : List AVal), dss[i]? = some y → (cansR lens s x)[i]? = some y' → y'.length = y.length ∧ ∀ (j : Nat) (c : AVal) (d : AVal) (cv : Value), y'[j]? = some c → y[j]? = some d → V d cv → V c cv
  | .cons a l, x, dss, h, hr => by
    simp only [okRs, Bool.and_eq_true] at h
    simp only [putsR] at hr
    obtain ⟨d, ds', rfl, h1, h2⟩ := hr.cons_inv
    obtain ⟨i1, i2⟩ := okRs_conv hp (x := x.2) h.2 h2
    simp only [cansR]
    refine ⟨by simp [i1], fun i y y' hy hy' => ?_⟩
    cases i with
    | zero => simp at hy hy'; subst hy; subst hy'; exact okAll_conv hp h.1 h1
    | succ i => simp at hy hy'; exact i2 i y y' hy hy'
  | .nil, x, dss, h, hr => by
    simp only [putsR] at hr
    rw [hr.nil_inv]
    simp only [cansR]
    exact ⟨by simp, fun i y y' hy => by simp at hy⟩
  | .v _, _, _, h, _ => by cases h
  | .undef, _, _, h, _ => by cases h
  | .nilp, _, _, h, _ => by cases h
  | .zsl, _, _, h, _ => by cases h
  | .nilfn, _, _, h, _ => by cases h
  | .nili, _, _, h, _ => by cases h
  | .ptr _ _ _, _, _, h, _ => by cases h
  | .slw _ _, _, _, h, _ => by cases h
  | .fn _ _, _, _, h, _ => by cases h
  | .agg _, _, _, h, _ => by cases h
  | .tup _, _, _, h, _ => by cases h
  | .iptr _ _, _, _, h, _ => by cases h
  | .rows _ _, _, _, h, _ => by cases h

theorem canH_rel {G : NHeap} {lv : Nat → Bool} {lens : Nat → Nat} (hl : Lens G lv lens) : ∀ {l : List HS} {x : denH l}, l.all (okS lv) = true → A2 (RS G) (putH l x) (canH lens l x)
  | [], x, _ => .nil
  | h :: l, x, ho => by
    simp only [List.all_cons, Bool.and_eq_true] at ho
    refine .cons ?_ (canH_rel hl ho.2)
    cases h with
    | dead => exact .dead
    | typed t => exact .live _ _ ⟨rfl, rfl, acells_map x.1⟩
    | many e r => exact .live _ _ ⟨rfl, rfl, fun hf => (by cases hf), fun _ => okRs_rel (canC_rel hl) (by simpa [okS] using ho.1)⟩
    | one flat t => exact .live _ _ ⟨rfl, rfl, fun _ => .single ((acells_rel t x.1).mono fun _ _ h => h.ri), fun _ => .single ((acells_rel t x.1).mono fun _ _ h => h.ri.c)⟩
    | cell flat r =>
      refine .live _ _ ⟨rfl, rfl, fun hf => ?_, fun hf => ?_⟩
      · subst hf
        exact .single (okAll_rel (fun s x h => (canI_rel s x h).ri) (by simpa [okS] using ho.1))
      · subst hf
        exact .single (okAll_rel (canC_rel hl) (by simpa [okS] using ho.1))

/-- what stands for a block, in another form -/
def BConv (μ : Nat → AM.Loc) (w : World) (S : Nat → Prop) (k k' : AM.Blk) : Prop := ∀ l, BlkR μ w S l k → BlkR μ w S l k'
theorem blk_conv {k k' : AM.Blk} (he : k'.e = k.e) (hf : k'.flat = k.flat) (hl : k'.elems.length = k.elems.length)
    (hr : ∀ (i : Nat) (x x' : List AVal), k.elems[i]? = some x → k'.elems[i]? = some x' → x'.length = x.length ∧ ∀ (j : Nat) (c c' : AVal) (v : Value), x[j]? = some c → x'[j]? = some c' → Blk.R μ w S k.flat c v → Blk.R μ w S k.flat c' v) : BConv μ w S k k' := by
  intro l h
  have row : ∀ (i : Nat) (x' : List AVal), k'.elems[i]? = some x' → ∃ x, k.elems[i]? = some x := fun i x' hx => by
    have := (List.getElem?_eq_some_iff.1 hx).1
    exact ⟨_, List.getElem?_eq_getElem (by omega)⟩
  cases l with
  | free => exact h
  | dead => exact h
  | void =>
    have h : k.elems = [] := h
    show k'.elems = []
    rw [h] at hl
    exact List.eq_nil_of_length_eq_zero hl
  | here m n e =>
    obtain ⟨h1, h2, h3, cells, t, h4, h5, h6⟩ := h
    refine ⟨h1.trans he.symm, by omega, fun i x' hx => ?_, cells, t, h4, by rw [he]; exact h5, fun i x' j c' hx hc => ?_⟩
    · obtain ⟨x, hx0⟩ := row i x' hx
      rw [he, (hr i x x' hx0 hx).1]
      exact h3 i x hx0
    · obtain ⟨x, hx0⟩ := row i x' hx
      obtain ⟨r1, r2⟩ := hr i x x' hx0 hx
      have hj : j < x.length := by rw [← r1]; exact (List.getElem?_eq_some_iff.1 hc).1
      obtain ⟨v, hv, hR⟩ := h6 i x j x[j] hx0 (List.getElem?_eq_getElem hj)
      rw [he, hf]
      exact ⟨v, hv, r2 j _ c' v (List.getElem?_eq_getElem hj) hc hR⟩

inductive SConv (μ : Nat → AM.Loc) (w : World) (S : Nat → Prop) : Slot → Slot → Prop
  | dead : SConv μ w S .dead .dead
  | live (k k' : AM.Blk) : BConv μ w S k k' → SConv μ w S (.live k) (.live k')

theorem hrep_conv {ahp' : Heap} (h : HRep μ w S ahp) (hc : A2 (SConv μ w S) ahp ahp') : HRep μ w S ahp' where
  live b k' hb := by
    rw [aget_iff] at hb
    have hlt : b < ahp.length := by rw [hc.1]; exact (List.getElem?_eq_some_iff.1 hb).1
    have hs := hc.2 b ahp[b] _ (List.getElem?_eq_getElem hlt) hb
    generalize hg : ahp[b] = s at hs
    cases hs with
    | live k _ hk => exact hk _ (h.live b k (aget_iff.2 (by rw [List.getElem?_eq_getElem hlt, hg])))
  gone b hb := by
    refine h.gone b ?_
    cases hg : ahp.get b with
    | none => rfl
    | some k =>
      exfalso
      rw [aget_iff] at hg
      obtain ⟨s', hs', hs⟩ := hc.get hg
      cases hs with
      | live _ k' hk => rw [aget_iff.2 hs'] at hb; cases hb
  free b hb := by
    refine h.free b (.inr ?_)
    rcases hb with hb | hb
    · exfalso
      unfold Heap.isFree at hb
      split at hb
      · rename_i hs'
        have hlt : b < ahp.length := by rw [hc.1]; exact (List.getElem?_eq_some_iff.1 hs').1
        have hs := hc.2 b ahp[b] _ (List.getElem?_eq_getElem hlt) hs'
        generalize ahp[b] = s at hs
        cases hs
      · cases hb
    · rw [hc.1]; exact hb
  inj := h.inj
  apart := h.apart
  inS := h.inS
  gl := h.gl

theorem canH_conv {G : NHeap} {lv : Nat → Bool} {lens : Nat → Nat} (hl : Lens G lv lens) : ∀ {l : List HS} {x : denH l} {ahp : Heap}, l.all (okS lv) = true → A2 (RS G) (putH l x) ahp → A2 (SConv μ w S) ahp (canH lens l x)
  | [], x, ahp, _, hr => by rw [hr.nil_inv]; exact .nil
  | h :: l, x, ahp, ho, hr => by
    simp only [List.all_cons, Bool.and_eq_true] at ho
    simp only [putH] at hr
    obtain ⟨s, ahp', rfl, h1, h2⟩ := hr.cons_inv
    refine .cons ?_ (canH_conv hl ho.2 h2)
    cases h with
    | dead => cases h1; exact .dead
    | typed t =>
      simp only [putS] at h1
      cases h1 with
      | live _ k hk =>
        obtain ⟨k1, k2, k3⟩ := hk
        refine .live _ _ (blk_conv k1.symm k2.symm (by simp [← k3.1]) fun i y y' hy hy' => ?_)
        rw [List.getElem?_map, Option.map_eq_some_iff] at hy'
        obtain ⟨z, hz, rfl⟩ := hy'
        have hzy := k3.2 i z y hz hy
        have hac := acells_rel t z
        refine ⟨hac.1.symm.trans hzy.1, fun j c c' v hc hc' hR => ?_⟩
        have hj : j < ((ops t).cells z).length := by rw [hac.1]; exact (List.getElem?_eq_some_iff.1 hc').1
        have e1 := hac.2 j _ c' (List.getElem?_eq_getElem hj) hc'
        have e2 := hzy.2 j _ c (List.getElem?_eq_getElem hj) hc
        rw [k2] at hR ⊢
        exact ⟨e1.canon e2 hR.1, hR.2⟩
    | many e r =>
      simp only [putS] at h1
      cases h1 with
      | live _ k hk =>
        obtain ⟨k1, k2, k3, k4⟩ := hk
        obtain ⟨i1, i2⟩ := okRs_conv (lens := lens) (V := VR μ w S) (canC_conv hl) (by simpa [okS] using ho.1) (k4 rfl)
        refine .live _ _ (blk_conv k1.symm k2.symm i1 fun i y y' hy hy' => ?_)
        obtain ⟨j1, j2⟩ := i2 i y y' hy hy'
        rw [k2]
        exact ⟨j1, fun j c c' v hc hc' hR => ⟨j2 j c' c v hc' hc hR.1, hR.2⟩⟩
    | one flat t =>
      simp only [putS] at h1
      cases h1 with
      | live _ k hk =>
        obtain ⟨ds, dss, hds, q5, q6⟩ := (RB.row' hk).cons_inv
        rw [q6.nil_inv] at hds
        obtain ⟨k1, k2, k3, k4⟩ := hk
        refine .live _ _ (blk_conv k1.symm k2.symm (by simp [hds]) fun i y y' hy hy' => ?_)
        have hi : i = 0 := by
          have := (List.getElem?_eq_some_iff.1 hy').1
          simp at this
          omega
        subst hi
        rw [hds] at hy
        simp at hy hy'
        subst hy
        subst hy'
        have hac := acells_rel t x.1
        refine ⟨hac.1.symm.trans q5.1, fun j c c' v hc hc' hR => ⟨?_, hR.2⟩⟩
        have hj : j < ((ops t).cells x.1).length := by rw [hac.1]; exact (List.getElem?_eq_some_iff.1 hc').1
        have hcell := List.getElem?_eq_getElem hj
        have e1 := hac.2 j _ c' hcell hc'
        obtain ⟨e2, e3⟩ := (q5.2 j _ c hcell hc).imm ((good t).2.2.1 x.1 _ (List.mem_of_getElem? hcell))
        have hR := hR.1
        split
        · rename_i hf
          rw [if_pos hf] at hR
          exact e1.canon e2 hR
        · rename_i hf
          rw [if_neg hf] at hR
          exact .imm _ _ (e1.canon e2 (hR.imm_of e3))
    | cell flat r =>
      simp only [putS] at h1
      cases h1 with
      | live _ k hk =>
        obtain ⟨k1, k2, k3, k4⟩ := hk
        have one : ∃ ds, k.elems = [ds] := by
          cases flat with
          | true => obtain ⟨d, ds, e, _, e2⟩ := (k3 rfl).cons_inv; rw [e2.nil_inv] at e; exact ⟨d, e⟩
          | false => obtain ⟨d, ds, e, _, e2⟩ := (k4 rfl).cons_inv; rw [e2.nil_inv] at e; exact ⟨d, e⟩
        obtain ⟨ds, hds⟩ := one
        refine .live _ _ (blk_conv k1.symm k2.symm (by simp [hds]) fun i y y' hy hy' => ?_)
        have hi : i = 0 := by
          have := (List.getElem?_eq_some_iff.1 hy').1
          simp at this
          omega
        subst hi
        rw [hds] at hy
        simp at hy hy'
        subst hy
        subst hy'
        rw [k2]
        cases flat with
        | true =>
          have hd := k3 rfl
          rw [hds] at hd
          obtain ⟨i1, i2⟩ := okAll_conv (lens := lens) (V := IR w S) (R := RI) (fun s x a cv h => canI_conv s x a cv h) (by simpa [okS] using ho.1) hd.head
          exact ⟨i1, fun j c c' v hc hc' hR => ⟨i2 j c' c v hc' hc hR.1, hR.2⟩⟩
        | false =>
          have hd := k4 rfl
          rw [hds] at hd
          obtain ⟨i1, i2⟩ := okAll_conv (lens := lens) (V := VR μ w S) (canC_conv hl) (by simpa [okS] using ho.1) hd.head
          exact ⟨i1, fun j c c' v hc hc' hR => ⟨i2 j c' c v hc' hc hR.1, hR.2⟩⟩

/- results -/
theorem RT.strict {v : NVal} {a : AVal} (h : RT hp v a) (hv : v ≠ .undef) : RTs hp v a := by
  cases h with
  | undef => exact absurd rfl hv
  | v h => exact .v h
  | tup cs ds h => exact .tup _ _ h
theorem RT.rv {v : NVal} {a : AVal} (h : RT hp v a) (hv : nisV v = true) : RV hp v a := by
  cases h with
  | undef => cases hv
  | v h => exact h
  | tup cs ds h => cases hv
variable {ω : Type} {o : ω}
theorem nres_sound {st : NSt} {ast : St} (hs : SR st ast) {r : RVar} {k : NVal → Option ω} (h : nres st.heap st.tmps r k = some o) : ∃ v a, resOf ast.heap ast.tmps r = some a ∧ RT st.heap v a ∧ k v = some o := by
  cases r with
  | tmp t => exact ⟨_, _, rfl, hs.tmps.getD (RT.undef .undef) t, h⟩
  | cell agg n t =>
    obtain ⟨u, c, h1, h2, h3⟩ := nloadV_sound hs.heap h (hs.tmps.getD (RT.undef .undef) t)
    exact ⟨u, c, h1, h2, h3⟩
theorem nress_sound {st : NSt} {ast : St} (hs : SR st ast) : ∀ {rs : List RVar} {k : List NVal → Option ω}, nress st.heap st.tmps rs k = some o → ∃ vs as', allOf (resOf ast.heap ast.tmps) rs = some as' ∧ A2 (RT st.heap) vs as' ∧ k vs = some o
  | [], k, h => ⟨[], [], rfl, .nil, h⟩
  | r :: rs, k, h => by
    simp only [nress] at h
    obtain ⟨v, a, h1, h2, h3⟩ := nres_sound hs h
    obtain ⟨vs, as', g1, g2, g3⟩ := nress_sound hs h3
    exact ⟨v :: vs, a :: as', by simp only [allOf]; rw [h1, g1], .cons h2 g2, g3⟩
theorem nresults_sound {st : NSt} {ast : St} (hs : SR st ast) {rs : List RVar} {k : NVal → Option ω} (h : nresults st.heap st.tmps rs k = some o) : ∃ v a, resultsOf ast.heap ast.tmps rs = some a ∧ k v = some o ∧ (nokR v = true → RTs st.heap v a) := by
  unfold nresults at h
  unfold resultsOf
  split at h
  · obtain ⟨v, a, h1, h2, h3⟩ := nres_sound hs h
    exact ⟨v, a, h1, h3, fun hv => h2.strict (fun e => by rw [e] at hv; cases hv)⟩
  · rename_i hne
    obtain ⟨vs, as', h1, h2, h3⟩ := nress_sound hs h
    refine ⟨.tup vs, .tup as', ?_, h3, fun hv => .tup _ _ ?_⟩
    · split
      · rename_i y; exact absurd rfl (hne y)
      · rw [h1]; rfl
    · have hv : vs.all nisV = true := hv
      rw [List.all_eq_true] at hv
      exact ⟨h2.1, fun j x y hx hy => (h2.2 j x y hx hy).rv (hv x (List.mem_of_getElem? hx))⟩

theorem nleave_sound {st : NSt} {ast : St} (hs : SR st ast) (hg : noGone st.heap) {f : NFunc} {af : AFunc} (hr : af.results = f.results) (hfz : af.freeze = f.freeze) {k : NVal → NHeap → Option ω} (h : nleave f st k = some o) :
    ∃ r back r' back', leave af ast = some (r', back') ∧ RTs back r r' ∧ RH back back' ∧ k r back = some o := by
  unfold nleave at h
  obtain ⟨r0, a0, h1, h2, h3⟩ := nresults_sound hs h
  unfold leave
  rw [hr, h1, hfz]
  simp only
  split at h2
  · rename_i hok
    have h3 := h3 hok
    split at h2
    · cases h2
    · rename_i r shown hv
      have hview : ∃ a, (if f.freeze then viewT ast.heap DEEP a0 else some (a0, [])) = some (a, shown) ∧ RT st.heap r a := by
        split at hv
        · rename_i hf
          rw [if_pos hf]
          exact viewT_rel hs.heap hv h3.rt
        · rename_i hf
          rw [if_neg hf]
          cases hv
          exact ⟨a0, rfl, h3.rt⟩
      obtain ⟨a, e1, e2⟩ := hview
      rw [e1]
      simp only at h2 ⊢
      split at h2
      · rename_i hc
        obtain ⟨c1, c2, c3, c4⟩ := hc
        have e3 : RTs st.heap r a := e2.strict (fun e => by rw [e] at c1; cases c1)
        have hreach := hs.heap.reach hg (List.range st.k) (skT r).ownT
        rw [e3.own] at hreach c2 c3 c4 h2
        rw [hreach] at c2 c3 c4 h2
        rw [hs.k, if_pos ⟨c2, c3, c4⟩]
        exact ⟨_, _, _, _, rfl, renT_rel (pack_keeps _) e3, pack_rel hs.heap fun b hb hn => hs.heap.getNone hg hn, h2⟩
      · cases h2
  · cases h2

theorem get_RTs {s : Sh} {v : NVal} {a : AVal} {x : s.den} (hu : s.isUndef = false) (h : get s v = some x) (hr : RTs hp v a) : RTs hp (put s x) a := by
  cases hr with
  | undef => exact (get_undef hu h).elim
  | v hr => exact .v (get_RV s v a x hu h hr)
  | tup cs ds hr =>
    cases s with
    | tup l =>
      simp only [get] at h
      simp only [put]
      exact .tup _ _ (gets_R get_RV h hr)
    | v t =>
      exfalso
      simp only [get, getV] at h
      split at h
      · cases h
      · have := (good t).2.2.2 _ _ (.tup cs) h List.mem_cons_self
        cases this
    | undef => cases hu
    | _ => (simp [get] at h; done)

theorem getO_rel {res : Sh} {l : List HS} {y : denO res l} {r : NVal} {back : NHeap} {r' : AVal} {back' : Heap} (hu : res.isUndef = false) (h : getO res l r back = some y) (hr : RTs back r r') (hb : RH back back') : RTs (outH res l y) (outV res l y) r' ∧ RH (outH res l y) back' := by
  cases l with
  | nil =>
    simp only [getO] at h
    split at h
    · exact ⟨get_RTs hu h hr, hb⟩
    · cases h
  | cons h0 l =>
    simp only [getO] at h
    split at h
    · rename_i x hx
      split at h
      · rename_i z hz
        cases h
        exact ⟨(get_RTs hu hx hr).mono (getH_len hz), getH_rel hz hb⟩
      · cases h
    · cases h
end

end NM
end Go.Proofs.Ytfelhbeiegppgaa
