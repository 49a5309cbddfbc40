/-
  What the proof of SpecTexts leans on, part 18. (Many texts laid together by program.)
-/
import Derived.Test.YtjngkfdclcgfhaaGreatDoorPkTq
set_option linter.unnecessarySimpa false
set_option linter.unusedSimpArgs false
set_option linter.unusedVariables false
section
namespace Go.Proofs.YtjngkfdclcgfhaaGreatDoor
namespace NM
open AM
noncomputable def canS (lens : Nat → Nat) : (h : HS) → h.den → Slot
 | .dead, _ => .dead
 | .typed t, xs => .live ⟨(ops t).size, true, xs.map (acells t)⟩
 | .cell flat r, x => .live ⟨(puts r x).length, flat, [cans lens r x]⟩
 | .one flat t, x => .live ⟨((ops t).cells x).length, flat, [acells t x]⟩
 | .many e r, x => .live ⟨e, false, cansR lens r x⟩
noncomputable def canH (lens : Nat → Nat) : (l : List HS) → denH l → Heap
 | [], _ => []
 | h :: l, x => canS lens h x.1 :: canH lens l x.2
def okRs (p : Sh → Bool) : Sh → Bool
 | .cons a l => okAll p a && okRs p l
 | .nil => true
 | .v _ | .undef | .nilp | .zsl | .nilfn | .nili | .ptr _ _ _ | .slw _ _ | .fn _ _ | .agg _ | .tup _ | .iptr _ _ | .rows _ _ => false
def okS (lv : Nat → Bool) : HS → Bool
 | .dead => true
 | .typed _ => true
 | .cell flat r => if flat then okAll okI r else okAll (okC lv) r
 | .one _ _ => true
 | .many _ r => okRs (okC lv) r
def liveB (l : List HS) (b : Nat) : Bool := match l[b]? with
 | some .dead => false
 | none => false
 | _ => true
def lensOf (hp : NHeap) (b : Nat) : Nat := match nget hp b with
 | some k => k.len
 | none => 0
section
variable {P : Program} {w : World} {S : Nat → Prop} {μ : Nat → AM.Loc} {hp : NHeap} {ahp : Heap}
theorem putH_live : ∀ {l : List HS} {x : denH l} {b : Nat}, liveB l b = true → ∃ k, nget (putH l x) b = some k
 | [], x, b, h => by simp [liveB] at h
 | h :: l, x, b, hb => by
   cases b with
   | zero =>
     simp only [liveB, List.getElem?_cons_zero] at hb
     cases h with
     | dead => cases hb
     | typed t => exact ⟨_, rfl⟩
     | cell flat r => exact ⟨_, rfl⟩
     | one flat t => exact ⟨_, rfl⟩
     | many e r => exact ⟨_, rfl⟩
   | succ b =>
     have := putH_live (l := l) (x := x.2) (b := b) (by simpa [liveB] using hb)
     simpa [nget, putH] using this
theorem putH_lens {l : List HS} {x : denH l} : Lens (putH l x) (liveB l) (lensOf (putH l x)) := fun b hb => by
 obtain ⟨k, hk⟩ := putH_live (x := x) hb
 exact ⟨k, hk, by unfold lensOf; rw [hk]⟩
theorem acells_map {t : Ty} (xs : List (den t)) : A2 (RX t) xs (xs.map (acells t)) := ⟨by simp, fun j x y hx hy => by
 rw [List.getElem?_map, hx] at hy
 cases hy
 exact (acells_rel t x).mono fun _ _ h => h.ri⟩
theorem okRs_rel {p : Sh → Bool} {lens : Nat → Nat} {R : NVal → AVal → Prop} (hp : ∀ (s : Sh) (x : s.den), p s = true → R (put s x) (can lens s x)) : ∀ {s : Sh} {x : s.den}, okRs p s = true → A2 (A2 R) (putsR s x) (cansR lens s x)
 | .cons a l, x, h => by
   simp only [okRs, Bool.and_eq_true] at h
   simp only [putsR, cansR]
   exact .cons (okAll_rel hp h.1) (okRs_rel hp h.2)
 | .nil, x, h => by simp only [putsR, cansR]; exact .nil
 | .v _, _, h => by cases h
 | .undef, _, h => by cases h
 | .nilp, _, h => by cases h
 | .zsl, _, h => by cases h
 | .nilfn, _, h => by cases h
 | .nili, _, h => by cases h
 | .ptr _ _ _, _, h => by cases h
 | .slw _ _, _, h => by cases h
 | .fn _ _, _, h => by cases h
 | .agg _, _, h => by cases h
 | .tup _, _, h => by cases h
 | .iptr _ _, _, h => by cases h
 | .rows _ _, _, h => by cases h
theorem okRs_conv {p : Sh → Bool} {lens : Nat → Nat} {R : NVal → AVal → Prop} {V : AVal → Value → Prop} (hp : ∀ (s : Sh) (x : s.den) (a : AVal) (cv : Value), p s = true → R (put s x) a → V a cv → V (can lens s x) cv) : ∀ {s : Sh} {x : s.den} {dss : List (List AVal)}, okRs p s = true → A2 (A2 R) (putsR s x) dss →
   (cansR lens s x).length = dss.length ∧ ∀ (i : Nat) (y y' : List AVal), dss[i]? = some y → (cansR lens s x)[i]? = some y' → y'.length = y.length ∧ ∀ (j : Nat) (c : AVal) (d : AVal) (cv : Value), y'[j]? = some c → y[j]? = some d → V d cv → V c cv
 | .cons a l, x, dss, h, hr => by
   simp only [okRs, Bool.and_eq_true] at h
   simp only [putsR] at hr
   obtain ⟨d, ds', rfl, h1, h2⟩ := hr.cons_inv
   obtain ⟨i1, i2⟩ := okRs_conv hp (x := x.2) h.2 h2
   simp only [cansR]
   refine ⟨by simp [i1], fun i y y' hy hy' => ?_⟩
   cases i with
   | zero => simp at hy hy'; subst hy; subst hy'; exact okAll_conv hp h.1 h1
   | succ i => simp at hy hy'; exact i2 i y y' hy hy'
 | .nil, x, dss, h, hr => by
   simp only [putsR] at hr
   rw [hr.nil_inv]
   simp only [cansR]
   exact ⟨by simp, fun i y y' hy => by simp at hy⟩
 | .v _, _, _, h, _ => by cases h
 | .undef, _, _, h, _ => by cases h
 | .nilp, _, _, h, _ => by cases h
 | .zsl, _, _, h, _ => by cases h
 | .nilfn, _, _, h, _ => by cases h
 | .nili, _, _, h, _ => by cases h
 | .ptr _ _ _, _, _, h, _ => by cases h
 | .slw _ _, _, _, h, _ => by cases h
 | .fn _ _, _, _, h, _ => by cases h
 | .agg _, _, _, h, _ => by cases h
 | .tup _, _, _, h, _ => by cases h
 | .iptr _ _, _, _, h, _ => by cases h
 | .rows _ _, _, _, h, _ => by cases h
theorem canH_rel {G : NHeap} {lv : Nat → Bool} {lens : Nat → Nat} (hl : Lens G lv lens) : ∀ {l : List HS} {x : denH l}, l.all (okS lv) = true → A2 (RS G) (putH l x) (canH lens l x)
 | [], x, _ => .nil
 | h :: l, x, ho => by
   simp only [List.all_cons, Bool.and_eq_true] at ho
   refine .cons ?_ (canH_rel hl ho.2)
   cases h with
   | dead => exact .dead
   | typed t => exact .live _ _ ⟨rfl, rfl, acells_map x.1⟩
   | many e r => exact .live _ _ ⟨rfl, rfl, fun hf => (by cases hf), fun _ => okRs_rel (canC_rel hl) (by simpa [okS] using ho.1)⟩
   | one flat t => exact .live _ _ ⟨rfl, rfl, fun _ => .single ((acells_rel t x.1).mono fun _ _ h => h.ri), fun _ => .single ((acells_rel t x.1).mono fun _ _ h => h.ri.c)⟩
   | cell flat r =>
     refine .live _ _ ⟨rfl, rfl, fun hf => ?_, fun hf => ?_⟩
     · subst hf
       exact .single (okAll_rel (fun s x h => (canI_rel s x h).ri) (by simpa [okS] using ho.1))
     · subst hf
       exact .single (okAll_rel (canC_rel hl) (by simpa [okS] using ho.1))
def BConv (μ : Nat → AM.Loc) (w : World) (S : Nat → Prop) (k k' : AM.Blk) : Prop := ∀ l, BlkR μ w S l k → BlkR μ w S l k'
theorem blk_conv {k k' : AM.Blk} (he : k'.e = k.e) (hf : k'.flat = k.flat) (hl : k'.elems.length = k.elems.length)
   (hr : ∀ (i : Nat) (x x' : List AVal), k.elems[i]? = some x → k'.elems[i]? = some x' → x'.length = x.length ∧ ∀ (j : Nat) (c c' : AVal) (v : Value), x[j]? = some c → x'[j]? = some c' → Blk.R μ w S k.flat c v → Blk.R μ w S k.flat c' v) : BConv μ w S k k' := by
 intro l h
 have row : ∀ (i : Nat) (x' : List AVal), k'.elems[i]? = some x' → ∃ x, k.elems[i]? = some x := fun i x' hx => by
   have := (List.getElem?_eq_some_iff.1 hx).1
   exact ⟨_, List.getElem?_eq_getElem (by omega)⟩
 cases l with
 | free => exact h
 | dead => exact h
 | void =>
   have h : k.elems = [] := h
   show k'.elems = []
   rw [h] at hl
   exact List.eq_nil_of_length_eq_zero hl
 | here m n e =>
   obtain ⟨h1, h2, h3, cells, t, h4, h5, h6⟩ := h
   refine ⟨h1.trans he.symm, by omega, fun i x' hx => ?_, cells, t, h4, by rw [he]; exact h5, fun i x' j c' hx hc => ?_⟩
   · obtain ⟨x, hx0⟩ := row i x' hx
     rw [he, (hr i x x' hx0 hx).1]
     exact h3 i x hx0
   · obtain ⟨x, hx0⟩ := row i x' hx
     obtain ⟨r1, r2⟩ := hr i x x' hx0 hx
     have hj : j < x.length := by rw [← r1]; exact (List.getElem?_eq_some_iff.1 hc).1
     obtain ⟨v, hv, hR⟩ := h6 i x j x[j] hx0 (List.getElem?_eq_getElem hj)
     rw [he, hf]
     exact ⟨v, hv, r2 j _ c' v (List.getElem?_eq_getElem hj) hc hR⟩
inductive SConv (μ : Nat → AM.Loc) (w : World) (S : Nat → Prop) : Slot → Slot → Prop
 | dead : SConv μ w S .dead .dead
 | live (k k' : AM.Blk) : BConv μ w S k k' → SConv μ w S (.live k) (.live k')
theorem hrep_conv {ahp' : Heap} (h : HRep μ w S ahp) (hc : A2 (SConv μ w S) ahp ahp') : HRep μ w S ahp' where
 live b k' hb := by
   rw [aget_iff] at hb
   have hlt : b < ahp.length := by rw [hc.1]; exact (List.getElem?_eq_some_iff.1 hb).1
   have hs := hc.2 b ahp[b] _ (List.getElem?_eq_getElem hlt) hb
   generalize hg : ahp[b] = s at hs
   cases hs with
   | live k _ hk => exact hk _ (h.live b k (aget_iff.2 (by rw [List.getElem?_eq_getElem hlt, hg])))
 gone b hb := by
   refine h.gone b ?_
   cases hg : ahp.get b with
   | none => rfl
   | some k =>
     exfalso
     rw [aget_iff] at hg
     obtain ⟨s', hs', hs⟩ := hc.get hg
     cases hs with
     | live _ k' hk => rw [aget_iff.2 hs'] at hb; cases hb
 free b hb := by
   refine h.free b (.inr ?_)
   rcases hb with hb | hb
   · exfalso
     unfold Heap.isFree at hb
     split at hb
     · rename_i hs'
       have hlt : b < ahp.length := by rw [hc.1]; exact (List.getElem?_eq_some_iff.1 hs').1
       have hs := hc.2 b ahp[b] _ (List.getElem?_eq_getElem hlt) hs'
       generalize ahp[b] = s at hs
       cases hs
     · cases hb
   · rw [hc.1]; exact hb
 inj := h.inj
 apart := h.apart
 inS := h.inS
 gl := h.gl
theorem canH_conv {G : NHeap} {lv : Nat → Bool} {lens : Nat → Nat} (hl : Lens G lv lens) : ∀ {l : List HS} {x : denH l} {ahp : Heap}, l.all (okS lv) = true → A2 (RS G) (putH l x) ahp → A2 (SConv μ w S) ahp (canH lens l x)
 | [], x, ahp, _, hr => by rw [hr.nil_inv]; exact .nil
 | h :: l, x, ahp, ho, hr => by
   simp only [List.all_cons, Bool.and_eq_true] at ho
   simp only [putH] at hr
   obtain ⟨s, ahp', rfl, h1, h2⟩ := hr.cons_inv
   refine .cons ?_ (canH_conv hl ho.2 h2)
   cases h with
   | dead => cases h1; exact .dead
   | typed t =>
     simp only [putS] at h1
     cases h1 with
     | live _ k hk =>
       obtain ⟨k1, k2, k3⟩ := hk
       refine .live _ _ (blk_conv k1.symm k2.symm (by simp [← k3.1]) fun i y y' hy hy' => ?_)
       rw [List.getElem?_map, Option.map_eq_some_iff] at hy'
       obtain ⟨z, hz, rfl⟩ := hy'
       have hzy := k3.2 i z y hz hy
       have hac := acells_rel t z
       refine ⟨hac.1.symm.trans hzy.1, fun j c c' v hc hc' hR => ?_⟩
       have hj : j < ((ops t).cells z).length := by rw [hac.1]; exact (List.getElem?_eq_some_iff.1 hc').1
       have e1 := hac.2 j _ c' (List.getElem?_eq_getElem hj) hc'
       have e2 := hzy.2 j _ c (List.getElem?_eq_getElem hj) hc
       rw [k2] at hR ⊢
       exact ⟨e1.canon e2 hR.1, hR.2⟩
   | many e r =>
     simp only [putS] at h1
     cases h1 with
     | live _ k hk =>
       obtain ⟨k1, k2, k3, k4⟩ := hk
       obtain ⟨i1, i2⟩ := okRs_conv (lens := lens) (V := VR μ w S) (canC_conv hl) (by simpa [okS] using ho.1) (k4 rfl)
       refine .live _ _ (blk_conv k1.symm k2.symm i1 fun i y y' hy hy' => ?_)
       obtain ⟨j1, j2⟩ := i2 i y y' hy hy'
       rw [k2]
       exact ⟨j1, fun j c c' v hc hc' hR => ⟨j2 j c' c v hc' hc hR.1, hR.2⟩⟩
   | one flat t =>
     simp only [putS] at h1
     cases h1 with
     | live _ k hk =>
       obtain ⟨ds, dss, hds, q5, q6⟩ := (RB.row' hk).cons_inv
       rw [q6.nil_inv] at hds
       obtain ⟨k1, k2, k3, k4⟩ := hk
       refine .live _ _ (blk_conv k1.symm k2.symm (by simp [hds]) fun i y y' hy hy' => ?_)
       have hi : i = 0 := by
         have := (List.getElem?_eq_some_iff.1 hy').1
         simp at this
         omega
       subst hi
       rw [hds] at hy
       simp at hy hy'
       subst hy
       subst hy'
       have hac := acells_rel t x.1
       refine ⟨hac.1.symm.trans q5.1, fun j c c' v hc hc' hR => ⟨?_, hR.2⟩⟩
       have hj : j < ((ops t).cells x.1).length := by rw [hac.1]; exact (List.getElem?_eq_some_iff.1 hc').1
       have hcell := List.getElem?_eq_getElem hj
       have e1 := hac.2 j _ c' hcell hc'
       obtain ⟨e2, e3⟩ := (q5.2 j _ c hcell hc).imm ((good t).2.2.1 x.1 _ (List.mem_of_getElem? hcell))
       have hR := hR.1
       split
       · rename_i hf
         rw [if_pos hf] at hR
         exact e1.canon e2 hR
       · rename_i hf
         rw [if_neg hf] at hR
         exact .imm _ _ (e1.canon e2 (hR.imm_of e3))
   | cell flat r =>
     simp only [putS] at h1
     cases h1 with
     | live _ k hk =>
       obtain ⟨k1, k2, k3, k4⟩ := hk
       have one : ∃ ds, k.elems = [ds] := by
         cases flat with
         | true => obtain ⟨d, ds, e, _, e2⟩ := (k3 rfl).cons_inv; rw [e2.nil_inv] at e; exact ⟨d, e⟩
         | false => obtain ⟨d, ds, e, _, e2⟩ := (k4 rfl).cons_inv; rw [e2.nil_inv] at e; exact ⟨d, e⟩
       obtain ⟨ds, hds⟩ := one
       refine .live _ _ (blk_conv k1.symm k2.symm (by simp [hds]) fun i y y' hy hy' => ?_)
       have hi : i = 0 := by
         have := (List.getElem?_eq_some_iff.1 hy').1
         simp at this
         omega
       subst hi
       rw [hds] at hy
       simp at hy hy'
       subst hy
       subst hy'
       rw [k2]
       cases flat with
       | true =>
         have hd := k3 rfl
         rw [hds] at hd
         obtain ⟨i1, i2⟩ := okAll_conv (lens := lens) (V := IR w S) (R := RI) (fun s x a cv h => canI_conv s x a cv h) (by simpa [okS] using ho.1) hd.head
         exact ⟨i1, fun j c c' v hc hc' hR => ⟨i2 j c' c v hc' hc hR.1, hR.2⟩⟩
       | false =>
         have hd := k4 rfl
         rw [hds] at hd
         obtain ⟨i1, i2⟩ := okAll_conv (lens := lens) (V := VR μ w S) (canC_conv hl) (by simpa [okS] using ho.1) hd.head
         exact ⟨i1, fun j c c' v hc hc' hR => ⟨i2 j c' c v hc' hc hR.1, hR.2⟩⟩
theorem RT.strict {v : NVal} {a : AVal} (h : RT hp v a) (hv : v ≠ .undef) : RTs hp v a := by
 cases h with
 | undef => exact absurd rfl hv
 | v h => exact .v h
 | tup cs ds h => exact .tup _ _ h
theorem RT.rv {v : NVal} {a : AVal} (h : RT hp v a) (hv : nisV v = true) : RV hp v a := by
 cases h with
 | undef => cases hv
 | v h => exact h
 | tup cs ds h => cases hv
variable {ω : Type} {o : ω}
theorem nres_sound {st : NSt} {ast : St} (hs : SR st ast) {r : RVar} {k : NVal → Option ω} (h : nres st.heap st.tmps r k = some o) : ∃ v a, resOf ast.heap ast.tmps r = some a ∧ RT st.heap v a ∧ k v = some o := by
 cases r with
 | tmp t => exact ⟨_, _, rfl, hs.tmps.getD (RT.undef .undef) t, h⟩
 | cell agg n t =>
   obtain ⟨u, c, h1, h2, h3⟩ := nloadV_sound hs.heap h (hs.tmps.getD (RT.undef .undef) t)
   exact ⟨u, c, h1, h2, h3⟩
theorem nress_sound {st : NSt} {ast : St} (hs : SR st ast) : ∀ {rs : List RVar} {k : List NVal → Option ω}, nress st.heap st.tmps rs k = some o → ∃ vs as', allOf (resOf ast.heap ast.tmps) rs = some as' ∧ A2 (RT st.heap) vs as' ∧ k vs = some o
 | [], k, h => ⟨[], [], rfl, .nil, h⟩
 | r :: rs, k, h => by
   simp only [nress] at h
   obtain ⟨v, a, h1, h2, h3⟩ := nres_sound hs h
   obtain ⟨vs, as', g1, g2, g3⟩ := nress_sound hs h3
   exact ⟨v :: vs, a :: as', by simp only [allOf]; rw [h1, g1], .cons h2 g2, g3⟩
theorem nresults_sound {st : NSt} {ast : St} (hs : SR st ast) {rs : List RVar} {k : NVal → Option ω} (h : nresults st.heap st.tmps rs k = some o) : ∃ v a, resultsOf ast.heap ast.tmps rs = some a ∧ k v = some o ∧ (nokR v = true → RTs st.heap v a) := by
 unfold nresults at h
 unfold resultsOf
 split at h
 · obtain ⟨v, a, h1, h2, h3⟩ := nres_sound hs h
   exact ⟨v, a, h1, h3, fun hv => h2.strict (fun e => by rw [e] at hv; cases hv)⟩
 · rename_i hne
   obtain ⟨vs, as', h1, h2, h3⟩ := nress_sound hs h
   refine ⟨.tup vs, .tup as', ?_, h3, fun hv => .tup _ _ ?_⟩
   · split
     · rename_i y; exact absurd rfl (hne y)
     · rw [h1]; rfl
   · have hv : vs.all nisV = true := hv
     rw [List.all_eq_true] at hv
     exact ⟨h2.1, fun j x y hx hy => (h2.2 j x y hx hy).rv (hv x (List.mem_of_getElem? hx))⟩
theorem nleave_sound {st : NSt} {ast : St} (hs : SR st ast) (hg : noGone st.heap) {f : NFunc} {af : AFunc} (hr : af.results = f.results) (hfz : af.freeze = f.freeze) {k : NVal → NHeap → Option ω} (h : nleave f st k = some o) :
   ∃ r back r' back', leave af ast = some (r', back') ∧ RTs back r r' ∧ RH back back' ∧ k r back = some o := by
 unfold nleave at h
 obtain ⟨r0, a0, h1, h2, h3⟩ := nresults_sound hs h
 unfold leave
 rw [hr, h1, hfz]
 simp only
 split at h2
 · rename_i hok
   have h3 := h3 hok
   split at h2
   · cases h2
   · rename_i r shown hv
     have hview : ∃ a, (if f.freeze then viewT ast.heap DEEP a0 else some (a0, [])) = some (a, shown) ∧ RT st.heap r a := by
       split at hv
       · rename_i hf
         rw [if_pos hf]
         exact viewT_rel hs.heap hv h3.rt
       · rename_i hf
         rw [if_neg hf]
         cases hv
         exact ⟨a0, rfl, h3.rt⟩
     obtain ⟨a, e1, e2⟩ := hview
     rw [e1]
     simp only at h2 ⊢
     split at h2
     · rename_i hc
       obtain ⟨c1, c2, c3, c4⟩ := hc
       have e3 : RTs st.heap r a := e2.strict (fun e => by rw [e] at c1; cases c1)
       have hreach := hs.heap.reach hg (List.range st.k) (skT r).ownT
       rw [e3.own] at hreach c2 c3 c4 h2
       rw [hreach] at c2 c3 c4 h2
       rw [hs.k, if_pos ⟨c2, c3, c4⟩]
       exact ⟨_, _, _, _, rfl, renT_rel (pack_keeps _) e3, pack_rel hs.heap fun b hb hn => hs.heap.getNone hg hn, h2⟩
     · cases h2
 · cases h2
theorem get_RTs {s : Sh} {v : NVal} {a : AVal} {x : s.den} (hu : s.isUndef = false) (h : get s v = some x) (hr : RTs hp v a) : RTs hp (put s x) a := by
 cases hr with
 | undef => exact (get_undef hu h).elim
 | v hr => exact .v (get_RV s v a x hu h hr)
 | tup cs ds hr =>
   cases s with
   | tup l =>
     simp only [get] at h
     simp only [put]
     exact .tup _ _ (gets_R get_RV h hr)
   | v t =>
     exfalso
     simp only [get, getV] at h
     split at h
     · cases h
     · have := (good t).2.2.2 _ _ (.tup cs) h List.mem_cons_self
       cases this
   | undef => cases hu
   | _ => (simp [get] at h; done)
theorem getO_rel {res : Sh} {l : List HS} {y : denO res l} {r : NVal} {back : NHeap} {r' : AVal} {back' : Heap} (hu : res.isUndef = false) (h : getO res l r back = some y) (hr : RTs back r r') (hb : RH back back') : RTs (outH res l y) (outV res l y) r' ∧ RH (outH res l y) back' := by
 cases l with
 | nil =>
   simp only [getO] at h
   split at h
   · exact ⟨get_RTs hu h hr, hb⟩
   · cases h
 | cons h0 l =>
   simp only [getO] at h
   split at h
   · rename_i x hx
     split at h
     · rename_i z hz
       cases h
       exact ⟨(get_RTs hu hx hr).mono (getH_len hz), getH_rel hz hb⟩
     · cases h
   · cases h
end
end NM
end Go.Proofs.YtjngkfdclcgfhaaGreatDoor
end
section
namespace Go.Proofs.YtjngkfdclcgfhaaGreatDoor
namespace NM
open AM
/- shapes whose data a value determines -/
mutual
def wfS : Sh → Bool
 | .fn _ l | .agg l | .tup l | .iptr l _ => wfL l
 | .rows _ l => wfR l
 | .cons _ _ => false
 | .v _ | .undef | .nilp | .zsl | .nilfn | .nili | .ptr _ _ _ | .slw _ _ | .nil => true
def wfL : Sh → Bool
 | .cons a l => wfS a && wfL l
 | .nil => true
 | .v _ | .undef | .nilp | .zsl | .nilfn | .nili | .ptr _ _ _ | .slw _ _ | .fn _ _ | .agg _ | .tup _ | .iptr _ _ | .rows _ _ => false
def wfR : Sh → Bool
 | .cons a l => wfL a && wfR l
 | .nil => true
 | .v _ | .undef | .nilp | .zsl | .nilfn | .nili | .ptr _ _ _ | .slw _ _ | .fn _ _ | .agg _ | .tup _ | .iptr _ _ | .rows _ _ => false
end
def wfH : HS → Bool
 | .cell _ r => wfL r
 | .many _ r => wfR r
 | _ => true
def lv0 (_ : Nat) : Bool := false
def oGood (o : OSh) : Bool := !o.1.isUndef && (match o.2 with
 | [] => okT lv0 o.1
 | _ :: _ => okT (liveB o.2) o.1 && o.2.all (okS (liveB o.2)))
def sigGood (sig : Sig) : Bool := wfL sig.args && sig.heap.all wfH && oGood sig.res && sig.more.all oGood
noncomputable def outA (r : Sh) : (l : List HS) → denO r l → AVal
 | [], y => can (fun _ => 0) r y
 | h :: l, y => can (lensOf (putH (h :: l) y.2)) r y.1
noncomputable def outB (r : Sh) : (l : List HS) → denO r l → Heap
 | [], _ => []
 | h :: l, y => canH (lensOf (putH (h :: l) y.2)) (h :: l) y.2
noncomputable def yA : (o : OSh) → (l : List OSh) → denY o l → AVal
 | o, [], y => outA o.1 o.2 y
 | o, p :: l, y => match y with
   | .inl y => outA o.1 o.2 y
   | .inr y => yA p l y
noncomputable def yB : (o : OSh) → (l : List OSh) → denY o l → Heap
 | o, [], y => outB o.1 o.2 y
 | o, p :: l, y => match y with
   | .inl y => outB o.1 o.2 y
   | .inr y => yB p l y
def NOk (P : Program) (e : Ent) : Prop := AM.Enters P e.f ∧ sigGood e.sig = true ∧ ∀ x h y, e.F x h = some y → ∀ args ahp, A2 (RV (putH e.sig.heap h)) (puts e.sig.args x) args → RH (putH e.sig.heap h) ahp →
 CallOk P e.f args ahp (yA e.sig.res e.sig.more y) (yB e.sig.res e.sig.more y)
section
variable {P : Program}
theorem v_inj {hp hp' : NHeap} {t : Ty} {x x' : den t} {a : AVal} (h : RT hp (putV t x) a) (h' : RT hp' (putV t x') a) : x = x' := by
 cases ht : t.isAgg with
 | true =>
   simp only [putV, ht] at h h'
   obtain ⟨ds, e, hc⟩ := h.agg_inv
   obtain ⟨ds', e', hc'⟩ := h'.agg_inv
   rw [e] at e'
   cases e'
   exact (bth t).2.1 x x' ds ⟨hc.1, fun j c d hj hd => ((hc.2 j c d hj hd).imm ((good t).2.2.1 x c (List.mem_of_getElem? hj))).1⟩ ⟨hc'.1, fun j c d hj hd => ((hc'.2 j c d hj hd).imm ((good t).2.2.1 x' c (List.mem_of_getElem? hj))).1⟩
 | false =>
   obtain ⟨c, d, h1, h2, h3, h4⟩ := one_cells ht x
   obtain ⟨c', d', h1', h2', h3', h4'⟩ := one_cells ht x'
   simp only [putV, ht, h1] at h
   simp only [putV, ht, h1'] at h'
   have key : ∀ {hp : NHeap} {c : NVal}, nimmP c = true → RT hp c a → RI c a := fun {hp c} hi hr => by
     cases hr with
     | undef => cases hi
     | v hr => cases hr with
       | c hr => exact (hr.imm hi).1
       | agg => cases hi
     | tup => cases hi
   exact (bth t).2.1 x x' [a] (by rw [h1]; exact .single (key h4 h)) (by rw [h1']; exact .single (key h4' h'))
mutual
theorem put_inj {hp hp' : NHeap} : ∀ (s : Sh) (x x' : s.den) (a : AVal), wfS s = true → RT hp (put s x) a → RT hp' (put s x') a → x = x'
 | .v t, x, x', a, _, h, h' => v_inj (by simpa only [put] using h) (by simpa only [put] using h')
 | .undef, _, _, _, _, _, _ => rfl
 | .nilp, _, _, _, _, _, _ => rfl
 | .zsl, _, _, _, _, _, _ => rfl
 | .nilfn, _, _, _, _, _, _ => rfl
 | .nili, _, _, _, _, _, _ => rfl
 | .ptr _ _ _, _, _, _, _, _, _ => rfl
 | .slw _ _, _, _, _, _, _, _ => rfl
 | .fn f l, x, x', a, hw, h, h' => by
   simp only [put] at h h'
   simp only [wfS] at hw
   obtain ⟨c, e, hc⟩ := h.fn_inv
   obtain ⟨c', e', hc'⟩ := h'.fn_inv
   rw [e] at e'
   cases e'
   exact puts_inj l x x' c hw (hc.mono fun _ _ h => h.rt) (hc'.mono fun _ _ h => h.rt)
 | .agg l, x, x', a, hw, h, h' => by
   simp only [put] at h h'
   simp only [wfS] at hw
   obtain ⟨c, e, hc⟩ := h.agg_inv
   obtain ⟨c', e', hc'⟩ := h'.agg_inv
   rw [e] at e'
   cases e'
   exact puts_inj l x x' c hw (hc.mono fun _ _ h => h.rt) (hc'.mono fun _ _ h => h.rt)
 | .tup l, x, x', a, hw, h, h' => by
   simp only [put] at h h'
   simp only [wfS] at hw
   obtain ⟨c, e, hc⟩ := h.tup_inv
   obtain ⟨c', e', hc'⟩ := h'.tup_inv
   rw [e] at e'
   cases e'
   exact puts_inj l x x' c hw (hc.mono fun _ _ h => .v h) (hc'.mono fun _ _ h => .v h)
 | .iptr l off, x, x', a, hw, h, h' => by
   simp only [put] at h h'
   simp only [wfS] at hw
   obtain ⟨c, e, hc⟩ := h.iptr_inv
   obtain ⟨c', e', hc'⟩ := h'.iptr_inv
   rw [e] at e'
   cases e'
   exact puts_inj l x x' c hw (hc.mono fun _ _ h => h.rt (hp := hp)) (hc'.mono fun _ _ h => h.rt (hp := hp'))
 | .rows e l, x, x', a, hw, h, h' => by
   simp only [put] at h h'
   simp only [wfS] at hw
   rcases h.rows_inv.rows_inv with ⟨ys, rfl, hy⟩ | ⟨rfl, h0⟩
   · rcases h'.rows_inv.rows_inv with ⟨zs, hz, hz2⟩ | ⟨hz, _⟩
     · cases hz; exact putsR_inj l x x' ys hw hy hz2
     · cases hz
   · rcases h'.rows_inv.rows_inv with ⟨zs, hz, hz2⟩ | ⟨_, h0'⟩
     · cases hz
     · exact putsR_inj l x x' [] hw (by rw [h0]; exact .nil) (by rw [h0']; exact .nil)
 | .nil, _, _, _, _, _, _ => rfl
 | .cons _ _, _, _, _, hw, _, _ => by simp [wfS] at hw
theorem puts_inj {hp hp' : NHeap} : ∀ (s : Sh) (x x' : s.den) (ds : List AVal), wfL s = true → A2 (RT hp) (puts s x) ds → A2 (RT hp') (puts s x') ds → x = x'
 | .cons a l, x, x', ds, hw, h, h' => by
   simp only [puts] at h h'
   simp only [wfL, Bool.and_eq_true] at hw
   obtain ⟨d, ds', rfl, h1, h2⟩ := h.cons_inv
   exact Prod.ext (put_inj a x.1 x'.1 d hw.1 h1 h'.head) (puts_inj l x.2 x'.2 ds' hw.2 h2 h'.tail)
 | .nil, _, _, _, _, _, _ => rfl
 | .v _, _, _, _, hw, _, _ => by simp [wfL] at hw
 | .undef, _, _, _, hw, _, _ => rfl
 | .nilp, _, _, _, hw, _, _ => rfl
 | .zsl, _, _, _, hw, _, _ => rfl
 | .nilfn, _, _, _, hw, _, _ => rfl
 | .nili, _, _, _, hw, _, _ => rfl
 | .ptr _ _ _, _, _, _, hw, _, _ => rfl
 | .slw _ _, _, _, _, hw, _, _ => rfl
 | .fn _ _, _, _, _, hw, _, _ => by simp [wfL] at hw
 | .agg _, _, _, _, hw, _, _ => by simp [wfL] at hw
 | .tup _, _, _, _, hw, _, _ => by simp [wfL] at hw
 | .iptr _ _, _, _, _, hw, _, _ => by simp [wfL] at hw
 | .rows _ _, _, _, _, hw, _, _ => by simp [wfL] at hw
theorem putsR_inj : ∀ (s : Sh) (x x' : s.den) (ds : List (List AVal)), wfR s = true → A2 (A2 RI) (putsR s x) ds → A2 (A2 RI) (putsR s x') ds → x = x'
 | .cons a l, x, x', ds, hw, h, h' => by
   simp only [putsR] at h h'
   simp only [wfR, Bool.and_eq_true] at hw
   obtain ⟨d, ds', rfl, h1, h2⟩ := h.cons_inv
   exact Prod.ext (puts_inj (hp := []) (hp' := []) a x.1 x'.1 d hw.1 (h1.mono fun _ _ h => h.rt) (h'.head.mono fun _ _ h => h.rt)) (putsR_inj l x.2 x'.2 ds' hw.2 h2 h'.tail)
 | .nil, _, _, _, _, _, _ => rfl
 | .v _, _, _, _, hw, _, _ => by simp [wfR] at hw
 | .undef, _, _, _, hw, _, _ => rfl
 | .nilp, _, _, _, hw, _, _ => rfl
 | .zsl, _, _, _, hw, _, _ => rfl
 | .nilfn, _, _, _, hw, _, _ => rfl
 | .nili, _, _, _, hw, _, _ => rfl
 | .ptr _ _ _, _, _, _, hw, _, _ => rfl
 | .slw _ _, _, _, _, hw, _, _ => rfl
 | .fn _ _, _, _, _, hw, _, _ => by simp [wfR] at hw
 | .agg _, _, _, _, hw, _, _ => by simp [wfR] at hw
 | .tup _, _, _, _, hw, _, _ => by simp [wfR] at hw
 | .iptr _ _, _, _, _, hw, _, _ => by simp [wfR] at hw
 | .rows _ _, _, _, _, hw, _, _ => by simp [wfR] at hw
end
theorem putsR_injC {hp hp' : NHeap} : ∀ (s : Sh) (x x' : s.den) (ds : List (List AVal)), wfR s = true → A2 (A2 (RC hp)) (putsR s x) ds → A2 (A2 (RC hp')) (putsR s x') ds → x = x'
 | .cons a l, x, x', ds, hw, h, h' => by
   simp only [putsR] at h h'
   simp only [wfR, Bool.and_eq_true] at hw
   obtain ⟨d, ds', rfl, h1, h2⟩ := h.cons_inv
   exact Prod.ext (puts_inj (hp := hp) (hp' := hp') a x.1 x'.1 d hw.1 (h1.mono fun _ _ h => h.rt) (h'.head.mono fun _ _ h => h.rt)) (putsR_injC l x.2 x'.2 ds' hw.2 h2 h'.tail)
 | .nil, _, _, _, _, _, _ => rfl
 | .v _, _, _, _, hw, _, _ => by simp [wfR] at hw
 | .undef, _, _, _, hw, _, _ => rfl
 | .nilp, _, _, _, hw, _, _ => rfl
 | .zsl, _, _, _, hw, _, _ => rfl
 | .nilfn, _, _, _, hw, _, _ => rfl
 | .nili, _, _, _, hw, _, _ => rfl
 | .ptr _ _ _, _, _, _, hw, _, _ => rfl
 | .slw _ _, _, _, _, hw, _, _ => rfl
 | .fn _ _, _, _, _, hw, _, _ => by simp [wfR] at hw
 | .agg _, _, _, _, hw, _, _ => by simp [wfR] at hw
 | .tup _, _, _, _, hw, _, _ => by simp [wfR] at hw
 | .iptr _ _, _, _, _, hw, _, _ => by simp [wfR] at hw
 | .rows _ _, _, _, _, hw, _, _ => by simp [wfR] at hw
theorem putS_inj {G G' : NHeap} {h : HS} {x x' : h.den} {s : Slot} (hw : wfH h = true) (h1 : RS G (putS h x) s) (h2 : RS G' (putS h x') s) : x = x' := by
 cases h with
 | dead => rfl
 | typed t =>
   simp only [putS] at h1 h2
   cases h1 with
   | live _ k hk =>
     cases h2 with
     | live _ _ hk' => exact inj_A2 (bth t).2.1 hk.2.2 hk'.2.2
 | one flat t =>
   simp only [putS] at h1 h2
   cases h1 with
   | live _ k hk =>
     cases h2 with
     | live _ _ hk' =>
       have e1 := RB.row' hk
       have e2 := RB.row' hk'
       obtain ⟨d, ds, e, f1, f2⟩ := e1.cons_inv
       rw [e] at e2
       have g2 := e2.head
       exact (bth t).2.1 x x' d ⟨f1.1, fun j c d hj hd => ((f1.2 j c d hj hd).imm ((good t).2.2.1 x c (List.mem_of_getElem? hj))).1⟩ ⟨g2.1, fun j c d hj hd => ((g2.2 j c d hj hd).imm ((good t).2.2.1 x' c (List.mem_of_getElem? hj))).1⟩
 | many e r =>
   simp only [putS] at h1 h2
   cases h1 with
   | live _ k hk =>
     cases h2 with
     | live _ _ hk' => exact putsR_injC r x x' _ hw (hk.2.2.2 rfl) (hk'.2.2.2 rfl)
 | cell flat r =>
   simp only [putS] at h1 h2
   cases h1 with
   | live _ k hk =>
     cases h2 with
     | live _ _ hk' =>
       have e1 := RB.row (kb := .typed .unit []) hk
       have e2 := RB.row (kb := .typed .unit []) hk'
       obtain ⟨d, ds, e, f1, f2⟩ := e1.cons_inv
       rw [e] at e2
       exact puts_inj r x x' d hw (f1.mono fun _ _ h => h.rt) (e2.head.mono fun _ _ h => h.rt)
theorem putH_inj {G G' : NHeap} : ∀ {l : List HS} {x x' : denH l} {ahp : Heap}, l.all wfH = true → A2 (RS G) (putH l x) ahp → A2 (RS G') (putH l x') ahp → x = x'
 | [], _, _, _, _, _, _ => rfl
 | h :: l, x, x', ahp, hw, h1, h2 => by
   simp only [putH] at h1 h2
   simp only [List.all_cons, Bool.and_eq_true] at hw
   obtain ⟨s, ss, rfl, e1, e2⟩ := h1.cons_inv
   exact Prod.ext (putS_inj hw.1 e1 h2.head) (putH_inj hw.2 e2 h2.tail)
theorem out_rel {o : OSh} (hs : oGood o = true) (y : denO o.1 o.2) : RTs (outH o.1 o.2 y) (outV o.1 o.2 y) (outA o.1 o.2 y) ∧ RH (outH o.1 o.2 y) (outB o.1 o.2 y) := by
 obtain ⟨res, back⟩ := o
 simp only [oGood, Bool.and_eq_true] at hs
 obtain ⟨_, hs⟩ := hs
 cases back with
 | nil =>
   simp only at hs
   exact ⟨canT_rel (lv := lv0) (fun b hb => by cases hb) res y hs, .nil⟩
 | cons h l =>
   simp only [Bool.and_eq_true] at hs
   exact ⟨canT_rel putH_lens res y.1 hs.1, canH_rel putH_lens hs.2⟩
theorem y_rel : ∀ {o : OSh} {l : List OSh}, oGood o = true → l.all oGood = true → ∀ y : denY o l, RTs (yH o l y) (yV o l y) (yA o l y) ∧ RH (yH o l y) (yB o l y)
 | o, [], h, _, y => out_rel h y
 | o, p :: l, h, _, .inl y => out_rel h y
 | o, p :: l, _, h, .inr y => by
   simp only [List.all_cons, Bool.and_eq_true] at h
   simp only [yH, yV, yA, yB]
   exact y_rel h.1 h.2 y
theorem out_conv {o : OSh} (hs : oGood o = true) {y : denO o.1 o.2} {r' : AVal} {back' : Heap} (hr : RTs (outH o.1 o.2 y) (outV o.1 o.2 y) r') (hb : RH (outH o.1 o.2 y) back')
   {μ : Nat → AM.Loc} {w : World} {S : Nat → Prop} {v : Value} (hH : HRep μ w S back') (hv : VR μ w S r' v) : HRep μ w S (outB o.1 o.2 y) ∧ VR μ w S (outA o.1 o.2 y) v ∧ (outB o.1 o.2 y).length = back'.length := by
 obtain ⟨res, back⟩ := o
 simp only [oGood, Bool.and_eq_true] at hs
 obtain ⟨_, hs⟩ := hs
 cases back with
 | nil =>
   simp only at hs
   simp only [outH] at hb hr
   rw [hb.nil_inv] at hH ⊢
   exact ⟨hH, canT_conv (lv := lv0) (hp := []) (fun b hb => by cases hb) res y _ v hs hr hv, rfl⟩
 | cons h l =>
   simp only [Bool.and_eq_true] at hs
   have hc := canH_conv (μ := μ) (w := w) (S := S) (x := y.2) putH_lens hs.2 hb
   exact ⟨hrep_conv hH hc, canT_conv putH_lens res y.1 _ v hs.1 hr hv, hc.1.symm⟩
theorem y_conv {μ : Nat → AM.Loc} {w : World} {S : Nat → Prop} {v : Value} : ∀ {o : OSh} {l : List OSh}, oGood o = true → l.all oGood = true → ∀ {y : denY o l} {r' : AVal} {back' : Heap}, RTs (yH o l y) (yV o l y) r' → RH (yH o l y) back' →
   HRep μ w S back' → VR μ w S r' v → HRep μ w S (yB o l y) ∧ VR μ w S (yA o l y) v ∧ (yB o l y).length = back'.length
 | o, [], h, _, y, r', back', hr, hb, hH, hv => out_conv h hr hb hH hv
 | o, p :: l, h, _, .inl y, r', back', hr, hb, hH, hv => out_conv h hr hb hH hv
 | o, p :: l, _, h, .inr y, r', back', hr, hb, hH, hv => by
   simp only [List.all_cons, Bool.and_eq_true] at h
   simp only [yH, yV] at hr hb
   simp only [yA, yB]
   exact y_conv h.1 h.2 hr hb hH hv
theorem getY_rel {r : NVal} {back : NHeap} {r' : AVal} {back' : Heap} (hr : RTs back r r') (hb : RH back back') : ∀ {o : OSh} {l : List OSh}, oGood o = true → l.all oGood = true → ∀ {y : denY o l}, getY o l r back = some y → RTs (yH o l y) (yV o l y) r' ∧ RH (yH o l y) back'
 | o, [], h, _, y, hg => by
   have hu : o.1.isUndef = false := by
     simp only [oGood, Bool.and_eq_true, Bool.not_eq_true'] at h
     exact h.1
   exact getO_rel hu hg hr hb
 | o, p :: l, h, hl, y, hg => by
   have hu : o.1.isUndef = false := by
     simp only [oGood, Bool.and_eq_true, Bool.not_eq_true'] at h
     exact h.1
   simp only [getY] at hg
   split at hg
   · rename_i z hz
     cases hg
     exact getO_rel hu hz hr hb
   · split at hg
     · rename_i z hz
       cases hg
       simp only [List.all_cons, Bool.and_eq_true] at hl
       simp only [yH, yV]
       exact getY_rel hr hb hl.1 hl.2 hz
     · cases hg
def Fits (T : List Ent) (f : Nat) (args : List AVal) (ahp : Heap) (p : AVal × Heap) : Prop := ∃ e ∈ T, e.f = f ∧ ∃ x h y, e.F x h = some y ∧ A2 (RV (putH e.sig.heap h)) (puts e.sig.args x) args ∧ RH (putH e.sig.heap h) ahp ∧ p = (yA e.sig.res e.sig.more y, yB e.sig.res e.sig.more y)
open Classical in
noncomputable def orc (T : List Ent) : Oracle := fun f args ahp => if h : ∃ p, Fits T f args ahp p then some (Classical.choose h) else none
theorem orc_valid {T : List Ent} (hT : ∀ e ∈ T, NOk P e) : Valid P (orc T) := by
 intro f args hp r hp' h
 unfold orc at h
 split at h
 · rename_i hx
   have hs := Classical.choose_spec hx
   simp only [Option.some.injEq] at h
   rw [h] at hs
   obtain ⟨e, he, rfl, x, h0, y, h1, h2, h3, h4⟩ := hs
   cases h4
   exact ⟨(hT e he).1, (hT e he).2.2 x h0 y h1 args hp h2 h3⟩
 · cases h
def Sh.rowsLen : Sh → Nat
 | .cons _ l => l.rowsLen + 1
 | _ => 0
theorem putsR_len : ∀ (s : Sh) (x : s.den), (putsR s x).length = s.rowsLen
 | .cons a l, x => by
   simp only [putsR, List.length_cons, Sh.rowsLen]
   rw [putsR_len l x.2]
 | .v _, _ | .undef, _ | .nilp, _ | .zsl, _ | .nilfn, _ | .nili, _ | .ptr _ _ _, _ | .slw _ _, _ | .fn _ _, _ | .agg _, _ | .tup _, _ | .iptr _ _, _ | .rows _ _, _ | .nil, _ => by simp [putsR, Sh.rowsLen]
def clash : Sh → Sh → Bool
 | .nilp, .ptr _ _ _ | .nilp, .iptr _ _ | .ptr _ _ _, .nilp | .iptr _ _, .nilp | .ptr _ _ _, .iptr _ _ | .iptr _ _, .ptr _ _ _ => true
 | .nilfn, .fn _ _ | .fn _ _, .nilfn => true
 | .fn f _, .fn g _ => f != g
 | .ptr b i f, .ptr b' i' f' => b != b' || (i != i' || f != f')
 | .rows _ l, .rows _ m => l.rowsLen != m.rowsLen
 | _, _ => false
def clashes : Sh → Sh → Bool
 | .cons a l, .cons b m => clash a b || clashes l m
 | _, _ => false
def apartB (s s' : Sig) : Bool := clashes s.args s'.args || s.heap.length != s'.heap.length
theorem clash_no {hp hp' : NHeap} {s s' : Sh} {x : s.den} {x' : s'.den} {a : AVal} (h : clash s s' = true) (h1 : RT hp (put s x) a) (h2 : RT hp' (put s' x') a) : False := by
 unfold clash at h
 split at h
 · simp only [put] at h1 h2; have := h1.nilp_inv.symm.trans h2.ptr_inv; cases this
 · simp only [put] at h1 h2; obtain ⟨_, e, _⟩ := h2.iptr_inv; have := h1.nilp_inv.symm.trans e; cases this
 · simp only [put] at h1 h2; have := h2.nilp_inv.symm.trans h1.ptr_inv; cases this
 · simp only [put] at h1 h2; obtain ⟨_, e, _⟩ := h1.iptr_inv; have := h2.nilp_inv.symm.trans e; cases this
 · simp only [put] at h1 h2; obtain ⟨_, e, _⟩ := h2.iptr_inv; have := h1.ptr_inv.symm.trans e; cases this
 · simp only [put] at h1 h2; obtain ⟨_, e, _⟩ := h1.iptr_inv; have := h2.ptr_inv.symm.trans e; cases this
 · simp only [put] at h1 h2; obtain ⟨_, e, _⟩ := h2.fn_inv; subst e; cases h1 with | v h => cases h with | c h => cases h with | p h => cases h with | ro h => cases h
 · simp only [put] at h1 h2; obtain ⟨_, e, _⟩ := h1.fn_inv; subst e; cases h2 with | v h => cases h with | c h => cases h with | p h => cases h with | ro h => cases h
 · simp only [put] at h1 h2
   obtain ⟨_, e, _⟩ := h1.fn_inv
   obtain ⟨_, e', _⟩ := h2.fn_inv
   rw [e] at e'
   cases e'
   simp at h
 · simp only [put] at h1 h2
   have e := h1.ptr_inv.symm.trans h2.ptr_inv
   cases e
   simp at h
 · rename_i ea l eb m
   simp only [put] at h1 h2
   have h := bne_iff_ne.1 h
   have l1 : (putsR l x).length = l.rowsLen := putsR_len l x
   have l2 : (putsR m x').length = m.rowsLen := putsR_len m x'
   rw [← l1, ← l2] at h
   rcases h1.rows_inv.rows_inv with ⟨ys, e1, q1⟩ | ⟨e1, q1⟩
   · rcases h2.rows_inv.rows_inv with ⟨zs, e2, q2⟩ | ⟨e2, q2⟩
     · rw [e1] at e2
       cases e2
       exact h (q1.1.trans q2.1.symm)
     · rw [e1] at e2
       cases e2
   · rcases h2.rows_inv.rows_inv with ⟨zs, e2, q2⟩ | ⟨e2, q2⟩
     · rw [e1] at e2
       cases e2
     · exact h (by rw [q1, q2])
 · cases h
theorem clashes_no {hp hp' : NHeap} : ∀ {s s' : Sh} {x : s.den} {x' : s'.den} {as' : List AVal}, clashes s s' = true → A2 (RT hp) (puts s x) as' → A2 (RT hp') (puts s' x') as' → False
 | .cons a l, .cons b m, x, x', as', h, h1, h2 => by
   simp only [clashes, Bool.or_eq_true] at h
   simp only [puts] at h1 h2
   obtain ⟨d, ds, rfl, e1, e2⟩ := h1.cons_inv
   rcases h with h | h
   · exact clash_no h e1 h2.head
   · exact clashes_no h e2 h2.tail
 | .v _, _, _, _, _, h, _, _ => by simp [clashes] at h
 | .undef, _, _, _, _, h, _, _ => by simp [clashes] at h
 | .nilp, _, _, _, _, h, _, _ => by simp [clashes] at h
 | .zsl, _, _, _, _, h, _, _ => by simp [clashes] at h
 | .nilfn, _, _, _, _, h, _, _ => by simp [clashes] at h
 | .nili, _, _, _, _, h, _, _ => by simp [clashes] at h
 | .ptr _ _ _, _, _, _, _, h, _, _ => by simp [clashes] at h
 | .slw _ _, _, _, _, _, h, _, _ => by simp [clashes] at h
 | .fn _ _, _, _, _, _, h, _, _ => by simp [clashes] at h
 | .agg _, _, _, _, _, h, _, _ => by simp [clashes] at h
 | .tup _, _, _, _, _, h, _, _ => by simp [clashes] at h
 | .iptr _ _, _, _, _, _, h, _, _ => by simp [clashes] at h
 | .rows _ _, _, _, _, _, h, _, _ => by simp [clashes] at h
 | .nil, _, _, _, _, h, _, _ => by simp [clashes] at h
 | .cons _ _, .v _, _, _, _, h, _, _ => by simp [clashes] at h
 | .cons _ _, .undef, _, _, _, h, _, _ => by simp [clashes] at h
 | .cons _ _, .nilp, _, _, _, h, _, _ => by simp [clashes] at h
 | .cons _ _, .zsl, _, _, _, h, _, _ => by simp [clashes] at h
 | .cons _ _, .nilfn, _, _, _, h, _, _ => by simp [clashes] at h
 | .cons _ _, .nili, _, _, _, h, _, _ => by simp [clashes] at h
 | .cons _ _, .ptr _ _ _, _, _, _, h, _, _ => by simp [clashes] at h
 | .cons _ _, .slw _ _, _, _, _, h, _, _ => by simp [clashes] at h
 | .cons _ _, .fn _ _, _, _, _, h, _, _ => by simp [clashes] at h
 | .cons _ _, .agg _, _, _, _, h, _, _ => by simp [clashes] at h
 | .cons _ _, .tup _, _, _, _, h, _, _ => by simp [clashes] at h
 | .cons _ _, .iptr _ _, _, _, _, h, _, _ => by simp [clashes] at h
 | .cons _ _, .rows _ _, _, _, _, h, _, _ => by simp [clashes] at h
 | .cons _ _, .nil, _, _, _, h, _, _ => by simp [clashes] at h
theorem putH_length : ∀ {l : List HS} {x : denH l}, (putH l x).length = l.length
 | [], _ => rfl
 | _ :: l, x => by simp only [putH, List.length_cons]; rw [putH_length]
def oneEach : List Ent → Prop
 | [] => True
 | e :: T => (∀ e' ∈ T, e'.f ≠ e.f ∨ apartB e.sig e'.sig = true) ∧ oneEach T
def oneEachB : List Ent → Bool
 | [] => true
 | e :: T => T.all (fun e' => e'.f != e.f || apartB e.sig e'.sig) && oneEachB T
theorem oneEach_of : ∀ {T : List Ent}, oneEachB T = true → oneEach T
 | [], _ => trivial
 | e :: T, h => by
   simp only [oneEachB, Bool.and_eq_true, List.all_eq_true, Bool.or_eq_true, bne_iff_ne, ne_eq] at h
   exact ⟨h.1, oneEach_of h.2⟩
theorem nall_nil : ∀ e ∈ ([] : List Ent), NOk P e := fun e h => by cases h
theorem nall_cons {e : Ent} {T : List Ent} (h : NOk P e) (hT : ∀ e ∈ T, NOk P e) : ∀ e' ∈ e :: T, NOk P e' := fun e' he => by
 cases he with
 | head => exact h
 | tail _ he => exact hT e' he
theorem oneEach_eq {args : List AVal} {ahp : Heap} : ∀ {T : List Ent} {e e' : Ent}, oneEach T → e ∈ T → e' ∈ T → e.f = e'.f → ∀ {x : e.sig.args.den} {h : denH e.sig.heap} {x' : e'.sig.args.den} {h' : denH e'.sig.heap},
   A2 (RV (putH e.sig.heap h)) (puts e.sig.args x) args → RH (putH e.sig.heap h) ahp → A2 (RV (putH e'.sig.heap h')) (puts e'.sig.args x') args → RH (putH e'.sig.heap h') ahp → e = e'
 | [], e, e', _, he, _, _, _, _, _, _, _, _, _, _ => by cases he
 | a :: T, e, e', ho, he, he', hf, x, h, x', h', a1, b1, a2, b2 => by
   have no : ∀ {e e' : Ent} {x : e.sig.args.den} {h : denH e.sig.heap} {x' : e'.sig.args.den} {h' : denH e'.sig.heap}, apartB e.sig e'.sig = true →
       A2 (RV (putH e.sig.heap h)) (puts e.sig.args x) args → RH (putH e.sig.heap h) ahp → A2 (RV (putH e'.sig.heap h')) (puts e'.sig.args x') args → RH (putH e'.sig.heap h') ahp → False := by
     intro e e' x h x' h' hap a1 b1 a2 b2
     simp only [apartB, Bool.or_eq_true, bne_iff_ne, ne_eq] at hap
     rcases hap with hap | hap
     · exact clashes_no hap (a1.mono fun _ _ h => RT.v h) (a2.mono fun _ _ h => RT.v h)
     · have e1 := b1.1
       have e2 := b2.1
       rw [putH_length] at e1 e2
       exact hap (e1.trans e2.symm)
   cases he with
   | head =>
     cases he' with
     | head => rfl
     | tail _ he' =>
       rcases ho.1 _ he' with g | g
       · exact absurd hf.symm g
       · exact (no g a1 b1 a2 b2).elim
   | tail _ he =>
     cases he' with
     | head =>
       rcases ho.1 _ he with g | g
       · exact absurd hf g
       · exact (no g a2 b2 a1 b1).elim
     | tail _ he' => exact oneEach_eq ho.2 he he' hf a1 b1 a2 b2
theorem orc_ent {T : List Ent} (hT : ∀ e ∈ T, NOk P e) (h1 : oneEach T) : ∀ e ∈ T, EntOk (orc T) e := by
 intro e he x h y hF args ahp ha hh
 have hx : ∃ p, Fits T e.f args ahp p := ⟨_, e, he, rfl, x, h, y, hF, ha, hh, rfl⟩
 have hs := Classical.choose_spec hx
 have hk : orc T e.f args ahp = some (Classical.choose hx) := by
   unfold orc
   rw [dif_pos hx]
 generalize Classical.choose hx = p at hs hk
 obtain ⟨e', he', hf, x', h', y', hF', ha', hh', rfl⟩ := hs
 cases oneEach_eq h1 he' he hf ha' hh' ha hh
 have hg := (hT e he).2.1
 have hg' := hg
 simp only [sigGood, Bool.and_eq_true] at hg'
 have ex : x' = x := puts_inj _ x' x args hg'.1.1.1 (ha'.mono fun _ _ h => .v h) (ha.mono fun _ _ h => .v h)
 have eh : h' = h := putH_inj hg'.1.1.2 hh' hh
 subst ex
 subst eh
 rw [hF] at hF'
 cases hF'
 exact ⟨_, _, hk, (y_rel hg'.1.2 hg'.2 y).1, (y_rel hg'.1.2 hg'.2 y).2⟩
def chkNF (P : Program) (fn : Func) (nf : NFunc) : Bool :=
 fn.ntmps == nf.ntmps && all2 (chkRes P) fn.results.toList nf.results && !(fn.name == "runtime.NumGoroutine") && (match fn.body with | some c => chkN P nf.code c | none => false)
theorem nbody_ok {K : Oracle} {T : List Ent} (hK : Valid P K) (hT : ∀ e ∈ T, EntOk K e) (hmix : P.follows .mixedOrders = true) {f : Nat} {fn : Func} {nf : NFunc} (hf : P.funcs[f]? = some fn) (hc : chkNF P fn nf = true) {sig : Sig} (hsig : sigGood sig = true)
   {x : sig.args.den} {h : denH sig.heap} {y : sig.den} (hrun : nrun T (LN LOOPS) nf sig x h = some y) {args : List AVal} {hp : Heap} (ha : A2 (RV (putH sig.heap h)) (puts sig.args x) args) (hh : RH (putH sig.heap h) hp) :
   CallOk P f args hp (yA sig.res sig.more y) (yB sig.res sig.more y) := by
 unfold chkNF at hc
 simp only [Bool.and_eq_true, beq_iff_eq] at hc
 obtain ⟨⟨⟨hnt, hres⟩, hname⟩, hcode⟩ := hc
 split at hcode
 case h_2 => cases hcode
 rename_i c hb
 intro μ0 w0 S0 cargs r0 hl hargs
 refine calls_of_wp hf hb ?_
 unfold nrun at hrun
 have hal : (puts sig.args x).length = args.length := ha.1
 have rep0 : Rep μ0 w0 S0 ⟨args ++ List.replicate (nf.ntmps - args.length) .undef, hp, hp.length⟩ { tmps := cargs ++ Array.replicate (fn.ntmps - cargs.size) undef, defers := [] } := by
   refine ⟨⟨by simp [hl, hnt], fun t v hv => ?_, rfl⟩, r0⟩
   rw [List.getElem?_append] at hv
   split at hv
   · rename_i ht
     have ht2 : t < cargs.size := by omega
     have hcv : (cargs ++ Array.replicate (fn.ntmps - cargs.size) undef).getD t undef = cargs[t] := by
       rw [Array.getD_eq_getD_getElem?, Array.getElem?_append_left ht2, Array.getElem?_eq_getElem ht2]
       rfl
     rw [hcv]
     exact hargs t v _ hv (Array.getElem?_eq_getElem ht2)
   · rw [List.getElem?_replicate] at hv
     split at hv
     · simp only [Option.some.injEq] at hv; subst hv; exact .undef _
     · cases hv
 have nrep0 : NRep μ0 w0 S0 ⟨puts sig.args x ++ List.replicate (nf.ntmps - (puts sig.args x).length) .undef, putH sig.heap h, (putH sig.heap h).length⟩ { tmps := cargs ++ Array.replicate (fn.ntmps - cargs.size) undef, defers := [] } := by
   refine ⟨_, ⟨?_, hh, hh.1.symm⟩, putH_noGone, rep0⟩
   rw [hal]
   exact (ha.mono fun _ _ h => RT.v h).append (A2.replicate _ (.undef _))
 have hlen0 : (putH sig.heap h).length = hp.length := hh.1
 have fin : ∀ (st : NSt), nleave nf st (fun r back => getY sig.res sig.more r back) = some y → ∀ a' w' μ1 S1, NRep μ1 w' S1 st a' → Ext μ0 S0 w0 μ1 S1 w' → KeepsK hp.length μ0 μ1 → st.k = hp.length →
     a'.defers = [] ∧ ∃ v, (results fn a'.tmps).run P w' = .ok v w' ∧ ∃ v' μ' S', Ending.returned v = .returned v' ∧ HRep μ' w' S' (yB sig.res sig.more y) ∧ Ext μ0 S0 w0 μ' S' w' ∧ VR μ' w' S' (yA sig.res sig.more y) v' ∧ hp.length ≤ (yB sig.res sig.more y).length ∧ ∀ b, b < hp.length → μ0 b ≠ .free → μ' b = μ0 b ∨ μ' b = .dead := by
   intro nst hl a' w' μ1 S1 nrep x1 k1 hk
   obtain ⟨st, hs, hg, rep⟩ := nrep
   refine ⟨rep.tmps.defers, ?_⟩
   obtain ⟨r, back, r', hp', hl, hr1, hb1, hget⟩ := nleave_sound (af := ⟨nf.ntmps, .skip, nf.results, nf.freeze⟩) hs hg rfl rfl hl
   have hsig' := hsig
   simp only [sigGood, Bool.and_eq_true] at hsig'
   obtain ⟨hr2, hb2⟩ := getY_rel hr1 hb1 hsig'.1.2 hsig'.2 hget
   have hk : st.k = hp.length := hs.k.trans hk
   unfold leave at hl
   split at hl
   case h_1 => cases hl
   rename_i r1 hr1
   obtain ⟨cv, hrun, hcv⟩ := results_sound rep hres hr1
   refine ⟨cv, hrun, cv, ?_⟩
   split at hl
   case h_1 => cases hl
   rename_i r2 shown hr2'
   simp only at hl
   generalize hids : reach st.heap (List.range st.k) r2.ownT = ids at hl
   split at hl
   case isFalse => cases hl
   rename_i hcond
   obtain ⟨hn, htake, hshown⟩ := hcond
   simp only [Option.some.injEq, Prod.mk.injEq] at hl
   obtain ⟨rfl, rfl⟩ := hl
   have hshown : ∀ b, b ∈ shown → b ∉ ids := fun b hb => by have := List.all_eq_true.1 hshown b hb; simpa using this
   have hvr : VR μ1 w' (With S1 μ1 shown) r2 cv := by
     split at hr2'
     · exact viewT_sound rep.heap hcv hr2' μ1
     · simp only [Option.some.injEq, Prod.mk.injEq] at hr2'
       obtain ⟨rfl, rfl⟩ := hr2'
       exact hcv.mono (Up.refl _) (fun _ _ => rfl) (fun m hm => .inl hm)
   have hH : HRep (pick μ1 ids) w' (With S1 μ1 shown) (packHeap st.heap ids) := by
     refine pack_rep rep.heap hn (fun m hm => .inl hm) (fun m ho hS => ?_) (fun m hS => ?_)
     · obtain ⟨c, hc', n, e, hh⟩ := pick_owned ho
       rcases hS with hS | ⟨b, hb, n', e', hb'⟩
       · exact rep.heap.apart m ⟨c, n, e, hh⟩ hS
       · exact hshown b hb (by rw [rep.heap.inj b c m n' n e' e hb' hh]; exact hc')
     · rcases hS with hS | ⟨b, hb, n', e', hb'⟩
       · exact rep.heap.inS m hS
       · exact rep.heap.lt ⟨b, n', e', hb'⟩
   obtain ⟨hH', hv', hlen⟩ := y_conv hsig'.1.2 hsig'.2 hr2 hb2 hH (hvr.renT (pick_follows ids))
   refine ⟨pick μ1 ids, With S1 μ1 shown, rfl, hH', x1.trans ?_, hv', ?_, fun b hb hf => ?_⟩
   · refine ⟨rfl, rfl, rfl, Nat.le_refl _, fun _ _ _ => rfl, fun _ h => .inl h, fun m hm => ?_, fun m ho => ?_⟩
     · rcases hm with hm | ⟨b, hb, n', e', hb'⟩
       · exact .inl hm
       · exact .inr (.inl ⟨b, n', e', hb'⟩)
     · obtain ⟨c, hc', n, e, hh⟩ := pick_owned ho
       exact .inl ⟨c, n, e, hh⟩
   · have : (ids.take st.k).length = st.k := by rw [htake]; simp
     simp only [List.length_take] at this
     rw [hlen]
     simp only [packHeap, List.length_map]
     omega
   · have hb' : ids[b]? = some b := by
       have h1 : (ids.take st.k)[b]? = some b := by rw [htake, List.getElem?_range (by omega)]
       rw [List.getElem?_take, if_pos (by omega)] at h1
       exact h1
     have : pick μ1 ids b = μ1 b := by unfold pick; rw [hb']
     rw [this]
     exact k1 b hb hf
 refine ncode_sound hK hT hmix nf.code c hcode _ _ _ y _ w0 μ0 S0 _ nrep0 hrun fun e st' he _ a' w' μ1 S1 rep x1 k1 hk => ?_
 have k1' : KeepsK hp.length μ0 μ1 := by rw [← hlen0]; exact k1
 have hk' : st'.k = hp.length := hk.trans hlen0
 cases e with
 | normal => exact fin st' he a' w' μ1 S1 rep x1 k1' hk'
 | ret => exact fin st' he a' w' μ1 S1 rep x1 k1' hk'
 | exit i => cases he
 | goto l => cases he
theorem NOk.body (hmix : P.follows .mixedOrders = true) {T : List Ent} (hT : ∀ e ∈ T, NOk P e) (h1 : oneEach T) {f : Nat} {fn : Func} {nf : NFunc} {sig : Sig} (hf : P.funcs[f]? = some fn) (hc : chkNF P fn nf = true) (hsig : sigGood sig = true)
   {F : sig.args.den → denH sig.heap → Option sig.den} (hF : ∀ x h, nrun T (LN LOOPS) nf sig x h = F x h) : NOk P ⟨f, sig, F⟩ := by
 refine ⟨⟨fn, hf, ?_, ?_⟩, hsig, fun x h y hy args ahp ha hh => ?_⟩
 · unfold chkNF at hc
   simp only [Bool.and_eq_true, Bool.not_eq_true'] at hc
   exact hc.1.2
 · unfold chkNF at hc
   simp only [Bool.and_eq_true] at hc
   cases hb : fn.body with
   | none => rw [hb] at hc; cases hc.2
   | some c => rfl
 · have hy : F x h = some y := hy
   rw [← hF] at hy
   exact nbody_ok (orc_valid hT) (orc_ent hT h1) hmix hf hc hsig hy ha hh
end
end NM
end Go.Proofs.YtjngkfdclcgfhaaGreatDoor
end
