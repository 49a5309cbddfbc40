/-
  What the proof of PlanStays leans on, part 16. (Many texts laid together by program.)
-/
import Derived.Test.YtmnhkpekmgobbaaPkTo
set_option linter.unnecessarySimpa false
set_option linter.unusedSimpArgs false
set_option linter.unusedVariables false
section
namespace Go.Proofs.Ytmnhkpekmgobbaa
namespace NM
open AM
section
variable {hp : NHeap} {ahp : Heap} {μ : Nat → AM.Loc} {w : World} {S : Nat → Prop}
def NRep (μ : Nat → AM.Loc) (w : World) (S : Nat → Prop) (st : NSt) (a : Act) : Prop := ∃ ast, SR st ast ∧ noGone st.heap ∧ Rep μ w S ast a
theorem getElem?_of_getD {l : List NVal} {t : Nat} {v : NVal} (h : l[t]? = some v) : l.getD t .undef = v := by
 rw [List.getD_eq_getElem?_getD, h]; rfl
def dim : List NVal → List AVal → List AVal
 | v :: vs, a :: as' => (match v with | .undef => .undef | _ => a) :: dim vs as'
 | _, _ => []
theorem dim_rel : ∀ {vs : List NVal} {as' : List AVal}, A2 (RT hp) vs as' → A2 (RTs hp) vs (dim vs as') ∧ (∀ (t : Nat) (c : AVal), (dim vs as')[t]? = some c → c = .undef ∨ as'[t]? = some c) ∧ (dim vs as').length = as'.length
 | [], as', h => by rw [h.nil_inv]; exact ⟨.nil, fun t c h => by simp [dim] at h, rfl⟩
 | v :: vs, as', h => by
   obtain ⟨a, as1, rfl, h1, h2⟩ := h.cons_inv
   obtain ⟨i1, i2, i3⟩ := dim_rel h2
   refine ⟨.cons ?_ i1, fun t c hc => ?_, by simp [dim, i3]⟩
   · cases h1 with
     | undef => exact .undef
     | v h3 => cases v <;> first | exact .undef | exact .v h3
     | tup cs ds h3 => exact .tup _ _ h3
   · cases t with
     | zero =>
       simp only [dim, List.getElem?_cons_zero, Option.some.injEq] at hc ⊢
       cases v <;> first | exact .inr hc | exact .inl hc.symm
     | succ t =>
       simp only [dim, List.getElem?_cons_succ] at hc ⊢
       exact i2 t c hc
theorem NRep.strict {st : NSt} {a : Act} (h : NRep μ w S st a) : ∃ ast : St, A2 (RTs st.heap) st.tmps ast.tmps ∧ RH st.heap ast.heap ∧ ast.k = st.k ∧ noGone st.heap ∧ Rep μ w S ast a := by
 obtain ⟨ast, hs, hg, rep⟩ := h
 obtain ⟨d1, d2, d3⟩ := dim_rel hs.tmps
 refine ⟨⟨dim st.tmps ast.tmps, ast.heap, ast.k⟩, d1, hs.heap, hs.k, hg, ⟨⟨by rw [d3]; exact rep.tmps.size, fun t v hv => ?_, rep.tmps.defers⟩, rep.heap⟩⟩
 rcases d2 t v hv with e | e
 · rw [e]; exact .undef _
 · exact rep.tmps.vr t v e
theorem all_id {α : Type} {f : α → α} : ∀ {l : List α}, (∀ x ∈ l, f x = x) → l.map f = l
 | [], _ => rfl
 | x :: l, h => by rw [List.map_cons, h x List.mem_cons_self, all_id fun y hy => h y (List.mem_cons_of_mem _ hy)]
theorem imm_ren {f : Nat → Option Nat} {v : NVal} (h : nimmP v = true) : nrenP f v = v := by
 cases v <;> first | rfl | cases h
theorem immC_ren {f : Nat → Option Nat} {v : NVal} (h : nimmC v = true) : nrenC f v = v := by
 cases v with
 | fn g cap =>
   have h : cap.all nimmP = true := h
   rw [List.all_eq_true] at h
   simp only [nrenC]
   rw [all_id fun x hx => imm_ren (h x hx)]
 | _ => first | rfl | cases h
theorem plain_ren {f : Nat → Option Nat} {v : NVal} (h : nplain v = true) : nrenT f v = v := by
 cases v with
 | agg cs =>
   have h : cs.all nimmC = true := h
   rw [List.all_eq_true] at h
   simp only [nrenT, nrenV]
   rw [all_id fun x hx => immC_ren (h x hx)]
 | tup vs => cases h
 | fn g cap => exact immC_ren (v := .fn g cap) h
 | _ => first | rfl | cases h
theorem nmask_length {keep : List Nat} {ts : List NVal} : (nmask keep ts).length = ts.length := by simp [nmask]
theorem nmask_get {keep : List Nat} {ts : List NVal} {t : Nat} : (nmask keep ts)[t]? = ts[t]?.map fun v => if keep.contains t then v else .undef := by
 simp only [nmask, List.getElem?_map, List.getElem?_zipIdx, Option.map_map, Nat.zero_add]
 rfl
theorem nmask_getD {keep : List Nat} {ts : List NVal} {t : Nat} (h : keep.contains t = true) : (nmask keep ts).getD t .undef = ts.getD t .undef := by
 rw [List.getD_eq_getElem?_getD, List.getD_eq_getElem?_getD, nmask_get]
 cases ts[t]? with
 | none => rfl
 | some v => simp only [Option.map_some, h, if_true]
theorem nnorm_rep {st s : NSt} {a : Act} {keep : List Nat} (rep : NRep μ w S st a) (h : nnorm keep st = some s) :
   ∃ μ1, NRep μ1 w S s a ∧ Ext μ S w μ1 S w ∧ KeepsK st.k μ μ1 ∧ s.k = st.k ∧ s.tmps.length = st.tmps.length ∧
     ∀ t, keep.contains t = true → nplain (st.tmps.getD t .undef) = true → s.tmps.getD t .undef = st.tmps.getD t .undef := by
 obtain ⟨ast, ht, hh, hk, hg, rep⟩ := rep.strict
 unfold nnorm at h
 simp only at h
 have hmask : A2 (RTs st.heap) (nmask keep st.tmps) (ast.tmps.zipIdx.map fun (x : AVal × Nat) => match x with | (v, t) => if keep.contains t then v else AVal.undef) := by
   refine ⟨by simp [nmask, ht.1], fun j x y hx hy => ?_⟩
   rw [nmask_get] at hx
   simp only [List.getElem?_map, List.getElem?_zipIdx, Option.map_map, Nat.zero_add, Option.map_eq_some_iff, Function.comp] at hx hy
   obtain ⟨v, hv, rfl⟩ := hx
   obtain ⟨c, hc, rfl⟩ := hy
   split
   · exact ht.2 j v c hv hc
   · exact .undef
 have hroots : (nmask keep st.tmps).flatMap (fun v => (skT v).ownT) = (ast.tmps.zipIdx.map fun (x : AVal × Nat) => match x with | (v, t) => if keep.contains t then v else AVal.undef).flatMap AVal.ownT := A2.flatMap_eq (fun x y hxy => hxy.own) hmask
 have hreach := hh.reach hg (List.range st.k) ((nmask keep st.tmps).flatMap fun v => (skT v).ownT)
 generalize hids : AM.reach (skH st.heap) (List.range st.k) ((nmask keep st.tmps).flatMap fun v => (skT v).ownT) = ids at h hreach
 split at h
 · rename_i hc
   simp only [Option.some.injEq] at h
   subst h
   have hn : norm keep ast = some ⟨(ast.tmps.zipIdx.map fun (x : AVal × Nat) => match x with | (v, t) => if keep.contains t then v else AVal.undef).map (AVal.renT (index ids)), packHeap ast.heap ids, ast.k⟩ := by
     unfold norm
     simp only
     rw [hk, ← hroots, ← hreach, if_pos hc]
   obtain ⟨μ1, rep1, x1, k1, _⟩ := norm_sound rep hn
   refine ⟨μ1, ⟨⟨_, _, ast.k⟩, ⟨A2.mono (fun _ _ h => RTs.rt h) (hmask.map fun _ _ h => renT_rel (pack_keeps ids) h), pack_rel hh fun b hb hn => hh.getNone hg hn, hk⟩, pack_noGone ids, rep1⟩, x1, by rw [← hk]; exact k1, rfl, by simp [nmask], fun t htk hp => ?_⟩
   simp only [List.getD_eq_getElem?_getD, List.getElem?_map]
   rw [nmask_get]
   rw [List.getD_eq_getElem?_getD] at hp
   cases hv : st.tmps[t]? with
   | none => rfl
   | some v =>
     rw [hv] at hp
     simp only [Option.map_some, htk, if_true, Option.getD_some] at hp ⊢
     exact plain_ren hp
 · cases h
theorem evo_append (l : NHeap) : Evo hp (hp ++ l) := fun b n h => by
 unfold lenAt at h ⊢
 rcases Nat.lt_or_ge b hp.length with hl | hl
 · rw [List.getElem?_append_left hl]; exact h
 · rw [List.getElem?_eq_none hl] at h; cases h
theorem noGone_append {l : NHeap} (h : noGone hp) (hl : noGone l) : noGone (hp ++ l) := fun b hb => by
 rw [List.getElem?_append] at hb
 split at hb
 · exact h b hb
 · exact hl _ hb
theorem HRep_setBlk (r : HRep μ w S ahp) {b : Nat} {k k' : AM.Blk} (hb : ahp.get b = some k) (hk : BlkR μ w S (μ b) k') : HRep μ w S (ahp.set b (.live k')) where
 live c kc hc := by
   rw [Heap.get_set] at hc
   split at hc
   · rename_i h
     obtain ⟨rfl, _⟩ := h
     cases hc
     exact hk
   · exact r.live c kc hc
 gone c hc := by
   rw [Heap.get_set] at hc
   split at hc
   · cases hc
   · exact r.gone c hc
 free c hc := by
   refine r.free c ?_
   rcases hc with hc | hc
   · rw [Heap.isFree_set] at hc
     split at hc
     · cases hc
     · exact .inl hc
   · exact .inr (by simpa using hc)
 inj := r.inj
 apart := r.apart
 inS := r.inS
 gl := r.gl
theorem BlkR_setCell {μ' : Nat → AM.Loc} {S' : Nat → Prop} {l : AM.Loc} {e f : Nat} {row : List AVal} {u : AVal} (hμ : Up μ μ') (hS : ∀ m, S m → S' m) (h : BlkR μ w S l ⟨e, false, [row]⟩)
   (hu : ∀ c v, row[f]? = some c → VR μ w S c v → VR μ' w S' u v) : BlkR μ' w S' l ⟨e, false, [row.set f u]⟩ := by
 cases l with
 | free => exact h
 | dead => exact h
 | void => cases h
 | here m n e' =>
   obtain ⟨h1, h2, h3, cells, t, h4, h5, h6⟩ := h
   refine ⟨h1, h2, fun i x hx => ?_, cells, t, h4, h5, fun i x j c hx hc => ?_⟩
   · cases i with
     | zero => simp at hx; subst hx; have := h3 0 row rfl; simpa using this
     | succ i => simp at hx
   · cases i with
     | succ i => simp at hx
     | zero =>
       simp at hx
       subst hx
       rw [List.getElem?_set] at hc
       split at hc
       · rename_i e1
         subst e1
         split at hc
         · rename_i hl
           cases hc
           obtain ⟨v, hv, hR⟩ := h6 0 row f row[f] rfl (List.getElem?_eq_getElem hl)
           exact ⟨v, hv, hu _ v (List.getElem?_eq_getElem hl) hR.vr, hR.2⟩
         · cases hc
       · obtain ⟨v, hv, hR⟩ := h6 0 row j c rfl hc
         exact ⟨v, hv, hR.mono hμ (fun _ _ => rfl) hS⟩
theorem nget_set {b c : Nat} {s : NSlot} : nget (hp.set b s) c = if b = c ∧ b < hp.length then (match s with | .live k => some k | _ => none) else nget hp c := by
 unfold nget
 rw [List.getElem?_set]
 by_cases h : b = c
 · subst h
   by_cases hl : b < hp.length
   · simp only [hl, and_self, if_true]
     cases s <;> rfl
   · simp only [hl, and_false, if_false, if_true]
     rw [List.getElem?_eq_none (by omega)]
 · simp [h]
theorem nkill_nget {b : Nat} : ∀ {l : List Nat} {hp : NHeap}, b ∉ l → nget (nkill .dead hp l) b = nget hp b
 | [], hp, _ => rfl
 | c :: l, hp, h => by
   have h1 : b ≠ c := fun e => h (by simp [e])
   have h2 : b ∉ l := fun e => h (by simp [e])
   show nget (nkill .dead (hp.set c .dead) l) b = _
   rw [nkill_nget h2, nget_set, if_neg (fun e => h1 e.1.symm)]
theorem noGone_set {b : Nat} {s : NSlot} (h : noGone hp) (hs : s ≠ .gone) : noGone (hp.set b s) := fun c hc => by
 rw [List.getElem?_set] at hc
 split at hc
 · split at hc
   · cases hc; exact hs rfl
   · cases hc
 · exact h c hc
theorem noGone_kill : ∀ {l : List Nat} {hp : NHeap}, noGone hp → noGone (nkill .dead hp l)
 | [], _, h => h
 | b :: l, _, h => noGone_kill (l := l) (noGone_set h (by simp))
theorem evo_kill : ∀ {l : List Nat} {hp : NHeap}, Evo hp (nkill .dead hp l)
 | [], hp => Evo.refl hp
 | b :: l, hp => (Evo.set_dead b).trans (evo_kill (l := l))
theorem evo_row {b e : Nat} {row row' : List NVal} {fl : Bool} (hb : nget hp b = some (.cells e fl [row])) : Evo hp (hp.set b (.live (.cells e fl [row']))) := fun c n h => by
 rw [lenAt_iff] at h ⊢
 by_cases hc : b = c
 · subst hc
   obtain ⟨s, h1, h2⟩ := h
   rw [nget_iff.1 hb] at h1
   cases h1
   have hl := (List.getElem?_eq_some_iff.1 (nget_iff.1 hb)).1
   exact ⟨.live (.cells e fl [row']), by rw [List.getElem?_set_self hl], h2⟩
 · rw [List.getElem?_set_ne hc]
   exact h
theorem nadj1_rep {ad : Adj} {μ : Nat → AM.Loc} {S : Nat → Prop} {st : NSt} {a : Act} (rep : NRep μ w S st a) :
   ∃ μ1 S1, NRep μ1 w S1 (nadj1 st ad) a ∧ Ext μ S w μ1 S1 w ∧ KeepsK st.k μ μ1 := by
 have same : ∃ μ1 S1, NRep μ1 w S1 st a ∧ Ext μ S w μ1 S1 w ∧ KeepsK st.k μ μ1 := ⟨μ, S, rep, .refl _ _ _, .refl _ _⟩
 cases ad with
 | mat t e flat =>
   simp only [nadj1]
   split
   · rename_i hz
     obtain ⟨ast, hs, hg, rep⟩ := rep
     have hrt := hs.tmps.getD (RT.undef .undef) t
     rw [hz] at hrt
     have haz := hrt.zsl_inv
     have hlen : ast.heap.length = st.heap.length := hs.heap.1.symm
     have r1 := rep.heap.more 1
     have hfr : μ ast.heap.length = .free := rep.heap.free _ (.inr (Nat.le_refl _))
     have r2 := give_rep (w' := w) (k := ⟨e, flat, []⟩) (l := .void) r1 hfr (by simp) rfl (fun _ _ => rfl) (Nat.le_refl _) (fun _ _ _ h => by cases h)
     have x2 := give_ext (w' := w) (l := .void) r1 hfr rfl rfl rfl (fun _ _ => rfl) (Nat.le_refl _) (fun _ _ _ h => by cases h)
     have hset : (ast.heap ++ List.replicate 1 Slot.free).set ast.heap.length (.live ⟨e, flat, []⟩) = ast.heap ++ [.live ⟨e, flat, []⟩] := by simp
     rw [hset] at r2
     have hu := give_up (l := .void) hfr
     have hev : Evo st.heap (st.heap ++ [.live (.cells e flat [])]) := evo_append _
     refine ⟨give μ ast.heap.length .void, S, ⟨⟨ast.tmps.set t (.sl ast.heap.length 0 0 e), ast.heap ++ [.live ⟨e, flat, []⟩], ast.k⟩, ⟨?_, ?_, hs.k⟩, noGone_append hg fun b hb => ?_, ⟨⟨by simp [rep.tmps.size], fun j v hv => ?_, rep.tmps.defers⟩, r2⟩⟩, x2, .of_up hu⟩
     · rw [hlen]
       refine (hs.tmps.mono fun _ _ h => h.mono hev).set t (RP.slw _ _ _ ?_).rt
       unfold lenAt
       simp [NBlk.len]
     · refine (A2.mono (fun _ _ h => h.mono hev) hs.heap).append (A2.single (.live _ _ ⟨rfl, rfl, fun _ => .nil, fun _ => .nil⟩))
     · cases b with
       | zero => simp at hb
       | succ b => simp at hb
     · rw [List.getElem?_set] at hv
       split at hv
       · rename_i e1
         subst e1
         split at hv
         · simp only [Option.some.injEq] at hv
           subst hv
           refine .sl _ _ _ _ _ ?_
           rw [give_same]
           have hvr : VR μ w S (ast.tmps.getD t .undef) (a.tmps.getD t undef) := rep.tmps.look rep.heap.gl (x := .tmp t) (y := .tmp t) (by simp [chkOpd])
           rw [haz] at hvr
           exact ⟨rfl, rfl, hvr.zsl_inv⟩
         · cases hv
       · exact (rep.tmps.vr j v hv).mono hu (fun _ _ => rfl) (fun _ h => h)
   · exact same
 | matC t f e flat =>
   simp only [nadj1]
   split
   · rename_i b i f' hb
     split
     · rename_i e' row hk
       split
       · rename_i hz
         obtain ⟨ast, hs, hg, rep⟩ := rep
         have hlen : ast.heap.length = st.heap.length := hs.heap.1.symm
         obtain ⟨k, hk1, hk2⟩ := hs.heap.get hk
         obtain ⟨q1, q2, q3, q4⟩ := hk2
         obtain ⟨ds, dss, qe, q5, q6⟩ := (q4 rfl).cons_inv
         rw [q6.nil_inv] at qe
         obtain ⟨ke, kf, kel⟩ := k
         simp only at q1 q2 qe
         subst q2; subst qe
         have hbl := Heap.get_lt hk1
         have r1 := rep.heap.more 1
         have hfr : μ ast.heap.length = .free := rep.heap.free _ (.inr (Nat.le_refl _))
         have r2 := give_rep (w' := w) (k := ⟨e, flat, []⟩) (l := .void) r1 hfr (by simp) rfl (fun _ _ => rfl) (Nat.le_refl _) (fun _ _ _ h => by cases h)
         have x2 := give_ext (w' := w) (l := .void) r1 hfr rfl rfl rfl (fun _ _ => rfl) (Nat.le_refl _) (fun _ _ _ h => by cases h)
         have hset : (ast.heap ++ List.replicate 1 Slot.free).set ast.heap.length (.live ⟨e, flat, []⟩) = ast.heap ++ [.live ⟨e, flat, []⟩] := by simp
         rw [hset] at r2
         have hu := give_up (l := .void) hfr
         have hbne : b ≠ ast.heap.length := by omega
         have hk3 : Heap.get (ast.heap ++ [.live ⟨e, flat, []⟩]) b = some ⟨ke, false, [ds]⟩ := by
           rw [← hk1]
           unfold Heap.get
           rw [List.getElem?_append_left hbl]
         have hB := rep.heap.live b _ hk1
         have hB' : BlkR (give μ ast.heap.length .void) w S (give μ ast.heap.length .void b) ⟨ke, false, [ds.set f (.sl ast.heap.length 0 0 e)]⟩ := by
           rw [give_other hbne]
           refine BlkR_setCell hu (fun _ h => h) hB fun c v hc hv => ?_
           have hrow : RT st.heap (row.getD f .undef) (ds.getD f .undef) := (q5.mono fun _ _ h => h.rt).getD (RT.undef _) f
           rw [hz, List.getD_eq_getElem?_getD, hc] at hrow
           have hcz : c = .zsl := hrow.zsl_inv
           rw [hcz] at hv
           refine .sl _ _ _ _ _ ?_
           rw [give_same]
           exact ⟨rfl, rfl, hv.zsl_inv⟩
         have r3 := HRep_setBlk r2 hk3 hB'
         have hsw : (ast.heap ++ [Slot.live ⟨e, flat, []⟩]).set b (.live ⟨ke, false, [ds.set f (.sl ast.heap.length 0 0 e)]⟩) = ast.heap.set b (Slot.live ⟨ke, false, [ds.set f (.sl ast.heap.length 0 0 e)]⟩) ++ [Slot.live ⟨e, flat, []⟩] := by
           rw [List.set_append_left _ _ hbl]
         rw [hsw] at r3
         have hev1 : Evo st.heap (st.heap.set b (.live (.cells e' false [row.set f (.slw st.heap.length e)]))) := evo_row hk
         have hev : Evo st.heap (st.heap.set b (.live (.cells e' false [row.set f (.slw st.heap.length e)])) ++ [.live (.cells e flat [])]) := hev1.trans (evo_append _)
         refine ⟨give μ ast.heap.length .void, S, ⟨⟨ast.tmps, ast.heap.set b (.live ⟨ke, false, [ds.set f (.sl ast.heap.length 0 0 e)]⟩) ++ [.live ⟨e, flat, []⟩], ast.k⟩, ⟨hs.tmps.mono fun _ _ h => h.mono hev, ?_, hs.k⟩, noGone_append (noGone_set hg (by simp)) fun b hb => ?_, ⟨⟨rep.tmps.size, fun j v hv => (rep.tmps.vr j v hv).mono hu (fun _ _ => rfl) (fun _ h => h), rep.tmps.defers⟩, r3⟩⟩, x2, .of_up hu⟩
         · refine A2.append (A2.set (A2.mono (fun _ _ h => h.mono hev) hs.heap) b ?_) (A2.single (.live _ _ ⟨rfl, rfl, fun _ => .nil, fun _ => .nil⟩))
           refine .live _ _ ⟨q1, rfl, fun h => (by cases h), fun _ => .single ?_⟩
           rw [hlen]
           refine A2.set (q5.mono fun _ _ h => h.mono hev) f (.p (.slw _ _ _ ?_))
           unfold lenAt
           simp [NBlk.len]
         · cases b with
           | zero => simp at hb
           | succ b => simp at hb
       · exact same
     · exact same
   · exact same
 | frz t =>
   simp only [nadj1]
   split
   · rename_i u l hv
     obtain ⟨ast, hs, hg, rep⟩ := rep
     have hrt := hs.tmps.getD (RT.undef .undef) t
     have hrv : RV st.heap (st.tmps.getD t .undef) (ast.tmps.getD t .undef) := by
       generalize st.tmps.getD t .undef = v at hrt hv
       generalize ast.tmps.getD t .undef = av at hrt
       cases hrt with
       | undef => simp [nviewV, DEEP, nviewP, nimmP] at hv
       | v h => exact h
       | tup cs ds h => simp [nviewV, DEEP, nviewP, nimmP] at hv
     obtain ⟨u', hu1, hu2⟩ := viewV_rel hs.heap hv hrv
     have hvr : VR μ w S (ast.tmps.getD t .undef) (a.tmps.getD t undef) := rep.tmps.look rep.heap.gl (x := .tmp t) (y := .tmp t) (by simp [chkOpd])
     obtain ⟨r1, x1⟩ := kill_rep rep.heap l
     have hev : Evo st.heap (nkill .dead st.heap l) := evo_kill
     refine ⟨AM.die μ l, With S μ l, ⟨⟨ast.tmps.set t u', AM.kill ast.heap l, ast.k⟩, ⟨(hs.tmps.mono fun _ _ h => h.mono hev).set t (.v (hu2.mono hev)), kill_rel hs.heap, hs.k⟩, noGone_kill hg, ⟨⟨by simp [rep.tmps.size], fun j v hj => ?_, rep.tmps.defers⟩, r1⟩⟩, x1, .of_up (AM.die_up l)⟩
     rw [List.getElem?_set] at hj
     split at hj
     · rename_i e1
       subst e1
       split at hj
       · cases hj
         exact viewV_sound rep.heap hvr hu1 _
       · cases hj
     · exact (rep.tmps.vr j v hj).mono (AM.die_up l) (fun _ _ => rfl) (fun m hm => .inl hm)
   · exact same
 | frzC t f =>
   simp only [nadj1]
   split
   · rename_i b i f' hb
     split
     · rename_i e' row hk
       split
       · rename_i u l hv
         split
         · exact same
         · rename_i hbl
           have hbl : b ∉ l := by simpa using hbl
           obtain ⟨ast, hs, hg, rep⟩ := rep
           obtain ⟨k, hk1, hk2⟩ := hs.heap.get hk
           obtain ⟨q1, q2, q3, q4⟩ := hk2
           obtain ⟨ds, dss, qe, q5, q6⟩ := (q4 rfl).cons_inv
           rw [q6.nil_inv] at qe
           obtain ⟨ke, kf, kel⟩ := k
           simp only at q1 q2 qe
           subst q2; subst qe
           have hrow : RT st.heap (row.getD f .undef) (ds.getD f .undef) := (q5.mono fun _ _ h => h.rt).getD (RT.undef _) f
           by_cases hf : f < row.length
           · have hf2 : f < ds.length := by rw [← q5.1]; exact hf
             have e1 : row.getD f .undef = row[f] := by rw [List.getD_eq_getElem?_getD, List.getElem?_eq_getElem hf]; rfl
             rw [e1] at hv
             have hrc := q5.2 f _ _ (List.getElem?_eq_getElem hf) (List.getElem?_eq_getElem hf2)
             obtain ⟨u', hu1, hu2⟩ := view_rel hs.heap hv hrc
             obtain ⟨r1, x1⟩ := kill_rep rep.heap l
             have hk3 : Heap.get (AM.kill ast.heap l) b = some ⟨ke, false, [ds]⟩ := by rw [kill_get, if_neg hbl]; exact hk1
             have hB := rep.heap.live b _ hk1
             have hB' : BlkR (AM.die μ l) w (With S μ l) (AM.die μ l b) ⟨ke, false, [ds.set f u']⟩ := by
               rw [AM.die_out hbl]
               refine BlkR_setCell (AM.die_up l) (fun m hm => .inl hm) hB fun c v hc hv => ?_
               rw [List.getElem?_eq_getElem hf2] at hc
               cases hc
               exact .imm _ _ (viewP_sound rep.heap _ _ _ _ _ hv hu1)
             have r3 := HRep_setBlk r1 hk3 hB'
             have hev1 : Evo st.heap (nkill .dead st.heap l) := evo_kill
             have hk4 : nget (nkill .dead st.heap l) b = some (.cells e' false [row]) := by rw [nkill_nget hbl]; exact hk
             have hev : Evo st.heap ((nkill .dead st.heap l).set b (.live (.cells e' false [row.set f u]))) := hev1.trans (evo_row hk4)
             refine ⟨AM.die μ l, With S μ l, ⟨⟨ast.tmps, (AM.kill ast.heap l).set b (.live ⟨ke, false, [ds.set f u']⟩), ast.k⟩, ⟨hs.tmps.mono fun _ _ h => h.mono hev, ?_, hs.k⟩, noGone_set (noGone_kill hg) (by simp), ⟨⟨rep.tmps.size, fun j v hv => (rep.tmps.vr j v hv).mono (AM.die_up l) (fun _ _ => rfl) (fun m hm => .inl hm), rep.tmps.defers⟩, r3⟩⟩, x1, .of_up (AM.die_up l)⟩
             refine A2.set (A2.mono (fun _ _ h => h.mono (evo_row hk4)) (kill_rel hs.heap)) b ?_
             refine .live _ _ ⟨q1, rfl, fun h => (by cases h), fun _ => .single ?_⟩
             exact A2.set (q5.mono fun _ _ h => h.mono hev) f hu2.c
           · exfalso
             rw [List.getD_eq_getElem?_getD, List.getElem?_eq_none (by omega)] at hv
             simp [DEEP, nviewP, nimmP] at hv
       · exact same
     · exact same
   · exact same
theorem nadj1_facts {ad : Adj} {st : NSt} : (nadj1 st ad).k = st.k ∧ (nadj1 st ad).tmps.length = st.tmps.length ∧ ∀ t, ad.on t = false → (nadj1 st ad).tmps.getD t .undef = st.tmps.getD t .undef := by
 have oth : ∀ {t u : Nat} {v : NVal}, (u == t) = false → (st.tmps.set u v).getD t .undef = st.tmps.getD t .undef := fun {t u v} h => by
   simp only [List.getD_eq_getElem?_getD]
   rw [List.getElem?_set_ne (by simpa using h)]
 cases ad with
 | mat t e flat =>
   simp only [nadj1]
   split
   · exact ⟨rfl, by simp, fun u hu => oth hu⟩
   · exact ⟨rfl, rfl, fun _ _ => rfl⟩
 | matC t f e flat =>
   simp only [nadj1]
   split
   · split
     · split <;> exact ⟨rfl, rfl, fun _ _ => rfl⟩
     · exact ⟨rfl, rfl, fun _ _ => rfl⟩
   · exact ⟨rfl, rfl, fun _ _ => rfl⟩
 | frz t =>
   simp only [nadj1]
   split
   · exact ⟨rfl, by simp, fun u hu => oth hu⟩
   · exact ⟨rfl, rfl, fun _ _ => rfl⟩
 | frzC t f =>
   simp only [nadj1]
   split
   · split
     · split
       · split <;> exact ⟨rfl, rfl, fun _ _ => rfl⟩
       · exact ⟨rfl, rfl, fun _ _ => rfl⟩
     · exact ⟨rfl, rfl, fun _ _ => rfl⟩
   · exact ⟨rfl, rfl, fun _ _ => rfl⟩
theorem nadj_rep : ∀ {own : List Adj} {μ : Nat → AM.Loc} {S : Nat → Prop} {st : NSt} {a : Act}, NRep μ w S st a →
   ∃ μ1 S1, NRep μ1 w S1 (nadj own st) a ∧ Ext μ S w μ1 S1 w ∧ KeepsK st.k μ μ1 ∧ (nadj own st).k = st.k ∧ (nadj own st).tmps.length = st.tmps.length ∧
     ∀ t, own.any (Adj.on t) = false → (nadj own st).tmps.getD t .undef = st.tmps.getD t .undef
 | [], μ, S, st, a, rep => ⟨μ, S, rep, .refl _ _ _, .refl _ _, rfl, rfl, fun _ _ => rfl⟩
 | ad :: own, μ, S, st, a, rep => by
   obtain ⟨μ1, S1, rep1, x1, k1⟩ := nadj1_rep (ad := ad) rep
   have facts := nadj1_facts (ad := ad) (st := st)
   obtain ⟨μ2, S2, rep2, x2, k2, e1, e2, e3⟩ := nadj_rep (own := own) rep1
   have hm : nadj (ad :: own) st = nadj own (nadj1 st ad) := rfl
   rw [hm]
   rw [facts.1] at k2
   refine ⟨μ2, S2, rep2, x1.trans x2, k1.trans k2, e1.trans facts.1, e2.trans facts.2.1, fun u hu => ?_⟩
   simp only [List.any_cons, Bool.or_eq_false_iff] at hu
   exact (e3 u hu.2).trans (facts.2.2 u hu.1)
theorem set_left {R : NVal → AVal → Prop} {xs : List NVal} {ys : List AVal} (h : A2 R xs ys) {n : Nat} {x : NVal} (hx : ∀ y, ys[n]? = some y → R x y) : A2 R (xs.set n x) ys := by
 refine ⟨by simp [h.1], fun j a b ha hb => ?_⟩
 rw [List.getElem?_set] at ha
 split at ha
 · rename_i e
   subst e
   split at ha
   · cases ha; exact hx b hb
   · cases ha
 · exact h.2 j a b ha hb
theorem putT_rel {G : NHeap} {ts : List NVal} {as' : List AVal} (hr : A2 (RT G) ts as') : ∀ {l : List (Nat × Sh)} {x : denT l} {us : List NVal}, getT l ts = some x → A2 (RT G) us as' → A2 (RT G) (putT l x us) as'
 | [], x, us, h, hu => hu
 | p :: l, x, us, h, hu => by
   simp only [getT] at h
   split at h
   · rename_i x1 hx1
     split at h
     · rename_i y hy
       cases h
       simp only [putT]
       refine putT_rel hr hy (set_left hu fun y hy => ?_)
       have h1 := hr.getD (RT.undef .undef) p.1
       rw [List.getD_eq_getElem?_getD (l := as'), hy] at h1
       exact get_RT _ _ _ _ hx1 h1
     · cases h
   · cases h
theorem putT_length : ∀ {l : List (Nat × Sh)} {x : denT l} {us : List NVal}, (putT l x us).length = us.length
 | [], _, _ => rfl
 | p :: l, x, us => by simp only [putT]; rw [putT_length]; simp
theorem putT_frame : ∀ {l : List (Nat × Sh)} {x : denT l} {us : List NVal} {t : Nat}, l.any (fun p => p.1 == t) = false → (putT l x us).getD t .undef = us.getD t .undef
 | [], _, _, _, _ => rfl
 | p :: l, x, us, t, h => by
   simp only [List.any_cons, Bool.or_eq_false_iff, beq_eq_false_iff_ne, ne_eq] at h
   simp only [putT]
   rw [putT_frame h.2]
   simp only [List.getD_eq_getElem?_getD]
   rw [List.getElem?_set_ne h.1]
theorem putL_rep {sh : LSh} {st0 st : NSt} {x : sh.den} {a : Act} (rep : NRep μ w S st a) (h : getL sh st = some x) (hk : st.k = st0.k) (hl : st.tmps.length = st0.tmps.length) (hsame : ∀ t, sh.same.contains t = true → st.tmps.getD t .undef = st0.tmps.getD t .undef) : NRep μ w S (putL sh st0 x) a := by
 obtain ⟨ast, hs, hg, rep⟩ := rep
 unfold getL at h
 split at h
 · rename_i x1 hx1
   split at h
   · rename_i y hy
     cases h
     have hev := getH_len hy
     refine ⟨ast, ⟨?_, getH_rel hy hs.heap, hs.k.trans hk⟩, putH_noGone, rep⟩
     refine putT_rel (hs.tmps.mono fun _ _ h => h.mono hev) hx1 ⟨by rw [nmask_length, ← hl]; exact hs.tmps.1, fun j v c hv hc => ?_⟩
     rw [nmask_get, Option.map_eq_some_iff] at hv
     obtain ⟨v0, hv0, rfl⟩ := hv
     split
     · rename_i hj
       have e := hsame j hj
       rw [getElem?_of_getD hv0] at e
       have hlt : j < st.tmps.length := by rw [hl]; exact (List.getElem?_eq_some_iff.1 hv0).1
       have hr := hs.tmps.2 j _ c (List.getElem?_eq_getElem hlt) hc
       rw [← getElem?_of_getD (List.getElem?_eq_getElem hlt), e] at hr
       exact hr.mono hev
     · exact .undef _
   · cases h
 · cases h
theorem putL_length {sh : LSh} {st0 : NSt} {x : sh.den} : (putL sh st0 x).tmps.length = st0.tmps.length := by
 simp only [putL]; rw [putT_length, nmask_length]
theorem putL_frame {sh : LSh} {st0 : NSt} {x : sh.den} {t : Nat} (h1 : sh.same.contains t = true) (h2 : sh.tmps.any (fun p => p.1 == t) = false) : (putL sh st0 x).tmps.getD t .undef = st0.tmps.getD t .undef := by
 simp only [putL]; rw [putT_frame h2, nmask_getD h1]
def goneIds (hp : NHeap) : List Nat := (List.range hp.length).filter fun b => match hp[b]? with | some .gone => true | _ => false
theorem nkill_at {s : NSlot} {b : Nat} : ∀ {l : List Nat} {hp : NHeap}, (nkill s hp l)[b]? = if b ∈ l ∧ b < hp.length then some s else hp[b]?
 | [], hp => by simp [nkill]
 | c :: l, hp => by
   simp only [nkill]
   rw [nkill_at, List.getElem?_set, List.length_set]
   by_cases h1 : b ∈ l ∧ b < hp.length
   · rw [if_pos h1, if_pos ⟨List.mem_cons_of_mem _ h1.1, h1.2⟩]
   · rw [if_neg h1]
     by_cases h2 : c = b
     · subst h2
       rw [if_pos rfl]
       by_cases h3 : c < hp.length
       · rw [if_pos h3, if_pos ⟨List.mem_cons_self, h3⟩]
       · rw [if_neg h3, if_neg (fun h => h3 h.2), List.getElem?_eq_none (by omega)]
     · rw [if_neg h2, if_neg]
       rintro ⟨h3, h4⟩
       cases h3 with
       | head => exact h2 rfl
       | tail _ h3 => exact h1 ⟨h3, h4⟩
theorem nshut_eq : nshut hp = nkill .dead hp (goneIds hp) := by
 apply List.ext_getElem?
 intro b
 rw [nkill_at]
 simp only [nshut, List.getElem?_map]
 by_cases h : b ∈ goneIds hp ∧ b < hp.length
 · rw [if_pos h]
   have h1 := h.1
   simp only [goneIds, List.mem_filter] at h1
   have h2 := h1.2
   split at h2
   · rename_i e; rw [e]; rfl
   · cases h2
 · rw [if_neg h]
   cases hb : hp[b]? with
   | none => rfl
   | some s =>
     cases s with
     | gone =>
       exfalso
       have hl := (List.getElem?_eq_some_iff.1 hb).1
       exact h ⟨by simp only [goneIds, List.mem_filter, List.mem_range]; exact ⟨hl, by rw [hb]⟩, hl⟩
     | _ => rfl
theorem nshut_noGone : noGone (nshut hp) := fun b hb => by
 simp only [nshut, List.getElem?_map, Option.map_eq_some_iff] at hb
 obtain ⟨s, _, hs⟩ := hb
 cases s <;> cases hs
theorem nshut_rep {st : NSt} {ast : St} {a : Act} (hs : SR st ast) (rep : Rep μ w S ast a) : ∃ μ1 S1, NRep μ1 w S1 ⟨st.tmps, nshut st.heap, st.k⟩ a ∧ Ext μ S w μ1 S1 w ∧ Up μ μ1 := by
 obtain ⟨r1, x1⟩ := kill_rep rep.heap (goneIds st.heap)
 refine ⟨_, _, ⟨⟨ast.tmps, AM.kill ast.heap (goneIds st.heap), ast.k⟩, ⟨?_, ?_, hs.k⟩, nshut_noGone, ⟨⟨rep.tmps.size, fun t v hv => ?_, rep.tmps.defers⟩, r1⟩⟩, x1, die_up _⟩
 · rw [nshut_eq]; exact hs.tmps.mono fun _ _ h => h.mono (nkill_evo _ _)
 · rw [nshut_eq]; exact kill_rel hs.heap
 · exact (rep.tmps.vr t v hv).mono (die_up _) (fun _ _ => rfl) (fun m h => .inl h)
end
end NM
end Go.Proofs.Ytmnhkpekmgobbaa
end
section
namespace Go.Proofs.Ytmnhkpekmgobbaa
namespace NM
open AM
def keepsT (t : Nat) : NCode → Bool
 | .skip | .exit _ | .ret | .label | .goto _ => true
 | .region _ ops _ => ops.all fun o => !(o.dst == some t)
 | .seq a b => keepsT t a && keepsT t b
 | .cond _ a b => keepsT t a && keepsT t b
 | .block _ c => keepsT t c
 | .loop keep sh c => keep.contains t && sh.same.contains t && !(sh.tmps.any fun p => p.1 == t) && keepsT t c
 | .loopU keep _ c => keep.contains t && keepsT t c
 | .scope _ keep sh rest body => keep.contains t && sh.same.contains t && !(sh.tmps.any fun p => p.1 == t) && keepsT t rest && keepsT t body
 | .pre keep own c => keep.contains t && !(own.any (Adj.on t)) && keepsT t c
 | .join keep own sh c => sh.same.contains t && !(sh.tmps.any fun p => p.1 == t) && keepsT t c
 | .meet keep own sh c => sh.same.contains t && !(sh.tmps.any fun p => p.1 == t) && keepsT t c
 | .post keep own c => keep.contains t && !(own.any (Adj.on t)) && keepsT t c
 | .split _ _ _ c => keepsT t c
def chkSame (keep : List Nat) (sh : LSh) (c : NCode) : Bool := sh.same.all fun t => keep.contains t && !(sh.tmps.any fun p => p.1 == t) && keepsT t c
def chkN (P : Program) : NCode → Code → Bool
 | .skip, .skip => true
 | .region _ al _, .region _ ops d => if d then chkDraw P ops al else all2 (chkOper P ops) ops.toList al
 | .seq a b, .seq a' b' => chkN P a a' && chkN P b b'
 | .cond c a b, .cond c' a' b' => chkOpd c' c && chkN P a a' && chkN P b b'
 | .block id c, .block id' c' => id == id' && chkN P c c'
 | .loop keep sh c, .loop c' => chkSame keep sh c && chkN P c c'
 | .loopU _ _ c, .loop c' => chkN P c c'
 | .exit id, .exit id' => id == id'
 | .ret, .ret => true
 | .label, .label _ => true
 | .goto l, .goto l' => l == l'
 | .scope l keep sh rest body, .scope c => chkSame keep sh rest && chkN P body c && (match findLabel c l with | some r => chkN P rest r | none => false)
 | .pre _ _ c, c' => chkN P c c'
 | .post _ _ c, c' => chkN P c c'
 | .split _ _ _ c, c' => chkN P c c'
 | .join keep own sh c, c' => chkSame keep sh c && sh.same.all (fun t => !(own.any (Adj.on t))) && chkN P c c'
 | .meet keep own sh c, c' => chkSame keep sh c && sh.same.all (fun t => !(own.any (Adj.on t))) && chkN P c c'
 | _, _ => false
def LN (N : Nat) : Lp := fun f s => loopN f N s
section
variable {P : Program} {K : Oracle} {N : Nat} {T : List Ent}
structure Fr (nc : NCode) (st st' : NSt) : Prop where
 len : st'.tmps.length = st.tmps.length
 same : ∀ t, keepsT t nc = true → nplain (st.tmps.getD t .undef) = true → st'.tmps.getD t .undef = st.tmps.getD t .undef
def NEnds (μ : Nat → AM.Loc) (w : World) (S : Nat → Prop) (k : Nat) (st' : NSt) (Q : Act → World → Prop) : Prop :=
 ∀ a' w' μ1 S1, NRep μ1 w' S1 st' a' → Ext μ S w μ1 S1 w' → KeepsK k μ μ1 → st'.k = k → Q a' w'
def NSound (P : Program) (T : List Ent) (N : Nat) (c : Code) (nc : NCode) : Prop :=
 ∀ (ω : Type) (st : NSt) (k : AExit → NSt → Option ω) (r : ω) (a : Act) (w : World) (μ : Nat → AM.Loc) (S : Nat → Prop) (Q : Exit → Act → World → Prop), NRep μ w S st a → nexec T (LN N) nc st k = some r →
   (∀ e st', k e st' = some r → Fr nc st st' → NEnds μ w S st.k st' (Q (exitOf e))) → c.wp P Q a w
theorem nregion_sound (hK : Valid P K) (hT : ∀ e ∈ T, EntOk K e) (hmix : P.follows .mixedOrders = true) {id ids : Nat} {ops : Array Oper} {al : List AOper} {hints : List Hint} {d : Bool} (hc : (if d then chkDraw P ops al else all2 (chkOper P ops) ops.toList al) = true) : NSound P T N (.region id ops d) (.region ids al hints) := by
 intro ω st k r a w μ S Q rep h hq
 obtain ⟨ast, hs, hg, rep⟩ := rep
 simp only [nexec] at h
 have hev : Evo st.heap (st.heap ++ List.replicate ids .free) := evo_append _
 have hs' : SR ⟨st.tmps, st.heap ++ List.replicate ids .free, st.k⟩ ⟨ast.tmps, ast.heap ++ List.replicate ids .free, ast.k⟩ :=
   ⟨hs.tmps.mono fun _ _ h => h.mono hev, (A2.mono (fun _ _ h => h.mono hev) hs.heap).append (A2.replicate ids .free), hs.k⟩
 obtain ⟨st1, ast1, h1, h2, h3, h4, h5, h6⟩ := nops_sound hT hs' h
 have rep' : Rep μ w S ⟨ast.tmps, ast.heap ++ List.replicate ids .free, ast.k⟩ a := ⟨rep.tmps, rep.heap.more ids⟩
 have fin : ∀ a' w' μ1 S1, Rep μ1 w' S1 ast1 a' → Ext μ S w μ1 S1 w' → Up μ μ1 → ast1.k = ast.k → Q .normal a' w' := fun a' w' μ1 S1 r1 x u hk => by
   obtain ⟨μ2, S2, rep2, x2, u2⟩ := nshut_rep h2 r1
   refine hq .normal ⟨st1.tmps, nshut st1.heap, st1.k⟩ h3 ⟨h6, fun t ht hp => h4 t fun o ho => ?_⟩ a' w' μ2 S2 rep2 (x.trans x2) (.of_up (u.trans u2)) h5
   simp only [keepsT, List.all_eq_true] at ht
   have := ht o ho
   simpa using this
 rw [hs.heap.1] at h1
 cases d with
 | true => exact draw_sound hK hmix hc rep' h1 fin
 | false => exact wp_region_list (runOps_sound hK ops.toList al _ ast1 a w μ S hc rep' h1 fin)
theorem nseq_sound {x y : Code} {x' y' : NCode} (hx : NSound P T N x x') (hy : NSound P T N y y') : NSound P T N (.seq x y) (.seq x' y') := by
 intro ω st k r a w μ S Q rep h hq
 simp only [nexec] at h
 refine wp_seq (hx ω st _ r a w μ S _ rep h fun e st1 hk fr a1 w1 μ1 S1 r1 x1 k1 hk1 => ?_)
 cases e with
 | normal =>
   simp only at hk
   refine hy ω st1 k r a1 w1 μ1 S1 Q r1 hk fun e2 st2 hk2 fr2 a2 w2 μ2 S2 r2 x2 k2 hk3 => ?_
   rw [hk1] at k2 hk3
   refine hq e2 st2 hk2 ⟨fr2.len.trans fr.len, fun t ht hp => ?_⟩ a2 w2 μ2 S2 r2 (x1.trans x2) (k1.trans k2) hk3
   simp only [keepsT, Bool.and_eq_true] at ht
   have e1 := fr.same t ht.1 hp
   exact (fr2.same t ht.2 (by rw [e1]; exact hp)).trans e1
 | exit i => exact hq _ st1 hk ⟨fr.len, fun t ht hp => fr.same t (by simp only [keepsT, Bool.and_eq_true] at ht; exact ht.1) hp⟩ a1 w1 μ1 S1 r1 x1 k1 hk1
 | ret => exact hq _ st1 hk ⟨fr.len, fun t ht hp => fr.same t (by simp only [keepsT, Bool.and_eq_true] at ht; exact ht.1) hp⟩ a1 w1 μ1 S1 r1 x1 k1 hk1
 | goto l => exact hq _ st1 hk ⟨fr.len, fun t ht hp => fr.same t (by simp only [keepsT, Bool.and_eq_true] at ht; exact ht.1) hp⟩ a1 w1 μ1 S1 r1 x1 k1 hk1
theorem nlit_same {tmps : List NVal} {c : Opd} {b : Bool} (h : nlook tmps c = .bool b) : nlit tmps c b = tmps := by
 cases c with
 | tmp t => exact set_same h (by simp)
 | _ => rfl
theorem ncond_sound {c : Operand} {c' : Opd} {x y : Code} {x' y' : NCode} (hc : chkOpd c c' = true) (hx : NSound P T N x x') (hy : NSound P T N y y') : NSound P T N (.cond c x y) (.cond c' x' y') := by
 intro ω st k r a w μ S Q rep h hq
 simp only [nexec] at h
 split at h
 · rename_i t ht
   have hv : VR μ w S (.bool t) (a.eval c) := by
     obtain ⟨ast, hs, hg, rep⟩ := rep
     have h1 := nlook_rel hs.tmps c'
     rw [ht] at h1
     rw [← h1.bool_inv]
     exact rep.tmps.look rep.heap.gl hc
   refine wp_cond (t := t) hv.bool_inv ?_
   cases t with
   | true =>
     simp only [cond_true] at h
     rw [nlit_same ht] at h
     exact hx ω st k r a w μ S Q rep h fun e st1 hk fr => hq e st1 hk ⟨fr.len, fun t ht hp => fr.same t (by simp only [keepsT, Bool.and_eq_true] at ht; exact ht.1) hp⟩
   | false =>
     simp only [cond_false] at h
     rw [nlit_same ht] at h
     exact hy ω st k r a w μ S Q rep h fun e st1 hk fr => hq e st1 hk ⟨fr.len, fun t ht hp => fr.same t (by simp only [keepsT, Bool.and_eq_true] at ht; exact ht.2) hp⟩
 · cases h
theorem nblock_sound {id : Nat} {c : Code} {c' : NCode} (hc : NSound P T N c c') : NSound P T N (.block id c) (.block id c') := by
 intro ω st k r a w μ S Q rep h hq
 simp only [nexec] at h
 refine wp_block (hc ω st _ r a w μ S _ rep h fun e st1 hk fr a1 w1 μ1 S1 r1 x1 k1 hk1 => ?_)
 have fr' : Fr (.block id c') st st1 := ⟨fr.len, fun t ht hp => fr.same t ht hp⟩
 cases e with
 | exit i =>
   simp only at hk
   simp only [exitOf, Exit.inBlock]
   split at hk
   · rename_i hi
     rw [if_pos hi]
     exact hq .normal st1 hk fr' a1 w1 μ1 S1 r1 x1 k1 hk1
   · rename_i hi
     rw [if_neg hi]
     exact hq (.exit i) st1 hk fr' a1 w1 μ1 S1 r1 x1 k1 hk1
 | normal => exact hq .normal st1 hk fr' a1 w1 μ1 S1 r1 x1 k1 hk1
 | ret => exact hq .ret st1 hk fr' a1 w1 μ1 S1 r1 x1 k1 hk1
 | goto l => exact hq (.goto l) st1 hk fr' a1 w1 μ1 S1 r1 x1 k1 hk1
theorem getL0_some {sh : LSh} {st : NSt} {x : sh.den} (h : getL0 sh st = some x) : getL sh st = some x ∧ ∀ t, sh.same.contains t = true → nplain (st.tmps.getD t .undef) = true := by
 unfold getL0 at h
 split at h
 · rename_i hs
   refine ⟨h, fun t ht => ?_⟩
   simp only [samesB, List.all_eq_true] at hs
   exact hs t (by simpa using ht)
 · cases h
theorem chkSame_get {keep : List Nat} {sh : LSh} {c : NCode} (h : chkSame keep sh c = true) {t : Nat} (ht : sh.same.contains t = true) : keep.contains t = true ∧ sh.tmps.any (fun p => p.1 == t) = false ∧ keepsT t c = true := by
 simp only [chkSame, List.all_eq_true] at h
 have := h t (by simpa using ht)
 simp only [Bool.and_eq_true, Bool.not_eq_true'] at this
 exact ⟨this.1.1, this.1.2, this.2⟩
theorem head_again {keep : List Nat} {sh : LSh} {c : NCode} (hch : chkSame keep sh c = true) {s0 s s' : NSt} {x x' : sh.den} {a : Act} {w : World} {μ : Nat → AM.Loc} {S : Nat → Prop} (hp0 : ∀ t, sh.same.contains t = true → nplain (s0.tmps.getD t .undef) = true)
   (fr : Fr c (putL sh s0 x) s) (hk : s.k = s0.k) (rep : NRep μ w S s a) (hn : nnorm keep s = some s') (hg : getL sh s' = some x') :
   ∃ μ1, NRep μ1 w S (putL sh s0 x') a ∧ Ext μ S w μ1 S w ∧ KeepsK s0.k μ μ1 := by
 obtain ⟨μ1, r1, x1, k1, e1, e2, e3⟩ := nnorm_rep rep hn
 rw [hk] at k1 e1
 refine ⟨μ1, putL_rep r1 hg e1 (e2.trans (fr.len.trans putL_length)) fun t ht => ?_, x1, k1⟩
 obtain ⟨c1, c2, c3⟩ := chkSame_get hch ht
 have f0 := putL_frame (st0 := s0) (x := x) ht c2
 have f1 := fr.same t c3 (by rw [f0]; exact hp0 t ht)
 rw [f0] at f1
 rw [e3 t c1 (by rw [f1]; exact hp0 t ht), f1]
theorem nloop_sound {keep : List Nat} {sh : LSh} {c : Code} {c' : NCode} (hch : chkSame keep sh c' = true) (hc : NSound P T N c c') : NSound P T N (.loop c) (.loop keep sh c') := by
 intro ω st k r a w μ S Q rep h hq
 simp only [nexec] at h
 split at h
 · rename_i s0 hn
   split at h
   · rename_i x hx
     obtain ⟨hx, hp0⟩ := getL0_some hx
     obtain ⟨μ0, r0, x0, k0, e1, e2, e3⟩ := nnorm_rep rep hn
     have hk0 : s0.k = st.k := e1
     have r0' : NRep μ0 w S (putL sh s0 x) a := putL_rep r0 hx rfl rfl fun _ _ => rfl
     have h : loopN (fun x next => nexec T (LN N) c' (putL sh s0 x) (headK keep sh next k)) N x = some r := h
     have key : ∀ (n : Nat) (x : sh.den) (a : Act) (w' : World) (μ1 : Nat → AM.Loc) (S1 : Nat → Prop), NRep μ1 w' S1 (putL sh s0 x) a → Ext μ S w μ1 S1 w' → KeepsK st.k μ μ1 →
         loopN (fun x next => nexec T (LN N) c' (putL sh s0 x) (headK keep sh next k)) n x = some r → Code.rounds P c Q n a w' := by
       intro n
       induction n with
       | zero => intro x a w' μ1 S1 _ _ _ h; simp [loopN] at h
       | succ n ih =>
         intro x a w1 μ1 S1 r1 x1 k1 h
         simp only [loopN] at h
         rw [rounds_succ]
         refine hc ω _ _ r a w1 μ1 S1 _ r1 h fun e s hk fr a2 w2 μ2 S2 r2 x2 k2 hk2 => ?_
         have hk2' : s.k = s0.k := hk2
         have k2' : KeepsK st.k μ1 μ2 := by rw [← hk0]; exact k2
         have fr' : Fr (.loop keep sh c') st s := ⟨fr.len.trans (putL_length.trans e2), fun t ht hp => by
           simp only [keepsT, Bool.and_eq_true, Bool.not_eq_true'] at ht
           obtain ⟨⟨⟨c1, c2⟩, c3⟩, c4⟩ := ht
           have f0 := e3 t c1 hp
           have f1 := putL_frame (st0 := s0) (x := x) c2 c3
           rw [f0] at f1
           rw [fr.same t c4 (by rw [f1]; exact hp), f1]⟩
         cases e with
         | normal =>
           simp only [headK] at hk
           split at hk
           · rename_i s' hs'
             rw [Option.bind_eq_some_iff] at hk
             obtain ⟨x', hx', hk⟩ := hk
             obtain ⟨μ3, r3, x3, k3⟩ := head_again hch hp0 fr hk2' r2 hs' hx'
             exact ih x' a2 w2 μ3 S2 r3 ((x1.trans x2).trans x3) ((k1.trans k2').trans (by rw [← hk0]; exact k3)) hk
           · cases hk
         | exit i => exact hq (.exit i) s hk fr' a2 w2 μ2 S2 r2 (x1.trans x2) (k1.trans k2') (hk2'.trans hk0)
         | ret => exact hq .ret s hk fr' a2 w2 μ2 S2 r2 (x1.trans x2) (k1.trans k2') (hk2'.trans hk0)
         | goto l => exact hq (.goto l) s hk fr' a2 w2 μ2 S2 r2 (x1.trans x2) (k1.trans k2') (hk2'.trans hk0)
     exact wp_loop_rounds N (key N x a w μ0 S r0' x0 k0 h)
   · cases h
 · cases h
theorem nloopU_sound {keep : List Nat} {n : Nat} {c : Code} {c' : NCode} (hc : NSound P T N c c') : NSound P T N (.loop c) (.loopU keep n c') := by
 intro ω st k r a w μ S Q rep h hq
 simp only [nexec] at h
 have key : ∀ (n : Nat) (s : NSt) (a : Act) (w' : World) (μ1 : Nat → AM.Loc) (S1 : Nat → Prop), NRep μ1 w' S1 s a → Ext μ S w μ1 S1 w' → KeepsK st.k μ μ1 → s.k = st.k → Fr (.loopU keep 0 c') st s →
     unroll keep (nexec T (LN N) c') n s k = some r → Code.rounds P c Q n a w' := by
   intro n
   induction n with
   | zero => intro s a w' μ1 S1 _ _ _ _ _ h; simp [unroll] at h
   | succ n ih =>
     intro s a w1 μ1 S1 r1 x1 k1 hk1 fr1 h
     simp only [unroll] at h
     split at h
     · rename_i s1 hn
       obtain ⟨μ0, r0, x0, k0, e1, e2, e3⟩ := nnorm_rep r1 hn
       rw [hk1] at k0 e1
       rw [rounds_succ]
       refine hc ω _ _ r a w1 μ0 S1 _ r0 h fun e s2 hk fr a2 w2 μ2 S2 r2 x2 k2 hk2 => ?_
       rw [e1] at k2 hk2
       have fr2 : ∀ nn, Fr (.loopU keep nn c') st s2 := fun nn => ⟨fr.len.trans (e2.trans fr1.len), fun t ht hp => by
         have f1 := fr1.same t ht hp
         simp only [keepsT, Bool.and_eq_true] at ht
         have f2 := e3 t ht.1 (by rw [f1]; exact hp)
         rw [f1] at f2
         rw [fr.same t ht.2 (by rw [f2]; exact hp), f2]⟩
       have x3 := (x1.trans x0).trans x2
       have k3 := (k1.trans k0).trans k2
       cases e with
       | normal => exact ih s2 a2 w2 μ2 S2 r2 x3 k3 hk2 (fr2 0) hk
       | exit i => exact hq (.exit i) s2 hk ⟨(fr2 0).len, (fr2 0).same⟩ a2 w2 μ2 S2 r2 x3 k3 hk2
       | ret => exact hq .ret s2 hk ⟨(fr2 0).len, (fr2 0).same⟩ a2 w2 μ2 S2 r2 x3 k3 hk2
       | goto l => exact hq (.goto l) s2 hk ⟨(fr2 0).len, (fr2 0).same⟩ a2 w2 μ2 S2 r2 x3 k3 hk2
     · cases h
 exact wp_loop_rounds n (key n st a w μ S rep (.refl _ _ _) (.refl _ _) rfl ⟨rfl, fun _ _ _ => rfl⟩ h)
theorem nscope_sound {l : Nat} {keep : List Nat} {sh : LSh} {c r : Code} {rest body : NCode} (hf : findLabel c l = some r) (hch : chkSame keep sh rest = true) (hr : NSound P T N r rest) (hb : NSound P T N c body) : NSound P T N (.scope c) (.scope l keep sh rest body) := by
 intro ω st k res a w μ S Q rep h hq
 simp only [nexec] at h
 refine wp_scope_passes l N hf (hb ω st _ res a w μ S _ rep h fun e s hk fr a1 w1 μ1 S1 r1 x1 k1 hk1 => ?_)
 have fr' : Fr (.scope l keep sh rest body) st s := ⟨fr.len, fun t ht hp => fr.same t (by simp only [keepsT, Bool.and_eq_true] at ht; exact ht.2) hp⟩
 cases e with
 | goto l' =>
   simp only [scopeK] at hk
   split at hk
   · rename_i hl
     refine ⟨hl, ?_⟩
     split at hk
     · rename_i s0 hn
       split at hk
       · rename_i x hx
         obtain ⟨hx, hp0⟩ := getL0_some hx
         obtain ⟨μ0, r0, x0, k0, e1, e2, e3⟩ := nnorm_rep r1 hn
         rw [hk1] at e1 k0
         have r0' : NRep μ0 w1 S1 (putL sh s0 x) a1 := putL_rep r0 hx rfl rfl fun _ _ => rfl
         have hk : loopN (fun x next => nexec T (LN N) rest (putL sh s0 x) (goK l keep sh next k)) N x = some res := hk
         have key : ∀ (n : Nat) (x : sh.den) (a : Act) (w' : World) (μ1 : Nat → AM.Loc) (S1 : Nat → Prop), NRep μ1 w' S1 (putL sh s0 x) a → Ext μ S w μ1 S1 w' → KeepsK st.k μ μ1 →
             loopN (fun x next => nexec T (LN N) rest (putL sh s0 x) (goK l keep sh next k)) n x = some res → passes P l r Q n a w' := by
           intro n
           induction n with
           | zero => intro x a w' μ1 S1 _ _ _ h; simp [loopN] at h
           | succ n ih =>
             intro x a w1 μ1 S1 r1 x1 k1 h
             simp only [loopN] at h
             show r.wp P _ a w1
             refine hr ω _ _ res a w1 μ1 S1 _ r1 h fun e s2 hk fr2 a2 w2 μ2 S2 r2 x2 k2 hk2 => ?_
             have hk2' : s2.k = s0.k := hk2
             have k2' : KeepsK st.k μ1 μ2 := by rw [← e1]; exact k2
             have fr3 : Fr (.scope l keep sh rest body) st s2 := ⟨fr2.len.trans (putL_length.trans (e2.trans fr.len)), fun t ht hp => by
               have g1 := fr'.same t ht hp
               simp only [keepsT, Bool.and_eq_true, Bool.not_eq_true'] at ht
               obtain ⟨⟨⟨⟨c1, c2⟩, c3⟩, c4⟩, c5⟩ := ht
               have f0 := e3 t c1 (by rw [g1]; exact hp)
               rw [g1] at f0
               have f1 := putL_frame (st0 := s0) (x := x) c2 c3
               rw [f0] at f1
               rw [fr2.same t c4 (by rw [f1]; exact hp), f1]⟩
             cases e with
             | goto l2 =>
               simp only [goK] at hk
               split at hk
               · rename_i hl2
                 split at hk
                 · rename_i s' hs'
                   rw [Option.bind_eq_some_iff] at hk
                   obtain ⟨x', hx', hk⟩ := hk
                   obtain ⟨μ3, r3, x3, k3⟩ := head_again hch hp0 fr2 hk2' r2 hs' hx'
                   exact ⟨hl2, ih x' a2 w2 μ3 S2 r3 ((x1.trans x2).trans x3) ((k1.trans k2').trans (by rw [← e1]; exact k3)) hk⟩
                 · cases hk
               · cases hk
             | exit i => exact hq (.exit i) s2 hk fr3 a2 w2 μ2 S2 r2 (x1.trans x2) (k1.trans k2') (hk2'.trans e1)
             | ret => exact hq .ret s2 hk fr3 a2 w2 μ2 S2 r2 (x1.trans x2) (k1.trans k2') (hk2'.trans e1)
             | normal => exact hq .normal s2 hk fr3 a2 w2 μ2 S2 r2 (x1.trans x2) (k1.trans k2') (hk2'.trans e1)
         exact key N x a1 w1 μ0 S1 r0' (x1.trans x0) (k1.trans k0) hk
       · cases hk
     · cases hk
   · cases hk
 | exit i => exact hq (.exit i) s hk fr' a1 w1 μ1 S1 r1 x1 k1 hk1
 | ret => exact hq .ret s hk fr' a1 w1 μ1 S1 r1 x1 k1 hk1
 | normal => exact hq .normal s hk fr' a1 w1 μ1 S1 r1 x1 k1 hk1
theorem tidy {keep : List Nat} {own : List Adj} {st s : NSt} {a : Act} {w : World} {μ : Nat → AM.Loc} {S : Nat → Prop} (rep : NRep μ w S st a) (h : nnorm keep (nadj own st) = some s) :
   ∃ μ1 S1, NRep μ1 w S1 s a ∧ Ext μ S w μ1 S1 w ∧ KeepsK st.k μ μ1 ∧ s.k = st.k ∧ s.tmps.length = st.tmps.length ∧
     ∀ t, keep.contains t = true → own.any (Adj.on t) = false → nplain (st.tmps.getD t .undef) = true → s.tmps.getD t .undef = st.tmps.getD t .undef := by
 obtain ⟨μ1, S1, r1, x1, k1, e1, e2, e3⟩ := nadj_rep (own := own) rep
 obtain ⟨μ2, r2, x2, k2, f1, f2, f3⟩ := nnorm_rep r1 h
 rw [e1] at k2 f1
 refine ⟨μ2, S1, r2, x1.trans x2, k1.trans k2, f1, f2.trans e2, fun t h1 h2 h3 => ?_⟩
 have g := e3 t h2
 rw [f3 t h1 (by rw [g]; exact h3), g]
theorem npre_sound {keep : List Nat} {own : List Adj} {c : Code} {c' : NCode} (hc : NSound P T N c c') : NSound P T N c (.pre keep own c') := by
 intro ω st k r a w μ S Q rep h hq
 simp only [nexec] at h
 split at h
 · rename_i s hs
   obtain ⟨μ1, S0, r1, x1, k1, e1, e2, e3⟩ := tidy rep hs
   refine hc ω s k r a w μ1 S0 Q r1 h fun e st1 hk fr a1 w1 μ2 S1 r2 x2 k2 hk1 => ?_
   rw [e1] at k2 hk1
   refine hq e st1 hk ⟨fr.len.trans e2, fun t ht hp => ?_⟩ a1 w1 μ2 S1 r2 (x1.trans x2) (k1.trans k2) hk1
   simp only [keepsT, Bool.and_eq_true, Bool.not_eq_true'] at ht
   have f := e3 t ht.1.1 ht.1.2 hp
   rw [fr.same t ht.2 (by rw [f]; exact hp), f]
 · cases h
theorem set_self {α : Type} {l : List α} {i : Nat} {x : α} (h : l[i]? = some x) : l.set i x = l := by
 apply List.ext_getElem?
 intro j
 rw [List.getElem?_set]
 split
 · rename_i e
   subst e
   split
   · exact h.symm
   · rename_i hl
     rw [List.getElem?_eq_none (by omega)] at h
     cases h
 · rfl
theorem nsplit_sound' {t f n : Nat} {c : Code} {c' : NCode} (hc : NSound P T N c c') : NSound P T N c (.split t f n c') := by
 intro ω st k r a w μ S Q rep h hq
 simp only [nexec] at h
 split at h
 · split at h
   · rename_i b _ _ _ e row hg
     split at h
     · rename_i kd i hr
       obtain ⟨j, hj, h⟩ := oneOf_inv h
       rw [← hj, set_self hr, set_self (nget_iff.1 hg)] at h
       exact hc ω st k r a w μ S Q rep h fun e st' hk fr => hq e st' hk ⟨fr.len, fr.same⟩
     · cases h
   · cases h
 · cases h
theorem npost_sound {keep : List Nat} {own : List Adj} {c : Code} {c' : NCode} (hc : NSound P T N c c') : NSound P T N c (.post keep own c') := by
 intro ω st k r a w μ S Q rep h hq
 simp only [nexec] at h
 refine hc ω st _ r a w μ S Q rep h fun e st1 hk fr a1 w1 μ1 S1 r1 x1 k1 hk1 => ?_
 have fr' : Fr (.post keep own c') st st1 := ⟨fr.len, fun t ht hp => fr.same t (by simp only [keepsT, Bool.and_eq_true] at ht; exact ht.2) hp⟩
 cases e with
 | normal =>
   simp only at hk
   split at hk
   · rename_i s hs
     obtain ⟨μ2, S2, r2, x2, k2, e1, e2, e3⟩ := tidy r1 hs
     rw [hk1] at k2 e1
     refine hq .normal s hk ⟨e2.trans fr.len, fun t ht hp => ?_⟩ a1 w1 μ2 S2 r2 (x1.trans x2) (k1.trans k2) e1
     have f := fr'.same t ht hp
     simp only [keepsT, Bool.and_eq_true, Bool.not_eq_true'] at ht
     rw [e3 t ht.1.1 ht.1.2 (by rw [f]; exact hp), f]
   · cases hk
 | exit i => exact hq (.exit i) st1 hk fr' a1 w1 μ1 S1 r1 x1 k1 hk1
 | ret => exact hq .ret st1 hk fr' a1 w1 μ1 S1 r1 x1 k1 hk1
 | goto l => exact hq (.goto l) st1 hk fr' a1 w1 μ1 S1 r1 x1 k1 hk1
theorem njoin_sound {keep : List Nat} {own : List Adj} {sh : LSh} {c : Code} {c' : NCode} (hch : chkSame keep sh c' = true) (hown : sh.same.all (fun t => !(own.any (Adj.on t))) = true) (hc : NSound P T N c c') : NSound P T N c (.join keep own sh c') := by
 intro ω st k r a w μ S Q rep h hq
 simp only [nexec] at h
 split at h
 · rename_i hsame
   rw [Option.bind_eq_some_iff] at h
   obtain ⟨r', h, hg⟩ := h
   have hp0 : ∀ t, sh.same.contains t = true → nplain (st.tmps.getD t .undef) = true := fun t ht => by
     simp only [samesB, List.all_eq_true] at hsame
     exact hsame t (by simpa using ht)
   refine hc _ st _ r' a w μ S Q rep h fun e st1 hk fr a1 w1 μ1 S1 r1 x1 k1 hk1 => ?_
   have fr' : Fr (.join keep own sh c') st st1 := ⟨fr.len, fun t ht hp => fr.same t (by simp only [keepsT, Bool.and_eq_true] at ht; exact ht.2) hp⟩
   have other : ∀ e, (k e st1).map Sum.inr = some r' → k e st1 = some r := fun e he => by
     rw [Option.map_eq_some_iff] at he
     obtain ⟨y, hy, rfl⟩ := he
     simp only [Sum.elim_inr, Option.some.injEq] at hg
     rw [hy, hg]
   cases e with
   | normal =>
     simp only at hk
     split at hk
     · rename_i s hs
       rw [Option.bind_eq_some_iff] at hk
       obtain ⟨x, hx, hk⟩ := hk
       cases hk
       simp only [Sum.elim_inl] at hg
       obtain ⟨μ2, S2, r2, x2, k2, e1, e2, e3⟩ := tidy r1 hs
       rw [hk1] at k2 e1
       have r3 : NRep μ2 w1 S2 (putL sh st x) a1 := putL_rep r2 hx e1 (e2.trans fr.len) fun t ht => by
         obtain ⟨c1, c2, c3⟩ := chkSame_get hch ht
         have c4 : own.any (Adj.on t) = false := by
           rw [List.all_eq_true] at hown
           have := hown t (by simpa using ht)
           simpa only [Bool.not_eq_true'] using this
         have f := fr.same t c3 (hp0 t ht)
         rw [e3 t c1 c4 (by rw [f]; exact hp0 t ht), f]
       refine hq .normal _ hg ⟨putL_length, fun t ht hp => ?_⟩ a1 w1 μ2 S2 r3 (x1.trans x2) (k1.trans k2) rfl
       simp only [keepsT, Bool.and_eq_true, Bool.not_eq_true'] at ht
       exact putL_frame ht.1.1 ht.1.2
     · cases hk
   | exit i => exact hq (.exit i) st1 (other _ hk) fr' a1 w1 μ1 S1 r1 x1 k1 hk1
   | ret => exact hq .ret st1 (other _ hk) fr' a1 w1 μ1 S1 r1 x1 k1 hk1
   | goto l => exact hq (.goto l) st1 (other _ hk) fr' a1 w1 μ1 S1 r1 x1 k1 hk1
 · cases h
theorem nmeet_sound {keep : List Nat} {own : List Adj} {sh : LSh} {c : Code} {c' : NCode} (hch : chkSame keep sh c' = true) (hown : sh.same.all (fun t => !(own.any (Adj.on t))) = true) (hc : NSound P T N c c') : NSound P T N c (.meet keep own sh c') := by
 intro ω st k r a w μ S Q rep h hq
 simp only [nexec] at h
 split at h
 · rename_i hsame
   rw [Option.bind_eq_some_iff] at h
   obtain ⟨x, h, hg⟩ := h
   have hp0 : ∀ t, sh.same.contains t = true → nplain (st.tmps.getD t .undef) = true := fun t ht => by
     simp only [samesB, List.all_eq_true] at hsame
     exact hsame t (by simpa using ht)
   refine hc _ st _ x a w μ S Q rep h fun e st1 hk fr a1 w1 μ1 S1 r1 x1 k1 hk1 => ?_
   have fr' : Fr (.meet keep own sh c') st st1 := ⟨fr.len, fun t ht hp => fr.same t (by simp only [keepsT, Bool.and_eq_true] at ht; exact ht.2) hp⟩
   cases e with
   | normal =>
     simp only at hk
     split at hk
     · rename_i s hs
       have hx := hk
       obtain ⟨μ2, S2, r2, x2, k2, e1, e2, e3⟩ := tidy r1 hs
       rw [hk1] at k2 e1
       have r3 : NRep μ2 w1 S2 (putL sh st x) a1 := putL_rep r2 hx e1 (e2.trans fr.len) fun t ht => by
         obtain ⟨c1, c2, c3⟩ := chkSame_get hch ht
         have c4 : own.any (Adj.on t) = false := by
           rw [List.all_eq_true] at hown
           have := hown t (by simpa using ht)
           simpa only [Bool.not_eq_true'] using this
         have f := fr.same t c3 (hp0 t ht)
         rw [e3 t c1 c4 (by rw [f]; exact hp0 t ht), f]
       refine hq .normal _ hg ⟨putL_length, fun t ht hp => ?_⟩ a1 w1 μ2 S2 r3 (x1.trans x2) (k1.trans k2) rfl
       simp only [keepsT, Bool.and_eq_true, Bool.not_eq_true'] at ht
       exact putL_frame ht.1.1 ht.1.2
     · cases hk
   | exit i => cases hk
   | ret => cases hk
   | goto l => cases hk
 · cases h
theorem nleaf_sound {c : Code} {c' : NCode} {e : AExit} (hx : ∀ {ω : Type} (st : NSt) (k : AExit → NSt → Option ω), nexec T (LN N) c' st k = k e st) (hw : ∀ (Q : Exit → Act → World → Prop) (a : Act) (w : World), Q (exitOf e) a w → c.wp P Q a w) : NSound P T N c c' := by
 intro ω st k r a w μ S Q rep h hq
 rw [hx] at h
 exact hw Q a w (hq e st h ⟨rfl, fun _ _ _ => rfl⟩ a w μ S rep (.refl _ _ _) (.refl _ _) rfl)
theorem ncode_sound (hK : Valid P K) (hT : ∀ e ∈ T, EntOk K e) (hmix : P.follows .mixedOrders = true) : ∀ (nc : NCode) (c : Code), chkN P nc c = true → NSound P T N c nc := by
 intro nc
 induction nc with
 | skip => intro c h; cases c <;> simp [chkN] at h; exact nleaf_sound (e := .normal) (fun _ _ => by simp only [nexec]) (fun _ _ _ h => wp_skip h)
 | region ids al hints => intro c h; cases c <;> first | (exact nregion_sound hK hT hmix h) | (simp [chkN] at h)
 | seq a b iha ihb => intro c h; cases c <;> simp [chkN] at h; exact nseq_sound (iha _ h.1) (ihb _ h.2)
 | cond c a b iha ihb => intro c h; cases c <;> simp [chkN] at h; exact ncond_sound h.1.1 (iha _ h.1.2) (ihb _ h.2)
 | block id b ih => intro c h; cases c <;> simp [chkN] at h; obtain ⟨rfl, h⟩ := h; exact nblock_sound (ih _ h)
 | loop keep sh b ih => intro c h; cases c <;> simp [chkN] at h; exact nloop_sound h.1 (ih _ h.2)
 | loopU keep n b ih => intro c h; cases c <;> simp [chkN] at h; exact nloopU_sound (ih _ h)
 | exit id => intro c h; cases c <;> simp [chkN] at h; subst h; exact nleaf_sound (e := .exit id) (fun _ _ => by simp only [nexec]) (fun _ _ _ h => wp_exit h)
 | ret => intro c h; cases c <;> simp [chkN] at h; exact nleaf_sound (e := .ret) (fun _ _ => by simp only [nexec]) (fun _ _ _ h => wp_ret h)
 | label => intro c h; cases c <;> simp [chkN] at h; exact nleaf_sound (e := .normal) (fun _ _ => by simp only [nexec]) (fun _ _ _ h => wp_label h)
 | goto l => intro c h; cases c <;> simp [chkN] at h; subst h; exact nleaf_sound (e := .goto l) (fun _ _ => by simp only [nexec]) (fun _ _ _ h => wp_goto h)
 | scope l keep sh rest body ihr ihb =>
   intro c h
   cases c <;> try (simp [chkN] at h; done)
   rename_i c0
   simp only [chkN, Bool.and_eq_true] at h
   obtain ⟨⟨h1, h2⟩, h3⟩ := h
   split at h3
   · rename_i r hf
     exact nscope_sound hf h1 (ihr _ h3) (ihb _ h2)
   · cases h3
 | pre keep own b ih => intro c h; simp only [chkN] at h; exact npre_sound (ih _ h)
 | join keep own sh b ih => intro c h; simp only [chkN, Bool.and_eq_true] at h; exact njoin_sound h.1.1 h.1.2 (ih _ h.2)
 | meet keep own sh b ih => intro c h; simp only [chkN, Bool.and_eq_true] at h; exact nmeet_sound h.1.1 h.1.2 (ih _ h.2)
 | post keep own b ih => intro c h; simp only [chkN] at h; exact npost_sound (ih _ h)
 | split t f n b ih => intro c h; simp only [chkN] at h; exact nsplit_sound' (ih _ h)
end
end NM
end Go.Proofs.Ytmnhkpekmgobbaa
end
