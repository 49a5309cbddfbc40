/-
  What the proof of SpecTexts leans on, part 16. (Many texts laid together by program.)
-/
import Derived.Test.YtjngkfdclcgfhaaGreatDoorPkTo
set_option linter.unnecessarySimpa false
set_option linter.unusedSimpArgs false
set_option linter.unusedVariables false
section
namespace Go.Proofs.YtjngkfdclcgfhaaGreatDoor
namespace NM
open AM
section
variable {hp : NHeap} {ahp : Heap} {μ : Nat → AM.Loc} {w : World} {S : Nat → Prop}
def NRep (μ : Nat → AM.Loc) (w : World) (S : Nat → Prop) (st : NSt) (a : Act) : Prop := ∃ ast, SR st ast ∧ noGone st.heap ∧ Rep μ w S ast a
theorem getElem?_of_getD {l : List NVal} {t : Nat} {v : NVal} (h : l[t]? = some v) : l.getD t .undef = v := by
 rw [List.getD_eq_getElem?_getD, h]; rfl
def dim : List NVal → List AVal → List AVal
 | v :: vs, a :: as' => (match v with | .undef => .undef | _ => a) :: dim vs as'
 | _, _ => []
theorem dim_rel : ∀ {vs : List NVal} {as' : List AVal}, A2 (RT hp) vs as' → A2 (RTs hp) vs (dim vs as') ∧ (∀ (t : Nat) (c : AVal), (dim vs as')[t]? = some c → c = .undef ∨ as'[t]? = some c) ∧ (dim vs as').length = as'.length
 | [], as', h => by rw [h.nil_inv]; exact ⟨.nil, fun t c h => by simp [dim] at h, rfl⟩
 | v :: vs, as', h => by
   obtain ⟨a, as1, rfl, h1, h2⟩ := h.cons_inv
   obtain ⟨i1, i2, i3⟩ := dim_rel h2
   refine ⟨.cons ?_ i1, fun t c hc => ?_, by simp [dim, i3]⟩
   · cases h1 with
     | undef => exact .undef
     | v h3 => cases v <;> first | exact .undef | exact .v h3
     | tup cs ds h3 => exact .tup _ _ h3
   · cases t with
     | zero =>
       simp only [dim, List.getElem?_cons_zero, Option.some.injEq] at hc ⊢
       cases v <;> first | exact .inr hc | exact .inl hc.symm
     | succ t =>
       simp only [dim, List.getElem?_cons_succ] at hc ⊢
       exact i2 t c hc
theorem NRep.strict {st : NSt} {a : Act} (h : NRep μ w S st a) : ∃ ast : St, A2 (RTs st.heap) st.tmps ast.tmps ∧ RH st.heap ast.heap ∧ ast.k = st.k ∧ noGone st.heap ∧ Rep μ w S ast a := by
 obtain ⟨ast, hs, hg, rep⟩ := h
 obtain ⟨d1, d2, d3⟩ := dim_rel hs.tmps
 refine ⟨⟨dim st.tmps ast.tmps, ast.heap, ast.k⟩, d1, hs.heap, hs.k, hg, ⟨⟨by rw [d3]; exact rep.tmps.size, fun t v hv => ?_, rep.tmps.defers⟩, rep.heap⟩⟩
 rcases d2 t v hv with e | e
 · rw [e]; exact .undef _
 · exact rep.tmps.vr t v e
theorem all_id {α : Type} {f : α → α} : ∀ {l : List α}, (∀ x ∈ l, f x = x) → l.map f = l
 | [], _ => rfl
 | x :: l, h => by rw [List.map_cons, h x List.mem_cons_self, all_id fun y hy => h y (List.mem_cons_of_mem _ hy)]
theorem imm_ren {f : Nat → Option Nat} {v : NVal} (h : nimmP v = true) : nrenP f v = v := by
 cases v <;> first | rfl | cases h
theorem immC_ren {f : Nat → Option Nat} {v : NVal} (h : nimmC v = true) : nrenC f v = v := by
 cases v with
 | fn g cap =>
   have h : cap.all nimmP = true := h
   rw [List.all_eq_true] at h
   simp only [nrenC]
   rw [all_id fun x hx => imm_ren (h x hx)]
 | _ => first | rfl | cases h
theorem plain_ren {f : Nat → Option Nat} {v : NVal} (h : nplain v = true) : nrenT f v = v := by
 cases v with
 | agg cs =>
   have h : cs.all nimmC = true := h
   rw [List.all_eq_true] at h
   simp only [nrenT, nrenV]
   rw [all_id fun x hx => immC_ren (h x hx)]
 | tup vs => cases h
 | fn g cap => exact immC_ren (v := .fn g cap) h
 | _ => first | rfl | cases h
theorem nmask_length {keep : List Nat} {ts : List NVal} : (nmask keep ts).length = ts.length := by simp [nmask]
theorem nmask_get {keep : List Nat} {ts : List NVal} {t : Nat} : (nmask keep ts)[t]? = ts[t]?.map fun v => if keep.contains t then v else .undef := by
 simp only [nmask, List.getElem?_map, List.getElem?_zipIdx, Option.map_map, Nat.zero_add]
 rfl
theorem nmask_getD {keep : List Nat} {ts : List NVal} {t : Nat} (h : keep.contains t = true) : (nmask keep ts).getD t .undef = ts.getD t .undef := by
 rw [List.getD_eq_getElem?_getD, List.getD_eq_getElem?_getD, nmask_get]
 cases ts[t]? with
 | none => rfl
 | some v => simp only [Option.map_some, h, if_true]
theorem nnorm_rep {st s : NSt} {a : Act} {keep : List Nat} (rep : NRep μ w S st a) (h : nnorm keep st = some s) :
   ∃ μ1, NRep μ1 w S s a ∧ Ext μ S w μ1 S w ∧ KeepsK st.k μ μ1 ∧ s.k = st.k ∧ s.tmps.length = st.tmps.length ∧
     ∀ t, keep.contains t = true → nplain (st.tmps.getD t .undef) = true → s.tmps.getD t .undef = st.tmps.getD t .undef := by
 obtain ⟨ast, ht, hh, hk, hg, rep⟩ := rep.strict
 unfold nnorm at h
 simp only at h
 have hmask : A2 (RTs st.heap) (nmask keep st.tmps) (ast.tmps.zipIdx.map fun (x : AVal × Nat) => match x with | (v, t) => if keep.contains t then v else AVal.undef) := by
   refine ⟨by simp [nmask, ht.1], fun j x y hx hy => ?_⟩
   rw [nmask_get] at hx
   simp only [List.getElem?_map, List.getElem?_zipIdx, Option.map_map, Nat.zero_add, Option.map_eq_some_iff, Function.comp] at hx hy
   obtain ⟨v, hv, rfl⟩ := hx
   obtain ⟨c, hc, rfl⟩ := hy
   split
   · exact ht.2 j v c hv hc
   · exact .undef
 have hroots : (nmask keep st.tmps).flatMap (fun v => (skT v).ownT) = (ast.tmps.zipIdx.map fun (x : AVal × Nat) => match x with | (v, t) => if keep.contains t then v else AVal.undef).flatMap AVal.ownT := A2.flatMap_eq (fun x y hxy => hxy.own) hmask
 have hreach := hh.reach hg (List.range st.k) ((nmask keep st.tmps).flatMap fun v => (skT v).ownT)
 generalize hids : AM.reach (skH st.heap) (List.range st.k) ((nmask keep st.tmps).flatMap fun v => (skT v).ownT) = ids at h hreach
 split at h
 · rename_i hc
   simp only [Option.some.injEq] at h
   subst h
   have hn : norm keep ast = some ⟨(ast.tmps.zipIdx.map fun (x : AVal × Nat) => match x with | (v, t) => if keep.contains t then v else AVal.undef).map (AVal.renT (index ids)), packHeap ast.heap ids, ast.k⟩ := by
     unfold norm
     simp only
     rw [hk, ← hroots, ← hreach, if_pos hc]
   obtain ⟨μ1, rep1, x1, k1, _⟩ := norm_sound rep hn
   refine ⟨μ1, ⟨⟨_, _, ast.k⟩, ⟨A2.mono (fun _ _ h => RTs.rt h) (hmask.map fun _ _ h => renT_rel (pack_keeps ids) h), pack_rel hh fun b hb hn => hh.getNone hg hn, hk⟩, pack_noGone ids, rep1⟩, x1, by rw [← hk]; exact k1, rfl, by simp [nmask], fun t htk hp => ?_⟩
   simp only [List.getD_eq_getElem?_getD, List.getElem?_map]
   rw [nmask_get]
   rw [List.getD_eq_getElem?_getD] at hp
   cases hv : st.tmps[t]? with
   | none => rfl
   | some v =>
     rw [hv] at hp
     simp only [Option.map_some, htk, if_true, Option.getD_some] at hp ⊢
     exact plain_ren hp
 · cases h
theorem evo_append (l : NHeap) : Evo hp (hp ++ l) := fun b n h => by
 unfold lenAt at h ⊢
 rcases Nat.lt_or_ge b hp.length with hl | hl
 · rw [List.getElem?_append_left hl]; exact h
 · rw [List.getElem?_eq_none hl] at h; cases h
theorem noGone_append {l : NHeap} (h : noGone hp) (hl : noGone l) : noGone (hp ++ l) := fun b hb => by
 rw [List.getElem?_append] at hb
 split at hb
 · exact h b hb
 · exact hl _ hb
theorem HRep_setBlk (r : HRep μ w S ahp) {b : Nat} {k k' : AM.Blk} (hb : ahp.get b = some k) (hk : BlkR μ w S (μ b) k') : HRep μ w S (ahp.set b (.live k')) where
 live c kc hc := by
   rw [Heap.get_set] at hc
   split at hc
   · rename_i h
     obtain ⟨rfl, _⟩ := h
     cases hc
     exact hk
   · exact r.live c kc hc
 gone c hc := by
   rw [Heap.get_set] at hc
   split at hc
   · cases hc
   · exact r.gone c hc
 free c hc := by
   refine r.free c ?_
   rcases hc with hc | hc
   · rw [Heap.isFree_set] at hc
     split at hc
     · cases hc
     · exact .inl hc
   · exact .inr (by simpa using hc)
 inj := r.inj
 apart := r.apart
 inS := r.inS
 gl := r.gl
theorem BlkR_setCell {μ' : Nat → AM.Loc} {S' : Nat → Prop} {l : AM.Loc} {e f : Nat} {row : List AVal} {u : AVal} (hμ : Up μ μ') (hS : ∀ m, S m → S' m) (h : BlkR μ w S l ⟨e, false, [row]⟩)
   (hu : ∀ c v, row[f]? = some c → VR μ w S c v → VR μ' w S' u v) : BlkR μ' w S' l ⟨e, false, [row.set f u]⟩ := by
 cases l with
 | free => exact h
 | dead => exact h
 | void => cases h
 | here m n e' =>
   obtain ⟨h1, h2, h3, cells, t, h4, h5, h6⟩ := h
   refine ⟨h1, h2, fun i x hx => ?_, cells, t, h4, h5, fun i x j c hx hc => ?_⟩
   · cases i with
     | zero => simp at hx; subst hx; have := h3 0 row rfl; simpa using this
     | succ i => simp at hx
   · cases i with
     | succ i => simp at hx
     | zero =>
       simp at hx
       subst hx
       rw [List.getElem?_set] at hc
       split at hc
       · rename_i e1
         subst e1
         split at hc
         · rename_i hl
           cases hc
           obtain ⟨v, hv, hR⟩ := h6 0 row f row[f] rfl (List.getElem?_eq_getElem hl)
           exact ⟨v, hv, hu _ v (List.getElem?_eq_getElem hl) hR.vr, hR.2⟩
         · cases hc
       · obtain ⟨v, hv, hR⟩ := h6 0 row j c rfl hc
         exact ⟨v, hv, hR.mono hμ (fun _ _ => rfl) hS⟩
theorem nget_set {b c : Nat} {s : NSlot} : nget (hp.set b s) c = if b = c ∧ b < hp.length then (match s with | .live k => some k | _ => none) else nget hp c := by
 unfold nget
 rw [List.getElem?_set]
 by_cases h : b = c
 · subst h
   by_cases hl : b < hp.length
   · simp only [hl, and_self, if_true]
     cases s <;> rfl
   · simp only [hl, and_false, if_false, if_true]
     rw [List.getElem?_eq_none (by omega)]
 · simp [h]
theorem nkill_nget {b : Nat} : ∀ {l : List Nat} {hp : NHeap}, b ∉ l → nget (nkill .dead hp l) b = nget hp b
 | [], hp, _ => rfl
 | c :: l, hp, h => by
   have h1 : b ≠ c := fun e => h (by simp [e])
   have h2 : b ∉ l := fun e => h (by simp [e])
   show nget (nkill .dead (hp.set c .dead) l) b = _
   rw [nkill_nget h2, nget_set, if_neg (fun e => h1 e.1.symm)]
theorem noGone_set {b : Nat} {s : NSlot} (h : noGone hp) (hs : s ≠ .gone) : noGone (hp.set b s) := fun c hc => by
 rw [List.getElem?_set] at hc
 split at hc
 · split at hc
   · cases hc; exact hs rfl
   · cases hc
 · exact h c hc
theorem noGone_kill : ∀ {l : List Nat} {hp : NHeap}, noGone hp → noGone (nkill .dead hp l)
 | [], _, h => h
 | b :: l, _, h => noGone_kill (l := l) (noGone_set h (by simp))
theorem evo_kill : ∀ {l : List Nat} {hp : NHeap}, Evo hp (nkill .dead hp l)
 | [], hp => Evo.refl hp
 | b :: l, hp => (Evo.set_dead b).trans (evo_kill (l := l))
theorem evo_row {b e : Nat} {row row' : List NVal} {fl : Bool} (hb : nget hp b = some (.cells e fl [row])) : Evo hp (hp.set b (.live (.cells e fl [row']))) := fun c n h => by
 rw [lenAt_iff] at h ⊢
 by_cases hc : b = c
 · subst hc
   obtain ⟨s, h1, h2⟩ := h
   rw [nget_iff.1 hb] at h1
   cases h1
   have hl := (List.getElem?_eq_some_iff.1 (nget_iff.1 hb)).1
   exact ⟨.live (.cells e fl [row']), by rw [List.getElem?_set_self hl], h2⟩
 · rw [List.getElem?_set_ne hc]
   exact h
theorem BlkR_setCell2 {μ' : Nat → AM.Loc} {S' : Nat → Prop} {l : AM.Loc} {e f i : Nat} {els : List (List AVal)} {row : List AVal} {u : AVal} (hμ : Up μ μ') (hS : ∀ m, S m → S' m) (h : BlkR μ w S l ⟨e, false, els⟩) (hi : els[i]? = some row)
   (hu : ∀ c v, row[f]? = some c → VR μ w S c v → VR μ' w S' u v) : BlkR μ' w S' l ⟨e, false, els.set i (row.set f u)⟩ := by
 cases l with
 | free => exact h
 | dead => exact h
 | void =>
   have h : els = [] := h
   subst h
   simp at hi
 | here m n e' =>
   obtain ⟨h1, h2, h3, cells, t, h4, h5, h6⟩ := h
   refine ⟨h1, by simpa using h2, fun r x hx => ?_, cells, t, h4, h5, fun r x j c hx hc => ?_⟩
   · rw [List.getElem?_set] at hx
     split at hx
     · split at hx
       · cases hx
         rw [List.length_set]
         exact h3 i row hi
       · cases hx
     · exact h3 r x hx
   · rw [List.getElem?_set] at hx
     split at hx
     · rename_i e0
       subst e0
       split at hx
       · cases hx
         rw [List.getElem?_set] at hc
         split at hc
         · rename_i e1
           subst e1
           split at hc
           · rename_i hl
             cases hc
             obtain ⟨v, hv, hR⟩ := h6 i row f row[f] hi (List.getElem?_eq_getElem hl)
             exact ⟨v, hv, hu _ v (List.getElem?_eq_getElem hl) hR.vr, hR.2⟩
           · cases hc
         · obtain ⟨v, hv, hR⟩ := h6 i row j c hi hc
           exact ⟨v, hv, hR.mono hμ (fun _ _ => rfl) hS⟩
       · cases hx
     · obtain ⟨v, hv, hR⟩ := h6 r x j c hx hc
       exact ⟨v, hv, hR.mono hμ (fun _ _ => rfl) hS⟩
theorem nplace_inv {st : NSt} {t : Nat} {p : List (Nat × Nat)} {q : NPlace} (h : nplace st t p = some q) : nget st.heap q.b = some (.cells q.e false q.rows) ∧ q.rows[q.i]? = some q.row := by
 unfold nplace at h
 split at h
 · split at h
   · split at h
     · rename_i h1
       split at h
       · rename_i h2
         cases h
         exact ⟨h1, h2⟩
       · cases h
     · cases h
   · cases h
 · cases h
def mvd (μ : Nat → AM.Loc) (c n : Nat) (x : Nat) : AM.Loc := if x = n then μ c else if x = c then .dead else μ x
theorem mvd_up {μ : Nat → AM.Loc} {c n : Nat} (hn : μ n = .free) : Up μ (mvd μ c n) := fun x hx => by
 unfold mvd
 rw [if_neg (fun e : x = n => hx (by rw [e]; exact hn))]
 split
 · exact .inr rfl
 · exact .inl rfl
theorem mvd_rep {μ : Nat → AM.Loc} (r : HRep μ w S ahp) {c : Nat} {k : AM.Blk} (hc : ahp.get c = some k) : HRep (mvd μ c ahp.length) w S (ahp.set c .dead ++ [.live k]) ∧ Ext μ S w (mvd μ c ahp.length) S w := by
 have hcl := Heap.get_lt hc
 have hfr : μ ahp.length = .free := r.free _ (.inr (Nat.le_refl _))
 have hup := mvd_up (c := c) hfr
 have hget : ∀ b, b < ahp.length → (ahp.set c .dead ++ [Slot.live k])[b]? = if b = c then some .dead else ahp[b]? := fun b hb => by
   rw [List.getElem?_append_left (by rw [List.length_set]; exact hb), List.getElem?_set]
   by_cases e : b = c
   · subst e; simp [hb]
   · rw [if_neg (fun h => e h.symm), if_neg e]
 have hnew : (ahp.set c .dead ++ [Slot.live k])[ahp.length]? = some (.live k) := by
   rw [List.getElem?_append_right (by simp)]
   simp
 have hat : ∀ b, b ≠ ahp.length → b ≠ c → mvd μ c ahp.length b = μ b := fun b h1 h2 => by unfold mvd; rw [if_neg h1, if_neg h2]
 have hn : mvd μ c ahp.length ahp.length = μ c := by unfold mvd; rw [if_pos rfl]
 have hcd : mvd μ c ahp.length c = .dead := by unfold mvd; rw [if_neg (by omega), if_pos rfl]
 have inv : ∀ b m n e, mvd μ c ahp.length b = .here m n e → (b = ahp.length ∧ μ c = .here m n e) ∨ (b ≠ ahp.length ∧ b ≠ c ∧ μ b = .here m n e) := fun b m n e h => by
   unfold mvd at h
   split at h
   · rename_i hb; exact .inl ⟨hb, h⟩
   · rename_i hb
     split at h
     · cases h
     · rename_i hd; exact .inr ⟨hb, hd, h⟩
 refine ⟨⟨fun b kb hb => ?_, fun b hb => ?_, fun b hb => ?_, fun b b' m n n' e e' h1 h2 => ?_, fun m ho => ?_, r.inS, r.gl⟩, ⟨rfl, rfl, rfl, Nat.le_refl _, fun _ _ _ => rfl, fun _ h => h, fun m h => .inl h, fun m ho => ?_⟩⟩
 · rw [aget_iff] at hb
   by_cases e1 : b = ahp.length
   · subst e1
     rw [hnew] at hb
     cases hb
     rw [hn]
     exact (r.live c k hc).mono hup (fun _ _ => rfl) (fun _ h => h) fun _ _ _ _ => rfl
   · have hbl : b < ahp.length := by
       have := (List.getElem?_eq_some_iff.1 hb).1
       simp at this
       omega
     rw [hget b hbl] at hb
     split at hb
     · cases hb
     · rename_i e2
       rw [hat b e1 e2]
       exact (r.live b kb (aget_iff.2 hb)).mono hup (fun _ _ => rfl) (fun _ h => h) fun _ _ _ _ => rfl
 · by_cases e1 : b = ahp.length
   · subst e1
     rw [aget_iff.2 hnew] at hb; cases hb
   · by_cases e2 : b = c
     · subst e2; exact .inr hcd
     · rw [hat b e1 e2]
       by_cases hbl : b < ahp.length
       · refine r.gone b ?_
         unfold Heap.get at hb ⊢
         rw [hget b hbl, if_neg e2] at hb
         exact hb
       · exact .inl (r.free b (.inr (by omega)))
 · have e1 : b ≠ ahp.length := fun e => by
     subst e
     rcases hb with hb | hb
     · unfold Heap.isFree at hb; rw [hnew] at hb; cases hb
     · rw [List.length_append, List.length_set, List.length_singleton] at hb; omega
   by_cases hbl : b < ahp.length
   · rcases hb with hb | hb
     · unfold Heap.isFree at hb
       rw [hget b hbl] at hb
       by_cases e2 : b = c
       · rw [if_pos e2] at hb; cases hb
       · rw [if_neg e2] at hb
         rw [hat b e1 e2]
         exact r.free b (.inl (by unfold Heap.isFree; exact hb))
     · simp at hb; omega
   · rw [hat b e1 (by omega)]
     exact r.free b (.inr (by omega))
 · rcases inv _ _ _ _ h1 with ⟨d1, k1⟩ | ⟨a1, a2, k1⟩ <;> rcases inv _ _ _ _ h2 with ⟨d2, k2⟩ | ⟨c1, c2, k2⟩
   · rw [d1, d2]
   · exact absurd (r.inj _ _ _ _ _ _ _ k2 k1) c2
   · exact absurd (r.inj _ _ _ _ _ _ _ k1 k2) a2
   · exact r.inj _ _ _ _ _ _ _ k1 k2
 · obtain ⟨b, n, e, hb⟩ := ho
   rcases inv _ _ _ _ hb with ⟨_, h⟩ | ⟨_, _, h⟩
   · exact r.apart m ⟨c, n, e, h⟩
   · exact r.apart m ⟨b, n, e, h⟩
 · obtain ⟨b, n, e, hb⟩ := ho
   rcases inv _ _ _ _ hb with ⟨_, h⟩ | ⟨_, _, h⟩
   · exact .inl ⟨c, n, e, h⟩
   · exact .inl ⟨b, n, e, h⟩
theorem nadj1_rep {ad : Adj} {μ : Nat → AM.Loc} {S : Nat → Prop} {st : NSt} {a : Act} (rep : NRep μ w S st a) :
   ∃ μ1 S1, NRep μ1 w S1 (nadj1 st ad) a ∧ Ext μ S w μ1 S1 w ∧ KeepsK st.k μ μ1 := by
 have same : ∃ μ1 S1, NRep μ1 w S1 st a ∧ Ext μ S w μ1 S1 w ∧ KeepsK st.k μ μ1 := ⟨μ, S, rep, .refl _ _ _, .refl _ _⟩
 cases ad with
 | mat t e flat =>
   simp only [nadj1]
   split
   · rename_i hz
     obtain ⟨ast, hs, hg, rep⟩ := rep
     have hrt := hs.tmps.getD (RT.undef .undef) t
     rw [hz] at hrt
     have haz := hrt.zsl_inv
     have hlen : ast.heap.length = st.heap.length := hs.heap.1.symm
     have r1 := rep.heap.more 1
     have hfr : μ ast.heap.length = .free := rep.heap.free _ (.inr (Nat.le_refl _))
     have r2 := give_rep (w' := w) (k := ⟨e, flat, []⟩) (l := .void) r1 hfr (by simp) rfl (fun _ _ => rfl) (Nat.le_refl _) (fun _ _ _ h => by cases h)
     have x2 := give_ext (w' := w) (l := .void) r1 hfr rfl rfl rfl (fun _ _ => rfl) (Nat.le_refl _) (fun _ _ _ h => by cases h)
     have hset : (ast.heap ++ List.replicate 1 Slot.free).set ast.heap.length (.live ⟨e, flat, []⟩) = ast.heap ++ [.live ⟨e, flat, []⟩] := by simp
     rw [hset] at r2
     have hu := give_up (l := .void) hfr
     have hev : Evo st.heap (st.heap ++ [.live (.cells e flat [])]) := evo_append _
     refine ⟨give μ ast.heap.length .void, S, ⟨⟨ast.tmps.set t (.sl ast.heap.length 0 0 e), ast.heap ++ [.live ⟨e, flat, []⟩], ast.k⟩, ⟨?_, ?_, hs.k⟩, noGone_append hg fun b hb => ?_, ⟨⟨by simp [rep.tmps.size], fun j v hv => ?_, rep.tmps.defers⟩, r2⟩⟩, x2, .of_up hu⟩
     · rw [hlen]
       refine (hs.tmps.mono fun _ _ h => h.mono hev).set t (RP.slw _ _ _ ?_).rt
       unfold lenAt
       simp [NBlk.len]
     · refine (A2.mono (fun _ _ h => h.mono hev) hs.heap).append (A2.single (.live _ _ ⟨rfl, rfl, fun _ => .nil, fun _ => .nil⟩))
     · cases b with
       | zero => simp at hb
       | succ b => simp at hb
     · rw [List.getElem?_set] at hv
       split at hv
       · rename_i e1
         subst e1
         split at hv
         · simp only [Option.some.injEq] at hv
           subst hv
           refine .sl _ _ _ _ _ ?_
           rw [give_same]
           have hvr : VR μ w S (ast.tmps.getD t .undef) (a.tmps.getD t undef) := rep.tmps.look rep.heap.gl (x := .tmp t) (y := .tmp t) (by simp [chkOpd])
           rw [haz] at hvr
           exact ⟨rfl, rfl, hvr.zsl_inv⟩
         · cases hv
       · exact (rep.tmps.vr j v hv).mono hu (fun _ _ => rfl) (fun _ h => h)
   · exact same
 | matC t f e flat =>
   simp only [nadj1]
   split
   · rename_i b i f' hb
     split
     · rename_i e' row hk
       split
       · rename_i hz
         obtain ⟨ast, hs, hg, rep⟩ := rep
         have hlen : ast.heap.length = st.heap.length := hs.heap.1.symm
         obtain ⟨k, hk1, hk2⟩ := hs.heap.get hk
         obtain ⟨q1, q2, q3, q4⟩ := hk2
         obtain ⟨ds, dss, qe, q5, q6⟩ := (q4 rfl).cons_inv
         rw [q6.nil_inv] at qe
         obtain ⟨ke, kf, kel⟩ := k
         simp only at q1 q2 qe
         subst q2; subst qe
         have hbl := Heap.get_lt hk1
         have r1 := rep.heap.more 1
         have hfr : μ ast.heap.length = .free := rep.heap.free _ (.inr (Nat.le_refl _))
         have r2 := give_rep (w' := w) (k := ⟨e, flat, []⟩) (l := .void) r1 hfr (by simp) rfl (fun _ _ => rfl) (Nat.le_refl _) (fun _ _ _ h => by cases h)
         have x2 := give_ext (w' := w) (l := .void) r1 hfr rfl rfl rfl (fun _ _ => rfl) (Nat.le_refl _) (fun _ _ _ h => by cases h)
         have hset : (ast.heap ++ List.replicate 1 Slot.free).set ast.heap.length (.live ⟨e, flat, []⟩) = ast.heap ++ [.live ⟨e, flat, []⟩] := by simp
         rw [hset] at r2
         have hu := give_up (l := .void) hfr
         have hbne : b ≠ ast.heap.length := by omega
         have hk3 : Heap.get (ast.heap ++ [.live ⟨e, flat, []⟩]) b = some ⟨ke, false, [ds]⟩ := by
           rw [← hk1]
           unfold Heap.get
           rw [List.getElem?_append_left hbl]
         have hB := rep.heap.live b _ hk1
         have hB' : BlkR (give μ ast.heap.length .void) w S (give μ ast.heap.length .void b) ⟨ke, false, [ds.set f (.sl ast.heap.length 0 0 e)]⟩ := by
           rw [give_other hbne]
           refine BlkR_setCell hu (fun _ h => h) hB fun c v hc hv => ?_
           have hrow : RT st.heap (row.getD f .undef) (ds.getD f .undef) := (q5.mono fun _ _ h => h.rt).getD (RT.undef _) f
           rw [hz, List.getD_eq_getElem?_getD, hc] at hrow
           have hcz : c = .zsl := hrow.zsl_inv
           rw [hcz] at hv
           refine .sl _ _ _ _ _ ?_
           rw [give_same]
           exact ⟨rfl, rfl, hv.zsl_inv⟩
         have r3 := HRep_setBlk r2 hk3 hB'
         have hsw : (ast.heap ++ [Slot.live ⟨e, flat, []⟩]).set b (.live ⟨ke, false, [ds.set f (.sl ast.heap.length 0 0 e)]⟩) = ast.heap.set b (Slot.live ⟨ke, false, [ds.set f (.sl ast.heap.length 0 0 e)]⟩) ++ [Slot.live ⟨e, flat, []⟩] := by
           rw [List.set_append_left _ _ hbl]
         rw [hsw] at r3
         have hev1 : Evo st.heap (st.heap.set b (.live (.cells e' false [row.set f (.slw st.heap.length e)]))) := evo_row hk
         have hev : Evo st.heap (st.heap.set b (.live (.cells e' false [row.set f (.slw st.heap.length e)])) ++ [.live (.cells e flat [])]) := hev1.trans (evo_append _)
         refine ⟨give μ ast.heap.length .void, S, ⟨⟨ast.tmps, ast.heap.set b (.live ⟨ke, false, [ds.set f (.sl ast.heap.length 0 0 e)]⟩) ++ [.live ⟨e, flat, []⟩], ast.k⟩, ⟨hs.tmps.mono fun _ _ h => h.mono hev, ?_, hs.k⟩, noGone_append (noGone_set hg (by simp)) fun b hb => ?_, ⟨⟨rep.tmps.size, fun j v hv => (rep.tmps.vr j v hv).mono hu (fun _ _ => rfl) (fun _ h => h), rep.tmps.defers⟩, r3⟩⟩, x2, .of_up hu⟩
         · refine A2.append (A2.set (A2.mono (fun _ _ h => h.mono hev) hs.heap) b ?_) (A2.single (.live _ _ ⟨rfl, rfl, fun _ => .nil, fun _ => .nil⟩))
           refine .live _ _ ⟨q1, rfl, fun h => (by cases h), fun _ => .single ?_⟩
           rw [hlen]
           refine A2.set (q5.mono fun _ _ h => h.mono hev) f (.p (.slw _ _ _ ?_))
           unfold lenAt
           simp [NBlk.len]
         · cases b with
           | zero => simp at hb
           | succ b => simp at hb
       · exact same
     · exact same
   · exact same
 | frz t =>
   simp only [nadj1]
   split
   · rename_i u l hv
     obtain ⟨ast, hs, hg, rep⟩ := rep
     have hrt := hs.tmps.getD (RT.undef .undef) t
     have hrv : RV st.heap (st.tmps.getD t .undef) (ast.tmps.getD t .undef) := by
       generalize st.tmps.getD t .undef = v at hrt hv
       generalize ast.tmps.getD t .undef = av at hrt
       cases hrt with
       | undef => simp [nviewV, DEEP, nviewP, nimmP] at hv
       | v h => exact h
       | tup cs ds h => simp [nviewV, DEEP, nviewP, nimmP] at hv
     obtain ⟨u', hu1, hu2⟩ := viewV_rel hs.heap hv hrv
     have hvr : VR μ w S (ast.tmps.getD t .undef) (a.tmps.getD t undef) := rep.tmps.look rep.heap.gl (x := .tmp t) (y := .tmp t) (by simp [chkOpd])
     obtain ⟨r1, x1⟩ := kill_rep rep.heap l
     have hev : Evo st.heap (nkill .dead st.heap l) := evo_kill
     refine ⟨AM.die μ l, With S μ l, ⟨⟨ast.tmps.set t u', AM.kill ast.heap l, ast.k⟩, ⟨(hs.tmps.mono fun _ _ h => h.mono hev).set t (.v (hu2.mono hev)), kill_rel hs.heap, hs.k⟩, noGone_kill hg, ⟨⟨by simp [rep.tmps.size], fun j v hj => ?_, rep.tmps.defers⟩, r1⟩⟩, x1, .of_up (AM.die_up l)⟩
     rw [List.getElem?_set] at hj
     split at hj
     · rename_i e1
       subst e1
       split at hj
       · cases hj
         exact viewV_sound rep.heap hvr hu1 _
       · cases hj
     · exact (rep.tmps.vr j v hj).mono (AM.die_up l) (fun _ _ => rfl) (fun m hm => .inl hm)
   · exact same
 | frzC t f =>
   simp only [nadj1]
   split
   · rename_i b i f' hb
     split
     · rename_i e' row hk
       split
       · rename_i u l hv
         split
         · exact same
         · rename_i hbl
           have hbl : b ∉ l := by simpa using hbl
           obtain ⟨ast, hs, hg, rep⟩ := rep
           obtain ⟨k, hk1, hk2⟩ := hs.heap.get hk
           obtain ⟨q1, q2, q3, q4⟩ := hk2
           obtain ⟨ds, dss, qe, q5, q6⟩ := (q4 rfl).cons_inv
           rw [q6.nil_inv] at qe
           obtain ⟨ke, kf, kel⟩ := k
           simp only at q1 q2 qe
           subst q2; subst qe
           have hrow : RT st.heap (row.getD f .undef) (ds.getD f .undef) := (q5.mono fun _ _ h => h.rt).getD (RT.undef _) f
           by_cases hf : f < row.length
           · have hf2 : f < ds.length := by rw [← q5.1]; exact hf
             have e1 : row.getD f .undef = row[f] := by rw [List.getD_eq_getElem?_getD, List.getElem?_eq_getElem hf]; rfl
             rw [e1] at hv
             have hrc := q5.2 f _ _ (List.getElem?_eq_getElem hf) (List.getElem?_eq_getElem hf2)
             obtain ⟨u', hu1, hu2⟩ := view_rel hs.heap hv hrc
             obtain ⟨r1, x1⟩ := kill_rep rep.heap l
             have hk3 : Heap.get (AM.kill ast.heap l) b = some ⟨ke, false, [ds]⟩ := by rw [kill_get, if_neg hbl]; exact hk1
             have hB := rep.heap.live b _ hk1
             have hB' : BlkR (AM.die μ l) w (With S μ l) (AM.die μ l b) ⟨ke, false, [ds.set f u']⟩ := by
               rw [AM.die_out hbl]
               refine BlkR_setCell (AM.die_up l) (fun m hm => .inl hm) hB fun c v hc hv => ?_
               rw [List.getElem?_eq_getElem hf2] at hc
               cases hc
               exact .imm _ _ (viewP_sound rep.heap _ _ _ _ _ hv hu1)
             have r3 := HRep_setBlk r1 hk3 hB'
             have hev1 : Evo st.heap (nkill .dead st.heap l) := evo_kill
             have hk4 : nget (nkill .dead st.heap l) b = some (.cells e' false [row]) := by rw [nkill_nget hbl]; exact hk
             have hev : Evo st.heap ((nkill .dead st.heap l).set b (.live (.cells e' false [row.set f u]))) := hev1.trans (evo_row hk4)
             refine ⟨AM.die μ l, With S μ l, ⟨⟨ast.tmps, (AM.kill ast.heap l).set b (.live ⟨ke, false, [ds.set f u']⟩), ast.k⟩, ⟨hs.tmps.mono fun _ _ h => h.mono hev, ?_, hs.k⟩, noGone_set (noGone_kill hg) (by simp), ⟨⟨rep.tmps.size, fun j v hv => (rep.tmps.vr j v hv).mono (AM.die_up l) (fun _ _ => rfl) (fun m hm => .inl hm), rep.tmps.defers⟩, r3⟩⟩, x1, .of_up (AM.die_up l)⟩
             refine A2.set (A2.mono (fun _ _ h => h.mono (evo_row hk4)) (kill_rel hs.heap)) b ?_
             refine .live _ _ ⟨q1, rfl, fun h => (by cases h), fun _ => .single ?_⟩
             exact A2.set (q5.mono fun _ _ h => h.mono hev) f hu2.c
           · exfalso
             rw [List.getD_eq_getElem?_getD, List.getElem?_eq_none (by omega)] at hv
             simp [DEEP, nviewP, nimmP] at hv
       · exact same
     · exact same
   · exact same
 | matP t p e flat =>
   simp only [nadj1]
   split
   · rename_i q hq
     split
     · rename_i hz
       obtain ⟨hk, hrw⟩ := nplace_inv hq
       obtain ⟨ast, hs, hg, rep⟩ := rep
       have hlen : ast.heap.length = st.heap.length := hs.heap.1.symm
       obtain ⟨k, hk1, hk2⟩ := hs.heap.get hk
       obtain ⟨q1, q2, q3, q4⟩ := hk2
       have qr := q4 rfl
       have hil := (List.getElem?_eq_some_iff.1 hrw).1
       obtain ⟨ds, hds⟩ : ∃ ds, k.elems[q.i]? = some ds := ⟨_, List.getElem?_eq_getElem (by rw [← qr.1]; exact hil)⟩
       have q5 := qr.2 q.i _ _ hrw hds
       obtain ⟨ke, kf, kel⟩ := k
       simp only at q1 q2 qr hds
       subst q2
       have hbl := Heap.get_lt hk1
       have r1 := rep.heap.more 1
       have hfr : μ ast.heap.length = .free := rep.heap.free _ (.inr (Nat.le_refl _))
       have r2 := give_rep (w' := w) (k := ⟨e, flat, []⟩) (l := .void) r1 hfr (by simp) rfl (fun _ _ => rfl) (Nat.le_refl _) (fun _ _ _ h => by cases h)
       have x2 := give_ext (w' := w) (l := .void) r1 hfr rfl rfl rfl (fun _ _ => rfl) (Nat.le_refl _) (fun _ _ _ h => by cases h)
       have hset : (ast.heap ++ List.replicate 1 Slot.free).set ast.heap.length (.live ⟨e, flat, []⟩) = ast.heap ++ [.live ⟨e, flat, []⟩] := by simp
       rw [hset] at r2
       have hu := give_up (l := .void) hfr
       have hbne : q.b ≠ ast.heap.length := by omega
       have hk3 : Heap.get (ast.heap ++ [.live ⟨e, flat, []⟩]) q.b = some ⟨ke, false, kel⟩ := by
         rw [← hk1]
         unfold Heap.get
         rw [List.getElem?_append_left hbl]
       have hB := rep.heap.live q.b _ hk1
       have hB' : BlkR (give μ ast.heap.length .void) w S (give μ ast.heap.length .void q.b) ⟨ke, false, kel.set q.i (ds.set q.f (.sl ast.heap.length 0 0 e))⟩ := by
         rw [give_other hbne]
         refine BlkR_setCell2 hu (fun _ h => h) hB hds fun c v hc hv => ?_
         have hrow : RT st.heap (q.row.getD q.f .undef) (ds.getD q.f .undef) := (q5.mono fun _ _ h => h.rt).getD (RT.undef _) q.f
         rw [hz, List.getD_eq_getElem?_getD, hc] at hrow
         have hcz : c = .zsl := hrow.zsl_inv
         rw [hcz] at hv
         refine .sl _ _ _ _ _ ?_
         rw [give_same]
         exact ⟨rfl, rfl, hv.zsl_inv⟩
       have r3 := HRep_setBlk r2 hk3 hB'
       rw [List.set_append_left _ _ hbl] at r3
       have hev1 : Evo st.heap (nsetC st.heap q (.slw st.heap.length e)) := Evo.set_same hk (by simp [NBlk.len])
       have hev : Evo st.heap (nsetC st.heap q (.slw st.heap.length e) ++ [.live (.cells e flat [])]) := hev1.trans (evo_append _)
       refine ⟨give μ ast.heap.length .void, S, ⟨⟨ast.tmps, ast.heap.set q.b (.live ⟨ke, false, kel.set q.i (ds.set q.f (.sl ast.heap.length 0 0 e))⟩) ++ [.live ⟨e, flat, []⟩], ast.k⟩, ⟨hs.tmps.mono fun _ _ h => h.mono hev, ?_, hs.k⟩, noGone_append (noGone_set hg (by simp)) fun b hb => ?_, ⟨⟨rep.tmps.size, fun j v hv => (rep.tmps.vr j v hv).mono hu (fun _ _ => rfl) (fun _ h => h), rep.tmps.defers⟩, r3⟩⟩, x2, .of_up hu⟩
       · refine A2.append (A2.set (A2.mono (fun _ _ h => h.mono hev) hs.heap) q.b ?_) (A2.single (.live _ _ ⟨rfl, rfl, fun _ => .nil, fun _ => .nil⟩))
         refine .live _ _ ⟨q1, rfl, fun h => (by cases h), fun _ => ?_⟩
         rw [hlen]
         refine A2.set (A2.mono (fun _ _ h => A2.mono (fun _ _ h => h.mono hev) h) qr) q.i (A2.set (q5.mono fun _ _ h => h.mono hev) q.f (.p (.slw _ _ _ ?_)))
         unfold lenAt
         simp [NBlk.len, nsetC]
       · cases b with
         | zero => simp at hb
         | succ b => simp at hb
     · exact same
   · exact same
 | mvP t p =>
   simp only [nadj1]
   split
   · rename_i q hq
     split
     · rename_i c e hz
       split
       · rename_i kb hkb
         split
         · exact same
         · rename_i hcb
           obtain ⟨hk, hrw⟩ := nplace_inv hq
           obtain ⟨ast, hs, hg, rep⟩ := rep
           have hlen : ast.heap.length = st.heap.length := hs.heap.1.symm
           obtain ⟨k, hk1, hk2⟩ := hs.heap.get hk
           obtain ⟨kc, hc1, hc2⟩ := hs.heap.get hkb
           obtain ⟨q1, q2, q3, q4⟩ := hk2
           have qr := q4 rfl
           have hil := (List.getElem?_eq_some_iff.1 hrw).1
           obtain ⟨ds, hds⟩ : ∃ ds, k.elems[q.i]? = some ds := ⟨_, List.getElem?_eq_getElem (by rw [← qr.1]; exact hil)⟩
           have q5 := qr.2 q.i _ _ hrw hds
           obtain ⟨ke, kf, kel⟩ := k
           simp only at q1 q2 qr hds
           subst q2
           have hbl := Heap.get_lt hk1
           have hcl := Heap.get_lt hc1
           have hfr : μ ast.heap.length = .free := rep.heap.free _ (.inr (Nat.le_refl _))
           obtain ⟨r2, x2⟩ := mvd_rep rep.heap hc1
           have hu := mvd_up (c := c) hfr
           have hbne : q.b ≠ ast.heap.length := by omega
           have hk3 : Heap.get (ast.heap.set c .dead ++ [.live kc]) q.b = some ⟨ke, false, kel⟩ := by
             rw [← hk1]
             unfold Heap.get
             rw [List.getElem?_append_left (by rw [List.length_set]; exact hbl), List.getElem?_set_ne hcb]
           have hB := rep.heap.live q.b _ hk1
           have hrow : RT st.heap (q.row.getD q.f .undef) (ds.getD q.f .undef) := (q5.mono fun _ _ h => h.rt).getD (RT.undef _) q.f
           rw [hz] at hrow
           obtain ⟨n0, e0, l0⟩ := hrow.slw_inv
           have hln : lenAt st.heap c n0 := l0
           have hkl : kb.len = n0 := by
             unfold lenAt at hln
             rw [nget_iff.1 hkb] at hln
             exact hln
           have hB' : BlkR (mvd μ c ast.heap.length) w S (mvd μ c ast.heap.length q.b) ⟨ke, false, kel.set q.i (ds.set q.f (.sl ast.heap.length 0 n0 e))⟩ := by
             have hat : mvd μ c ast.heap.length q.b = μ q.b := by unfold mvd; rw [if_neg hbne, if_neg (fun h => hcb h.symm)]
             rw [hat]
             refine BlkR_setCell2 hu (fun _ h => h) hB hds fun c0 v hc hv => ?_
             rw [List.getD_eq_getElem?_getD, hc] at e0
             have e0 : c0 = .sl c 0 n0 e := e0
             subst e0
             have hsl := hv.sl_inv
             refine .sl _ _ _ _ _ ?_
             have hn : mvd μ c ast.heap.length ast.heap.length = μ c := by unfold mvd; rw [if_pos rfl]
             rw [hn]
             exact hsl
           have r3 := HRep_setBlk r2 hk3 hB'
           rw [List.set_append_left _ _ (by rw [List.length_set]; exact hbl)] at r3
           have hev0 : Evo st.heap (st.heap.set c .dead) := Evo.set_dead c
           have hk4 : nget (st.heap.set c .dead) q.b = some (.cells q.e false q.rows) := by rw [nget_set, if_neg (fun h => hcb h.1)]; exact hk
           have hev1 : Evo st.heap (nsetC (st.heap.set c .dead) q (.slw st.heap.length e)) := hev0.trans (Evo.set_same hk4 (by simp [NBlk.len]))
           have hev : Evo st.heap (nsetC (st.heap.set c .dead) q (.slw st.heap.length e) ++ [.live kb]) := hev1.trans (evo_append _)
           refine ⟨mvd μ c ast.heap.length, S, ⟨⟨ast.tmps, (ast.heap.set c .dead).set q.b (.live ⟨ke, false, kel.set q.i (ds.set q.f (.sl ast.heap.length 0 n0 e))⟩) ++ [.live kc], ast.k⟩, ⟨hs.tmps.mono fun _ _ h => h.mono hev, ?_, hs.k⟩, noGone_append (noGone_set (noGone_set hg (by simp)) (by simp)) fun b hb => ?_, ⟨⟨rep.tmps.size, fun j v hv => (rep.tmps.vr j v hv).mono hu (fun _ _ => rfl) (fun _ h => h), rep.tmps.defers⟩, r3⟩⟩, x2, .of_up hu⟩
           · have hh := A2.mono (fun _ _ h => RS.mono hev h) hs.heap
             refine A2.append (A2.set (A2.set hh c .dead) q.b ?_) (A2.single ?_)
             · refine .live _ _ ⟨q1, rfl, fun h => (by cases h), fun _ => ?_⟩
               rw [hlen]
               refine A2.set (A2.mono (fun _ _ h => A2.mono (fun _ _ h => h.mono hev) h) qr) q.i (A2.set (q5.mono fun _ _ h => h.mono hev) q.f (.p (.slw _ _ _ ?_)))
               unfold lenAt
               simp [nsetC, hkl]
             · exact .live _ _ (hc2.mono hev)
           · cases b with
             | zero => simp at hb
             | succ b => simp at hb
       · exact same
     · exact same
   · exact same
theorem nadj1_facts {ad : Adj} {st : NSt} : (nadj1 st ad).k = st.k ∧ (nadj1 st ad).tmps.length = st.tmps.length ∧ ∀ t, ad.on t = false → (nadj1 st ad).tmps.getD t .undef = st.tmps.getD t .undef := by
 have oth : ∀ {t u : Nat} {v : NVal}, (u == t) = false → (st.tmps.set u v).getD t .undef = st.tmps.getD t .undef := fun {t u v} h => by
   simp only [List.getD_eq_getElem?_getD]
   rw [List.getElem?_set_ne (by simpa using h)]
 cases ad with
 | mat t e flat =>
   simp only [nadj1]
   split
   · exact ⟨rfl, by simp, fun u hu => oth hu⟩
   · exact ⟨rfl, rfl, fun _ _ => rfl⟩
 | matC t f e flat =>
   simp only [nadj1]
   split
   · split
     · split <;> exact ⟨rfl, rfl, fun _ _ => rfl⟩
     · exact ⟨rfl, rfl, fun _ _ => rfl⟩
   · exact ⟨rfl, rfl, fun _ _ => rfl⟩
 | frz t =>
   simp only [nadj1]
   split
   · exact ⟨rfl, by simp, fun u hu => oth hu⟩
   · exact ⟨rfl, rfl, fun _ _ => rfl⟩
 | frzC t f =>
   simp only [nadj1]
   split
   · split
     · split
       · split <;> exact ⟨rfl, rfl, fun _ _ => rfl⟩
       · exact ⟨rfl, rfl, fun _ _ => rfl⟩
     · exact ⟨rfl, rfl, fun _ _ => rfl⟩
   · exact ⟨rfl, rfl, fun _ _ => rfl⟩
 | matP t p e flat =>
   simp only [nadj1]
   split
   · split <;> exact ⟨rfl, rfl, fun _ _ => rfl⟩
   · exact ⟨rfl, rfl, fun _ _ => rfl⟩
 | mvP t p =>
   simp only [nadj1]
   split
   · split
     · split
       · split <;> exact ⟨rfl, rfl, fun _ _ => rfl⟩
       · exact ⟨rfl, rfl, fun _ _ => rfl⟩
     · exact ⟨rfl, rfl, fun _ _ => rfl⟩
   · exact ⟨rfl, rfl, fun _ _ => rfl⟩
theorem nadj_rep : ∀ {own : List Adj} {μ : Nat → AM.Loc} {S : Nat → Prop} {st : NSt} {a : Act}, NRep μ w S st a →
   ∃ μ1 S1, NRep μ1 w S1 (nadj own st) a ∧ Ext μ S w μ1 S1 w ∧ KeepsK st.k μ μ1 ∧ (nadj own st).k = st.k ∧ (nadj own st).tmps.length = st.tmps.length ∧
     ∀ t, own.any (Adj.on t) = false → (nadj own st).tmps.getD t .undef = st.tmps.getD t .undef
 | [], μ, S, st, a, rep => ⟨μ, S, rep, .refl _ _ _, .refl _ _, rfl, rfl, fun _ _ => rfl⟩
 | ad :: own, μ, S, st, a, rep => by
   obtain ⟨μ1, S1, rep1, x1, k1⟩ := nadj1_rep (ad := ad) rep
   have facts := nadj1_facts (ad := ad) (st := st)
   obtain ⟨μ2, S2, rep2, x2, k2, e1, e2, e3⟩ := nadj_rep (own := own) rep1
   have hm : nadj (ad :: own) st = nadj own (nadj1 st ad) := rfl
   rw [hm]
   rw [facts.1] at k2
   refine ⟨μ2, S2, rep2, x1.trans x2, k1.trans k2, e1.trans facts.1, e2.trans facts.2.1, fun u hu => ?_⟩
   simp only [List.any_cons, Bool.or_eq_false_iff] at hu
   exact (e3 u hu.2).trans (facts.2.2 u hu.1)
theorem set_left {R : NVal → AVal → Prop} {xs : List NVal} {ys : List AVal} (h : A2 R xs ys) {n : Nat} {x : NVal} (hx : ∀ y, ys[n]? = some y → R x y) : A2 R (xs.set n x) ys := by
 refine ⟨by simp [h.1], fun j a b ha hb => ?_⟩
 rw [List.getElem?_set] at ha
 split at ha
 · rename_i e
   subst e
   split at ha
   · cases ha; exact hx b hb
   · cases ha
 · exact h.2 j a b ha hb
theorem putT_rel {G : NHeap} {ts : List NVal} {as' : List AVal} (hr : A2 (RT G) ts as') : ∀ {l : List (Nat × Sh)} {x : denT l} {us : List NVal}, getT l ts = some x → A2 (RT G) us as' → A2 (RT G) (putT l x us) as'
 | [], x, us, h, hu => hu
 | p :: l, x, us, h, hu => by
   simp only [getT] at h
   split at h
   · rename_i x1 hx1
     split at h
     · rename_i y hy
       cases h
       simp only [putT]
       refine putT_rel hr hy (set_left hu fun y hy => ?_)
       have h1 := hr.getD (RT.undef .undef) p.1
       rw [List.getD_eq_getElem?_getD (l := as'), hy] at h1
       exact get_RT _ _ _ _ hx1 h1
     · cases h
   · cases h
theorem putT_length : ∀ {l : List (Nat × Sh)} {x : denT l} {us : List NVal}, (putT l x us).length = us.length
 | [], _, _ => rfl
 | p :: l, x, us => by simp only [putT]; rw [putT_length]; simp
theorem putT_frame : ∀ {l : List (Nat × Sh)} {x : denT l} {us : List NVal} {t : Nat}, l.any (fun p => p.1 == t) = false → (putT l x us).getD t .undef = us.getD t .undef
 | [], _, _, _, _ => rfl
 | p :: l, x, us, t, h => by
   simp only [List.any_cons, Bool.or_eq_false_iff, beq_eq_false_iff_ne, ne_eq] at h
   simp only [putT]
   rw [putT_frame h.2]
   simp only [List.getD_eq_getElem?_getD]
   rw [List.getElem?_set_ne h.1]
theorem putL_rep {sh : LSh} {st0 st : NSt} {x : sh.den} {a : Act} (rep : NRep μ w S st a) (h : getL sh st = some x) (hk : st.k = st0.k) (hl : st.tmps.length = st0.tmps.length) (hsame : ∀ t, sh.same.contains t = true → st.tmps.getD t .undef = st0.tmps.getD t .undef) : NRep μ w S (putL sh st0 x) a := by
 obtain ⟨ast, hs, hg, rep⟩ := rep
 unfold getL at h
 split at h
 · rename_i x1 hx1
   split at h
   · rename_i y hy
     cases h
     have hev := getH_len hy
     refine ⟨ast, ⟨?_, getH_rel hy hs.heap, hs.k.trans hk⟩, putH_noGone, rep⟩
     refine putT_rel (hs.tmps.mono fun _ _ h => h.mono hev) hx1 ⟨by rw [nmask_length, ← hl]; exact hs.tmps.1, fun j v c hv hc => ?_⟩
     rw [nmask_get, Option.map_eq_some_iff] at hv
     obtain ⟨v0, hv0, rfl⟩ := hv
     split
     · rename_i hj
       have e := hsame j hj
       rw [getElem?_of_getD hv0] at e
       have hlt : j < st.tmps.length := by rw [hl]; exact (List.getElem?_eq_some_iff.1 hv0).1
       have hr := hs.tmps.2 j _ c (List.getElem?_eq_getElem hlt) hc
       rw [← getElem?_of_getD (List.getElem?_eq_getElem hlt), e] at hr
       exact hr.mono hev
     · exact .undef _
   · cases h
 · cases h
theorem putL_length {sh : LSh} {st0 : NSt} {x : sh.den} : (putL sh st0 x).tmps.length = st0.tmps.length := by
 simp only [putL]; rw [putT_length, nmask_length]
theorem putL_frame {sh : LSh} {st0 : NSt} {x : sh.den} {t : Nat} (h1 : sh.same.contains t = true) (h2 : sh.tmps.any (fun p => p.1 == t) = false) : (putL sh st0 x).tmps.getD t .undef = st0.tmps.getD t .undef := by
 simp only [putL]; rw [putT_frame h2, nmask_getD h1]
def goneIds (hp : NHeap) : List Nat := (List.range hp.length).filter fun b => match hp[b]? with | some .gone => true | _ => false
theorem nkill_at {s : NSlot} {b : Nat} : ∀ {l : List Nat} {hp : NHeap}, (nkill s hp l)[b]? = if b ∈ l ∧ b < hp.length then some s else hp[b]?
 | [], hp => by simp [nkill]
 | c :: l, hp => by
   simp only [nkill]
   rw [nkill_at, List.getElem?_set, List.length_set]
   by_cases h1 : b ∈ l ∧ b < hp.length
   · rw [if_pos h1, if_pos ⟨List.mem_cons_of_mem _ h1.1, h1.2⟩]
   · rw [if_neg h1]
     by_cases h2 : c = b
     · subst h2
       rw [if_pos rfl]
       by_cases h3 : c < hp.length
       · rw [if_pos h3, if_pos ⟨List.mem_cons_self, h3⟩]
       · rw [if_neg h3, if_neg (fun h => h3 h.2), List.getElem?_eq_none (by omega)]
     · rw [if_neg h2, if_neg]
       rintro ⟨h3, h4⟩
       cases h3 with
       | head => exact h2 rfl
       | tail _ h3 => exact h1 ⟨h3, h4⟩
theorem nshut_eq : nshut hp = nkill .dead hp (goneIds hp) := by
 apply List.ext_getElem?
 intro b
 rw [nkill_at]
 simp only [nshut, List.getElem?_map]
 by_cases h : b ∈ goneIds hp ∧ b < hp.length
 · rw [if_pos h]
   have h1 := h.1
   simp only [goneIds, List.mem_filter] at h1
   have h2 := h1.2
   split at h2
   · rename_i e; rw [e]; rfl
   · cases h2
 · rw [if_neg h]
   cases hb : hp[b]? with
   | none => rfl
   | some s =>
     cases s with
     | gone =>
       exfalso
       have hl := (List.getElem?_eq_some_iff.1 hb).1
       exact h ⟨by simp only [goneIds, List.mem_filter, List.mem_range]; exact ⟨hl, by rw [hb]⟩, hl⟩
     | _ => rfl
theorem nshut_noGone : noGone (nshut hp) := fun b hb => by
 simp only [nshut, List.getElem?_map, Option.map_eq_some_iff] at hb
 obtain ⟨s, _, hs⟩ := hb
 cases s <;> cases hs
theorem nshut_rep {st : NSt} {ast : St} {a : Act} (hs : SR st ast) (rep : Rep μ w S ast a) : ∃ μ1 S1, NRep μ1 w S1 ⟨st.tmps, nshut st.heap, st.k⟩ a ∧ Ext μ S w μ1 S1 w ∧ Up μ μ1 := by
 obtain ⟨r1, x1⟩ := kill_rep rep.heap (goneIds st.heap)
 refine ⟨_, _, ⟨⟨ast.tmps, AM.kill ast.heap (goneIds st.heap), ast.k⟩, ⟨?_, ?_, hs.k⟩, nshut_noGone, ⟨⟨rep.tmps.size, fun t v hv => ?_, rep.tmps.defers⟩, r1⟩⟩, x1, die_up _⟩
 · rw [nshut_eq]; exact hs.tmps.mono fun _ _ h => h.mono (nkill_evo _ _)
 · rw [nshut_eq]; exact kill_rel hs.heap
 · exact (rep.tmps.vr t v hv).mono (die_up _) (fun _ _ => rfl) (fun m h => .inl h)
end
end NM
end Go.Proofs.YtjngkfdclcgfhaaGreatDoor
end
