/-
  What the proof of SpecTexts leans on, part 6. (Many texts laid together by program.)
-/
import Derived.Test.YtjngkfdclcgfhaaGreatDoorPkTe
set_option linter.unnecessarySimpa false
set_option linter.unusedSimpArgs false
set_option linter.unusedVariables false
section
namespace Go.Proofs.YtjngkfdclcgfhaaGreatDoor
namespace AM
section
variable {P : Program} {μ μ' : Nat → Loc} {w w' : World} {S S' : Nat → Prop} {hp : Heap}
structure Src (P : Program) (μ : Nat → Loc) (w : World) (S : Nat → Prop) (flat : Bool) (e : Nat) (ys : List (List AVal)) (cx : Value) (news : List Value) : Prop where
 len : (Builtin.lenOf cx).run P w = .ok ys.length w
 first : (Builtin.firstCells e ys.length cx).run P w = .ok news.toArray w
 first' : (Builtin.firstCells e ys.length cx).run P w.drew = .ok news.toArray w.drew
 size : news.length = ys.length * e
 row : ∀ (i : Nat) (y : List AVal), ys[i]? = some y → y.length = e
 one : ∀ u, u ∈ news → oneV u = true
 cell : ∀ (i : Nat) (y : List AVal) (j : Nat) (c : AVal), ys[i]? = some y → y[j]? = some c → ∃ u, news[i * e + j]? = some u ∧ VR μ w S c u ∧ (flat = true → IR w S c u)
theorem one_of_cells {e : Nat} {ys : List (List AVal)} {news : List Value} (he : e ≠ 0) (hs : news.length = ys.length * e) (hr : ∀ (i : Nat) (y : List AVal), ys[i]? = some y → y.length = e)
   (hc : ∀ (i : Nat) (y : List AVal) (j : Nat) (c : AVal), ys[i]? = some y → y[j]? = some c → ∃ u, news[i * e + j]? = some u ∧ oneV u = true) : ∀ u, u ∈ news → oneV u = true := by
 intro u hu
 obtain ⟨p, hp⟩ := List.getElem?_of_mem hu
 have hpl := (List.getElem?_eq_some_iff.1 hp).1
 have hd : p / e < ys.length := by rw [hs] at hpl; exact (Nat.div_lt_iff_lt_mul (by omega)).2 hpl
 have hm : p % e < e := Nat.mod_lt _ (by omega)
 have hy : ys[p / e]? = some ys[p / e] := List.getElem?_eq_getElem hd
 have hyl := hr _ _ hy
 obtain ⟨u', hu', ho⟩ := hc (p / e) ys[p / e] (p % e) (ys[p / e]'hd)[p % e] hy (List.getElem?_eq_getElem (by omega))
 rw [show p / e * e + p % e = p by rw [Nat.mul_comm]; exact Nat.div_add_mod p e, hp] at hu'
 cases hu'
 exact ho
theorem src_sound (r : HRep μ w S hp) {e : Nat} (he : e ≠ 0) {x : AVal} {cx : Value} {ys : List (List AVal)} (hx : VR μ w S x cx) (h : appended hp e x = some ys) : ∃ news, Src P μ w S (rowsFlat hp x) e ys cx news := by
 -- rows that lie one behind the other from a place on
 have key : ∀ (flat : Bool) (m o cap : Nat), cx = .slice (some ⟨m, o, none⟩) ys.length cap → (∀ (i : Nat) (y : List AVal), ys[i]? = some y → y.length = e) →
     (∀ (i : Nat) (y : List AVal) (j : Nat) (c : AVal), ys[i]? = some y → y[j]? = some c → ∃ u, w.cell? ⟨m, o + (i * e + j), none⟩ = some u ∧ VR μ w S c u ∧ oneV u = true ∧ (flat = true → IR w S c u)) → ∃ news, Src P μ w S flat e ys cx news := by
   intro flat m o cap hcx hrow hcell
   subst hcx
   have hat : ∀ p, p < ys.length * e → ∃ u, w.cell? ⟨m, o + p, none⟩ = some u := fun p hp => by
     have hd : p / e < ys.length := (Nat.div_lt_iff_lt_mul (by omega)).2 hp
     have hm : p % e < e := Nat.mod_lt _ (by omega)
     have hy : ys[p / e]? = some ys[p / e] := List.getElem?_eq_getElem hd
     have hyl := hrow _ _ hy
     obtain ⟨u, hu, _⟩ := hcell (p / e) ys[p / e] (p % e) (ys[p / e]'hd)[p % e] hy (List.getElem?_eq_getElem (by omega))
     rw [show p / e * e + p % e = p by rw [Nat.mul_comm]; exact Nat.div_add_mod p e] at hu
     exact ⟨u, hu⟩
   have hget : ∀ p, p < ys.length * e → ((List.range (ys.length * e)).map fun p => (w.cell? ⟨m, o + p, none⟩).getD undef)[p]? = w.cell? ⟨m, o + p, none⟩ := fun p hp => by
     rw [List.getElem?_map, List.getElem?_range hp]
     obtain ⟨u, hu⟩ := hat p hp
     simp [hu]
   have hcell2 : ∀ (i : Nat) (y : List AVal) (j : Nat) (c : AVal), ys[i]? = some y → y[j]? = some c → ∃ u, ((List.range (ys.length * e)).map fun p => (w.cell? ⟨m, o + p, none⟩).getD undef)[i * e + j]? = some u ∧ VR μ w S c u ∧ oneV u = true ∧ (flat = true → IR w S c u) := fun i y j c hi hj => by
     have hil := (List.getElem?_eq_some_iff.1 hi).1
     have hjl := (List.getElem?_eq_some_iff.1 hj).1
     rw [hrow i y hi] at hjl
     obtain ⟨u, hu, hr⟩ := hcell i y j c hi hj
     exact ⟨u, by rw [hget _ (row_lt hjl hil)]; exact hu, hr⟩
   refine ⟨(List.range (ys.length * e)).map fun p => (w.cell? ⟨m, o + p, none⟩).getD undef, by simp [Builtin.lenOf], ?_, ?_, by simp, hrow, ?_, fun i y j c hi hj => ?_⟩
   · refine run_firstCells_some (P := P) w e ys.length ⟨m, o, none⟩ ys.length cap _ (by simp) (fun j v hj => ?_)
     have hjl := (List.getElem?_eq_some_iff.1 hj).1
     rw [add_mk, ← hget j (by simpa using hjl)]
     exact hj
   · refine run_firstCells_some (P := P) w.drew e ys.length ⟨m, o, none⟩ ys.length cap _ (by simp) (fun j v hj => ?_)
     have hjl := (List.getElem?_eq_some_iff.1 hj).1
     show w.cell? _ = _
     rw [add_mk, ← hget j (by simpa using hjl)]
     exact hj
   · exact one_of_cells he (by simp) hrow (fun i y j c hi hj => by obtain ⟨u, h1, _, h2, _⟩ := hcell2 i y j c hi hj; exact ⟨u, h1, h2⟩)
   · obtain ⟨u, h1, h2, _, h3⟩ := hcell2 i y j c hi hj; exact ⟨u, h1, h2, h3⟩
 have none_ : ∀ (flat : Bool) A cap, cx = .slice A 0 cap → ys = [] → ∃ news, Src P μ w S flat e ys cx news := by
   intro flat A cap hcx hys
   subst hcx
   subst hys
   have hf : ∀ w : World, (Builtin.firstCells e ([] : List (List AVal)).length (.slice A 0 cap)).run P w = .ok #[] w := fun w => by
     cases A with
     | none => simp [Builtin.firstCells]
     | some a => simp [Builtin.firstCells, Go.loadCells, Go.loadCellsFrom]
   exact ⟨[], by simp [Builtin.lenOf], hf w, hf w.drew, by simp, by simp, by simp, by simp⟩
 unfold appended at h
 split at h
 · rename_i e' xs
   split at h
   · rename_i he'
     subst he'
     simp only [Option.some.injEq] at h
     subst h
     have hir := hx.imm_inv
     cases hir with
     | imm e' xs A cap g hl hn hel hcell hsub =>
       cases xs with
       | nil => exact none_ _ A cap rfl rfl
       | cons x0 xs =>
         have h0 := hel 0 x0 rfl
         obtain ⟨m, o, rfl, hm, _⟩ := hcell 0 x0 0 (x0[0]'(by omega)) rfl (by simp)
         refine key _ m o cap rfl hel (fun i y j c hi hj => ?_)
         obtain ⟨m', o', hA, hm', hcc⟩ := hcell i y j c hi hj
         cases hA
         exact ⟨_, hcc, .imm _ _ (hsub i y j c hi hj), (hsub i y j c hi hj).one, fun _ => hsub i y j c hi hj⟩
   · cases h
 · simp only [Option.some.injEq] at h
   subst h
   obtain ⟨A, rfl⟩ := hx.zsl_inv
   exact none_ _ A 0 rfl rfl
 · rename_i b off len e1
   split at h
   · rename_i k hk
     split at h
     · rename_i hcond
       obtain ⟨hke, hlen⟩ := hcond
       simp only [Option.some.injEq] at h
       subst h
       have hb := r.live b k hk
       have hsl := hx.sl_inv
       have hyl : ((k.elems.drop off).take len).length = len := by simp; omega
       have hrow : ∀ (i : Nat) (y : List AVal), ((k.elems.drop off).take len)[i]? = some y → k.elems[off + i]? = some y := fun i y hi => by
         rw [List.getElem?_take] at hi
         split at hi
         · rw [List.getElem?_drop] at hi; exact hi
         · cases hi
       cases hμ : μ b with
       | free => rw [hμ] at hb; exact hb.elim
       | dead => rw [hμ] at hb; exact hb.elim
       | void =>
         rw [hμ] at hb hsl
         obtain ⟨_, rfl, A, rfl⟩ := hsl
         exact none_ _ A 0 rfl (by simp)
       | here m n e2 =>
         rw [hμ] at hsl
         obtain ⟨rfl, cap, rfl, hcap, hlc⟩ := hsl
         have hke2 : k.e = e2 := by rw [hμ] at hb; exact hb.1.symm
         refine key _ m (off * e2) cap (by rw [hyl]) (fun i y hi => ?_) (fun i y j c hi hj => ?_)
         · rw [hμ] at hb
           rw [← hke]
           exact hb.2.2.1 _ _ (hrow i y hi)
         · obtain ⟨m', n', u, hl, _, _, hcell, hr⟩ := blk_cells hb (hrow i y hi) hj
           rw [hμ] at hl
           cases hl
           refine ⟨u, ?_, hr.vr, hr.2, fun hfl => ?_⟩
           · rw [← hke, show off * k.e + (i * k.e + j) = (off + i) * k.e + j by rw [Nat.add_mul]; omega]
             exact hcell
           · simp only [rowsFlat, hk] at hfl
             have := hr.1
             rw [if_pos hfl] at this
             exact this
     · cases h
   · cases h
 · rename_i s
   split at h
   · rename_i he1
     subst he1
     simp only [Option.some.injEq] at h
     subst h
     obtain ⟨bs, rfl, rfl⟩ := hx.str_inv
     have hsz : bs.data.toList.length = bs.size := by simp
     have hff : ∀ w : World, (Builtin.firstCells 1 (bs.data.toList.map fun c => [AVal.int .u8 (c.toNat : Int)]).length (.string bs)).run P w = .ok (bs.data.toList.map fun b => Value.int .u8 b.toNat).toArray w := fun w => by
       have hl : (bs.data.toList.map fun c => [AVal.int .u8 (c.toNat : Int)]).length = bs.size := by simp
       rw [hl]
       show Result.ok ((bs.extract 0 bs.size).data.map fun b => Value.int .u8 b.toNat) w = _
       have he : (bs.extract 0 bs.size).data = bs.data := by simp
       rw [he]
       congr 1
       apply Array.ext'
       simp
     refine ⟨bs.data.toList.map fun b => .int .u8 b.toNat, by simp [Builtin.lenOf], hff w, hff w.drew, by simp, fun i y hi => ?_, fun u hu => ?_, fun i y j c hi hj => ?_⟩
     · rw [List.getElem?_map] at hi
       simp only [Option.map_eq_some_iff] at hi
       obtain ⟨b, _, rfl⟩ := hi
       rfl
     · obtain ⟨b, _, rfl⟩ := List.mem_map.1 hu; rfl
     · rw [List.getElem?_map] at hi
       simp only [Option.map_eq_some_iff] at hi
       obtain ⟨b, hb, rfl⟩ := hi
       cases j with
       | zero =>
         simp at hj
         subst hj
         exact ⟨.int .u8 b.toNat, by simp [hb], .imm _ _ (.int _ _), fun _ => .int _ _⟩
       | succ j => simp at hj
   · cases h
 · cases h
theorem settleRows_sound (r : HRep μ w S hp) {flat : Bool} {e : Nat} (he : e ≠ 0) {x : AVal} {cx : Value} {ys zs : List (List AVal)} {news : List Value} {hp1 : Heap} (hs : Src P μ w S (rowsFlat hp x) e ys cx news) (h : settleRows hp flat x ys = some (zs, hp1)) :
   ∃ μ1 S1, HRep μ1 w S1 hp1 ∧ Ext μ S w μ1 S1 w ∧ Up μ μ1 ∧ zs.length = ys.length ∧ (∀ (i : Nat) (z : List AVal), zs[i]? = some z → z.length = e) ∧ (∀ b, hp1.get b ≠ none → μ1 b = μ b ∧ hp1.get b = hp.get b) ∧
     ∀ (i : Nat) (z : List AVal) (j : Nat) (c : AVal), zs[i]? = some z → z[j]? = some c → ∃ u, news[i * e + j]? = some u ∧ Blk.R μ1 w S1 flat c u := by
 unfold settleRows at h
 split at h
 · rename_i hf
   simp only [Option.some.injEq, Prod.mk.injEq] at h
   obtain ⟨rfl, rfl⟩ := h
   refine ⟨μ, S, r, Ext.refl _ _ _, Up.refl _, rfl, hs.row, fun b _ => ⟨rfl, rfl⟩, fun i z j c hi hj => ?_⟩
   obtain ⟨u, h1, h2, h3⟩ := hs.cell i z j c hi hj
   refine ⟨u, h1, ?_, hs.one u (List.mem_of_getElem? h1)⟩
   split
   · rename_i hfl
     subst hfl
     simp only [Bool.not_true, Bool.or_false] at hf
     exact h3 hf
   · exact h2
 · rename_i hf
   have hfl : flat = true := by cases flat <;> simp at hf ⊢
   split at h
   · rename_i zs' l hall
     simp only [Option.some.injEq, Prod.mk.injEq] at h
     obtain ⟨rfl, rfl⟩ := h
     obtain ⟨h1, h2⟩ := kill_rep r l
     obtain ⟨hl, hg⟩ := allOn_get hall
     refine ⟨die μ l, With S μ l, h1, h2, die_up l, hl, fun i z hi => ?_, fun b hb => ?_, fun i z j c hi hj => ?_⟩
     · obtain ⟨y, li, h3, h4, _⟩ := hg i z hi
       rw [(allOn_get h4).1]
       exact hs.row i y h3
     · rw [kill_get] at hb ⊢
       split at hb
       · exact absurd rfl hb
       · rename_i hbl; rw [if_neg hbl]; exact ⟨die_out hbl, rfl⟩
     · obtain ⟨y, li, h3, h4, h5⟩ := hg i z hi
       obtain ⟨h6, h7⟩ := allOn_get h4
       obtain ⟨c0, lj, h8, h9, h10⟩ := h7 j c hj
       obtain ⟨u, hu, hvr, _⟩ := hs.cell i y j c0 h3 h8
       have hir := (viewP_sound r DEEP c0 c lj u hvr h9).later (With.mono fun b hb => h5 b (h10 b hb))
       exact ⟨u, hu, by rw [if_pos hfl]; exact hir, hir.one⟩
   · cases h
theorem move_rep (r : HRep μ w S hp) {b id m n : Nat} {k k' : Blk} {cells : Array Value} {t : TypeId} (hk : hp.get b = some k) (hμ : μ b = .here m n k'.e) (hf : hp.isFree id = true) (hne : id ≠ b) (hh : w'.heap[m]? = some (.cells cells t (0, 0)))
   (hw : ∀ q, q ≠ m → w'.heap[q]? = w.heap[q]?) (hsz : w'.heap.size = w.heap.size) (hos : w'.os = w.os) (htape : w'.tape = w.tape) (hout : w'.output = w.output)
   (hs : cells.size = n * k'.e) (hn : k'.elems.length ≤ n) (hx : ∀ (i : Nat) (x : List AVal), k'.elems[i]? = some x → x.length = k'.e)
   (hc : ∀ (i : Nat) (x : List AVal) (j : Nat) (c : AVal), k'.elems[i]? = some x → x[j]? = some c → ∃ v, cells[i * k'.e + j]? = some v ∧ Blk.R μ w S k'.flat c v) :
   HRep (give (die μ [b]) id (.here m n k'.e)) w' S ((kill hp [b]).set id (.live k')) ∧ Ext μ S w (give (die μ [b]) id (.here m n k'.e)) S w' ∧ Up μ (give (die μ [b]) id (.here m n k'.e)) := by
 have hfree : μ id = .free := r.free id (.inl hf)
 have hdf : die μ [b] id = .free := by rw [die_out (by simp [hne])]; exact hfree
 have hup : Up μ (give (die μ [b]) id (.here m n k'.e)) := (die_up [b]).trans (give_up hdf)
 have hown : Owned μ m := ⟨b, n, k'.e, hμ⟩
 have hS : ∀ q, S q → w'.heap[q]? = w.heap[q]? := fun q hq => hw q (fun e => r.apart m hown (by rw [← e]; exact hq))
 have hlt : id < (kill hp [b]).length := by rw [kill_length]; exact Heap.free_lt hf
 have other : ∀ c, c ≠ id → c ≠ b → give (die μ [b]) id (.here m n k'.e) c = μ c := fun c h1 h2 => by rw [give_other h1, die_out (by simp [h2])]
 have atb : give (die μ [b]) id (.here m n k'.e) b = .dead := by
   rw [give_other (fun e => hne e.symm)]
   unfold die
   rw [hμ]
   simp
 have here_inv : ∀ {c m' n' e'}, give (die μ [b]) id (.here m n k'.e) c = .here m' n' e' → (c = id ∧ m' = m) ∨ (c ≠ id ∧ c ≠ b ∧ μ c = .here m' n' e') := fun {c m' n' e'} h => by
   by_cases h1 : c = id
   · rw [h1, give_same] at h; cases h; exact .inl ⟨h1, rfl⟩
   · by_cases h2 : c = b
     · rw [h2, atb] at h; cases h
     · rw [other c h1 h2] at h; exact .inr ⟨h1, h2, h⟩
 refine ⟨⟨fun c k2 hk2 => ?_, fun c hc' => ?_, fun c hc' => ?_, fun c c' m' n' n'' e' e'' h1 h2 => ?_, fun q hq hSq => ?_, fun q hq => ?_, r.gl.mono hS (fun _ h => h)⟩, ⟨hos, htape, hout, by omega, fun q hq ho => hw q (fun e => ho (by rw [e]; exact hown)), fun _ h => h, fun _ h => .inl h, fun q hq => ?_⟩, hup⟩
 · rw [Heap.get_set] at hk2
   split at hk2
   · rename_i h
     obtain ⟨rfl, _⟩ := h
     cases hk2
     rw [give_same]
     exact ⟨rfl, hn, hx, cells, t, hh, hs, fun i x j c hi hj => by
       obtain ⟨v, hv, hr⟩ := hc i x j c hi hj
       exact ⟨v, hv, hr.mono hup hS (fun _ h => h)⟩⟩
   · rename_i h
     have h1 : c ≠ id := fun e => h ⟨e.symm, hlt⟩
     rw [kill_get] at hk2
     split at hk2
     · cases hk2
     · rename_i h2
       have h2 : c ≠ b := by simpa using h2
       rw [other c h1 h2]
       exact (r.live c k2 hk2).mono hup hS (fun _ h => h) (fun m' n' e' he => hw m' (fun e => h2 (r.inj c b m n' n e' k'.e (by rw [← e]; exact he) hμ)))
 · rw [Heap.get_set] at hc'
   split at hc'
   · cases hc'
   · rename_i h
     have h1 : c ≠ id := fun e => h ⟨e.symm, hlt⟩
     by_cases h2 : c = b
     · rw [h2, atb]; exact .inr rfl
     · rw [other c h1 h2]
       rw [kill_get, if_neg (by simp [h2])] at hc'
       exact r.gone c hc'
 · have hfc : hp.isFree c = true ∨ hp.length ≤ c := by
     rcases hc' with h | h
     · rw [Heap.isFree_set] at h
       split at h
       · cases h
       · exact .inl (kill_free _ _ _ h)
     · exact .inr (by simpa [kill_length] using h)
   have hfree2 := r.free c hfc
   by_cases h1 : c = id
   · subst h1
     rcases hc' with h | h
     · rw [Heap.isFree_set, if_pos ⟨rfl, hlt⟩] at h; cases h
     · simp [kill_length] at h; have := Heap.free_lt hf; omega
   · have h2 : c ≠ b := fun e => by rw [e, hμ] at hfree2; cases hfree2
     rw [other c h1 h2]
     exact hfree2
 · rcases here_inv h1 with ⟨a1, a2⟩ | ⟨a1, a2, a3⟩ <;> rcases here_inv h2 with ⟨b1, b2⟩ | ⟨b1, b2, b3⟩
   · rw [a1, b1]
   · subst a2; exact absurd (r.inj c' b _ n'' n e'' k'.e b3 hμ) b2
   · subst b2; exact absurd (r.inj c b _ n' n e' k'.e a3 hμ) a2
   · exact r.inj c c' m' n' n'' e' e'' a3 b3
 · obtain ⟨c, n', e', hc''⟩ := hq
   rcases here_inv hc'' with ⟨a1, a2⟩ | ⟨a1, a2, a3⟩
   · rw [a2] at hSq; exact r.apart m hown hSq
   · exact r.apart q ⟨c, n', e', a3⟩ hSq
 · rw [hsz]; exact r.inS q hq
 · obtain ⟨c, n', e', hc''⟩ := hq
   rcases here_inv hc'' with ⟨a1, a2⟩ | ⟨a1, a2, a3⟩
   · rw [a2]; exact .inl hown
   · exact .inl ⟨c, n', e', a3⟩
def notIntD : TypeDesc → Bool
 | .slice _ => true
 | .string => true
 | _ => false
def chkAppend (P : Program) (op : Op) (ao : AOp) : Bool :=
 match op, ao with
 | .call { callee := .builtin .append, args, argTypes }, .append e bytes flat s' x' => (match args.toList, argTypes.toList with
   | [s, x], [t, u] => chkOpd s s' && chkOpd x x' && e != 0 && (match P.underlying t with
     | some (.slice el) => szB P el e && bytesB P el bytes && (match P.info? el with | some i => (match i.zero with | some z => z.cells.size == e | none => false) | none => false)
     | _ => false) && (match P.underlying u with | some d => notIntD d | none => false)
   | _, _ => false)
 | _, _ => false
section run
variable {t u ty el : TypeId} {i : TypeInfo} {z : Value} {cx : Value} {n : Nat} {news : List Value}
theorem run_append_fits (ht : P.underlying t = some (.slice el)) {d : TypeDesc} (hu : P.underlying u = some d) (hd : notIntD d = true) (hi : P.info? el = some i) (hlen : (Builtin.lenOf cx).run P w = .ok n w) (hfirst : (Builtin.firstCells i.size n cx).run P w = .ok news.toArray w)
   {base : Option Addr} {sLen sCap : Nat} (hfit : sLen + n ≤ sCap) :
   (Builtin.append_ #[t, u] ty #[.slice base sLen sCap, cx]).run P w = ((match base with | some a => storeCells (a.add (sLen * i.size)) news | none => pure ()).run P w).andThen fun _ w' => .ok (.slice base (sLen + n) sCap) w' := by
 cases d <;> simp [notIntD] at hd <;> cases base <;> simp [Builtin.append_, run_underlying ht, run_underlying hu, sizeOf, typeInfo, hi, hlen, hfirst, hfit]
theorem run_append_grows (ht : P.underlying t = some (.slice el)) {d : TypeDesc} (hu : P.underlying u = some d) (hd : notIntD d = true) (hi : P.info? el = some i) (hz : i.zero = some z) (hlen : (Builtin.lenOf cx).run P w = .ok n w) (hfirst : (Builtin.firstCells i.size n cx).run P w = .ok news.toArray w)
   (hfirst' : (Builtin.firstCells i.size n cx).run P w.drew = .ok news.toArray w.drew)
   {base : Option Addr} {sLen sCap : Nat} {olds : List Value} (holds : (Builtin.firstCells i.size sLen (.slice base sLen sCap)).run P w.drew = .ok olds.toArray w.drew)
   (hg : sCap < sLen + n) (h63 : sLen + n ≤ 9223372036854775807) (hb : (sLen + n) * i.bytes ≤ 140737488355328) :
   (Builtin.append_ #[t, u] ty #[.slice base sLen sCap, cx]).run P w =
     .ok (.slice (some ⟨w.heap.size, 0, none⟩) (sLen + n) (grownCap w (sLen + n) sCap el)) (w.drew.alloc (.cells (olds.toArray ++ news.toArray ++ Builtin.zeroCells z.cells (grownCap w (sLen + n) sCap el - (sLen + n))) el)) := by
 have hfit := growslice_fits hg hb
 have h1 : ¬ (sLen + n ≤ sCap) := by omega
 have h2 : ¬ (9223372036854775807 < ((sLen : Int) + (n : Int))) := by omega
 have h3 : ¬ (281474976710656 < Builtin.nextslicecap (sLen + n) sCap * i.bytes) := by omega
 cases d <;> simp [notIntD] at hd <;>
   (simp [Builtin.append_, run_underlying ht, run_underlying hu, sizeOf, typeInfo, zeroValue, hi, hz, hlen, h1, h2, h3, Question.forced, hfirst', holds, newRow, grownCap]
    congr 2
    apply Array.ext'
    simp [List.append_assoc])
end run
theorem smallB_inv {n bytes : Nat} (h : smallB n bytes = true) : n * bytes ≤ 1099511627776 ∧ n ≤ 4294967296 := by
 simpa [smallB] using h
set_option maxHeartbeats 800000 in
theorem append_sound (r : HRep μ w S hp) {ρ : Operand → Value} {rr : Opd → AVal} (hρ : ∀ x y, chkOpd x y = true → VR μ w S (rr y) (ρ x)) {o : Oper} {e bytes id : Nat} {flat : Bool} {s' x' : Opd} {v : AVal} {hp' : Heap}
   (hc : chkAppend P o.op (.append e bytes flat s' x') = true) (h : appendVal hp id e bytes flat (rr s') (rr x') = some (v, hp')) : Makes P μ w S (execOp ρ o) v hp' := by
 obtain ⟨dst, op, ty, pos, aft, guard⟩ := o
 simp only at hc
 unfold chkAppend at hc
 split at hc
 case h_2 => cases hc
 rename_i args argTypes e0 bytes0 flat0 s0 x0 heq
 cases heq
 split at hc
 case h_2 => cases hc
 rename_i s x t u ha ht
 have ha' : args = #[s, x] := by rw [← Array.toList_inj]; exact ha
 have ht' : argTypes = #[t, u] := by rw [← Array.toList_inj]; exact ht
 subst ha'
 subst ht'
 simp only [Bool.and_eq_true, bne_iff_ne] at hc
 obtain ⟨⟨⟨⟨hs, hx⟩, he⟩, h1⟩, h2⟩ := hc
 split at h1
 case h_2 => cases h1
 rename_i el htu
 simp only [Bool.and_eq_true] at h1
 obtain ⟨⟨h3, h4⟩, h5⟩ := h1
 split at h2
 case h_2 => cases h2
 rename_i d hud
 obtain ⟨i, hi, hisz⟩ := szB_inv h3
 have hiby : i.bytes = bytes := by unfold bytesB at h4; rw [hi] at h4; simpa using h4
 rw [hi] at h5
 simp only at h5
 split at h5
 case h_2 => cases h5
 rename_i z hz
 have hzs : z.cells.size = e := by simpa using h5
 -- the abstract append
 unfold appendVal at h
 split at h
 case h_1 => cases h
 rename_i ys hys
 split at h
 case h_1 => cases h
 rename_i zs hp1 hset
 split at h
 case isTrue => cases h
 rename_i hfree
 have hfree : hp1.isFree id = true := by simpa using hfree
 obtain ⟨news, src⟩ := src_sound (P := P) r he (hρ _ _ hx) hys
 obtain ⟨μ1, S1, r1, x1, u1, hzl, hzrow, hget, hR⟩ := settleRows_sound r he src hset
 have hlen := src.len
 have hfirst := src.first
 have hfirst' := src.first'
 rw [← hzl] at hlen hfirst hfirst'
 have hnl : news.length = zs.length * e := by rw [src.size, hzl]
 have hrunof : ∀ cs cv w', ρ s = cs → (Builtin.append_ #[t, u] ty #[cs, ρ x]).run P w = .ok cv w' → (execOp ρ ⟨dst, .call { callee := .builtin .append, args := #[s, x], argTypes := #[t, u] }, ty, pos, aft, guard⟩).run P w = .ok (.value cv) w' := fun cs cv w' hcs hr => by
   simp [execOp, resolve, invoke, builtin, hcs, hr]
 -- a new block
 have fresh : ∀ (μ2 : Nat → Loc) (S2 : Nat → Prop) (hp2 : Heap) (base : Option Addr) (sLen sCap : Nat) (olds : List Value) (rows : List (List AVal)), HRep μ2 w S2 hp2 → Ext μ S w μ2 S2 w → Up μ μ2 → hp2.isFree id = true → ρ s = .slice base sLen sCap →
     (Builtin.firstCells i.size sLen (.slice base sLen sCap)).run P w.drew = .ok olds.toArray w.drew → olds.length = sLen * e → rows.length = sLen → (∀ (i : Nat) (y : List AVal), rows[i]? = some y → y.length = e) →
     (∀ (i : Nat) (y : List AVal) (j : Nat) (c : AVal), rows[i]? = some y → y[j]? = some c → ∃ u, olds[i * e + j]? = some u ∧ Blk.R μ2 w S2 flat c u) → (∀ (i : Nat) (y : List AVal) (j : Nat) (c : AVal), zs[i]? = some y → y[j]? = some c → ∃ u, news[i * e + j]? = some u ∧ Blk.R μ2 w S2 flat c u) →
     sCap < sLen + zs.length → sLen + zs.length ≤ 4294967296 → (sLen + zs.length) * bytes ≤ 1099511627776 → Makes P μ w S (execOp ρ ⟨dst, .call { callee := .builtin .append, args := #[s, x], argTypes := #[t, u] }, ty, pos, aft, guard⟩) (.sl id 0 (sLen + zs.length) e) (hp2.set id (.live ⟨e, flat, rows ++ zs⟩)) := by
   intro μ2 S2 hp2 base sLen sCap olds rows r2 x2 u2 hf2 hcs holds hol hrl hrrow hrcell hzcell hlt h63 hby
   have hrun := run_append_grows (ty := ty) (P := P) (w := w) htu hud h2 hi hz hlen (by rw [hisz]; exact hfirst) (by rw [hisz]; exact hfirst') holds hlt (by omega) (by rw [hiby]; omega)
   have hge := grownCap_ge w (sLen + zs.length) sCap el
   have r3 : HRep μ2 w.drew S2 hp2 := r2.heap rfl
   have hsizes : (olds.toArray ++ news.toArray ++ Builtin.zeroCells z.cells (grownCap w (sLen + zs.length) sCap el - (sLen + zs.length))).size = grownCap w (sLen + zs.length) sCap el * e := by
     simp only [Array.size_append, List.size_toArray, size_zeroCells, hzs, hol, hnl, ← Nat.add_mul]
     congr 1
     omega
   obtain ⟨r4, x4, u4⟩ := new_rep (t := el) (w := w.drew) (k := ⟨e, flat, rows ++ zs⟩) (n := grownCap w (sLen + zs.length) sCap el) r3 hf2 hsizes (by simp [hrl]; exact hge) (fun a y hy => by
       rw [List.getElem?_append] at hy
       split at hy
       · exact hrrow a y hy
       · exact hzrow _ y hy) (fun a y j c hy hj => by
       have hget : ∀ p, p < olds.length + news.length → (olds.toArray ++ news.toArray ++ Builtin.zeroCells z.cells (grownCap w (sLen + zs.length) sCap el - (sLen + zs.length)))[p]? = if p < olds.length then olds[p]? else news[p - olds.length]? := fun p hp => by
         rw [Array.getElem?_append_left (by simpa using hp), Array.getElem?_append]
         simp
       show ∃ v, _[a * e + j]? = some v ∧ Blk.R μ2 w.drew S2 flat c v
       have hjl := (List.getElem?_eq_some_iff.1 hj).1
       rw [List.getElem?_append] at hy
       split at hy
       · rename_i hal
         rw [hrrow a y hy] at hjl
         have hp : a * e + j < olds.length := by rw [hol]; exact row_lt hjl (by omega)
         rw [hget _ (by omega), if_pos hp]
         obtain ⟨u, hu, hr⟩ := hrcell a y j c hy hj
         exact ⟨u, hu, Blk.R.mono (w := w) (w' := w.drew) (Up.refl _) (fun _ _ => rfl) (fun _ h => h) hr⟩
       · rename_i hal
         rw [hzrow _ y hy] at hjl
         have hal2 := (List.getElem?_eq_some_iff.1 hy).1
         have hp : a * e + j = olds.length + ((a - rows.length) * e + j) := by
           rw [hol, ← hrl]
           have : a * e = rows.length * e + (a - rows.length) * e := by rw [← Nat.add_mul]; congr 1; omega
           omega
         have hp2 : (a - rows.length) * e + j < news.length := by rw [hnl]; exact row_lt hjl hal2
         rw [hget _ (by omega), if_neg (by omega), show a * e + j - olds.length = (a - rows.length) * e + j by omega]
         obtain ⟨u, hu, hr⟩ := hzcell (a - rows.length) y j c hy hj
         exact ⟨u, hu, Blk.R.mono (w := w) (w' := w.drew) (Up.refl _) (fun _ _ => rfl) (fun _ h => h) hr⟩)
   refine ⟨_, _, _, S2, hrunof _ _ _ hcs hrun, r4, (x2.trans (Ext.heap (w' := w.drew) rfl rfl rfl rfl)).trans x4, u2.trans u4, .sl _ _ _ _ _ ?_⟩
   rw [give_same]
   exact ⟨rfl, grownCap w (sLen + zs.length) sCap el, by rw [Nat.zero_mul]; rfl, by omega, hge⟩
 -- nothing at all
 have nothing : ∀ (μ2 : Nat → Loc) (S2 : Nat → Prop) (hp2 : Heap) (A : Option Addr), HRep μ2 w S2 hp2 → Ext μ S w μ2 S2 w → Up μ μ2 → hp2.isFree id = true → ρ s = .slice A 0 0 → zs = [] →
     Makes P μ w S (execOp ρ ⟨dst, .call { callee := .builtin .append, args := #[s, x], argTypes := #[t, u] }, ty, pos, aft, guard⟩) (.sl id 0 0 e) (hp2.set id (.live ⟨e, flat, []⟩)) := by
   intro μ2 S2 hp2 A r2 x2 u2 hf2 hcs hz0
   subst hz0
   have hn0 : news = [] := List.eq_nil_of_length_eq_zero (by simpa using hnl)
   subst hn0
   have hrun := run_append_fits (ty := ty) (P := P) (w := w) (base := A) (sLen := 0) (sCap := 0) htu hud h2 hi hlen (by rw [hisz]; exact hfirst) (Nat.le_refl _)
   have hrun2 : (Builtin.append_ #[t, u] ty #[.slice A 0 0, ρ x]).run P w = .ok (.slice A 0 0) w := by
     rw [hrun]
     cases A <;> simp [storeCells]
   have hfr : μ2 id = .free := r2.free id (.inl hf2)
   have r3 := give_rep (w' := w) (k := ⟨e, flat, []⟩) (l := .void) r2 hfr (Heap.free_lt hf2) rfl (fun _ _ => rfl) (Nat.le_refl _) (fun _ _ _ h => by cases h)
   have x3 := give_ext (w' := w) (l := .void) r2 hfr rfl rfl rfl (fun _ _ => rfl) (Nat.le_refl _) (fun _ _ _ h => by cases h)
   refine ⟨_, w, _, S2, hrunof _ _ _ hcs hrun2, r3, x2.trans x3, u2.trans (give_up hfr), .sl _ _ _ _ _ ?_⟩
   rw [give_same]
   exact ⟨rfl, rfl, A, rfl⟩
 have hz0olds : ∀ A, (Builtin.firstCells i.size 0 (.slice A 0 0)).run P w.drew = .ok ([] : List Value).toArray w.drew := fun A => by
   cases A <;> simp [Builtin.firstCells, Go.loadCells, Go.loadCellsFrom]
 have hes := hρ _ _ hs
 split at h
 · -- onto nothing
   rename_i hs0
   rw [hs0] at hes
   obtain ⟨A, hA⟩ := hes.zsl_inv
   split at h
   · rename_i hsm
     simp only [Option.some.injEq, Prod.mk.injEq] at h
     obtain ⟨rfl, rfl⟩ := h
     obtain ⟨hb1, hb2⟩ := smallB_inv hsm
     by_cases h0 : zs = []
     · subst h0
       exact nothing μ1 S1 hp1 A r1 x1 u1 hfree hA rfl
     · have hpos : 0 < zs.length := List.length_pos_iff.2 h0
       have := fresh μ1 S1 hp1 A 0 0 [] [] r1 x1 u1 hfree hA (hz0olds A) (by simp) rfl (by simp) (by simp) hR (by omega) (by omega) (by simpa using hb1)
       simpa using this
   · cases h
 · -- onto a block of the call's own
   rename_i b off len e1 hs0
   rw [hs0] at hes
   split at h
   case h_2 => cases h
   rename_i k hk
   split at h
   case isFalse => cases h
   rename_i hcond
   obtain ⟨rfl, hke, hkf, hlk, hnot, hsm, hne⟩ := hcond
   simp only [Option.some.injEq, Prod.mk.injEq] at h
   obtain ⟨rfl, rfl⟩ := h
   obtain ⟨hb1, hb2⟩ := smallB_inv hsm
   obtain ⟨hμ1, _⟩ := hget b (by rw [hk]; simp)
   have hbk := r1.live b k hk
   have hsl := hes.sl_inv
   -- given up, then as new
   obtain ⟨r2, x2⟩ := kill_rep r1 [b]
   have hf2 : (kill hp1 [b]).isFree id = true := by
     show Heap.isFree (hp1.set b .dead) id = true
     rw [Heap.isFree_set, if_neg (fun h => hne h.1.symm)]
     exact hfree
   have up2 : Up μ (die μ1 [b]) := u1.trans (die_up [b])
   have hR2 : ∀ (i : Nat) (y : List AVal) (j : Nat) (c : AVal), zs[i]? = some y → y[j]? = some c → ∃ u, news[i * e + j]? = some u ∧ Blk.R (die μ1 [b]) w (With S1 μ1 [b]) flat c u := fun i y j c hi hj => by
     obtain ⟨u, hu, hr⟩ := hR i y j c hi hj
     exact ⟨u, hu, hr.mono (die_up [b]) (fun _ _ => rfl) (fun _ h => .inl h)⟩
   cases hμ : μ b with
   | free => rw [hμ1, hμ] at hbk; exact hbk.elim
   | dead => rw [hμ1, hμ] at hbk; exact hbk.elim
   | void =>
     rw [hμ] at hsl
     obtain ⟨_, rfl, A, hA⟩ := hsl
     have htk : k.elems.take 0 = [] := by simp
     by_cases h0 : zs = []
     · subst h0
       have := nothing (die μ1 [b]) _ _ A r2 (x1.trans x2) up2 hf2 hA rfl
       simpa using this
     · have hpos : 0 < zs.length := List.length_pos_iff.2 h0
       have := fresh (die μ1 [b]) _ _ A 0 0 [] [] r2 (x1.trans x2) up2 hf2 hA (hz0olds A) (by simp) rfl (by simp) (by simp) hR2 (by omega) (by omega) (by simpa using hb1)
       simpa using this
   | here m nn e2 =>
     rw [hμ] at hsl
     obtain ⟨rfl, cap, hA, hcap, hlc⟩ := hsl
     rw [hμ1, hμ] at hbk
     obtain ⟨he2, hkn, hkrow, cells, tt, hh, hcs, hcc⟩ := hbk
     subst hkf
     have hee : e2 = e := by omega
     subst hee
     simp only [Nat.zero_mul] at hA
     have htl : (k.elems.take len).length = len := by simp; omega
     have hrows : ∀ (i : Nat) (y : List AVal), (k.elems.take len)[i]? = some y → k.elems[i]? = some y ∧ i < len := fun i y hy => by
       rw [List.getElem?_take] at hy
       split at hy
       · rename_i hlt; exact ⟨hy, hlt⟩
       · cases hy
     have hcsz : len * e2 ≤ cells.size := by rw [hcs, he2]; exact Nat.mul_le_mul_right _ (by omega)
     by_cases hfit : len + zs.length ≤ cap
     · -- in place
       have hrun := run_append_fits (ty := ty) (P := P) (w := w) (base := some ⟨m, 0, none⟩) (sLen := len) (sCap := cap) htu hud h2 hi hlen (by rw [hisz]; exact hfirst) hfit
       have hfit2 : len * e2 + news.length ≤ cells.size := by
         rw [hnl, hcs, ← Nat.add_mul, he2]
         exact Nat.mul_le_mul_right _ (by omega)
       have hst := run_storeCells_at P m (len * e2) tt news 0 cells w hh (by simpa using hfit2) (fun v hv => by rw [one_eq]; exact src.one v hv)
       simp only [Nat.add_zero] at hst
       have hrun2 : (Builtin.append_ #[t, u] ty #[.slice (some ⟨m, 0, none⟩) len cap, ρ x]).run P w = .ok (.slice (some ⟨m, 0, none⟩) (len + zs.length) cap) (w.setRow m (cells.toList.take (len * e2) ++ news ++ cells.toList.drop (len * e2 + news.length)).toArray) := by
         rw [hrun]
         simp only [add_mk, Nat.zero_add, hisz, hst]
         rfl
       obtain ⟨r3, x3, u3⟩ := move_rep (w' := w.setRow m (cells.toList.take (len * e2) ++ news ++ cells.toList.drop (len * e2 + news.length)).toArray) (cells := (cells.toList.take (len * e2) ++ news ++ cells.toList.drop (len * e2 + news.length)).toArray) (t := tt)
         (k' := ⟨e2, k.flat, k.elems.take len ++ zs⟩) (n := nn) r1 hk (by rw [hμ1, hμ]) hfree hne (setRow_heap w m cells _ tt (0, 0) hh) (fun q hq => setRow_other w m q _ hq) (by simp) rfl rfl rfl (by simp; rw [hcs, he2] at *; omega) (by simp; omega)
         (fun a y hy => by
           rw [List.getElem?_append] at hy
           split at hy
           · rw [hkrow a y (hrows a y hy).1]; exact hke
           · exact hzrow _ y hy) (fun a y j c hy hj => by
           show ∃ v, (List.toArray _)[a * e2 + j]? = some v ∧ _
           rw [List.getElem?_toArray, splice_get (by simpa using hfit2)]
           have hjl := (List.getElem?_eq_some_iff.1 hj).1
           rw [List.getElem?_append] at hy
           split at hy
           · obtain ⟨h7, h8⟩ := hrows a y hy
             rw [hkrow a y h7, hke] at hjl
             have := row_lt hjl h8
             rw [if_neg (by omega)]
             obtain ⟨v, hv, hr⟩ := hcc a y j c h7 hj
             rw [hke] at hv
             exact ⟨v, by simpa using hv, hr⟩
           · rename_i hal
             rw [htl] at hal hy
             rw [hzrow _ y hy] at hjl
             have hal2 := (List.getElem?_eq_some_iff.1 hy).1
             have hp2 : (a - len) * e2 + j < news.length := by rw [hnl]; exact row_lt hjl hal2
             have hp : a * e2 + j = len * e2 + ((a - len) * e2 + j) := by
               have : a * e2 = len * e2 + (a - len) * e2 := by rw [← Nat.add_mul]; congr 1; omega
               omega
             rw [if_pos (by omega), show a * e2 + j - len * e2 = (a - len) * e2 + j by omega]
             exact hR (a - len) y j c hy hj)
       refine ⟨_, _, _, S1, hrunof _ _ _ hA hrun2, r3, x1.trans x3, u1.trans u3, .sl _ _ _ _ _ ?_⟩
       rw [give_same]
       exact ⟨rfl, cap, by simp, by omega, hfit⟩
     · -- elsewhere
       have hol : (cells.toList.take (len * e2)).length = len * e2 := by simp; omega
       have holds : (Builtin.firstCells i.size len (.slice (some ⟨m, 0, none⟩) len cap)).run P w.drew = .ok (cells.toList.take (len * e2)).toArray w.drew :=
         run_firstCells_some (P := P) w.drew i.size len ⟨m, 0, none⟩ len cap _ (by rw [hol, hisz]) (fun j v hj => by
           show w.cell? _ = _
           rw [List.getElem?_take] at hj
           split at hj
           · rw [add_mk, Nat.zero_add]
             simp only [World.cell?, hh]
             simpa using hj
           · cases hj)
       exact fresh (die μ1 [b]) _ _ (some ⟨m, 0, none⟩) len cap (cells.toList.take (len * e2)) (k.elems.take len) r2 (x1.trans x2) up2 hf2 hA holds hol htl (fun a y hy => by rw [hkrow a y (hrows a y hy).1]; exact hke)
         (fun a y j c hy hj => by
           obtain ⟨h7, h8⟩ := hrows a y hy
           have hjl := (List.getElem?_eq_some_iff.1 hj).1
           rw [hkrow a y h7, hke] at hjl
           obtain ⟨v, hv, hr⟩ := hcc a y j c h7 hj
           rw [hke] at hv
           refine ⟨v, ?_, hr.mono (die_up [b]) (fun _ _ => rfl) (fun _ h => .inl h)⟩
           rw [List.getElem?_take, if_pos (row_lt hjl h8)]
           simpa using hv) hR2 (by omega) (by omega) hb1
 · cases h
end
end AM
end Go.Proofs.YtjngkfdclcgfhaaGreatDoor
end
section
namespace Go.Proofs.YtjngkfdclcgfhaaGreatDoor
namespace AM
section
variable {P : Program} {μ μ' μ2 : Nat → Loc} {w w' : World} {S S' : Nat → Prop} {hp : Heap} {rn : Nat → Option Nat}
def Follows (rn : Nat → Option Nat) (μ μ2 : Nat → Loc) : Prop := ∀ b c, rn b = some c → μ b ≠ .free → μ2 c = μ b
theorem VR.renP (hr : Follows rn μ μ2) {v : AVal} {cv : Value} (h : VR μ w S v cv) : VR μ2 w S (v.renP rn) cv := by
 cases v with
 | ptr b i f =>
   simp only [AVal.renP]
   split
   · rename_i c hc
     have hp := h.ptr_inv
     have hf : μ b ≠ .free := fun e => by rw [e] at hp; exact hp
     exact .ptr _ _ _ _ (by rw [hr b c hc hf]; exact hp)
   · exact .undef _
 | sl b o l e =>
   simp only [AVal.renP]
   split
   · rename_i c hc
     have hp := h.sl_inv
     have hf : μ b ≠ .free := fun e => by rw [e] at hp; exact hp
     exact .sl _ _ _ _ _ (by rw [hr b c hc hf]; exact hp)
   · exact .undef _
 | fn f cap =>
   simp only [AVal.renP]
   split
   · rename_i hc; exact .imm _ _ (h.immC_of (by simpa [AVal.immC] using hc))
   · exact .undef _
 | agg cs => exact .undef _
 | tup cs => exact .undef _
 | undef => exact .undef _
 | bool b => exact .imm _ _ (h.imm_of rfl)
 | int k n => exact .imm _ _ (h.imm_of rfl)
 | str s => exact .imm _ _ (h.imm_of rfl)
 | nilp => exact .imm _ _ (h.imm_of rfl)
 | iptr cs o => exact .imm _ _ (h.imm_of rfl)
 | imm e xs => exact .imm _ _ (h.imm_of rfl)
 | zsl => exact .imm _ _ (h.imm_of rfl)
 | nilfn => exact .imm _ _ (h.imm_of rfl)
 | nili => exact .imm _ _ (h.imm_of rfl)
 | fl n => exact .imm _ _ (h.imm_of rfl)
 | cx a b => exact .imm _ _ (h.imm_of rfl)
theorem VR.renC (hr : Follows rn μ μ2) {v : AVal} {cv : Value} (h : VR μ w S v cv) : VR μ2 w S (v.renC rn) cv := by
 cases v with
 | fn f cap =>
   obtain ⟨caps, rfl, hl, hc⟩ := h.fn_inv
   refine .fn f (cap.map (AVal.renP rn)) caps (by simpa using hl) fun j c u hj hu => ?_
   rw [List.getElem?_map] at hj
   simp only [Option.map_eq_some_iff] at hj
   obtain ⟨c0, h0, rfl⟩ := hj
   exact (hc j c0 u h0 hu).renP hr
 | _ => exact h.renP hr
theorem VR.renV (hr : Follows rn μ μ2) {v : AVal} {cv : Value} (h : VR μ w S v cv) : VR μ2 w S (v.renV rn) cv := by
 cases v with
 | agg cs =>
   obtain ⟨a, rfl, hl, hc⟩ := h.agg_inv
   refine .agg _ a (by simpa using hl) fun j c u hj hu => ?_
   rw [List.getElem?_map] at hj
   simp only [Option.map_eq_some_iff] at hj
   obtain ⟨c0, h0, rfl⟩ := hj
   exact (hc j c0 u h0 hu).renC hr
 | _ => exact h.renC hr
theorem VR.renT (hr : Follows rn μ μ2) {v : AVal} {cv : Value} (h : VR μ w S v cv) : VR μ2 w S (v.renT rn) cv := by
 cases v with
 | tup cs =>
   obtain ⟨a, rfl, hl, hc⟩ := h.tup_inv
   refine .tup _ a (by simpa using hl) fun j c u hj hu => ?_
   rw [List.getElem?_map] at hj
   simp only [Option.map_eq_some_iff] at hj
   obtain ⟨c0, h0, rfl⟩ := hj
   exact (hc j c0 u h0 hu).renV hr
 | _ => exact h.renV hr
theorem BlkR.ren (hr : Follows rn μ μ2) {l : Loc} {k : Blk} (h : BlkR μ w S l k) : BlkR μ2 w S l (k.ren rn) := by
 unfold Blk.ren
 split
 · rename_i hf
   cases l with
   | free => exact h
   | dead => exact h
   | void => exact h
   | here m n e =>
     obtain ⟨he, hn, hx, cells, t, hh, hs, hc⟩ := h
     exact ⟨he, hn, hx, cells, t, hh, hs, fun i x j c hi hj => by
       obtain ⟨v, hv, hr1, hr2⟩ := hc i x j c hi hj
       rw [if_pos hf] at hr1
       exact ⟨v, hv, by rw [if_pos hf]; exact hr1, hr2⟩⟩
 · rename_i hf
   cases l with
   | free => exact h
   | dead => exact h
   | void => have h : k.elems = [] := h; show _ = _; simp [h]
   | here m n e =>
     obtain ⟨he, hn, hx, cells, t, hh, hs, hc⟩ := h
     refine ⟨he, by simpa using hn, fun i x hi => ?_, cells, t, hh, hs, fun i x j c hi hj => ?_⟩
     · simp only [List.getElem?_map, Option.map_eq_some_iff] at hi
       obtain ⟨x0, h0, rfl⟩ := hi
       simpa using hx i x0 h0
     · simp only [List.getElem?_map, Option.map_eq_some_iff] at hi
       obtain ⟨x0, h0, rfl⟩ := hi
       rw [List.getElem?_map] at hj
       simp only [Option.map_eq_some_iff] at hj
       obtain ⟨c0, h1, rfl⟩ := hj
       obtain ⟨v, hv, hr1, hr2⟩ := hc i x0 j c0 h0 h1
       rw [if_neg hf] at hr1
       exact ⟨v, hv, by rw [if_neg hf]; exact hr1.renC hr, hr2⟩
theorem index_get {ids : List Nat} {b j : Nat} (h : index ids b = some j) : ids[j]? = some b := by
 unfold index at h
 obtain ⟨hlt, h1, _⟩ := List.findIdx?_eq_some_iff_getElem.1 h
 simp at h1
 rw [List.getElem?_eq_getElem hlt, h1]
theorem nodupB_inj : ∀ {ids : List Nat}, nodupB ids = true → ∀ {i j b : Nat}, ids[i]? = some b → ids[j]? = some b → i = j
 | [], _, i, j, b, hi, _ => by simp at hi
 | x :: xs, h, i, j, b, hi, hj => by
   simp only [nodupB, Bool.and_eq_true, Bool.not_eq_true', List.contains_eq_mem, decide_eq_false_iff_not] at h
   cases i with
   | zero =>
     cases j with
     | zero => rfl
     | succ j => simp at hi hj; subst hi; exact absurd (List.mem_of_getElem? hj) h.1
   | succ i =>
     cases j with
     | zero => simp at hi hj; subst hj; exact absurd (List.mem_of_getElem? hi) h.1
     | succ j => simp at hi hj; rw [nodupB_inj h.2 hi hj]
theorem get_index {ids : List Nat} (hn : nodupB ids = true) {b j : Nat} (h : ids[j]? = some b) : index ids b = some j := by
 cases hi : index ids b with
 | some i => rw [nodupB_inj hn (index_get hi) h]
 | none =>
   unfold index at hi
   rw [List.findIdx?_eq_none_iff] at hi
   have := hi b (List.mem_of_getElem? h)
   simp at this
def pick (μ : Nat → Loc) (ids : List Nat) (j : Nat) : Loc := match ids[j]? with | some b => μ b | none => .free
theorem pick_follows (ids : List Nat) : Follows (index ids) μ (pick μ ids) := fun b c hc _ => by
 unfold pick; rw [index_get hc]
theorem get_of_slot (hp : Heap) (b : Nat) : hp.get b = match hp[b]? with | some (.live k) => some k | _ => none := rfl
theorem free_of_slot (hp : Heap) (b : Nat) : hp.isFree b = match hp[b]? with | some .free => true | _ => false := rfl
theorem packHeap_slot (hp : Heap) (ids : List Nat) (j : Nat) : (packHeap hp ids)[j]? = (ids[j]?).map fun b => match hp.get b with | some k => Slot.live (k.ren (index ids)) | none => .dead := List.getElem?_map
theorem packHeap_get {ids : List Nat} {j : Nat} {k : Blk} (h : (packHeap hp ids).get j = some k) : ∃ b k0, ids[j]? = some b ∧ hp.get b = some k0 ∧ k = k0.ren (index ids) := by
 rw [get_of_slot, packHeap_slot] at h
 cases hj : ids[j]? with
 | none => rw [hj] at h; cases h
 | some b =>
   rw [hj] at h
   simp only [Option.map_some] at h
   cases hb : Heap.get hp b with
   | none => rw [hb] at h; cases h
   | some k0 => rw [hb] at h; cases h; exact ⟨b, k0, rfl, hb, rfl⟩
theorem pack_rep (r : HRep μ w S hp) {ids : List Nat} (hn : nodupB ids = true) (hS : ∀ m, S m → S' m) (hap : ∀ m, Owned (pick μ ids) m → ¬ S' m) (hin : ∀ m, S' m → m < w.heap.size) : HRep (pick μ ids) w S' (packHeap hp ids) where
 live j k hk := by
   obtain ⟨b, k0, hj, hb, rfl⟩ := packHeap_get hk
   have : pick μ ids j = μ b := by unfold pick; rw [hj]
   rw [this]
   exact ((r.live b k0 hb).ren (pick_follows ids)).mono (Up.refl _) (fun _ _ => rfl) hS (fun _ _ _ _ => rfl)
 gone j hk := by
   unfold pick
   cases hj : ids[j]? with
   | none => exact .inl rfl
   | some b =>
     refine r.gone b ?_
     rw [get_of_slot, packHeap_slot, hj] at hk
     simp only [Option.map_some] at hk
     cases hb : Heap.get hp b with
     | none => rfl
     | some k0 => rw [hb] at hk; cases hk
 free j hk := by
   unfold pick
   cases hj : ids[j]? with
   | none => rfl
   | some b =>
     exfalso
     have hjl := (List.getElem?_eq_some_iff.1 hj).1
     rcases hk with hk | hk
     · rw [free_of_slot, packHeap_slot, hj] at hk
       simp only [Option.map_some] at hk
       cases hb : Heap.get hp b <;> rw [hb] at hk <;> cases hk
     · unfold packHeap at hk; simp at hk; omega
 inj j j' m n n' e e' h h' := by
   unfold pick at h h'
   cases hj : ids[j]? with
   | none => rw [hj] at h; cases h
   | some b =>
     cases hj' : ids[j']? with
     | none => rw [hj'] at h'; cases h'
     | some b' =>
       rw [hj] at h
       rw [hj'] at h'
       have := r.inj b b' m n n' e e' h h'
       subst this
       exact nodupB_inj hn hj hj'
 apart := hap
 inS := hin
 gl := r.gl.mono (fun _ _ => rfl) hS
theorem pick_owned {ids : List Nat} {m : Nat} (h : Owned (pick μ ids) m) : ∃ b, b ∈ ids ∧ ∃ n e, μ b = .here m n e := by
 obtain ⟨j, n, e, hj⟩ := h
 unfold pick at hj
 cases hb : ids[j]? with
 | none => rw [hb] at hj; cases hj
 | some b => rw [hb] at hj; exact ⟨b, List.mem_of_getElem? hb, n, e, hj⟩
def Enters (P : Program) (f : Nat) : Prop := ∃ fn, P.funcs[f]? = some fn ∧ (fn.name == "runtime.NumGoroutine") = false ∧ fn.body.isNone = false
def CallOk (P : Program) (f : Nat) (args : List AVal) (hp : Heap) (r : AVal) (hp' : Heap) : Prop :=
 ∀ (μ : Nat → Loc) (w : World) (S : Nat → Prop) (cargs : Array Value), HRep μ w S hp → args.length = cargs.size → (∀ (j : Nat) (a : AVal) (v : Value), args[j]? = some a → cargs[j]? = some v → VR μ w S a v) →
   Calls P f cargs w fun e w' => ∃ v μ' S', e = .returned v ∧ HRep μ' w' S' hp' ∧ Ext μ S w μ' S' w' ∧ VR μ' w' S' r v ∧ hp.length ≤ hp'.length ∧ ∀ b, b < hp.length → μ b ≠ .free → μ' b = μ b ∨ μ' b = .dead
def Valid (P : Program) (K : Oracle) : Prop := ∀ f args hp r hp', K f args hp = some (r, hp') → Enters P f ∧ CallOk P f args hp r hp'
theorem layBack_length (rn : Nat → Option Nat) : ∀ (back : Heap) (hp : Heap) (j : Nat), (layBack rn hp j back).length = hp.length
 | [], _, _ => rfl
 | s :: rest, hp, j => by
   rw [layBack, layBack_length rn rest]
   cases rn j <;> simp
theorem layBack_other (rn : Nat → Option Nat) : ∀ (back : Heap) (hp : Heap) (j b : Nat), (∀ i, i < back.length → rn (j + i) ≠ some b) → (layBack rn hp j back)[b]? = hp[b]?
 | [], _, _, _, _ => rfl
 | s :: rest, hp, j, b, h => by
   rw [layBack, layBack_other rn rest _ (j + 1) b (fun i hi => by have := h (i + 1) (by simp; omega); rwa [show j + (i + 1) = j + 1 + i by omega] at this)]
   have h0 := h 0 (by simp)
   rw [Nat.add_zero] at h0
   cases hj : rn j with
   | none => rfl
   | some c =>
     rw [List.getElem?_set]
     rw [if_neg (fun e => h0 (by rw [hj, e]))]
theorem layBack_at (rn : Nat → Option Nat) : ∀ (back : Heap) (hp : Heap) (j i b : Nat) (s : Slot), (∀ i i', i < back.length → i' < back.length → rn (j + i) = rn (j + i') → i = i') → back[i]? = some s → rn (j + i) = some b → b < hp.length →
   (layBack rn hp j back)[b]? = some (s.ren rn)
 | [], _, _, _, _, _, _, h, _, _ => by simp at h
 | s0 :: rest, hp, j, 0, b, s, hinj, hs, hb, hl => by
   simp at hs
   subst hs
   rw [layBack, layBack_other rn rest _ (j + 1) b (fun i hi e => by
     have := hinj 0 (i + 1) (by simp) (by simp; omega) (by rw [Nat.add_zero] at hb ⊢; rw [hb, show j + (i + 1) = j + 1 + i by omega, e])
     omega)]
   rw [Nat.add_zero] at hb
   rw [hb]
   simp [List.getElem?_set, hl]
 | s0 :: rest, hp, j, i + 1, b, s, hinj, hs, hb, hl => by
   simp at hs
   rw [layBack]
   exact layBack_at rn rest _ (j + 1) i b s (fun a a' ha ha' e => by
     have := hinj (a + 1) (a' + 1) (by simp; omega) (by simp; omega) (by rw [show j + (a + 1) = j + 1 + a by omega, show j + (a' + 1) = j + 1 + a' by omega]; exact e)
     omega) hs (by rw [show j + 1 + i = j + (i + 1) by omega]; exact hb) (by cases rn j <;> simp <;> exact hl)
end
end AM
end Go.Proofs.YtjngkfdclcgfhaaGreatDoor
end
