/-
  What the proof of SpecTexts leans on, part 14. (Many texts laid together by program.)
-/
import Derived.Test.YtjngkfdclcgfhaaGreatDoorPkTm
set_option linter.unnecessarySimpa false
set_option linter.unusedSimpArgs false
set_option linter.unusedVariables false
section
namespace Go.Proofs.YtjngkfdclcgfhaaGreatDoor
namespace NM
open AM
def REl (hp : NHeap) : Els → List (List AVal) → Prop
 | .typed t xs, ys => A2 (RX t) xs ys
 | .rows true rs, ys => A2 (A2 RI) rs ys
 | .rows false rs, ys => A2 (A2 (RC hp)) rs ys
section
variable {ω : Type} {hp : NHeap} {ahp : Heap} {r : ω}
theorem REl.len {els : Els} {ys : List (List AVal)} (h : REl hp els ys) : els.len = ys.length := by
 cases els with
 | typed t xs => exact h.1
 | rows ro rs => cases ro <;> exact h.1
theorem nappended_sound (hh : RH hp ahp) {e : Nat} {x : NVal} {a : AVal} {k : Els → Option ω} (h : nappended hp e x k = some r) (hr : RT hp x a) :
   ∃ els ys, AM.appended ahp e a = some ys ∧ REl hp els ys ∧ ((rowsFlat ahp a = true ∧ ∀ rs, els ≠ .rows false rs) ∨ ∃ rs, els = .rows false rs ∧ rowsFlat ahp a = false) ∧ k els = some r := by
 unfold nappended at h
 split at h
 · rename_i t xs
   split at h
   · rename_i he
     rcases hr.lst_inv.lst_inv with ⟨ys, rfl, hy⟩ | ⟨rfl, rfl⟩
     · exact ⟨.typed t xs, ys, by simp only [AM.appended, he, if_true], hy, .inl ⟨rfl, fun _ => by simp⟩, h⟩
     · exact ⟨.typed t [], [], rfl, A2.nil, .inl ⟨rfl, fun _ => by simp⟩, h⟩
   · cases h
 · rename_i e' xs
   split at h
   · rename_i he
     rcases hr.rows_inv.rows_inv with ⟨ys, rfl, hy⟩ | ⟨rfl, rfl⟩
     · exact ⟨.rows true xs, ys, by simp only [AM.appended, he, if_true], hy, .inl ⟨rfl, fun _ => by simp⟩, h⟩
     · exact ⟨.rows true [], [], rfl, A2.nil, .inl ⟨rfl, fun _ => by simp⟩, h⟩
   · cases h
 · rw [hr.zsl_inv]
   exact ⟨.rows true [], [], rfl, A2.nil, .inl ⟨rfl, fun _ => by simp⟩, h⟩
 · rename_i b e'
   obtain ⟨n, rfl, hn⟩ := hr.slw_inv
   split at h
   · rename_i t xs hb
     obtain ⟨kk, hk, hrb⟩ := hh.get hb
     have hlen : n = kk.elems.length := by rw [← hrb.len]; exact (len_of hn hb).symm
     split at h
     · rename_i he
       refine ⟨.typed t xs, kk.elems, ?_, hrb.2.2, .inl ⟨?_, fun _ => by simp⟩, h⟩
       · simp only [AM.appended, hk, Nat.zero_add, List.drop_zero, hlen, List.take_length]
         rw [if_pos ⟨by rw [hrb.1, he], Nat.le_refl _⟩]
       · simp only [rowsFlat, hk, hrb.2.1]
     · cases h
   · rename_i e2 fl rows hb
     obtain ⟨kk, hk, hrb⟩ := hh.get hb
     have hlen : n = kk.elems.length := by rw [← hrb.len]; exact (len_of hn hb).symm
     split at h
     · rename_i he
       refine ⟨.rows fl rows, kk.elems, ?_, ?_, ?_, h⟩
       · simp only [AM.appended, hk, Nat.zero_add, List.drop_zero, hlen, List.take_length]
         rw [if_pos ⟨by rw [hrb.1, he], Nat.le_refl _⟩]
       · cases fl with
         | true => exact hrb.2.2.1 rfl
         | false => exact hrb.2.2.2 rfl
       · cases fl with
         | true => exact .inl ⟨by simp only [rowsFlat, hk, hrb.2.1], fun _ => by simp⟩
         | false => exact .inr ⟨rows, rfl, by simp only [rowsFlat, hk, hrb.2.1]⟩
     · cases h
   · cases h
 · rename_i b off len e'
   rw [hr.sl_inv]
   split at h
   · rename_i t xs hb
     obtain ⟨kk, hk, hrb⟩ := hh.get hb
     split at h
     · rename_i he
       obtain ⟨hc, hk2⟩ := cond_some h
       simp only [decide_eq_true_eq] at hc
       refine ⟨.typed t ((xs.drop off).take len), (kk.elems.drop off).take len, ?_, (hrb.2.2.drop off).take len, .inl ⟨?_, fun _ => by simp⟩, hk2⟩
       · simp only [AM.appended, hk]
         rw [if_pos ⟨by rw [hrb.1, he], by rw [← hrb.2.2.1]; exact hc⟩]
       · simp only [rowsFlat, hk, hrb.2.1]
     · cases h
   · cases h
 · rename_i s
   rw [hr.str_inv]
   split at h
   · rename_i he
     refine ⟨.typed (.int .u8) (s.map fun c => (c.toNat : Int)), s.map fun c => [.int .u8 (c.toNat : Int)], by simp only [AM.appended, he, if_true], (?_ : A2 (RX (.int .u8)) _ _), .inl ⟨rfl, fun _ => by simp⟩, h⟩
     refine ⟨by simp, fun j x y hx hy => ?_⟩
     simp only [List.getElem?_map, Option.map_eq_some_iff] at hx hy
     obtain ⟨c, hc, rfl⟩ := hx
     obtain ⟨c', hc', rfl⟩ := hy
     rw [hc] at hc'
     cases hc'
     exact A2.single (.int _ _)
   · cases h
 · cases h
theorem nsettleRows_sound (hh : RH hp ahp) {flat : Bool} {els els' : Els} {hp1 : NHeap} {a : AVal} {ys : List (List AVal)} (h : nsettleRows hp flat els = some (els', hp1)) (hr : REl hp els ys) (hf : (rowsFlat ahp a = true ∧ ∀ rs, els ≠ .rows false rs) ∨ ∃ rs, els = .rows false rs ∧ rowsFlat ahp a = false) :
   ∃ zs ahp1, settleRows ahp flat a ys = some (zs, ahp1) ∧ RH hp1 ahp1 ∧ Evo hp hp1 ∧ REl hp1 els' zs ∧ (flat = true → ∀ rs, els' ≠ .rows false rs) ∧ (∀ b k, nget hp1 b = some k → nget hp b = some k) := by
 unfold nsettleRows at h
 split at h
 · rename_i rs
   split at h
   · rename_i hfl
     split at h
     · rename_i zs l hz
       cases h
       obtain ⟨zs', hg, hrz⟩ := allOn_rel (R := A2 (RC hp)) (R' := A2 RI) (g := allOn (viewP ahp DEEP)) (fun x y u l hxy hx => allOn_rel (fun x y u l hxy hx => view_rel hh hx hxy) hx hxy) hz hr
       rcases hf with ⟨_, hne⟩ | ⟨_, _, hrf'⟩
       · exact absurd rfl (hne rs)
       · refine ⟨zs', AM.kill ahp l, ?_, kill_rel hh, nkill_evo l hp, hrz, fun _ rs => by simp, fun b k hb => nkill_get hb⟩
         simp only [settleRows, hrf', hfl, Bool.not_true, Bool.or_self, Bool.false_eq_true, if_false, hg]
     · cases h
   · rename_i hfl
     cases h
     have hfl' : flat = false := by simpa using hfl
     exact ⟨ys, ahp, by simp [settleRows, hfl'], hh, .refl _, hr, fun h => absurd h hfl, fun b k hb => hb⟩
 · rename_i hne
   cases h
   rcases hf with ⟨hf, _⟩ | ⟨rs, rfl, _⟩
   · exact ⟨ys, ahp, by simp only [settleRows, hf, Bool.true_or, if_true], hh, .refl _, hr, fun _ rs he => hne rs he, fun b k hb => hb⟩
   · exact absurd rfl (hne rs)
theorem naddTo_rel {flat : Bool} {e : Nat} {kb kb' : NBlk} {k : AM.Blk} {els : Els} {zs : List (List AVal)} (h : naddTo flat e kb els = some kb') (hb : RB hp kb k) (hz : REl hp els zs) (hfl : flat = true → ∀ rs, els ≠ .rows false rs) :
   k.e = e ∧ k.flat = flat ∧ RB hp kb' ⟨e, flat, k.elems ++ zs⟩ ∧ kb'.len = kb.len + els.len := by
 unfold naddTo at h
 split at h
 · rename_i e' flat' rows ro rs
   split at h
   · rename_i hc
     obtain ⟨rfl, rfl, hro⟩ := hc
     cases h
     refine ⟨hb.1, hb.2.1, ⟨rfl, rfl, fun hf => ?_, fun hf => ?_⟩, by simp [NBlk.len, Els.len]⟩
     · have := hro hf
       subst this
       exact (hb.2.2.1 hf).append hz
     · refine (hb.2.2.2 hf).append ?_
       cases ro with
       | true => exact A2.mono (fun _ _ h => h.mono fun _ _ h => h.c) hz
       | false => exact hz
   · cases h
 · rename_i t xs t' ys
   split at h
   · rename_i ht
     subst ht
     split at h
     · rename_i hc
       obtain ⟨rfl, rfl⟩ := hc
       cases h
       exact ⟨hb.1, hb.2.1, ⟨rfl, rfl, hb.2.2.append hz⟩, by simp [NBlk.len, Els.len]⟩
     · cases h
   · cases h
 · rename_i t xs ro rs
   split at h
   · rename_i hc
     obtain ⟨rfl, rfl, rfl⟩ := hc
     split at h
     · rename_i ys hys
       cases h
       have h2 := allOf_A2 (good t) hys hz
       refine ⟨hb.1, hb.2.1, ⟨rfl, rfl, hb.2.2.append h2⟩, ?_⟩
       have : ys.length = rs.length := by rw [h2.1]; exact (REl.len (els := .rows true rs) hz).symm
       simp [NBlk.len, Els.len, this]
     · cases h
   · cases h
 · rename_i e' flat' rows t ys
   split at h
   · rename_i hc
     obtain ⟨rfl, rfl, rfl, he⟩ := hc
     split at h
     · rename_i xs hxs
       cases h
       have h2 := allOf_A2 (good t) hxs (hb.2.2.1 rfl)
       refine ⟨hb.1, hb.2.1, ⟨he, rfl, h2.append hz⟩, ?_⟩
       have : xs.length = rows.length := by rw [h2.1]; exact (hb.2.2.1 rfl).1.symm
       simp [NBlk.len, Els.len, this]
     · cases h
   · cases h
theorem nappend_sound (hh : RH hp ahp) {id e bytes : Nat} {flat : Bool} {s x : NVal} {a b : AVal} {k : NVal → NHeap → Option ω} (h : nappend hp id e bytes flat s x k = some r) (hs : RT hp s a) (hx : RT hp x b) :
   ∃ v c hp' ahp', appendVal ahp id e bytes flat a b = some (c, ahp') ∧ RT hp' v c ∧ RH hp' ahp' ∧ Evo hp hp' ∧ k v hp' = some r := by
 unfold nappend at h
 obtain ⟨els, ys, h1, h2, h3, h4⟩ := nappended_sound hh h hx
 split at h4
 · cases h4
 · rename_i els' hp1 hset
   obtain ⟨zs, ahp1, g1, hh1, ev1, hz, hfl, hget⟩ := nsettleRows_sound hh hset h2 h3
   split at h4
   · cases h4
   · rename_i hfree
     have hfree' : nfree hp1 id = true := by simpa using hfree
     have hafree := hh1.free hfree'
     have pre : ∀ a0, appendVal ahp id e bytes flat a0 b = match a0 with
         | .zsl => if smallB zs.length bytes then some (.sl id 0 zs.length e, ahp1.set id (.live ⟨e, flat, zs⟩)) else none
         | .sl bb off len _ => match ahp1.get bb with
           | some k =>
             if off = 0 ∧ k.e = e ∧ k.flat = flat ∧ len ≤ k.elems.length ∧ notIn bb b = true ∧ smallB (len + zs.length) bytes = true ∧ id ≠ bb then
               some (.sl id 0 (len + zs.length) e, (AM.kill ahp1 [bb]).set id (.live ⟨e, flat, k.elems.take len ++ zs⟩))
             else none
           | none => none
         | _ => none := by
       intro a0
       simp only [appendVal, h1, g1, hafree, Bool.true_eq_false, if_false]
       cases a0 <;> rfl
     rw [pre a]
     split at h4
     · -- zsl
       rw [hs.zsl_inv]
       split at h4
       · rename_i kb hkb
         obtain ⟨hsm, hk⟩ := cond_some h4
         obtain ⟨_, _, hrb, hlen⟩ := naddTo_rel (hp := hp1) (k := ⟨e, flat, []⟩) hkb ⟨rfl, rfl, fun _ => .nil, fun _ => .nil⟩ hz hfl
         have ev2 : Evo hp1 (hp1.set id (.live kb)) := Evo.set_new hfree'
         have hl2 : els'.len = zs.length := hz.len
         refine ⟨_, .sl id 0 zs.length e, _, ahp1.set id (.live ⟨e, flat, zs⟩), ?_, (RP.slw id e _ ?_).rt, RH.set hh1 ev2 (.live _ _ ?_), ev1.trans ev2, hk⟩
         · rw [hl2] at hsm
           simp only [hsm, if_true]
         · rw [lenAt_set]
           have hid : id < hp1.length := by
             unfold nfree at hfree'
             split at hfree'
             · rename_i hh2; exact (List.getElem?_eq_some_iff.1 hh2).1
             · cases hfree'
           rw [if_pos ⟨rfl, hid⟩]
           simp only
           rw [hlen, hl2]; simp [NBlk.len]
         · simpa using hrb.mono ev2
       · cases h4
     · -- slw
       rename_i bb e'
       obtain ⟨n, rfl, hn⟩ := hs.slw_inv
       split at h4
       · rename_i kb hkb
         split at h4
         · rename_i hc
           split at h4
           · rename_i kb' hkb'
             obtain ⟨hsm, hk⟩ := cond_some h4
             obtain ⟨kk, hkk, hrb⟩ := hh1.get hkb
             obtain ⟨q1, q2, hrb', hlen⟩ := naddTo_rel hkb' hrb hz hfl
             have hl2 : els'.len = zs.length := hz.len
             have hn' : kb.len = n := len_of hn (hget _ _ hkb)
             have hnk : n = kk.elems.length := by rw [← hn', hrb.len]
             have hne : id ≠ bb := hc.2
             have hfree2 : nfree (nkill .dead hp1 [bb]) id = true := by
               simp only [nkill]
               unfold nfree at hfree' ⊢
               rw [List.getElem?_set, if_neg (fun h => hne h.symm)]
               exact hfree'
             have ev2 : Evo hp1 (nkill .dead hp1 [bb]) := nkill_evo _ _
             have ev3 : Evo (nkill .dead hp1 [bb]) ((nkill .dead hp1 [bb]).set id (.live kb')) := Evo.set_new hfree2
             have hnot : notIn bb b = true := by
               have hno := hc.1
               cases x with
               | sl b' o l e2 => rw [hx.sl_inv]; exact hno
               | slw b' e2 => obtain ⟨m, rfl, _⟩ := hx.slw_inv; exact hno
               | undef => simp [nappended] at h
               | _ =>
                 unfold notIn
                 split
                 · rename_i b' o l e2
                   exfalso
                   cases hx with
                   | v hv => cases hv with | c hc => cases hc with | p hp' => cases hp' with | ro h => cases h
                 · rfl
             refine ⟨_, .sl id 0 (n + zs.length) e, _, (AM.kill ahp1 [bb]).set id (.live ⟨e, flat, kk.elems.take n ++ zs⟩), ?_, (RP.slw id e _ ?_).rt, RH.set (kill_rel hh1) ev3 (.live _ _ ?_), (ev1.trans ev2).trans ev3, hk⟩
             · rw [hn', hl2] at hsm
               simp only [hkk]
               rw [if_pos ⟨trivial, q1, q2, by omega, hnot, hsm, hne⟩]
             · rw [lenAt_set]
               have hid : id < (nkill .dead hp1 [bb]).length := by
                 unfold nfree at hfree2
                 split at hfree2
                 · rename_i hh2; exact (List.getElem?_eq_some_iff.1 hh2).1
                 · cases hfree2
               rw [if_pos ⟨rfl, hid⟩]
               simp only
               rw [hlen, hl2, hn']
             · rw [hnk, List.take_length]
               exact (hrb'.mono ev2).mono ev3
           · cases h4
         · cases h4
       · cases h4
     · cases h4
end
end NM
end Go.Proofs.YtjngkfdclcgfhaaGreatDoor
end
section
namespace Go.Proofs.YtjngkfdclcgfhaaGreatDoor
namespace NM
open AM
section
variable {hp : NHeap}
theorem un_RI {t : Ty} {cs : List NVal} {ds : List AVal} {x : den t} (h : (ops t).un cs = some x) (hr : A2 (RC hp) cs ds) : A2 RI ((ops t).cells x) ds :=
 (good t).2.1 _ _ _ h ⟨hr.1, fun j c d hc hd => ((hr.2 j c d hc hd).imm ((good t).2.2.2 _ _ _ h (List.mem_of_getElem? hc))).1⟩
theorem one_of {t : Ty} {x : den t} {d : AVal} (h : A2 RI ((ops t).cells x) [d]) : ∃ c, (ops t).cells x = [c] ∧ RI c d := by
 match hc : (ops t).cells x, h with
 | [c], h => exact ⟨c, rfl, h.head⟩
 | [], h => have := h.1; simp at this
 | _ :: _ :: _, h => have := h.1; simp at this
theorem getV_RI {t : Ty} {v : NVal} {a : AVal} {x : den t} (h : getV t v = some x) (hr : RC hp v a) : RI (putV t x) a := by
 unfold getV at h
 split at h
 · split at h
   · rename_i cs
     cases hr with | p hp' => cases hp' with | ro h => cases h
   · cases h
 · rename_i ht
   obtain ⟨c, hc, hrc⟩ := one_of (un_RI h (A2.single hr))
   unfold putV
   rw [ht]
   simp only [hc]
   exact hrc
theorem getV_RV {t : Ty} {v : NVal} {a : AVal} {x : den t} (h : getV t v = some x) (hr : RV hp v a) : RV hp (putV t x) a := by
 cases hr with
 | c hc => exact (getV_RI h hc).rv
 | agg cs ds hd =>
   unfold getV at h
   split at h
   · rename_i ht
     unfold putV
     rw [ht]
     exact .agg _ _ ((un_RI h hd).mono fun _ _ h => h.c)
   · have := (good t).2.2.2 _ _ (.agg cs) h (by simp)
     cases this
mutual
theorem get_RI : ∀ {s : Sh} {v : NVal} {a : AVal} {x : s.den}, s.isUndef = false → get s v = some x → RI v a → RI (put s x) a
 | .v t, v, a, x, _, h, hr => getV_RI (hp := []) h hr.c
 | .undef, v, a, x, hu, h, hr => by cases hu
 | .nilp, v, a, x, _, h, hr => by simp only [get] at h; split at h <;> first | exact hr | cases h
 | .zsl, v, a, x, _, h, hr => by simp only [get] at h; split at h <;> first | exact hr | cases h
 | .nilfn, v, a, x, _, h, hr => by simp only [get] at h; split at h <;> first | exact hr | cases h
 | .nili, v, a, x, _, h, hr => by simp only [get] at h; split at h <;> first | exact hr | cases h
 | .ptr b i f, v, a, x, _, h, hr => by simp only [get] at h; split at h <;> first | (cases h; done) | (cases hr; done)
 | .slw b e, v, a, x, _, h, hr => by simp only [get] at h; split at h <;> first | (cases h; done) | (cases hr; done)
 | .fn f l, v, a, x, _, h, hr => by
   simp only [get] at h
   split at h
   · split at h
     · rename_i hf
       subst hf
       cases hr with
       | fn _ cap cap' hl hh =>
         have := gets_RI h ⟨hl, hh⟩
         exact .fn _ _ _ this.1 this.2
     · cases h
   · cases h
 | .agg l, v, a, x, _, h, hr => by simp only [get] at h; split at h <;> first | (cases h; done) | (cases hr; done)
 | .tup l, v, a, x, _, h, hr => by simp only [get] at h; split at h <;> first | (cases h; done) | (cases hr; done)
 | .iptr l off, v, a, x, _, h, hr => by
   simp only [get] at h
   split at h
   · split at h
     · rename_i hf
       subst hf
       obtain ⟨ds, rfl, hd⟩ := hr.iptr_inv
       have := gets_RI h hd
       exact .iptr _ _ _ this.1 this.2
     · cases h
   · cases h
 | .rows e l, v, a, x, _, h, hr => by
   simp only [get] at h
   split at h
   · split at h
     · rename_i he
       subst he
       simp only [put]
       rcases hr.rows_inv with ⟨ys, rfl, hy⟩ | ⟨rfl, rfl⟩
       · exact .mk_rows (getsR_RI h hy)
       · have := (getsR_RI (ds := []) h .nil).1
         rw [List.eq_nil_of_length_eq_zero this]
         exact .rows0 _
     · cases h
   · cases h
 | .nil, v, a, x, _, h, hr => by simp [get] at h
 | .cons _ _, v, a, x, _, h, hr => by simp [get] at h
theorem gets_RI : ∀ {s : Sh} {vs : List NVal} {ds : List AVal} {x : s.den}, gets s vs = some x → A2 RI vs ds → A2 RI (puts s x) ds
 | .cons a l, vs, ds, x, h, hr => by
   simp only [gets] at h
   split at h
   · rename_i v vs
     obtain ⟨d, ds, rfl, h1, h2⟩ := hr.cons_inv
     split at h
     · rename_i y hy
       split at h
       · rename_i z hz
         cases h
         split at hy
         · cases hy
         · rename_i hu
           simp only [puts]
           exact .cons (get_RI (by simpa using hu) hy h1) (gets_RI hz h2)
       · cases h
     · cases h
   · cases h
 | .nil, vs, ds, x, h, hr => by
   simp only [gets] at h
   split at h
   · rw [hr.nil_inv]; exact .nil
   · cases h
 | .v _, vs, ds, x, h, hr => by simp [gets] at h
 | .undef, vs, ds, x, h, hr => by simp [gets] at h
 | .nilp, vs, ds, x, h, hr => by simp [gets] at h
 | .zsl, vs, ds, x, h, hr => by simp [gets] at h
 | .nilfn, vs, ds, x, h, hr => by simp [gets] at h
 | .nili, vs, ds, x, h, hr => by simp [gets] at h
 | .ptr _ _ _, vs, ds, x, h, hr => by simp [gets] at h
 | .slw _ _, vs, ds, x, h, hr => by simp [gets] at h
 | .fn _ _, vs, ds, x, h, hr => by simp [gets] at h
 | .agg _, vs, ds, x, h, hr => by simp [gets] at h
 | .tup _, vs, ds, x, h, hr => by simp [gets] at h
 | .iptr _ _, vs, ds, x, h, hr => by simp [gets] at h
 | .rows _ _, vs, ds, x, h, hr => by simp [gets] at h
theorem getsR_RI : ∀ {s : Sh} {vs : List (List NVal)} {ds : List (List AVal)} {x : s.den}, getsR s vs = some x → A2 (A2 RI) vs ds → A2 (A2 RI) (putsR s x) ds
 | .cons a l, vs, ds, x, h, hr => by
   simp only [getsR] at h
   split at h
   · rename_i v vs
     obtain ⟨d, ds, rfl, h1, h2⟩ := hr.cons_inv
     split at h
     · rename_i y hy
       split at h
       · rename_i z hz
         cases h
         simp only [putsR]
         exact .cons (gets_RI hy h1) (getsR_RI hz h2)
       · cases h
     · cases h
   · cases h
 | .nil, vs, ds, x, h, hr => by
   simp only [getsR] at h
   split at h
   · rw [hr.nil_inv]; exact .nil
   · cases h
 | .v _, vs, ds, x, h, hr => by simp [getsR] at h
 | .undef, vs, ds, x, h, hr => by simp [getsR] at h
 | .nilp, vs, ds, x, h, hr => by simp [getsR] at h
 | .zsl, vs, ds, x, h, hr => by simp [getsR] at h
 | .nilfn, vs, ds, x, h, hr => by simp [getsR] at h
 | .nili, vs, ds, x, h, hr => by simp [getsR] at h
 | .ptr _ _ _, vs, ds, x, h, hr => by simp [getsR] at h
 | .slw _ _, vs, ds, x, h, hr => by simp [getsR] at h
 | .fn _ _, vs, ds, x, h, hr => by simp [getsR] at h
 | .agg _, vs, ds, x, h, hr => by simp [getsR] at h
 | .tup _, vs, ds, x, h, hr => by simp [getsR] at h
 | .iptr _ _, vs, ds, x, h, hr => by simp [getsR] at h
 | .rows _ _, vs, ds, x, h, hr => by simp [getsR] at h
end
theorem gets_R {R : NVal → AVal → Prop} (hR : ∀ (s : Sh) (v : NVal) (a : AVal) (x : s.den), s.isUndef = false → get s v = some x → R v a → R (put s x) a) : ∀ {s : Sh} {vs : List NVal} {ds : List AVal} {x : s.den}, gets s vs = some x → A2 R vs ds → A2 R (puts s x) ds
 | .cons a l, vs, ds, x, h, hr => by
   simp only [gets] at h
   split at h
   · rename_i v vs
     obtain ⟨d, ds, rfl, h1, h2⟩ := hr.cons_inv
     split at h
     · rename_i y hy
       split at h
       · rename_i z hz
         cases h
         split at hy
         · cases hy
         · rename_i hu
           simp only [puts]
           exact .cons (hR _ _ _ _ (by simpa using hu) hy h1) (gets_R hR hz h2)
       · cases h
     · cases h
   · cases h
 | .nil, vs, ds, x, h, hr => by
   simp only [gets] at h
   split at h
   · rw [hr.nil_inv]; exact .nil
   · cases h
 | .v _, vs, ds, x, h, hr => by simp [gets] at h
 | .undef, vs, ds, x, h, hr => by simp [gets] at h
 | .nilp, vs, ds, x, h, hr => by simp [gets] at h
 | .zsl, vs, ds, x, h, hr => by simp [gets] at h
 | .nilfn, vs, ds, x, h, hr => by simp [gets] at h
 | .nili, vs, ds, x, h, hr => by simp [gets] at h
 | .ptr _ _ _, vs, ds, x, h, hr => by simp [gets] at h
 | .slw _ _, vs, ds, x, h, hr => by simp [gets] at h
 | .fn _ _, vs, ds, x, h, hr => by simp [gets] at h
 | .agg _, vs, ds, x, h, hr => by simp [gets] at h
 | .tup _, vs, ds, x, h, hr => by simp [gets] at h
 | .iptr _ _, vs, ds, x, h, hr => by simp [gets] at h
 | .rows _ _, vs, ds, x, h, hr => by simp [gets] at h
theorem get_undef {s : Sh} {x : s.den} (hu : s.isUndef = false) (h : get s .undef = some x) : False := by
 cases s <;> simp [get, Sh.isUndef] at h hu
 rename_i t
 unfold getV at h
 split at h
 · cases h
 · have := (good t).2.2.2 _ _ .undef h (by simp)
   cases this
theorem get_RP (s : Sh) (v : NVal) (a : AVal) (x : s.den) (hu : s.isUndef = false) (h : get s v = some x) (hr : RP hp v a) : RP hp (put s x) a := by
 cases hr with
 | ro hr => exact .ro (get_RI hu h hr)
 | undef => exact (get_undef hu h).elim
 | ptr b i f =>
   cases s <;> simp [get, Sh.isUndef] at h hu
   · rename_i t
     exact .ro (getV_RI (hp := hp) h (.p (.ptr b i f)))
   · obtain ⟨rfl, rfl, rfl⟩ := h
     exact .ptr _ _ _
 | sl b o l e =>
   cases s <;> simp [get, Sh.isUndef] at h hu
   rename_i t
   exact .ro (getV_RI (hp := hp) h (.p (.sl b o l e)))
 | slw b e n hn =>
   cases s <;> simp [get, Sh.isUndef] at h hu
   · rename_i t
     exact .ro (getV_RI (hp := hp) h (.p (.slw b e n hn)))
   · obtain ⟨rfl, rfl⟩ := h
     exact .slw _ _ _ hn
theorem get_RC (s : Sh) (v : NVal) (a : AVal) (x : s.den) (hu : s.isUndef = false) (h : get s v = some x) (hr : RC hp v a) : RC hp (put s x) a := by
 cases hr with
 | p hr => exact .p (get_RP s v a x hu h hr)
 | fn f cap cap' hc =>
   cases s with
   | v t =>
     simp only [get] at h
     exact (getV_RI (hp := hp) h (.fn f cap cap' hc)).c
   | fn f' l =>
     simp only [get] at h
     split at h
     · rename_i hf
       subst hf
       exact .fn _ _ _ (gets_R get_RP h hc)
     · cases h
   | undef => cases hu
   | _ => simp [get] at h
theorem get_RV (s : Sh) (v : NVal) (a : AVal) (x : s.den) (hu : s.isUndef = false) (h : get s v = some x) (hr : RV hp v a) : RV hp (put s x) a := by
 cases hr with
 | c hr => exact .c (get_RC s v a x hu h hr)
 | agg cs ds hd =>
   cases s with
   | v t =>
     simp only [get] at h
     exact getV_RV h (.agg cs ds hd)
   | agg l => exact .agg _ _ (gets_R get_RC (by simpa only [get] using h) hd)
   | undef => cases hu
   | _ => simp [get] at h
theorem get_RT (s : Sh) (v : NVal) (a : AVal) (x : s.den) (h : get s v = some x) (hr : RT hp v a) : RT hp (put s x) a := by
 by_cases hu : s.isUndef = true
 · cases s <;> simp [Sh.isUndef] at hu
   exact .undef _
 · have hu : s.isUndef = false := by simpa using hu
   cases hr with
   | undef a => exact (get_undef hu h).elim
   | v hr => exact .v (get_RV s v a x hu h hr)
   | tup cs ds hd =>
     cases s with
     | v t =>
       simp only [get] at h
       unfold getV at h
       split at h
       · cases h
       · have := (good t).2.2.2 _ _ (.tup cs) h (by simp)
         cases this
     | tup l => exact .tup _ _ (gets_R get_RV (by simpa only [get] using h) hd)
     | undef => cases hu
     | _ => simp [get] at h
end
theorem allOf_length {α β : Type} {f : α → Option β} : ∀ {xs : List α} {ys : List β}, allOf f xs = some ys → ys.length = xs.length
 | [], ys, h => by simp [allOf] at h; subst h; rfl
 | x :: xs, ys, h => by
   simp only [allOf] at h
   split at h
   · split at h
     · rename_i hz; cases h; simp [allOf_length hz]
     · cases h
   · cases h
def slotLen : NSlot → Nat → Prop
 | .live k, n => k.len = n
 | .dead, _ => True
 | .gone, _ => True
 | .free, _ => False
theorem lenAt_iff {hp : NHeap} {b n : Nat} : lenAt hp b n ↔ ∃ s, hp[b]? = some s ∧ slotLen s n := by
 unfold lenAt
 cases hb : hp[b]? with
 | none => simp
 | some s => cases s <;> simp [slotLen]
theorem getsR_length : ∀ {s : Sh} {rows : List (List NVal)} {x : s.den}, getsR s rows = some x → (putsR s x).length = rows.length
 | .cons a l, rows, x, h => by
   cases rows with
   | nil => simp [getsR] at h
   | cons v vs =>
     simp only [getsR] at h
     split at h
     · split at h
       · rename_i y hy
         cases h
         simp [putsR, getsR_length hy]
       · cases h
     · cases h
 | .nil, rows, x, h => by
   cases rows with
   | nil => simp [putsR]
   | cons v vs => simp [getsR] at h
 | .v _, _, _, h => by cases h
 | .undef, _, _, h => by cases h
 | .nilp, _, _, h => by cases h
 | .zsl, _, _, h => by cases h
 | .nilfn, _, _, h => by cases h
 | .nili, _, _, h => by cases h
 | .ptr _ _ _, _, _, h => by cases h
 | .slw _ _, _, _, h => by cases h
 | .fn _ _, _, _, h => by cases h
 | .agg _, _, _, h => by cases h
 | .tup _, _, _, h => by cases h
 | .iptr _ _, _, _, h => by cases h
 | .rows _ _, _, _, h => by cases h
theorem getsR_rel {hp : NHeap} : ∀ {s : Sh} {rows : List (List NVal)} {ds : List (List AVal)} {x : s.den}, getsR s rows = some x → A2 (A2 (RC hp)) rows ds → A2 (A2 (RC hp)) (putsR s x) ds
 | .cons a l, rows, ds, x, h, hr => by
   cases rows with
   | nil => simp [getsR] at h
   | cons v vs =>
     simp only [getsR] at h
     obtain ⟨d, ds, rfl, h1, h2⟩ := hr.cons_inv
     split at h
     · rename_i x hx
       split at h
       · rename_i y hy
         cases h
         simp only [putsR]
         exact .cons (gets_R get_RC hx h1) (getsR_rel hy h2)
       · cases h
     · cases h
 | .nil, rows, ds, x, h, hr => by
   cases rows with
   | nil => simpa [putsR] using hr
   | cons v vs => simp [getsR] at h
 | .v _, _, _, _, h, _ => by cases h
 | .undef, _, _, _, h, _ => by cases h
 | .nilp, _, _, _, h, _ => by cases h
 | .zsl, _, _, _, h, _ => by cases h
 | .nilfn, _, _, _, h, _ => by cases h
 | .nili, _, _, _, h, _ => by cases h
 | .ptr _ _ _, _, _, _, h, _ => by cases h
 | .slw _ _, _, _, _, h, _ => by cases h
 | .fn _ _, _, _, _, h, _ => by cases h
 | .agg _, _, _, _, h, _ => by cases h
 | .tup _, _, _, _, h, _ => by cases h
 | .iptr _ _, _, _, _, h, _ => by cases h
 | .rows _ _, _, _, _, h, _ => by cases h
theorem getS_len {h : HS} {s : NSlot} {x : h.den} (hg : getS h s = some x) {n : Nat} (hs : slotLen s n) : slotLen (putS h x) n := by
 cases h with
 | dead => trivial
 | typed t =>
   simp only [getS] at hg
   split at hg
   · split at hg
     · rename_i ht; subst ht; cases hg; exact hs
     · cases hg
   · split at hg
     · have := allOf_length hg
       simp only [slotLen, putS, NBlk.len] at hs ⊢
       rw [this]; exact hs
     · cases hg
   · cases hg
 | cell flat row =>
   simp only [getS] at hg
   split at hg
   · simp only [slotLen, putS, NBlk.len] at hs ⊢
     simpa using hs
   · cases hg
 | one flat t =>
   simp only [getS] at hg
   split at hg
   · simp only [slotLen, putS, NBlk.len] at hs ⊢
     simpa using hs
   · cases hg
 | many e r =>
   simp only [getS] at hg
   split at hg
   · split at hg
     · simp only [slotLen, putS, NBlk.len] at hs ⊢
       rw [getsR_length hg]; exact hs
     · cases hg
   · cases hg
theorem RB.row' {hp : NHeap} {k : AM.Blk} {e : Nat} {flat : Bool} {rows : List (List NVal)} (h : RB hp (.cells e flat rows) k) : A2 (A2 (RC hp)) rows k.elems := by
 cases flat with
 | true => exact (h.2.2.1 rfl).mono fun _ _ h => h.mono fun _ _ h => h.c
 | false => exact h.2.2.2 rfl
theorem getS_rel {hp : NHeap} {h : HS} {s : NSlot} {s' : Slot} {x : h.den} (hg : getS h s = some x) (hr : RS hp s s') : RS hp (putS h x) s' := by
 cases h with
 | dead =>
   simp only [getS] at hg
   split at hg
   · exact hr
   · cases hg
 | typed t =>
   simp only [getS] at hg
   split at hg
   · split at hg
     · rename_i ht; subst ht; cases hg; exact hr
     · cases hg
   · rename_i e rows
     split at hg
     · rename_i he
       cases hr with
       | live _ k hk => exact .live _ _ ⟨by rw [hk.1]; exact he, hk.2.1, allOf_A2 (good t) hg (hk.2.2.1 rfl)⟩
     · cases hg
   · cases hg
 | one flat t =>
   simp only [getS] at hg
   split at hg
   · rename_i e flat' row'
     split at hg
     · rename_i hc
       obtain ⟨rfl, rfl⟩ := hc
       cases hr with
       | live _ k hk =>
         have hrow := RB.row' hk
         obtain ⟨ds, dss, qe, q5, q6⟩ := hrow.cons_inv
         rw [q6.nil_inv] at qe
         have hx := un_RI hg q5
         refine .live _ _ ⟨?_, hk.2.1, fun hf => ?_, fun hf => ?_⟩
         · rw [hk.1, q5.1, hx.1]
         · rw [qe]
           exact .single hx
         · rw [qe]
           exact .single (hx.mono fun _ _ h => h.c)
     · cases hg
   · cases hg
 | many e r =>
   simp only [getS] at hg
   split at hg
   · rename_i e' rows
     split at hg
     · rename_i he
       cases hr with
       | live _ k hk => exact .live _ _ ⟨by rw [hk.1]; exact he, hk.2.1, fun hf => (by cases hf), fun _ => getsR_rel hg (hk.2.2.2 rfl)⟩
     · cases hg
   · cases hg
 | cell flat row =>
   simp only [getS] at hg
   split at hg
   · rename_i e flat' row'
     split at hg
     · rename_i hc
       obtain ⟨rfl, rfl⟩ := hc
       cases hr with
       | live _ k hk =>
         have key : ∃ r', k.elems = [r'] := by
           have := hk.len
           simp [NBlk.len] at this
           exact List.length_eq_one_iff.1 this.symm
         obtain ⟨r', hr'⟩ := key
         refine .live _ _ ⟨?_, hk.2.1, fun hf => ?_, fun hf => ?_⟩
         · rw [hk.1]
           cases flat' with
           | true =>
             have h1 := hk.2.2.1 rfl
             rw [hr'] at h1
             rw [(gets_RI hg h1.head).1, h1.head.1]
           | false =>
             have h1 := hk.2.2.2 rfl
             rw [hr'] at h1
             rw [(gets_R get_RC hg h1.head).1, h1.head.1]
         · have h1 := hk.2.2.1 hf
           rw [hr'] at h1 ⊢
           exact .single (gets_RI hg h1.head)
         · have h1 := hk.2.2.2 hf
           rw [hr'] at h1 ⊢
           exact .single (gets_R get_RC hg h1.head)
     · cases hg
   · cases hg
theorem getH_len : ∀ {l : List HS} {hp : NHeap} {x : denH l}, getH l hp = some x → Evo hp (putH l x)
 | [], hp, x, h => by
   simp only [getH] at h
   split at h
   · exact .refl _
   · cases h
 | h :: l, hp, x, hg => by
   simp only [getH] at hg
   split at hg
   · rename_i s hp
     split at hg
     · rename_i y hy
       split at hg
       · rename_i z hz
         cases hg
         intro b n hb
         rw [lenAt_iff] at hb ⊢
         obtain ⟨s', hs', hl⟩ := hb
         simp only [putH]
         cases b with
         | zero => simp at hs'; subst hs'; exact ⟨_, rfl, getS_len hy hl⟩
         | succ b =>
           simp at hs'
           obtain ⟨s2, h2, h3⟩ := lenAt_iff.1 (getH_len hz b n (lenAt_iff.2 ⟨s', hs', hl⟩))
           exact ⟨s2, by simpa using h2, h3⟩
       · cases hg
     · cases hg
   · cases hg
theorem getH_rel' {R : NHeap} : ∀ {l : List HS} {hp : NHeap} {ahp : Heap} {x : denH l}, getH l hp = some x → A2 (RS R) hp ahp → A2 (RS R) (putH l x) ahp
 | [], hp, ahp, x, h, hr => by
   simp only [getH] at h
   split at h
   · exact hr
   · cases h
 | h :: l, hp, ahp, x, hg, hr => by
   simp only [getH] at hg
   split at hg
   · rename_i s hp
     obtain ⟨a, ahp, rfl, h1, h2⟩ := hr.cons_inv
     split at hg
     · rename_i y hy
       split at hg
       · rename_i z hz
         cases hg
         exact .cons (getS_rel hy h1) (getH_rel' hz h2)
       · cases hg
     · cases hg
   · cases hg
theorem getH_rel {l : List HS} {hp : NHeap} {ahp : Heap} {x : denH l} (h : getH l hp = some x) (hr : RH hp ahp) : RH (putH l x) ahp :=
 A2.mono (fun _ _ k => k.mono (getH_len h)) (getH_rel' h hr)
end NM
end Go.Proofs.YtjngkfdclcgfhaaGreatDoor
end
section
namespace Go.Proofs.YtjngkfdclcgfhaaGreatDoor
namespace NM
open AM
section
variable {hp hp' : NHeap} {ahp : Heap}
theorem RI.own {v : NVal} {a : AVal} (h : RI v a) : (skP v).ownP = a.ownP ∧ a.ownP = [] := by
 cases h <;> exact ⟨rfl, rfl⟩
theorem RP.own {v : NVal} {a : AVal} (h : RP hp v a) : (skP v).ownP = a.ownP := by
 cases h with
 | ro h => exact h.own.1
 | undef => rfl
 | ptr => rfl
 | sl => rfl
 | slw => rfl
theorem own_caps {cap : List NVal} {cap' : List AVal} (h : A2 (RP hp) cap cap') : (cap.map skP).flatMap AVal.ownP = cap'.flatMap AVal.ownP := by
 rw [List.flatMap_map]
 exact A2.flatMap_eq (fun x y hxy => hxy.own) h
theorem RC.own {v : NVal} {a : AVal} (h : RC hp v a) : (skC v).ownC = a.ownC := by
 by_cases hv : ∃ f cap, v = .fn f cap
 · obtain ⟨f, cap, rfl⟩ := hv
   obtain ⟨cap', rfl, hc⟩ := h.fn_inv
   exact own_caps hc
 · cases h with
   | fn f c d h => exact absurd ⟨_, _, rfl⟩ hv
   | p h =>
     have e1 : (skC v).ownC = (skP v).ownP := by
       cases v <;> first | rfl | exact absurd ⟨_, _, rfl⟩ hv
     have e2 : a.ownC = a.ownP := by
       cases h with
       | ro h => cases h <;> first | rfl | exact absurd ⟨_, _, rfl⟩ hv
       | undef => rfl
       | ptr => rfl
       | sl => rfl
       | slw => rfl
     rw [e1, e2]; exact h.own
theorem own_cells {cs : List NVal} {ds : List AVal} (h : A2 (RC hp) cs ds) : (cs.map skC).flatMap AVal.ownC = ds.flatMap AVal.ownC := by
 rw [List.flatMap_map]
 exact A2.flatMap_eq (fun x y hxy => hxy.own) h
theorem RC.not_agg {v : NVal} {a : AVal} (h : RC hp v a) : (∀ cs, v ≠ .agg cs) ∧ (∀ cs, v ≠ .tup cs) ∧ (∀ cs, a ≠ .agg cs) ∧ (∀ cs, a ≠ .tup cs) := by
 cases h with
 | fn => exact ⟨fun _ => by simp, fun _ => by simp, fun _ => by simp, fun _ => by simp⟩
 | p h => cases h with
   | ro h => cases h <;> exact ⟨fun _ => by simp, fun _ => by simp, fun _ => by simp, fun _ => by simp⟩
   | undef => exact ⟨fun _ => by simp, fun _ => by simp, fun _ => by simp, fun _ => by simp⟩
   | ptr => exact ⟨fun _ => by simp, fun _ => by simp, fun _ => by simp, fun _ => by simp⟩
   | sl => exact ⟨fun _ => by simp, fun _ => by simp, fun _ => by simp, fun _ => by simp⟩
   | slw => exact ⟨fun _ => by simp, fun _ => by simp, fun _ => by simp, fun _ => by simp⟩
theorem RV.own {v : NVal} {a : AVal} (h : RV hp v a) : (skV v).ownV = a.ownV := by
 cases h with
 | agg cs ds h => exact own_cells h
 | c h =>
   obtain ⟨h1, _, h2, _⟩ := h.not_agg
   have e1 : (skV v).ownV = (skC v).ownC := by
     cases v <;> first | rfl | exact absurd rfl (h1 _)
   have e2 : a.ownV = a.ownC := by
     cases a <;> first | rfl | exact absurd rfl (h2 _)
   rw [e1, e2]; exact h.own
theorem RV.not_tup {v : NVal} {a : AVal} (h : RV hp v a) : (∀ cs, v ≠ .tup cs) ∧ (∀ cs, a ≠ .tup cs) := by
 cases h with
 | agg => exact ⟨fun _ => by simp, fun _ => by simp⟩
 | c h => exact ⟨h.not_agg.2.1, h.not_agg.2.2.2⟩
inductive RTs (hp : NHeap) : NVal → AVal → Prop
 | undef : RTs hp .undef .undef
 | v {v : NVal} {a : AVal} : RV hp v a → RTs hp v a
 | tup (cs : List NVal) (ds : List AVal) : A2 (RV hp) cs ds → RTs hp (.tup cs) (.tup ds)
theorem RTs.rt {v : NVal} {a : AVal} (h : RTs hp v a) : RT hp v a := by
 cases h with
 | undef => exact .undef _
 | v h => exact .v h
 | tup c d h => exact .tup c d h
theorem RTs.own {v : NVal} {a : AVal} (h : RTs hp v a) : (skT v).ownT = a.ownT := by
 cases h with
 | undef => rfl
 | tup cs ds h =>
   show (cs.map skV).flatMap AVal.ownV = ds.flatMap AVal.ownV
   rw [List.flatMap_map]
   exact A2.flatMap_eq (fun x y hxy => hxy.own) h
 | v h =>
   obtain ⟨h1, h2⟩ := h.not_tup
   have e1 : (skT v).ownT = (skV v).ownV := by
     cases v <;> first | rfl | exact absurd rfl (h1 _)
   have e2 : a.ownT = a.ownV := by
     cases a <;> first | rfl | exact absurd rfl (h2 _)
   rw [e1, e2]; exact h.own
theorem reach_congr {h1 h2 : Heap} (h : ∀ b, (h1.get b).map AM.Blk.owns = (h2.get b).map AM.Blk.owns) (keep roots : List Nat) : reach h1 keep roots = reach h2 keep roots := by
 have hs : ∀ b, (h1.get b).isSome = (h2.get b).isSome := fun b => by
   have := congrArg Option.isSome (h b)
   simpa using this
 have ha : ∀ l, alive h1 l = alive h2 l := fun l => by
   unfold alive
   congr 1
   funext b
   exact hs b
 have ho : ∀ acc, reachOnce h1 acc = reachOnce h2 acc := fun acc => by
   unfold reachOnce
   rw [ha]
   congr 2
   congr 1
   funext b
   have := h b
   cases e1 : h1.get b <;> cases e2 : h2.get b <;> rw [e1, e2] at this <;> simp at this ⊢
   exact this
 unfold reach
 rw [ha, ho, ho, ho]
def noGone (hp : NHeap) : Prop := ∀ b : Nat, hp[b]? ≠ some NSlot.gone
theorem skH_get {b : Nat} : (skH hp).get b = (nget hp b).map skB := by
 unfold skH Heap.get nget
 rw [List.getElem?_map]
 cases hp[b]? with
 | none => rfl
 | some s => cases s <;> rfl
theorem RB.owns {kb : NBlk} {k : AM.Blk} (h : RB hp kb k) : (skB kb).owns = k.owns := by
 cases kb with
 | typed t xs => simp [skB, AM.Blk.owns, h.2.1]
 | cells e flat rows =>
   cases flat with
   | true => simp [skB, AM.Blk.owns, h.2.1]
   | false =>
     simp only [skB, AM.Blk.owns, h.2.1, Bool.false_eq_true, if_false]
     rw [List.flatMap_map]
     refine A2.flatMap_eq (fun x y hxy => ?_) (h.2.2.2 rfl)
     exact own_cells hxy
theorem RH.getNone (h : RH hp ahp) (hg : noGone hp) {b : Nat} (hb : nget hp b = none) : ahp.get b = none := by
 cases hs : hp[b]? with
 | none =>
   have : ahp[b]? = none := by rw [List.getElem?_eq_none_iff] at hs ⊢; rw [← h.1]; exact hs
   unfold Heap.get; rw [this]
 | some s =>
   obtain ⟨s', hs', hr⟩ := A2.get h hs
   cases hr with
   | free => unfold Heap.get; rw [hs']
   | dead => unfold Heap.get; rw [hs']
   | gone => exact absurd hs (hg b)
   | live kb k hk => rw [nget_iff.2 hs] at hb; cases hb
theorem RH.reach (h : RH hp ahp) (hg : noGone hp) (keep roots : List Nat) : AM.reach (skH hp) keep roots = AM.reach ahp keep roots := by
 refine reach_congr (fun b => ?_) keep roots
 rw [skH_get]
 cases hb : nget hp b with
 | none => rw [h.getNone hg hb]; rfl
 | some kb =>
   obtain ⟨k, hk, hr⟩ := h.get hb
   rw [hk]
   simp only [Option.map_some, hr.owns]
theorem noneGone_mem {l : List Nat} (h : noneGone hp l = true) : ∀ b ∈ l, hp[b]? ≠ some NSlot.gone := by
 intro b hb e
 unfold noneGone at h
 rw [List.all_eq_true] at h
 have := h b hb
 rw [e] at this
 cases this
theorem RH.getNone1 (h : RH hp ahp) {b : Nat} (hg : hp[b]? ≠ some NSlot.gone) (hb : nget hp b = none) : ahp.get b = none := by
 cases hs : hp[b]? with
 | none =>
   have : ahp[b]? = none := by rw [List.getElem?_eq_none_iff] at hs ⊢; rw [← h.1]; exact hs
   unfold Heap.get; rw [this]
 | some s =>
   obtain ⟨s', hs', hr⟩ := A2.get h hs
   cases hr with
   | free => unfold Heap.get; rw [hs']
   | dead => unfold Heap.get; rw [hs']
   | gone => exact absurd hs hg
   | live kb k hk => rw [nget_iff.2 hs] at hb; cases hb
theorem RH.owns1 (h : RH hp ahp) {b : Nat} (hg : hp[b]? ≠ some NSlot.gone) : ((skH hp).get b).map AM.Blk.owns = (ahp.get b).map AM.Blk.owns := by
 rw [skH_get]
 cases hb : nget hp b with
 | none => rw [h.getNone1 hg hb]; rfl
 | some kb =>
   obtain ⟨k, hk, hr⟩ := h.get hb
   rw [hk]
   simp only [Option.map_some, hr.owns]
theorem ownsAt_congr {h1 h2 : Heap} {b : Nat} (h : (h1.get b).map AM.Blk.owns = (h2.get b).map AM.Blk.owns) : ownsAt h1 b = ownsAt h2 b := by
 unfold ownsAt
 cases e1 : h1.get b <;> cases e2 : h2.get b <;> rw [e1, e2] at h <;> simp at h ⊢
 exact h
theorem alive_congr {h1 h2 : Heap} (l : List Nat) (h : ∀ b ∈ l, (h1.get b).map AM.Blk.owns = (h2.get b).map AM.Blk.owns) : alive h1 l = alive h2 l := by
 unfold alive
 exact List.filter_congr fun b hb => by
   have := congrArg Option.isSome (h b hb)
   simpa using this
theorem once_congr {h1 h2 : Heap} (acc : List Nat) (ha : ∀ b ∈ acc, (h1.get b).map AM.Blk.owns = (h2.get b).map AM.Blk.owns) (hb : ∀ b ∈ acc.flatMap (ownsAt h1), (h1.get b).map AM.Blk.owns = (h2.get b).map AM.Blk.owns) : reachOnce h1 acc = reachOnce h2 acc := by
 show addNew acc (alive h1 (acc.flatMap (ownsAt h1))) = addNew acc (alive h2 (acc.flatMap (ownsAt h2)))
 have e : acc.flatMap (ownsAt h1) = acc.flatMap (ownsAt h2) := by
   rw [List.flatMap_def, List.flatMap_def]
   congr 1
   exact List.map_congr_left fun b hb => ownsAt_congr (ha b hb)
 rw [← e, alive_congr _ hb]
theorem reach_congr1 {h1 h2 : Heap} (roots : List Nat) (q0 : ∀ b ∈ roots, (h1.get b).map AM.Blk.owns = (h2.get b).map AM.Blk.owns) (q1 : ∀ b ∈ reach h1 [] roots, (h1.get b).map AM.Blk.owns = (h2.get b).map AM.Blk.owns)
   (q2 : ∀ b ∈ (reach h1 [] roots).flatMap (ownsAt h1), (h1.get b).map AM.Blk.owns = (h2.get b).map AM.Blk.owns) : reach h1 [] roots = reach h2 [] roots := by
 have up : ∀ acc b, b ∈ acc → b ∈ reachOnce h1 acc := fun acc b hb => mem_addNew _ _ hb
 have fl : ∀ (A B : List Nat), (∀ b, b ∈ A → b ∈ B) → ∀ b, b ∈ A.flatMap (ownsAt h1) → b ∈ B.flatMap (ownsAt h1) := fun A B hAB b hb => by
   rw [List.mem_flatMap] at hb ⊢
   obtain ⟨c, hc, hb⟩ := hb
   exact ⟨c, hAB c hc, hb⟩
 unfold AM.reach at q1 q2 ⊢
 rw [← alive_congr roots q0]
 generalize addNew [] (alive h1 roots) = a0 at *
 have u0 : ∀ b, b ∈ a0 → b ∈ reachOnce h1 (reachOnce h1 (reachOnce h1 a0)) := fun b hb => up _ _ (up _ _ (up _ _ hb))
 have u1 : ∀ b, b ∈ reachOnce h1 a0 → b ∈ reachOnce h1 (reachOnce h1 (reachOnce h1 a0)) := fun b hb => up _ _ (up _ _ hb)
 have u2 : ∀ b, b ∈ reachOnce h1 (reachOnce h1 a0) → b ∈ reachOnce h1 (reachOnce h1 (reachOnce h1 a0)) := fun b hb => up _ _ hb
 rw [← once_congr a0 (fun b hb => q1 b (u0 b hb)) (fun b hb => q2 b (fl _ _ u0 b hb)),
   ← once_congr (reachOnce h1 a0) (fun b hb => q1 b (u1 b hb)) (fun b hb => q2 b (fl _ _ u1 b hb)),
   ← once_congr (reachOnce h1 (reachOnce h1 a0)) (fun b hb => q1 b (u2 b hb)) (fun b hb => q2 b (fl _ _ u2 b hb))]
theorem RH.reach1 (h : RH hp ahp) (roots : List Nat) (hl : (AM.reach (skH hp) [] roots).all (fun b => (nget hp b).isSome) = true) (hg : noneGone hp (roots ++ (AM.reach (skH hp) [] roots).flatMap (ownsAt (skH hp))) = true) :
   AM.reach (skH hp) [] roots = AM.reach ahp [] roots ∧ ∀ b ∈ AM.reach (skH hp) [] roots, ownsAt (skH hp) b = ownsAt ahp b := by
 have hm := noneGone_mem hg
 have live : ∀ b ∈ AM.reach (skH hp) [] roots, hp[b]? ≠ some NSlot.gone := fun b hb e => by
   rw [List.all_eq_true] at hl
   have := hl b hb
   unfold nget at this
   rw [e] at this
   cases this
 exact ⟨reach_congr1 roots (fun b hb => h.owns1 (hm b (List.mem_append_left _ hb))) (fun b hb => h.owns1 (live b hb)) (fun b hb => h.owns1 (hm b (List.mem_append_right _ hb))), fun b hb => ownsAt_congr (h.owns1 (live b hb))⟩
theorem RI.imm_eq {v : NVal} {a : AVal} (h : RI v a) : nimmP v = a.immP := by
 cases h <;> rfl
theorem RP.imm_eq {v : NVal} {a : AVal} (h : RP hp v a) : nimmP v = a.immP := by
 cases h with
 | ro h => exact h.imm_eq
 | undef => rfl
 | ptr => rfl
 | sl => rfl
 | slw => rfl
theorem all_imm_eq {cap : List NVal} {cap' : List AVal} : A2 (RP hp) cap cap' → cap.all nimmP = cap'.all AVal.immP := by
 induction cap generalizing cap' with
 | nil => intro h; rw [h.nil_inv]; rfl
 | cons c cap ih => intro h; obtain ⟨d, ds, rfl, h1, h2⟩ := h.cons_inv; simp only [List.all_cons, ih h2, h1.imm_eq]
def Keeps (f : Nat → Option Nat) (hp hp' : NHeap) : Prop := ∀ b n c, lenAt hp b n → f b = some c → lenAt hp' c n
theorem renP_rel {f : Nat → Option Nat} (hf : Keeps f hp hp') {v : NVal} {a : AVal} (h : RP hp v a) : RP hp' (nrenP f v) (a.renP f) := by
 cases h with
 | undef => exact .undef
 | ptr b i o =>
   simp only [nrenP, AVal.renP]
   cases f b with
   | none => exact .undef
   | some c => exact .ptr _ _ _
 | sl b o l e =>
   simp only [nrenP, AVal.renP]
   cases f b with
   | none => exact .undef
   | some c => exact .sl _ _ _ _
 | slw b e n hn =>
   simp only [nrenP, AVal.renP]
   cases hc : f b with
   | none => exact .undef
   | some c => exact .slw _ _ _ (hf b n c hn hc)
 | ro h =>
   cases h with
   | fn g cap cap' hl hh =>
     simp only [nrenP, AVal.renP]
     rw [all_imm_eq (hp := hp) ⟨hl, fun j c d hc hd => .ro (hh j c d hc hd)⟩]
     split
     · exact .ro (.fn g cap cap' hl hh)
     · exact .undef
   | bool b => exact .ro (.bool b)
   | int k n => exact .ro (.int k n)
   | str s => exact .ro (.str s)
   | nilp => exact .ro .nilp
   | zsl => exact .ro .zsl
   | nilfn => exact .ro .nilfn
   | nili => exact .ro .nili
   | iptr cs ds off h1 h2 => exact .ro (.iptr cs ds off h1 h2)
   | lst t xs e ys h1 h2 h3 h4 => exact .ro (.lst t xs e ys h1 h2 h3 h4)
   | lst0 t => exact .ro (.lst0 t)
   | rows e xs ys h1 h2 h3 => exact .ro (.rows e xs ys h1 h2 h3)
   | rows0 e => exact .ro (.rows0 e)
theorem renC_rel {f : Nat → Option Nat} (hf : Keeps f hp hp') {v : NVal} {a : AVal} (h : RC hp v a) : RC hp' (nrenC f v) (a.renC f) := by
 by_cases hv : ∃ g cap, v = .fn g cap
 · obtain ⟨g, cap, rfl⟩ := hv
   obtain ⟨cap', rfl, hc⟩ := h.fn_inv
   exact .fn _ _ _ (hc.map fun _ _ h => renP_rel hf h)
 · cases h with
   | fn g c d h => exact absurd ⟨_, _, rfl⟩ hv
   | p h =>
     have e1 : nrenC f v = nrenP f v := by
       cases v <;> first | rfl | exact absurd ⟨_, _, rfl⟩ hv
     have e2 : a.renC f = a.renP f := by
       cases h with
       | ro h => cases h <;> first | rfl | exact absurd ⟨_, _, rfl⟩ hv
       | undef => rfl
       | ptr => rfl
       | sl => rfl
       | slw => rfl
     rw [e1, e2]; exact .p (renP_rel hf h)
theorem renV_rel {f : Nat → Option Nat} (hf : Keeps f hp hp') {v : NVal} {a : AVal} (h : RV hp v a) : RV hp' (nrenV f v) (a.renV f) := by
 cases h with
 | agg cs ds h => exact .agg _ _ (h.map fun _ _ h => renC_rel hf h)
 | c h =>
   obtain ⟨h1, _, h2, _⟩ := h.not_agg
   have e1 : nrenV f v = nrenC f v := by
     cases v <;> first | rfl | exact absurd rfl (h1 _)
   have e2 : a.renV f = a.renC f := by
     cases a <;> first | rfl | exact absurd rfl (h2 _)
   rw [e1, e2]; exact .c (renC_rel hf h)
theorem renT_rel {f : Nat → Option Nat} (hf : Keeps f hp hp') {v : NVal} {a : AVal} (h : RTs hp v a) : RTs hp' (nrenT f v) (a.renT f) := by
 cases h with
 | undef => exact .undef
 | tup cs ds h => exact .tup _ _ (h.map fun _ _ h => renV_rel hf h)
 | v h =>
   obtain ⟨h1, h2⟩ := h.not_tup
   have e1 : nrenT f v = nrenV f v := by
     cases v <;> first | rfl | exact absurd rfl (h1 _)
   have e2 : a.renT f = a.renV f := by
     cases a <;> first | rfl | exact absurd rfl (h2 _)
   rw [e1, e2]; exact .v (renV_rel hf h)
theorem blk_ren {f : Nat → Option Nat} (hf : Keeps f hp hp') {kb : NBlk} {k : AM.Blk} (h : RB hp kb k) : RB hp' (kb.ren f) (k.ren f) := by
 cases kb with
 | typed t xs =>
   have : k.ren f = k := by unfold AM.Blk.ren; rw [if_pos h.2.1]
   rw [this]; exact h
 | cells e flat rows =>
   cases flat with
   | true =>
     have : k.ren f = k := by unfold AM.Blk.ren; rw [if_pos h.2.1]
     rw [this]
     exact ⟨h.1, h.2.1, h.2.2.1, fun hf => by cases hf⟩
   | false =>
     have : k.ren f = { k with elems := k.elems.map (·.map (AVal.renC f)) } := by unfold AM.Blk.ren; rw [if_neg (by rw [h.2.1]; simp)]
     rw [this]
     exact ⟨h.1, h.2.1, fun hf => (by cases hf), fun _ => (h.2.2.2 rfl).map fun _ _ h => h.map fun _ _ h => renC_rel hf h⟩
theorem ren_len (f : Nat → Option Nat) (kb : NBlk) : (kb.ren f).len = kb.len := by
 cases kb with
 | typed t xs => rfl
 | cells e flat rows => cases flat <;> simp [NBlk.ren, NBlk.len]
theorem index_get {ids : List Nat} {b c : Nat} (h : index ids b = some c) : ids[c]? = some b := by
 unfold index at h
 rw [List.findIdx?_eq_some_iff_getElem] at h
 obtain ⟨hl, h1, _⟩ := h
 rw [List.getElem?_eq_getElem hl]
 simpa using h1
theorem pack_keeps (ids : List Nat) : Keeps (index ids) hp (npack hp ids) := by
 intro b n c hn hc
 have := index_get hc
 rw [lenAt_iff]
 unfold npack
 rw [List.getElem?_map, this]
 refine ⟨_, rfl, ?_⟩
 cases hb : nget hp b with
 | none => simp only [hb]; trivial
 | some kb =>
   simp only [hb, slotLen]
   rw [ren_len]
   exact len_of hn hb
theorem pack_rel (h : RH hp ahp) {ids : List Nat} (hn : ∀ b ∈ ids, nget hp b = none → ahp.get b = none) : RH (npack hp ids) (packHeap ahp ids) := by
 refine ⟨by simp [npack, packHeap], fun j s s' hs hs' => ?_⟩
 unfold npack at hs
 unfold packHeap at hs'
 rw [List.getElem?_map, Option.map_eq_some_iff] at hs hs'
 obtain ⟨b, hb, rfl⟩ := hs
 obtain ⟨b', hb', rfl⟩ := hs'
 rw [hb] at hb'
 cases hb'
 cases hk : nget hp b with
 | none => rw [hn b (List.mem_of_getElem? hb) hk]; exact .dead
 | some kb =>
   obtain ⟨k, hak, hr⟩ := h.get hk
   rw [hak]
   exact .live _ _ (blk_ren (pack_keeps ids) hr)
theorem pack_noGone (ids : List Nat) : noGone (npack hp ids) := by
 intro b hb
 unfold npack at hb
 rw [List.getElem?_map, Option.map_eq_some_iff] at hb
 obtain ⟨c, _, hc⟩ := hb
 cases hk : nget hp c with
 | none => rw [hk] at hc; cases hc
 | some kb => rw [hk] at hc; cases hc
theorem slotLen_ren {s : NSlot} {n : Nat} (f : Nat → Option Nat) (h : slotLen s n) : slotLen (s.ren f) n := by
 cases s with
 | live k => simp only [NSlot.ren, slotLen]; rw [ren_len]; exact h
 | dead => trivial
 | gone => trivial
 | free => trivial
theorem layBack_len {f : Nat → Option Nat} {b n : Nat} : ∀ {back : NHeap} {j : Nat} {hp : NHeap}, lenAt hp b n → (∀ c s, back[c]? = some s → f (j + c) = some b → slotLen s n) → lenAt (nlayBack f hp j back) b n
 | [], j, hp, h, _ => h
 | s :: back, j, hp, h, hs => by
   simp only [nlayBack]
   refine layBack_len ?_ (fun c s' hc hf => hs (c + 1) s' (by simpa using hc) (by rw [← hf]; congr 1; omega))
   cases hfj : f j with
   | none => exact h
   | some b0 =>
     simp only
     rw [lenAt_set]
     split
     · rename_i hb
       have := slotLen_ren f (hs 0 s rfl (by rw [Nat.add_zero, hfj, hb.1]))
       cases hs2 : s.ren f <;> rw [hs2] at this <;> exact this
     · exact h
theorem layBack_length {f : Nat → Option Nat} : ∀ {back : NHeap} {j : Nat} {hp : NHeap}, (nlayBack f hp j back).length = hp.length
 | [], j, hp => rfl
 | s :: back, j, hp => by
   simp only [nlayBack]
   rw [layBack_length]
   split <;> simp
theorem layBack_new {f : Nat → Option Nat} {b n : Nat} : ∀ {back : NHeap} {j : Nat} {hp : NHeap}, b < hp.length → (∃ c s, back[c]? = some s ∧ f (j + c) = some b) → (∀ c s, back[c]? = some s → f (j + c) = some b → slotLen s n) → lenAt (nlayBack f hp j back) b n
 | [], j, hp, _, ⟨c, s, h, _⟩, _ => by simp at h
 | s :: back, j, hp, hl, ⟨c, s', hc, hf⟩, hs => by
   simp only [nlayBack]
   have rest : ∀ c s, back[c]? = some s → f (j + 1 + c) = some b → slotLen s n := fun c s' hc hf => hs (c + 1) s' (by simpa using hc) (by rw [← hf]; congr 1; omega)
   cases hfj : f j with
   | none =>
     cases c with
     | zero => rw [Nat.add_zero, hfj] at hf; cases hf
     | succ c => exact layBack_new hl ⟨c, s', by simpa using hc, by rw [← hf]; congr 1; omega⟩ rest
   | some b0 =>
     simp only
     by_cases hb : b0 = b
     · subst hb
       refine layBack_len ?_ rest
       rw [lenAt_set, if_pos ⟨rfl, hl⟩]
       have := slotLen_ren f (hs 0 s rfl (by rw [Nat.add_zero, hfj]))
       cases hs2 : s.ren f <;> rw [hs2] at this <;> exact this
     · cases c with
       | zero => rw [Nat.add_zero, hfj] at hf; cases hf; exact absurd rfl hb
       | succ c => exact layBack_new (by simpa using hl) ⟨c, s', by simpa using hc, by rw [← hf]; congr 1; omega⟩ rest
theorem layBack_rel {G : NHeap} {f : Nat → Option Nat} : ∀ {back : NHeap} {back' : Heap} {j : Nat} {hp : NHeap} {ahp : Heap}, A2 (RS G) hp ahp → A2 (fun s s' => RS G (s.ren f) (s'.ren f)) back back' → A2 (RS G) (nlayBack f hp j back) (layBack f ahp j back')
 | [], back', j, hp, ahp, h, hb => by rw [hb.nil_inv]; exact h
 | s :: back, back', j, hp, ahp, h, hb => by
   obtain ⟨s', back', rfl, h1, h2⟩ := hb.cons_inv
   simp only [nlayBack, layBack]
   refine layBack_rel ?_ h2
   cases f j with
   | none => exact h
   | some b => exact h.set b h1
end
end NM
end Go.Proofs.YtjngkfdclcgfhaaGreatDoor
end
