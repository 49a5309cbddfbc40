/-
  Blocks of both machines: appending.
-/
import Derived.Test.YtfelhbeiegppgaaNmF
set_option linter.unusedVariables false
set_option linter.unusedSimpArgs false
namespace Go.Proofs.Ytfelhbeiegppgaa
namespace NM
open AM

def REl (hp : NHeap) : Els → List (List AVal) → Prop
  | .typed t xs, ys => A2 (RX t) xs ys
  | .rows true rs, ys => A2 (A2 RI) rs ys
  | .rows false rs, ys => A2 (A2 (RC hp)) rs ys

section
variable {ω : Type} {hp : NHeap} {ahp : Heap} {r : ω}

theorem REl.len {els : Els} {ys : List (List AVal)} (h : REl hp els ys) : els.len = ys.length := by
  cases els with
  | typed t xs => exact h.1
  | rows ro rs => cases ro <;> exact h.1
theorem REl.mono {hp' : NHeap} (e : Evo hp hp') {els : Els} {ys : List (List AVal)} (h : REl hp els ys) : REl hp' els ys := by
  cases els with
  | typed t xs => exact h
  | rows ro rs => cases ro with
    | true => exact h
    | false => exact A2.mono (fun _ _ h => h.mono fun _ _ h => h.mono e) h

theorem nappended_sound (hh : RH hp ahp) {e : Nat} {x : NVal} {a : AVal} {k : Els → Option ω} (h : nappended hp e x k = some r) (hr : RT hp x a) :
    ∃ els ys, AM.appended ahp e a = some ys ∧ REl hp els ys ∧ ((rowsFlat ahp a = true ∧ ∀ rs, els ≠ .rows false rs) ∨ ∃ rs, els = .rows false rs ∧ rowsFlat ahp a = false) ∧ k els = some r := by
  unfold nappended at h
  split at h
  · rename_i t xs
    split at h
    · rename_i he
      rcases hr.lst_inv.lst_inv with ⟨ys, rfl, hy⟩ | ⟨rfl, rfl⟩
      · exact ⟨.typed t xs, ys, by simp only [AM.appended, he, if_true], hy, .inl ⟨rfl, fun _ => by simp⟩, h⟩
      · exact ⟨.typed t [], [], rfl, A2.nil, .inl ⟨rfl, fun _ => by simp⟩, h⟩
    · cases h
  · rename_i e' xs
    split at h
    · rename_i he
      rcases hr.rows_inv.rows_inv with ⟨ys, rfl, hy⟩ | ⟨rfl, rfl⟩
      · exact ⟨.rows true xs, ys, by simp only [AM.appended, he, if_true], hy, .inl ⟨rfl, fun _ => by simp⟩, h⟩
      · exact ⟨.rows true [], [], rfl, A2.nil, .inl ⟨rfl, fun _ => by simp⟩, h⟩
    · cases h
  · rw [hr.zsl_inv]
    exact ⟨.rows true [], [], rfl, A2.nil, .inl ⟨rfl, fun _ => by simp⟩, h⟩
  · rename_i b e'
    obtain ⟨n, rfl, hn⟩ := hr.slw_inv
    split at h
    · rename_i t xs hb
      obtain ⟨kk, hk, hrb⟩ := hh.get hb
      have hlen : n = kk.elems.length := by rw [← hrb.len]; exact (len_of hn hb).symm
      split at h
      · rename_i he
        refine ⟨.typed t xs, kk.elems, ?_, hrb.2.2, .inl ⟨?_, fun _ => by simp⟩, h⟩
        · simp only [AM.appended, hk, Nat.zero_add, List.drop_zero, hlen, List.take_length]
          rw [if_pos ⟨by rw [hrb.1, he], Nat.le_refl _⟩]
        · simp only [rowsFlat, hk, hrb.2.1]
      · cases h
    · rename_i e2 fl rows hb
      obtain ⟨kk, hk, hrb⟩ := hh.get hb
      have hlen : n = kk.elems.length := by rw [← hrb.len]; exact (len_of hn hb).symm
      split at h
      · rename_i he
        refine ⟨.rows fl rows, kk.elems, ?_, ?_, ?_, h⟩
        · simp only [AM.appended, hk, Nat.zero_add, List.drop_zero, hlen, List.take_length]
          rw [if_pos ⟨by rw [hrb.1, he], Nat.le_refl _⟩]
        · cases fl with
          | true => exact hrb.2.2.1 rfl
          | false => exact hrb.2.2.2 rfl
        · cases fl with
          | true => exact .inl ⟨by simp only [rowsFlat, hk, hrb.2.1], fun _ => by simp⟩
          | false => exact .inr ⟨rows, rfl, by simp only [rowsFlat, hk, hrb.2.1]⟩
      · cases h
    · cases h
  · rename_i b off len e'
    rw [hr.sl_inv]
    split at h
    · rename_i t xs hb
      obtain ⟨kk, hk, hrb⟩ := hh.get hb
      split at h
      · rename_i he
        obtain ⟨hc, hk2⟩ := cond_some h
        simp only [decide_eq_true_eq] at hc
        refine ⟨.typed t ((xs.drop off).take len), (kk.elems.drop off).take len, ?_, (hrb.2.2.drop off).take len, .inl ⟨?_, fun _ => by simp⟩, hk2⟩
        · simp only [AM.appended, hk]
          rw [if_pos ⟨by rw [hrb.1, he], by rw [← hrb.2.2.1]; exact hc⟩]
        · simp only [rowsFlat, hk, hrb.2.1]
      · cases h
    · cases h
  · rename_i s
    rw [hr.str_inv]
    split at h
    · rename_i he
      refine ⟨.typed (.int .u8) (s.map fun c => (c.toNat : Int)), s.map fun c => [.int .u8 (c.toNat : Int)], by simp only [AM.appended, he, if_true], (?_ : A2 (RX (.int .u8)) _ _), .inl ⟨rfl, fun _ => by simp⟩, h⟩
      refine ⟨by simp, fun j x y hx hy => ?_⟩
      simp only [List.getElem?_map, Option.map_eq_some_iff] at hx hy
      obtain ⟨c, hc, rfl⟩ := hx
      obtain ⟨c', hc', rfl⟩ := hy
      rw [hc] at hc'
      cases hc'
      exact A2.single (.int _ _)
    · cases h
  · cases h

theorem nsettleRows_sound (hh : RH hp ahp) {flat : Bool} {els els' : Els} {hp1 : NHeap} {a : AVal} {ys : List (List AVal)} (h : nsettleRows hp flat els = some (els', hp1)) (hr : REl hp els ys) (hf : (rowsFlat ahp a = true ∧ ∀ rs, els ≠ .rows false rs) ∨ ∃ rs, els = .rows false rs ∧ rowsFlat ahp a = false) :
    ∃ zs ahp1, settleRows ahp flat a ys = some (zs, ahp1) ∧ RH hp1 ahp1 ∧ Evo hp hp1 ∧ REl hp1 els' zs ∧ (flat = true → ∀ rs, els' ≠ .rows false rs) ∧ (∀ b k, nget hp1 b = some k → nget hp b = some k) := by
  unfold nsettleRows at h
  split at h
  · rename_i rs
    split at h
    · rename_i hfl
      split at h
      · rename_i zs l hz
        cases h
        obtain ⟨zs', hg, hrz⟩ := allOn_rel (R := A2 (RC hp)) (R' := A2 RI) (g := allOn (viewP ahp DEEP)) (fun x y u l hxy hx => allOn_rel (fun x y u l hxy hx => view_rel hh hx hxy) hx hxy) hz hr
        rcases hf with ⟨_, hne⟩ | ⟨_, _, hrf'⟩
        · exact absurd rfl (hne rs)
        · refine ⟨zs', AM.kill ahp l, ?_, kill_rel hh, nkill_evo l hp, hrz, fun _ rs => by simp, fun b k hb => nkill_get hb⟩
          simp only [settleRows, hrf', hfl, Bool.not_true, Bool.or_self, Bool.false_eq_true, if_false, hg]
      · cases h
    · rename_i hfl
      cases h
      have hfl' : flat = false := by simpa using hfl
      exact ⟨ys, ahp, by simp [settleRows, hfl'], hh, .refl _, hr, fun h => absurd h hfl, fun b k hb => hb⟩
  · rename_i hne
    cases h
    rcases hf with ⟨hf, _⟩ | ⟨rs, rfl, _⟩
    · exact ⟨ys, ahp, by simp only [settleRows, hf, Bool.true_or, if_true], hh, .refl _, hr, fun _ rs he => hne rs he, fun b k hb => hb⟩
    · exact absurd rfl (hne rs)

theorem naddTo_rel {flat : Bool} {e : Nat} {kb kb' : NBlk} {k : AM.Blk} {els : Els} {zs : List (List AVal)} (h : naddTo flat e kb els = some kb') (hb : RB hp kb k) (hz : REl hp els zs) (hfl : flat = true → ∀ rs, els ≠ .rows false rs) :
    k.e = e ∧ k.flat = flat ∧ RB hp kb' ⟨e, flat, k.elems ++ zs⟩ ∧ kb'.len = kb.len + els.len := by
  unfold naddTo at h
  split at h
  · rename_i e' flat' rows ro rs
    split at h
    · rename_i hc
      obtain ⟨rfl, rfl, hro⟩ := hc
      cases h
      refine ⟨hb.1, hb.2.1, ⟨rfl, rfl, fun hf => ?_, fun hf => ?_⟩, by simp [NBlk.len, Els.len]⟩
      · have := hro hf
        subst this
        exact (hb.2.2.1 hf).append hz
      · refine (hb.2.2.2 hf).append ?_
        cases ro with
        | true => exact A2.mono (fun _ _ h => h.mono fun _ _ h => h.c) hz
        | false => exact hz
    · cases h
  · rename_i t xs t' ys
    split at h
    · rename_i ht
      subst ht
      split at h
      · rename_i hc
        obtain ⟨rfl, rfl⟩ := hc
        cases h
        exact ⟨hb.1, hb.2.1, ⟨rfl, rfl, hb.2.2.append hz⟩, by simp [NBlk.len, Els.len]⟩
      · cases h
    · cases h
  · rename_i t xs ro rs
    split at h
    · rename_i hc
      obtain ⟨rfl, rfl, rfl⟩ := hc
      split at h
      · rename_i ys hys
        cases h
        have h2 := allOf_A2 (good t) hys hz
        refine ⟨hb.1, hb.2.1, ⟨rfl, rfl, hb.2.2.append h2⟩, ?_⟩
        have : ys.length = rs.length := by rw [h2.1]; exact (REl.len (els := .rows true rs) hz).symm
        simp [NBlk.len, Els.len, this]
      · cases h
    · cases h
  · rename_i e' flat' rows t ys
    split at h
    · rename_i hc
      obtain ⟨rfl, rfl, rfl, he⟩ := hc
      split at h
      · rename_i xs hxs
        cases h
        have h2 := allOf_A2 (good t) hxs (hb.2.2.1 rfl)
        refine ⟨hb.1, hb.2.1, ⟨he, rfl, h2.append hz⟩, ?_⟩
        have : xs.length = rows.length := by rw [h2.1]; exact (hb.2.2.1 rfl).1.symm
        simp [NBlk.len, Els.len, this]
      · cases h
    · cases h

theorem nappend_sound (hh : RH hp ahp) {id e bytes : Nat} {flat : Bool} {s x : NVal} {a b : AVal} {k : NVal → NHeap → Option ω} (h : nappend hp id e bytes flat s x k = some r) (hs : RT hp s a) (hx : RT hp x b) :
    ∃ v c hp' ahp', appendVal ahp id e bytes flat a b = some (c, ahp') ∧ RT hp' v c ∧ RH hp' ahp' ∧ Evo hp hp' ∧ k v hp' = some r := by
  unfold nappend at h
  obtain ⟨els, ys, h1, h2, h3, h4⟩ := nappended_sound hh h hx
  split at h4
  · cases h4
  · rename_i els' hp1 hset
    obtain ⟨zs, ahp1, g1, hh1, ev1, hz, hfl, hget⟩ := nsettleRows_sound hh hset h2 h3
    split at h4
    · cases h4
    · rename_i hfree
      have hfree' : nfree hp1 id = true := by simpa using hfree
      have hafree := hh1.free hfree'
      have pre : ∀ a0, appendVal ahp id e bytes flat a0 b = match a0 with
          | .zsl => if smallB zs.length bytes then some (.sl id 0 zs.length e, ahp1.set id (.live ⟨e, flat, zs⟩)) else none
          | .sl bb off len _ => match ahp1.get bb with
            | some k =>
              if off = 0 ∧ k.e = e ∧ k.flat = flat ∧ len ≤ k.elems.length ∧ notIn bb b = true ∧ smallB (len + zs.length) bytes = true ∧ id ≠ bb then
                some (.sl id 0 (len + zs.length) e, (AM.kill ahp1 [bb]).set id (.live ⟨e, flat, k.elems.take len ++ zs⟩))
              else none
            | none => none
          | _ => none := by
        intro a0
        simp only [appendVal, h1, g1, hafree, Bool.true_eq_false, if_false]
        cases a0 <;> rfl
      rw [pre a]
      split at h4
      · -- zsl
        rw [hs.zsl_inv]
        split at h4
        · rename_i kb hkb
          obtain ⟨hsm, hk⟩ := cond_some h4
          obtain ⟨_, _, hrb, hlen⟩ := naddTo_rel (hp := hp1) (k := ⟨e, flat, []⟩) hkb ⟨rfl, rfl, fun _ => .nil, fun _ => .nil⟩ hz hfl
          have ev2 : Evo hp1 (hp1.set id (.live kb)) := Evo.set_new hfree'
          have hl2 : els'.len = zs.length := hz.len
          refine ⟨_, .sl id 0 zs.length e, _, ahp1.set id (.live ⟨e, flat, zs⟩), ?_, (RP.slw id e _ ?_).rt, RH.set hh1 ev2 (.live _ _ ?_), ev1.trans ev2, hk⟩
          · rw [hl2] at hsm
            simp only [hsm, if_true]
          · rw [lenAt_set]
            have hid : id < hp1.length := by
              unfold nfree at hfree'
              split at hfree'
              · rename_i hh2; exact (List.getElem?_eq_some_iff.1 hh2).1
              · cases hfree'
            rw [if_pos ⟨rfl, hid⟩]
            simp only
            rw [hlen, hl2]; simp [NBlk.len]
          · simpa using hrb.mono ev2
        · cases h4
      · -- slw
        rename_i bb e'
        obtain ⟨n, rfl, hn⟩ := hs.slw_inv
        split at h4
        · rename_i kb hkb
          split at h4
          · rename_i hc
            split at h4
            · rename_i kb' hkb'
              obtain ⟨hsm, hk⟩ := cond_some h4
              obtain ⟨kk, hkk, hrb⟩ := hh1.get hkb
              obtain ⟨q1, q2, hrb', hlen⟩ := naddTo_rel hkb' hrb hz hfl
              have hl2 : els'.len = zs.length := hz.len
              have hn' : kb.len = n := len_of hn (hget _ _ hkb)
              have hnk : n = kk.elems.length := by rw [← hn', hrb.len]
              have hne : id ≠ bb := hc.2
              have hfree2 : nfree (nkill .dead hp1 [bb]) id = true := by
                simp only [nkill]
                unfold nfree at hfree' ⊢
                rw [List.getElem?_set, if_neg (fun h => hne h.symm)]
                exact hfree'
              have ev2 : Evo hp1 (nkill .dead hp1 [bb]) := nkill_evo _ _
              have ev3 : Evo (nkill .dead hp1 [bb]) ((nkill .dead hp1 [bb]).set id (.live kb')) := Evo.set_new hfree2
              have hnot : notIn bb b = true := by
                have hno := hc.1
                cases x with
                | sl b' o l e2 => rw [hx.sl_inv]; exact hno
                | slw b' e2 => obtain ⟨m, rfl, _⟩ := hx.slw_inv; exact hno
                | undef => simp [nappended] at h
                | _ =>
                  unfold notIn
                  split
                  · rename_i b' o l e2
                    exfalso
                    cases hx with
                    | v hv => cases hv with | c hc => cases hc with | p hp' => cases hp' with | ro h => cases h
                  · rfl
              refine ⟨_, .sl id 0 (n + zs.length) e, _, (AM.kill ahp1 [bb]).set id (.live ⟨e, flat, kk.elems.take n ++ zs⟩), ?_, (RP.slw id e _ ?_).rt, RH.set (kill_rel hh1) ev3 (.live _ _ ?_), (ev1.trans ev2).trans ev3, hk⟩
              · rw [hn', hl2] at hsm
                simp only [hkk]
                rw [if_pos ⟨trivial, q1, q2, by omega, hnot, hsm, hne⟩]
              · rw [lenAt_set]
                have hid : id < (nkill .dead hp1 [bb]).length := by
                  unfold nfree at hfree2
                  split at hfree2
                  · rename_i hh2; exact (List.getElem?_eq_some_iff.1 hh2).1
                  · cases hfree2
                rw [if_pos ⟨rfl, hid⟩]
                simp only
                rw [hlen, hl2, hn']
              · rw [hnk, List.take_length]
                exact (hrb'.mono ev2).mono ev3
            · cases h4
          · cases h4
        · cases h4
      · cases h4

end
end NM
end Go.Proofs.Ytfelhbeiegppgaa
