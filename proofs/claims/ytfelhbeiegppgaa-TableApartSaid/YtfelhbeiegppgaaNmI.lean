/-
  Numbers of blocks: what is reached, new numbers, blocks packed and laid back.
-/
import Derived.Test.YtfelhbeiegppgaaNmH
set_option linter.unusedVariables false
set_option linter.unusedSimpArgs false
namespace Go.Proofs.Ytfelhbeiegppgaa
namespace NM
open AM

section
variable {hp hp' : NHeap} {ahp : Heap}

/- bones -/
theorem RI.own {v : NVal} {a : AVal} (h : RI v a) : (skP v).ownP = a.ownP ∧ a.ownP = [] := by
  cases h <;> exact ⟨rfl, rfl⟩
theorem RP.own {v : NVal} {a : AVal} (h : RP hp v a) : (skP v).ownP = a.ownP := by
  cases h with
  | ro h => exact h.own.1
  | undef => rfl
  | ptr => rfl
  | sl => rfl
  | slw => rfl
theorem own_caps {cap : List NVal} {cap' : List AVal} (h : A2 (RP hp) cap cap') : (cap.map skP).flatMap AVal.ownP = cap'.flatMap AVal.ownP := by
  rw [List.flatMap_map]
  exact A2.flatMap_eq (fun x y hxy => hxy.own) h
theorem RC.own {v : NVal} {a : AVal} (h : RC hp v a) : (skC v).ownC = a.ownC := by
  by_cases hv : ∃ f cap, v = .fn f cap
  · obtain ⟨f, cap, rfl⟩ := hv
    obtain ⟨cap', rfl, hc⟩ := h.fn_inv
    exact own_caps hc
  · cases h with
    | fn f c d h => exact absurd ⟨_, _, rfl⟩ hv
    | p h =>
      have e1 : (skC v).ownC = (skP v).ownP := by
        cases v <;> first | rfl | exact absurd ⟨_, _, rfl⟩ hv
      have e2 : a.ownC = a.ownP := by
        cases h with
        | ro h => cases h <;> first | rfl | exact absurd ⟨_, _, rfl⟩ hv
        | undef => rfl
        | ptr => rfl
        | sl => rfl
        | slw => rfl
      rw [e1, e2]; exact h.own
theorem own_cells {cs : List NVal} {ds : List AVal} (h : A2 (RC hp) cs ds) : (cs.map skC).flatMap AVal.ownC = ds.flatMap AVal.ownC := by
  rw [List.flatMap_map]
  exact A2.flatMap_eq (fun x y hxy => hxy.own) h
theorem RC.not_agg {v : NVal} {a : AVal} (h : RC hp v a) : (∀ cs, v ≠ .agg cs) ∧ (∀ cs, v ≠ .tup cs) ∧ (∀ cs, a ≠ .agg cs) ∧ (∀ cs, a ≠ .tup cs) := by
  cases h with
  | fn => exact ⟨fun _ => by simp, fun _ => by simp, fun _ => by simp, fun _ => by simp⟩
  | p h => cases h with
    | ro h => cases h <;> exact ⟨fun _ => by simp, fun _ => by simp, fun _ => by simp, fun _ => by simp⟩
    | undef => exact ⟨fun _ => by simp, fun _ => by simp, fun _ => by simp, fun _ => by simp⟩
    | ptr => exact ⟨fun _ => by simp, fun _ => by simp, fun _ => by simp, fun _ => by simp⟩
    | sl => exact ⟨fun _ => by simp, fun _ => by simp, fun _ => by simp, fun _ => by simp⟩
    | slw => exact ⟨fun _ => by simp, fun _ => by simp, fun _ => by simp, fun _ => by simp⟩
theorem RV.own {v : NVal} {a : AVal} (h : RV hp v a) : (skV v).ownV = a.ownV := by
  cases h with
  | agg cs ds h => exact own_cells h
  | c h =>
    obtain ⟨h1, _, h2, _⟩ := h.not_agg
    have e1 : (skV v).ownV = (skC v).ownC := by
      cases v <;> first | rfl | exact absurd rfl (h1 _)
    have e2 : a.ownV = a.ownC := by
      cases a <;> first | rfl | exact absurd rfl (h2 _)
    rw [e1, e2]; exact h.own
theorem RV.not_tup {v : NVal} {a : AVal} (h : RV hp v a) : (∀ cs, v ≠ .tup cs) ∧ (∀ cs, a ≠ .tup cs) := by
  cases h with
  | agg => exact ⟨fun _ => by simp, fun _ => by simp⟩
  | c h => exact ⟨h.not_agg.2.1, h.not_agg.2.2.2⟩
/-- without what is not known -/
inductive RTs (hp : NHeap) : NVal → AVal → Prop
  | undef : RTs hp .undef .undef
  | v {v : NVal} {a : AVal} : RV hp v a → RTs hp v a
  | tup (cs : List NVal) (ds : List AVal) : A2 (RV hp) cs ds → RTs hp (.tup cs) (.tup ds)
theorem RTs.rt {v : NVal} {a : AVal} (h : RTs hp v a) : RT hp v a := by
  cases h with
  | undef => exact .undef _
  | v h => exact .v h
  | tup c d h => exact .tup c d h
theorem RTs.own {v : NVal} {a : AVal} (h : RTs hp v a) : (skT v).ownT = a.ownT := by
  cases h with
  | undef => rfl
  | tup cs ds h =>
    show (cs.map skV).flatMap AVal.ownV = ds.flatMap AVal.ownV
    rw [List.flatMap_map]
    exact A2.flatMap_eq (fun x y hxy => hxy.own) h
  | v h =>
    obtain ⟨h1, h2⟩ := h.not_tup
    have e1 : (skT v).ownT = (skV v).ownV := by
      cases v <;> first | rfl | exact absurd rfl (h1 _)
    have e2 : a.ownT = a.ownV := by
      cases a <;> first | rfl | exact absurd rfl (h2 _)
    rw [e1, e2]; exact h.own

/- what is reached -/
theorem reach_congr {h1 h2 : Heap} (h : ∀ b, (h1.get b).map AM.Blk.owns = (h2.get b).map AM.Blk.owns) (keep roots : List Nat) : reach h1 keep roots = reach h2 keep roots := by
  have hs : ∀ b, (h1.get b).isSome = (h2.get b).isSome := fun b => by
    have := congrArg Option.isSome (h b)
    simpa using this
  have ha : ∀ l, alive h1 l = alive h2 l := fun l => by
    unfold alive
    congr 1
    funext b
    exact hs b
  have ho : ∀ acc, reachOnce h1 acc = reachOnce h2 acc := fun acc => by
    unfold reachOnce
    rw [ha]
    congr 2
    congr 1
    funext b
    have := h b
    cases e1 : h1.get b <;> cases e2 : h2.get b <;> rw [e1, e2] at this <;> simp at this ⊢
    exact this
  unfold reach
  rw [ha, ho, ho, ho]
def noGone (hp : NHeap) : Prop := ∀ b : Nat, hp[b]? ≠ some NSlot.gone
theorem noneGone_iff (h : noneGone hp (List.range hp.length) = true) : noGone hp := by
  intro b hb
  have hl := (List.getElem?_eq_some_iff.1 hb).1
  unfold noneGone at h
  rw [List.all_eq_true] at h
  have := h b (by simpa using hl)
  rw [hb] at this
  cases this
theorem skH_get {b : Nat} : (skH hp).get b = (nget hp b).map skB := by
  unfold skH Heap.get nget
  rw [List.getElem?_map]
  cases hp[b]? with
  | none => rfl
  | some s => cases s <;> rfl
theorem RB.owns {kb : NBlk} {k : AM.Blk} (h : RB hp kb k) : (skB kb).owns = k.owns := by
  cases kb with
  | typed t xs => simp [skB, AM.Blk.owns, h.2.1]
  | cells e flat rows =>
    cases flat with
    | true => simp [skB, AM.Blk.owns, h.2.1]
    | false =>
      simp only [skB, AM.Blk.owns, h.2.1, Bool.false_eq_true, if_false]
      rw [List.flatMap_map]
      refine A2.flatMap_eq (fun x y hxy => ?_) (h.2.2.2 rfl)
      exact own_cells hxy
theorem RH.getNone (h : RH hp ahp) (hg : noGone hp) {b : Nat} (hb : nget hp b = none) : ahp.get b = none := by
  cases hs : hp[b]? with
  | none =>
    have : ahp[b]? = none := by rw [List.getElem?_eq_none_iff] at hs ⊢; rw [← h.1]; exact hs
    unfold Heap.get; rw [this]
  | some s =>
    obtain ⟨s', hs', hr⟩ := A2.get h hs
    cases hr with
    | free => unfold Heap.get; rw [hs']
    | dead => unfold Heap.get; rw [hs']
    | gone => exact absurd hs (hg b)
    | live kb k hk => rw [nget_iff.2 hs] at hb; cases hb
theorem RH.reach (h : RH hp ahp) (hg : noGone hp) (keep roots : List Nat) : AM.reach (skH hp) keep roots = AM.reach ahp keep roots := by
  refine reach_congr (fun b => ?_) keep roots
  rw [skH_get]
  cases hb : nget hp b with
  | none => rw [h.getNone hg hb]; rfl
  | some kb =>
    obtain ⟨k, hk, hr⟩ := h.get hb
    rw [hk]
    simp only [Option.map_some, hr.owns]

/- new numbers -/
theorem RI.imm_eq {v : NVal} {a : AVal} (h : RI v a) : nimmP v = a.immP := by
  cases h <;> rfl
theorem RP.imm_eq {v : NVal} {a : AVal} (h : RP hp v a) : nimmP v = a.immP := by
  cases h with
  | ro h => exact h.imm_eq
  | undef => rfl
  | ptr => rfl
  | sl => rfl
  | slw => rfl
theorem all_imm_eq {cap : List NVal} {cap' : List AVal} : A2 (RP hp) cap cap' → cap.all nimmP = cap'.all AVal.immP := by
  induction cap generalizing cap' with
  | nil => intro h; rw [h.nil_inv]; rfl
  | cons c cap ih => intro h; obtain ⟨d, ds, rfl, h1, h2⟩ := h.cons_inv; simp only [List.all_cons, ih h2, h1.imm_eq]
/-- numbers keep lengths -/
def Keeps (f : Nat → Option Nat) (hp hp' : NHeap) : Prop := ∀ b n c, lenAt hp b n → f b = some c → lenAt hp' c n
theorem renP_rel {f : Nat → Option Nat} (hf : Keeps f hp hp') {v : NVal} {a : AVal} (h : RP hp v a) : RP hp' (nrenP f v) (a.renP f) := by
  cases h with
  | undef => exact .undef
  | ptr b i o =>
    simp only [nrenP, AVal.renP]
    cases f b with
    | none => exact .undef
    | some c => exact .ptr _ _ _
  | sl b o l e =>
    simp only [nrenP, AVal.renP]
    cases f b with
    | none => exact .undef
    | some c => exact .sl _ _ _ _
  | slw b e n hn =>
    simp only [nrenP, AVal.renP]
    cases hc : f b with
    | none => exact .undef
    | some c => exact .slw _ _ _ (hf b n c hn hc)
  | ro h =>
    cases h with
    | fn g cap cap' hl hh =>
      simp only [nrenP, AVal.renP]
      rw [all_imm_eq (hp := hp) ⟨hl, fun j c d hc hd => .ro (hh j c d hc hd)⟩]
      split
      · exact .ro (.fn g cap cap' hl hh)
      · exact .undef
    | bool b => exact .ro (.bool b)
    | int k n => exact .ro (.int k n)
    | str s => exact .ro (.str s)
    | nilp => exact .ro .nilp
    | zsl => exact .ro .zsl
    | nilfn => exact .ro .nilfn
    | nili => exact .ro .nili
    | iptr cs ds off h1 h2 => exact .ro (.iptr cs ds off h1 h2)
    | lst t xs e ys h1 h2 h3 h4 => exact .ro (.lst t xs e ys h1 h2 h3 h4)
    | lst0 t => exact .ro (.lst0 t)
    | rows e xs ys h1 h2 h3 => exact .ro (.rows e xs ys h1 h2 h3)
    | rows0 e => exact .ro (.rows0 e)
theorem renC_rel {f : Nat → Option Nat} (hf : Keeps f hp hp') {v : NVal} {a : AVal} (h : RC hp v a) : RC hp' (nrenC f v) (a.renC f) := by
  by_cases hv : ∃ g cap, v = .fn g cap
  · obtain ⟨g, cap, rfl⟩ := hv
    obtain ⟨cap', rfl, hc⟩ := h.fn_inv
    exact .fn _ _ _ (hc.map fun _ _ h => renP_rel hf h)
  · cases h with
    | fn g c d h => exact absurd ⟨_, _, rfl⟩ hv
    | p h =>
      have e1 : nrenC f v = nrenP f v := by
        cases v <;> first | rfl | exact absurd ⟨_, _, rfl⟩ hv
      have e2 : a.renC f = a.renP f := by
        cases h with
        | ro h => cases h <;> first | rfl | exact absurd ⟨_, _, rfl⟩ hv
        | undef => rfl
        | ptr => rfl
        | sl => rfl
        | slw => rfl
      rw [e1, e2]; exact .p (renP_rel hf h)
theorem renV_rel {f : Nat → Option Nat} (hf : Keeps f hp hp') {v : NVal} {a : AVal} (h : RV hp v a) : RV hp' (nrenV f v) (a.renV f) := by
  cases h with
  | agg cs ds h => exact .agg _ _ (h.map fun _ _ h => renC_rel hf h)
  | c h =>
    obtain ⟨h1, _, h2, _⟩ := h.not_agg
    have e1 : nrenV f v = nrenC f v := by
      cases v <;> first | rfl | exact absurd rfl (h1 _)
    have e2 : a.renV f = a.renC f := by
      cases a <;> first | rfl | exact absurd rfl (h2 _)
    rw [e1, e2]; exact .c (renC_rel hf h)
theorem renT_rel {f : Nat → Option Nat} (hf : Keeps f hp hp') {v : NVal} {a : AVal} (h : RTs hp v a) : RTs hp' (nrenT f v) (a.renT f) := by
  cases h with
  | undef => exact .undef
  | tup cs ds h => exact .tup _ _ (h.map fun _ _ h => renV_rel hf h)
  | v h =>
    obtain ⟨h1, h2⟩ := h.not_tup
    have e1 : nrenT f v = nrenV f v := by
      cases v <;> first | rfl | exact absurd rfl (h1 _)
    have e2 : a.renT f = a.renV f := by
      cases a <;> first | rfl | exact absurd rfl (h2 _)
    rw [e1, e2]; exact .v (renV_rel hf h)
theorem blk_ren {f : Nat → Option Nat} (hf : Keeps f hp hp') {kb : NBlk} {k : AM.Blk} (h : RB hp kb k) : RB hp' (kb.ren f) (k.ren f) := by
  cases kb with
  | typed t xs =>
    have : k.ren f = k := by unfold AM.Blk.ren; rw [if_pos h.2.1]
    rw [this]; exact h
  | cells e flat rows =>
    cases flat with
    | true =>
      have : k.ren f = k := by unfold AM.Blk.ren; rw [if_pos h.2.1]
      rw [this]
      exact ⟨h.1, h.2.1, h.2.2.1, fun hf => by cases hf⟩
    | false =>
      have : k.ren f = { k with elems := k.elems.map (·.map (AVal.renC f)) } := by unfold AM.Blk.ren; rw [if_neg (by rw [h.2.1]; simp)]
      rw [this]
      exact ⟨h.1, h.2.1, fun hf => (by cases hf), fun _ => (h.2.2.2 rfl).map fun _ _ h => h.map fun _ _ h => renC_rel hf h⟩
theorem ren_len (f : Nat → Option Nat) (kb : NBlk) : (kb.ren f).len = kb.len := by
  cases kb with
  | typed t xs => rfl
  | cells e flat rows => cases flat <;> simp [NBlk.ren, NBlk.len]

theorem index_get {ids : List Nat} {b c : Nat} (h : index ids b = some c) : ids[c]? = some b := by
  unfold index at h
  rw [List.findIdx?_eq_some_iff_getElem] at h
  obtain ⟨hl, h1, _⟩ := h
  rw [List.getElem?_eq_getElem hl]
  simpa using h1
theorem pack_keeps (ids : List Nat) : Keeps (index ids) hp (npack hp ids) := by
  intro b n c hn hc
  have := index_get hc
  rw [lenAt_iff]
  unfold npack
  rw [List.getElem?_map, this]
  refine ⟨_, rfl, ?_⟩
  cases hb : nget hp b with
  | none => simp only [hb]; trivial
  | some kb =>
    simp only [hb, slotLen]
    rw [ren_len]
    exact len_of hn hb
theorem pack_rel (h : RH hp ahp) {ids : List Nat} (hn : ∀ b ∈ ids, nget hp b = none → ahp.get b = none) : RH (npack hp ids) (packHeap ahp ids) := by
  refine ⟨by simp [npack, packHeap], fun j s s' hs hs' => ?_⟩
  unfold npack at hs
  unfold packHeap at hs'
  rw [List.getElem?_map, Option.map_eq_some_iff] at hs hs'
  obtain ⟨b, hb, rfl⟩ := hs
  obtain ⟨b', hb', rfl⟩ := hs'
  rw [hb] at hb'
  cases hb'
  cases hk : nget hp b with
  | none => rw [hn b (List.mem_of_getElem? hb) hk]; exact .dead
  | some kb =>
    obtain ⟨k, hak, hr⟩ := h.get hk
    rw [hak]
    exact .live _ _ (blk_ren (pack_keeps ids) hr)
theorem pack_noGone (ids : List Nat) : noGone (npack hp ids) := by
  intro b hb
  unfold npack at hb
  rw [List.getElem?_map, Option.map_eq_some_iff] at hb
  obtain ⟨c, _, hc⟩ := hb
  cases hk : nget hp c with
  | none => rw [hk] at hc; cases hc
  | some kb => rw [hk] at hc; cases hc

/- blocks laid back -/
theorem slotLen_ren {s : NSlot} {n : Nat} (f : Nat → Option Nat) (h : slotLen s n) : slotLen (s.ren f) n := by
  cases s with
  | live k => simp only [NSlot.ren, slotLen]; rw [ren_len]; exact h
  | dead => trivial
  | gone => trivial
  | free => trivial
theorem layBack_len {f : Nat → Option Nat} {b n : Nat} : ∀ {back : NHeap} {j : Nat} {hp : NHeap}, lenAt hp b n → (∀ c s, back[c]? = some s → f (j + c) = some b → slotLen s n) → lenAt (nlayBack f hp j back) b n
  | [], j, hp, h, _ => h
  | s :: back, j, hp, h, hs => by
    simp only [nlayBack]
    refine layBack_len ?_ (fun c s' hc hf => hs (c + 1) s' (by simpa using hc) (by rw [← hf]; congr 1; omega))
    cases hfj : f j with
    | none => exact h
    | some b0 =>
      simp only
      rw [lenAt_set]
      split
      · rename_i hb
        have := slotLen_ren f (hs 0 s rfl (by rw [Nat.add_zero, hfj, hb.1]))
        cases hs2 : s.ren f <;> rw [hs2] at this <;> exact this
      · exact h
theorem layBack_length {f : Nat → Option Nat} : ∀ {back : NHeap} {j : Nat} {hp : NHeap}, (nlayBack f hp j back).length = hp.length
  | [], j, hp => rfl
  | s :: back, j, hp => by
    simp only [nlayBack]
    rw [layBack_length]
    split <;> simp
theorem layBack_new {f : Nat → Option Nat} {b n : Nat} : ∀ {back : NHeap} {j : Nat} {hp : NHeap}, b < hp.length → (∃ c s, back[c]? = some s ∧ f (j + c) = some b) → (∀ c s, back[c]? = some s → f (j + c) = some b → slotLen s n) → lenAt (nlayBack f hp j back) b n
  | [], j, hp, _, ⟨c, s, h, _⟩, _ => by simp at h
  | s :: back, j, hp, hl, ⟨c, s', hc, hf⟩, hs => by
    simp only [nlayBack]
    have rest : ∀ c s, back[c]? = some s → f (j + 1 + c) = some b → slotLen s n := fun c s' hc hf => hs (c + 1) s' (by simpa using hc) (by rw [← hf]; congr 1; omega)
    cases hfj : f j with
    | none =>
      cases c with
      | zero => rw [Nat.add_zero, hfj] at hf; cases hf
      | succ c => exact layBack_new hl ⟨c, s', by simpa using hc, by rw [← hf]; congr 1; omega⟩ rest
    | some b0 =>
      simp only
      by_cases hb : b0 = b
      · subst hb
        refine layBack_len ?_ rest
        rw [lenAt_set, if_pos ⟨rfl, hl⟩]
        have := slotLen_ren f (hs 0 s rfl (by rw [Nat.add_zero, hfj]))
        cases hs2 : s.ren f <;> rw [hs2] at this <;> exact this
      · cases c with
        | zero => rw [Nat.add_zero, hfj] at hf; cases hf; exact absurd rfl hb
        | succ c => exact layBack_new (by simpa using hl) ⟨c, s', by simpa using hc, by rw [← hf]; congr 1; omega⟩ rest
theorem layBack_rel {G : NHeap} {f : Nat → Option Nat} : ∀ {back : NHeap} {back' : Heap} {j : Nat} {hp : NHeap} {ahp : Heap}, A2 (RS G) hp ahp → A2 (fun s s' => RS G (s.ren f) (s'.ren f)) back back' → A2 (RS G) (nlayBack f hp j back) (layBack f ahp j back')
  | [], back', j, hp, ahp, h, hb => by rw [hb.nil_inv]; exact h
  | s :: back, back', j, hp, ahp, h, hb => by
    obtain ⟨s', back', rfl, h1, h2⟩ := hb.cons_inv
    simp only [nlayBack, layBack]
    refine layBack_rel ?_ h2
    cases f j with
    | none => exact h
    | some b => exact h.set b h1
end

end NM
end Go.Proofs.Ytfelhbeiegppgaa
