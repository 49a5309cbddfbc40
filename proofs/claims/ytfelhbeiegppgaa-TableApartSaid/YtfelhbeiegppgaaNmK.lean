/-
  Calls and operations of both machines.
-/
import Derived.Test.YtfelhbeiegppgaaNmJ
set_option linter.unusedVariables false
set_option linter.unusedSimpArgs false
namespace Go.Proofs.Ytfelhbeiegppgaa
namespace NM
open AM

section
variable {ω : Type} {hp : NHeap} {ahp : Heap} {r : ω} {K : Oracle} {T : List Ent}

theorem nfree_lt {b : Nat} (h : nfree hp b = true) : b < hp.length := by
  unfold nfree at h
  split at h
  · rename_i h2; exact (List.getElem?_eq_some_iff.1 h2).1
  · cases h
theorem nget_lt {b : Nat} {kb : NBlk} (h : nget hp b = some kb) : b < hp.length := (List.getElem?_eq_some_iff.1 (nget_iff.1 h)).1
theorem free_not_get {b : Nat} {kb : NBlk} (h : nfree hp b = true) (hk : nget hp b = some kb) : False := by
  rw [nget_iff] at hk
  unfold nfree at h
  rw [hk] at h
  cases h
theorem nkill_length {s : NSlot} : ∀ (l : List Nat) (hp : NHeap), (nkill s hp l).length = hp.length
  | [], hp => rfl
  | b :: l, hp => by simp only [nkill]; rw [nkill_length l]; simp

theorem nkill_other {s : NSlot} {b : Nat} : ∀ {l : List Nat} {hp : NHeap}, b ∉ l → (nkill s hp l)[b]? = hp[b]?
  | [], hp, _ => rfl
  | c :: l, hp, h => by
    simp only [nkill]
    rw [nkill_other (fun hc => h (List.mem_cons_of_mem _ hc)), List.getElem?_set_ne]
    exact fun hc => h (hc ▸ List.mem_cons_self)

theorem ncall_sound (hT : ∀ e ∈ T, EntOk K e) (hh : RH hp ahp) {base id room : Nat} {sees : Sees} {quiet : Bool} {fv : NVal} {a : AVal} {args : List (Bool × NVal)} {aargs : List (Bool × AVal)} (hf : RT hp fv a)
    (hargs : A2 (fun (p : Bool × NVal) (q : Bool × AVal) => p.1 = q.1 ∧ RT hp p.2 q.2) args aargs) {k : NVal → NHeap → Option ω} (h : ncall T hp base sees id room quiet fv args k = some r) :
    ∃ v c hp' ahp', callVal K ahp base sees id room quiet a aargs = some (c, ahp') ∧ RT hp' v c ∧ RH hp' ahp' ∧ Evo hp hp' ∧ k v hp' = some r := by
  unfold ncall at h
  split at h
  · rename_i f cap
    obtain ⟨cap', rfl, hcap⟩ := hf.fn_inv
    split at h
    · cases h
    · rename_i vs lent hvs
      obtain ⟨vs', hvs', hrv⟩ := allOn_rel (R := fun (p : Bool × NVal) (q : Bool × AVal) => p.1 = q.1 ∧ RT hp p.2 q.2) (R' := RV hp) (g := argView ahp) (fun x y u l hxy hx => argView_rel hh hxy hx) hvs hargs
      have hlive : ∀ b ∈ lent, (nget hp b).isSome = true := allOn_all (fun x u l hx => argView_alive hx) hvs
      simp only at h
      have hall : A2 (RV hp) (vs ++ cap) (vs' ++ cap') := hrv.append (hcap.mono fun _ _ h => .c (.p h))
      have hroots : ((vs ++ cap).flatMap fun v => (skV v).ownV) = (vs' ++ cap').flatMap AVal.ownV := A2.flatMap_eq (fun x y hxy => hxy.own) hall
      generalize hids : AM.reach (skH hp) [] ((vs ++ cap).flatMap fun v => (skV v).ownV) = ids at h
      split at h
      · rename_i hc
        obtain ⟨c1, c2, c3, c4, c5, c6⟩ := hc
        have hids' : AM.reach ahp [] ((vs' ++ cap').flatMap AVal.ownV) = ids := by
          rw [← hroots, ← hids]
          rcases c6 with c6 | c6
          · rw [List.isEmpty_iff.1 c6, reach_nil, reach_nil]
          · exact (hh.reach (noneGone_iff c6) _ _).symm
        have c4' : ∀ b ∈ ids, ∃ kb, nget hp b = some kb := fun b hb => by
          rw [List.all_eq_true] at c4
          exact Option.isSome_iff_exists.1 (c4 b hb)
        have a4 : ids.all (fun b => (ahp.get b).isSome) = true := by
          rw [List.all_eq_true]
          intro b hb
          obtain ⟨kb, hk⟩ := c4' b hb
          obtain ⟨k2, hk2, _⟩ := hh.get hk
          rw [hk2]; rfl
        have a5 : quiet = false ∨ ((vs' ++ cap').flatMap AVal.ownV).isEmpty = true := by rw [← hroots]; exact c5
        obtain ⟨r0, back, r', back', hK, hr, hb, hng, hk⟩ := ncallT_sound (ahp := packHeap ahp ids) hT h (hall.map fun _ _ h => renV_rel (pack_keeps ids) h) (pack_rel hh fun b hb hn => by obtain ⟨kb, hk⟩ := c4' b hb; rw [hk] at hn; cases hn)
        have pre : callVal K ahp base sees id room quiet (.fn f cap') aargs =
            (if r'.bareT = true ∧ ids = [] then some (r', ahp)
              else if quiet = true ∧ lent ≠ [] then none
              else if ids.length ≤ back'.length ∧ back'.length ≤ ids.length + room ∧ (List.range (back'.length - ids.length)).all (fun j => ahp.isFree (id + j)) = true then
                some (r'.renT (backTo ids id), layBack (backTo ids id) (AM.kill ahp lent) 0 back')
              else none) := by
          unfold callVal
          simp only [hvs', hids']
          rw [if_pos ⟨c1, c2, c3, a4, a5⟩, hK]
        rw [pre]
        split at hk
        · rename_i hbare
          obtain ⟨hb1, hb2⟩ := hr.bare hbare.1
          refine ⟨_, r', _, ahp, by rw [if_pos ⟨hb1, List.isEmpty_iff.1 hbare.2⟩], hb2 hp, hh, .refl _, hk⟩
        · rename_i hbare
          split at hk
          · cases hk
          · rename_i hq
            split at hk
            · rename_i hcond
              obtain ⟨d1, d2, d3, d4⟩ := hcond
              obtain ⟨hlens, hk⟩ := cond_some hk
              have hev1 : Evo hp (nkill .gone hp lent) := nkill_gone_evo lent hp
              by_cases ha : r'.bareT = true ∧ ids = []
              · -- nothing came back
                obtain ⟨e1, e2, e3⟩ := hr.abare ha.1 (backTo ids id)
                have hbe : back = [] := by
                  rcases d4 with d4 | d4 | d4
                  · exact List.isEmpty_iff.1 d4
                  · rw [ha.2] at d4; cases d4
                  · rw [e3] at d4; cases d4
                subst hbe
                simp only [nlayBack] at hk
                rw [e1] at hk
                refine ⟨_, r', _, ahp, by rw [if_pos ha], e2 _, ngone_kill hh fun b hb => ?_, hev1, hk⟩
                obtain ⟨kb, hkb⟩ := Option.isSome_iff_exists.1 (hlive b hb)
                obtain ⟨k2, hk2, _⟩ := hh.get hkb
                rw [aget_iff] at hk2
                unfold Heap.isFree
                rw [hk2]
              · have hq' : ¬ (quiet = true ∧ lent ≠ []) := fun ⟨q1, q2⟩ => hq ⟨q1, by cases lent with
                  | nil => exact absurd rfl q2
                  | cons => rfl⟩
                rw [hb.1] at d1 d2 d3
                have a3 : (List.range (back'.length - ids.length)).all (fun j => ahp.isFree (id + j)) = true := by
                  rw [List.all_eq_true] at d3 ⊢
                  exact fun j hj => hh.free (d3 j hj)
                -- where what came back goes
                have inj : ∀ c c' b, c < back.length → c' < back.length → backTo ids id c = some b → backTo ids id c' = some b → c = c' := by
                  intro c c' b hc hc' hb1 hb2
                  have new : ∀ c, c < back.length → ids.length ≤ c → ∀ b, backTo ids id c = some b → b = id + (c - ids.length) ∧ nfree hp b = true := fun c hc hle b hb' => by
                    unfold backTo at hb'
                    rw [List.getElem?_eq_none hle] at hb'
                    cases hb'
                    rw [List.all_eq_true] at d3
                    exact ⟨rfl, d3 (c - ids.length) (by rw [List.mem_range, ← hb.1]; omega)⟩
                  have old : ∀ c, c < ids.length → ∀ b, backTo ids id c = some b → ids[c]? = some b := fun c hc b hb' => by
                    unfold backTo at hb'
                    rw [List.getElem?_eq_getElem hc] at hb' ⊢
                    exact hb'
                  rcases Nat.lt_or_ge c ids.length with h1 | h1 <;> rcases Nat.lt_or_ge c' ids.length with h2 | h2
                  · exact nodupB_inj c1 (old c h1 b hb1) (old c' h2 b hb2)
                  · obtain ⟨kb, hkb⟩ := c4' b (List.mem_of_getElem? (old c h1 b hb1))
                    exact (free_not_get (new c' hc' h2 b hb2).2 hkb).elim
                  · obtain ⟨kb, hkb⟩ := c4' b (List.mem_of_getElem? (old c' h2 b hb2))
                    exact (free_not_get (new c hc h1 b hb1).2 hkb).elim
                  · have e1 := (new c hc h1 b hb1).1
                    have e2 := (new c' hc' h2 b hb2).1
                    omega
                have hlt : ∀ c b, c < back.length → backTo ids id c = some b → b < hp.length := by
                  intro c b hc hb'
                  unfold backTo at hb'
                  rcases Nat.lt_or_ge c ids.length with h1 | h1
                  · rw [List.getElem?_eq_getElem h1] at hb'
                    cases hb'
                    obtain ⟨kb, hkb⟩ := c4' ids[c] (List.getElem_mem h1)
                    exact nget_lt hkb
                  · rw [List.getElem?_eq_none h1] at hb'
                    cases hb'
                    rw [List.all_eq_true] at d3
                    exact nfree_lt (d3 (c - ids.length) (by rw [List.mem_range, ← hb.1]; omega))
                have hev2 : Evo hp (nlayBack (backTo ids id) (nkill .gone hp lent) 0 back) := by
                  intro b n hn
                  refine layBack_len (hev1 b n hn) fun c s hs hf' => ?_
                  rw [Nat.zero_add] at hf'
                  unfold backTo at hf'
                  have hcl := (List.getElem?_eq_some_iff.1 hs).1
                  rcases Nat.lt_or_ge c ids.length with h1 | h1
                  · rw [List.getElem?_eq_getElem h1] at hf'
                    cases hf'
                    exact lensOk_get hlens (List.getElem?_eq_getElem h1) hs n hn
                  · rw [List.getElem?_eq_none h1] at hf'
                    cases hf'
                    rw [List.all_eq_true] at d3
                    have hfr := d3 (c - ids.length) (by rw [List.mem_range, ← hb.1]; omega)
                    unfold nfree at hfr
                    unfold lenAt at hn
                    split at hfr
                    · rename_i hs2; rw [hs2] at hn; cases hn
                    · cases hfr
                have hkeep : Keeps (backTo ids id) back (nlayBack (backTo ids id) (nkill .gone hp lent) 0 back) := by
                  intro c n b hn hcb
                  obtain ⟨s, hs, hsl⟩ := lenAt_iff.1 hn
                  have hcl := (List.getElem?_eq_some_iff.1 hs).1
                  refine layBack_new (by rw [nkill_length]; exact hlt c b hcl hcb) ⟨c, s, hs, by rw [Nat.zero_add]; exact hcb⟩ fun c' s' hs' hf' => ?_
                  rw [Nat.zero_add] at hf'
                  have : c' = c := inj c' c b (List.getElem?_eq_some_iff.1 hs').1 hcl hf' hcb
                  subst this
                  rw [hs] at hs'
                  cases hs'
                  exact hsl
                refine ⟨_, r'.renT (backTo ids id), _, layBack (backTo ids id) (AM.kill ahp lent) 0 back', ?_, (renT_rel hkeep hr).rt, ?_, hev2, hk⟩
                · rw [if_neg ha, if_neg hq', if_pos ⟨d1, d2, a3⟩]
                · refine layBack_rel ?_ ?_
                  · have hk2 : RH (nkill .gone hp lent) (AM.kill ahp lent) := ngone_kill2 hh
                    refine A2.mono (fun s s' hs => ?_) hk2
                    refine hs.mono ?_
                    intro b n hn
                    -- lengths in the heap with what is gone are those of the heap, or free
                    refine layBack_len hn fun c s hs hf' => ?_
                    rw [Nat.zero_add] at hf'
                    unfold backTo at hf'
                    have hcl := (List.getElem?_eq_some_iff.1 hs).1
                    rcases Nat.lt_or_ge c ids.length with h1 | h1
                    · rw [List.getElem?_eq_getElem h1] at hf'
                      cases hf'
                      have hnl : ids[c] ∉ lent := fun hm => by
                        rw [List.all_eq_true] at c3
                        have := c3 _ hm
                        simp at this
                      refine lensOk_get hlens (List.getElem?_eq_getElem h1) hs n ?_
                      unfold lenAt at hn ⊢
                      rw [nkill_other hnl] at hn
                      exact hn
                    · rw [List.getElem?_eq_none h1] at hf'
                      cases hf'
                      rw [List.all_eq_true] at d3
                      have hfr := d3 (c - ids.length) (by rw [List.mem_range, ← hb.1]; omega)
                      have hnl : id + (c - ids.length) ∉ lent := fun hm => by
                        obtain ⟨kb, hkb⟩ := Option.isSome_iff_exists.1 (hlive _ hm)
                        exact free_not_get hfr hkb
                      unfold lenAt at hn
                      rw [nkill_other hnl] at hn
                      unfold nfree at hfr
                      split at hfr
                      · rename_i hs2; rw [hs2] at hn; cases hn
                      · cases hfr
                  · refine ⟨hb.1, fun j s s' hj hj' => ?_⟩
                    have hs := hb.2 j s s' hj hj'
                    cases hs with
                    | free => exact .dead
                    | dead => exact .dead
                    | gone => exact absurd hj (hng j)
                    | live kb k hk3 => exact .live _ _ (blk_ren hkeep hk3)
            · cases hk
      · cases h
  · cases h
end

end NM
end Go.Proofs.Ytfelhbeiegppgaa
