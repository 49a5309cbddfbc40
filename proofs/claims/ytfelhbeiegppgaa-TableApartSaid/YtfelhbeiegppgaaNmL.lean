/-
  Operations of both machines.
-/
import Derived.Test.YtfelhbeiegppgaaNmK
set_option linter.unusedVariables false
set_option linter.unusedSimpArgs false
namespace Go.Proofs.Ytfelhbeiegppgaa
namespace NM
open AM

section
variable {ω : Type} {hp : NHeap} {ahp : Heap} {r : ω} {K : Oracle} {T : List Ent}

theorem sees_rel {base : Nat} {sees : Sees} {v : NVal} {a : AVal} (h : RT hp v a) (hv : v ≠ .undef) : nseesB base sees v = seesB base sees a := by
  unfold nseesB seesB
  cases h with
  | undef => exact absurd rfl hv
  | v h => rw [h.own]
  | tup cs ds h => rfl

theorem view_cell {d : Nat} {v : NVal} {p : NVal × List Nat} (h : nviewP hp d v = some p) : ncellB v = true := by
  cases v <;> first | rfl | (cases d <;> simp [nviewP, nimmP] at h)
theorem argView_undef {m : Bool} {p : NVal × List Nat} (h : nargView hp (m, .undef) = some p) : False := by
  cases m <;> simp [nargView, nviewV, nviewP, nimmP, nisV, DEEP] at h
theorem allOn_mem {α γ : Type} {f : α → Option (γ × List Nat)} : ∀ {xs : List α} {p : List γ × List Nat}, allOn f xs = some p → ∀ x ∈ xs, ∃ q, f x = some q
  | [], _, _, x, hx => by cases hx
  | y :: ys, p, h, x, hx => by
    simp only [allOn] at h
    split at h
    · rename_i q hq
      split at h
      · rename_i q' hq'
        cases hx with
        | head => exact ⟨_, hq⟩
        | tail _ hx => exact allOn_mem hq' x hx
      · cases h
    · cases h

theorem RC.immC_eq {v : NVal} {a : AVal} (h : RC hp v a) : nimmC v = a.immC ∧ (nimmC v = true → RI v a) := by
  cases h with
  | p h =>
    cases h with
    | ro h => cases h with
      | fn f cap cap' hl hc =>
        refine ⟨?_, fun _ => .fn f cap cap' hl hc⟩
        show cap.all nimmP = cap'.all AVal.immP
        exact all_imm_eq (hp := hp) ⟨hl, fun j c d h1 h2 => .ro (hc j c d h1 h2)⟩
      | _ => first | exact ⟨rfl, fun _ => by assumption⟩ | exact ⟨rfl, fun _ => by constructor <;> assumption⟩ | exact ⟨rfl, fun _ => by constructor⟩
    | _ => exact ⟨rfl, fun h => by cases h⟩
  | fn f cap cap' hc =>
    refine ⟨all_imm_eq hc, fun hi => .fn f cap cap' hc.1 fun j c d h1 h2 => ((hc.2 j c d h1 h2).imm ?_).1⟩
    have : cap.all nimmP = true := hi
    rw [List.all_eq_true] at this
    exact this c (List.mem_of_getElem? h1)

theorem A2.all_eq {α β : Type} {R : α → β → Prop} {p : α → Bool} {q : β → Bool} (hR : ∀ x y, R x y → p x = q y) : ∀ {xs : List α} {ys : List β}, A2 R xs ys → xs.all p = ys.all q
  | [], ys, h => by rw [h.nil_inv]; rfl
  | x :: xs, ys, h => by
    obtain ⟨y, ys', rfl, h1, h2⟩ := h.cons_inv
    simp only [List.all_cons]
    rw [hR x y h1, A2.all_eq hR h2]

theorem nfillS_len {ρ : Opd → NVal} {e : Nat} : ∀ {parts : List (Nat × Opd)} {xs xs' : List (List NVal)}, nfillS ρ e xs parts = some xs' → xs'.length = xs.length
  | [], xs, xs', h => by simp [nfillS] at h; rw [h]
  | (i, x) :: rest, xs, xs', h => by
    simp only [nfillS] at h
    split at h
    · rw [nfillS_len h]; simp
    · cases h

theorem chunks_rel {e : Nat} : ∀ {n : Nat} {cs : List NVal} {ds : List AVal}, A2 RI cs ds → A2 (A2 RI) (neff0.nchunks e n cs) (chunks e n ds)
  | 0, _, _, _ => .nil
  | n + 1, cs, ds, h => by
    simp only [neff0.nchunks, chunks]
    exact .cons (h.take e) (chunks_rel (h.drop e))

theorem new_rel {b : Nat} {kb : NBlk} {k : AM.Blk} (hh : RH hp ahp) (hf : nfree hp b = true) (hb : RB (hp.set b (.live kb)) kb k) : RH (hp.set b (.live kb)) (ahp.set b (.live k)) :=
  hh.set (Evo.set_new hf) (.live _ _ hb)
theorem new_len {b : Nat} {kb : NBlk} (hf : nfree hp b = true) : lenAt (hp.set b (.live kb)) b kb.len := by
  rw [lenAt_set, if_pos ⟨rfl, nfree_lt hf⟩]

theorem neff0_sound (hT : ∀ e ∈ T, EntOk K e) (hh : RH hp ahp) {base : Nat} {o : AOper} {hint : Option Ty} {ρ : Opd → NVal} {aρ : Opd → AVal} (hρ : ∀ x, RT hp (ρ x) (aρ x)) {k : NVal → NHeap → Option ω} (h : neff0 T base o hint ρ hp k = some r) :
    ∃ v c hp' ahp', eff0 K base o aρ ahp = some (c, ahp') ∧ RT hp' v c ∧ RH hp' ahp' ∧ Evo hp hp' ∧ k v hp' = some r := by
  unfold neff0 at h
  unfold eff0
  split at h
  · rename_i hpu
    rw [if_pos hpu]
    obtain ⟨v, c, h1, h2, h3⟩ := npure_sound hρ h
    exact ⟨v, c, hp, ahp, by rw [h1]; rfl, h2, hh, .refl _, h3⟩
  · rename_i hpu
    rw [if_neg hpu]
    split at h
    · -- box
      rename_i n x ho
      rw [ho]
      simp only [isNew, if_true]
      split at h
      · rename_i hc
        obtain ⟨hf, h1, h2⟩ := hc
        obtain ⟨h3, h4⟩ := (hρ x).cells h2
        rw [if_pos (hh.free hf)]
        simp only [newOp]
        rw [if_pos ⟨by rw [← h3.1]; exact h1, h4⟩]
        have e := Evo.set_new (s := .live (.cells n false [ncellsOf (ρ x)])) hf
        exact ⟨_, _, _, _, rfl, (RP.ptr _ _ _).rt, new_rel (kb := .cells n false [ncellsOf (ρ x)]) hh hf ⟨rfl, rfl, fun h => (by cases h), fun _ => A2.single (h3.mono fun _ _ h => h.mono e)⟩, e, h⟩
      · cases h
    · -- alloc
      rename_i zero ho
      rw [ho]
      simp only [isNew, if_true]
      split at h
      · rename_i hf
        split at h
        · rename_i zs hz
          have h3 := nzero_rel (hp := hp) hz
          rw [if_pos (hh.free hf)]
          simp only [newOp]
          have e := Evo.set_new (s := .live (.cells zs.length false [zs])) hf
          exact ⟨_, _, _, _, rfl, (RP.ptr _ _ _).rt, new_rel (kb := .cells zs.length false [zs]) hh hf ⟨h3.1.symm, rfl, fun h => (by cases h), fun _ => A2.single (h3.mono fun _ _ h => h.c)⟩, e, h⟩
        · cases h
      · cases h
    · -- buildSlice
      rename_i e len flat zero parts ho
      rw [ho]
      simp only [isNew, if_true]
      split at h
      · rename_i hf
        split at h
        · rename_i xs hx
          simp only [Option.bind_eq_some_iff] at hx
          obtain ⟨zs, hz, hx⟩ := hx
          have h3 := nzero_rel (hp := hp) hz
          obtain ⟨ys, h4, h5⟩ := fillS_rel hρ hx (A2.replicate len (h3.mono fun _ _ h => RI.c (hp := hp) h))
          have hl := nfillS_len hx
          rw [List.length_replicate] at hl
          rw [if_pos (hh.free hf)]
          simp only [newOp, h4]
          have heq : (xs.all fun x => x.all nimmC) = ys.all fun x => x.all AVal.immC := A2.all_eq (p := fun x => x.all nimmC) (q := fun x => x.all AVal.immC) (fun x y hxy => A2.all_eq (p := nimmC) (q := AVal.immC) (fun c d hcd => (RC.immC_eq hcd).1) hxy) h5
          have e1 := Evo.set_new (s := .live (.cells e (flat && xs.all (·.all nimmC)) xs)) hf
          refine ⟨_, _, _, _, rfl, (RP.slw (base + o.at_) e len ?_).rt, new_rel (kb := .cells e (flat && xs.all (·.all nimmC)) xs) hh hf ⟨rfl, by rw [heq], fun hfl => ?_, fun _ => h5.mono fun _ _ h => h.mono fun _ _ h => h.mono e1⟩, e1, h⟩
          · have := new_len (kb := .cells e (flat && xs.all (·.all nimmC)) xs) hf
            rw [show (NBlk.cells e (flat && xs.all (·.all nimmC)) xs).len = len from hl] at this
            exact this
          · simp only [Bool.and_eq_true, List.all_eq_true] at hfl
            refine ⟨h5.1, fun i x y hi hj => ?_⟩
            have hxy := h5.2 i x y hi hj
            exact ⟨hxy.1, fun j c d hc hd => (RC.immC_eq (hxy.2 j c d hc hd)).2 (hfl.2 x (List.mem_of_getElem? hi) c (List.mem_of_getElem? hc))⟩
        · cases h
      · cases h
    · -- makeSlice
      rename_i e bytes flat zero len cap ho
      rw [ho]
      simp only [isNew, if_true]
      split at h
      · rename_i t
        split at h
        · rename_i hc
          obtain ⟨hf, rfl, he⟩ := hc
          split at h
          · rename_i z hz
            simp only [Option.bind_eq_some_iff] at hz
            obtain ⟨zs, hz, hz2⟩ := hz
            have h3 := nzero_rel (hp := hp) hz
            have h4 := (good t).2.1 _ _ _ hz2 h3
            obtain ⟨l, hl, h⟩ := nidx_inv h (hρ len)
            obtain ⟨c, hc, h⟩ := nidx_inv h (hρ cap)
            obtain ⟨hb, h⟩ := cond_some h
            simp only [Bool.and_eq_true, decide_eq_true_eq] at hb
            rw [if_pos (hh.free hf)]
            simp only [newOp, hl, hc]
            rw [if_pos hb]
            have e1 := Evo.set_new (s := .live (.typed t (List.replicate l z))) hf
            refine ⟨_, _, _, _, rfl, (RP.slw (base + o.at_) e l ?_).rt, new_rel (kb := .typed t (List.replicate l z)) hh hf ⟨he, rfl, A2.replicate l h4⟩, e1, h⟩
            have := new_len (kb := .typed t (List.replicate l z)) hf
            rw [show (NBlk.typed t (List.replicate l z)).len = l from List.length_replicate] at this
            exact this
          · cases h
        · cases h
      · split at h
        · rename_i hf
          split at h
          · rename_i zs hz
            have h3 := nzero_rel (hp := hp) hz
            obtain ⟨l, hl, h⟩ := nidx_inv h (hρ len)
            obtain ⟨c, hc, h⟩ := nidx_inv h (hρ cap)
            obtain ⟨hb, h⟩ := cond_some h
            simp only [Bool.and_eq_true, decide_eq_true_eq] at hb
            rw [if_pos (hh.free hf)]
            simp only [newOp, hl, hc]
            rw [if_pos hb]
            have e1 := Evo.set_new (s := .live (.cells e flat (List.replicate l zs))) hf
            refine ⟨_, _, _, _, rfl, (RP.slw (base + o.at_) e l ?_).rt, new_rel (kb := .cells e flat (List.replicate l zs)) hh hf ⟨rfl, rfl, fun _ => A2.replicate l h3, fun _ => A2.replicate l (h3.mono fun _ _ h => h.c)⟩, e1, h⟩
            have := new_len (kb := .cells e flat (List.replicate l zs)) hf
            rw [show (NBlk.cells e flat (List.replicate l zs)).len = l from List.length_replicate] at this
            exact this
          · cases h
        · cases h
    · -- load
      rename_i agg n a ho
      rw [ho]
      simp only [isNew, Bool.false_eq_true, if_false]
      split at h
      · rename_i hs
        have hu : ρ a ≠ .undef := fun e => by rw [e] at h; simp [nloadV, nload, nstrV] at h
        obtain ⟨u, c, h1, h2, h3⟩ := nloadV_sound hh h (hρ a)
        rw [sees_rel (hρ a) hu] at hs
        rw [if_pos hs, h1]
        exact ⟨u, c, hp, ahp, rfl, h2, hh, .refl _, h3⟩
      · cases h
    · -- store
      rename_i n a x ho
      rw [ho]
      simp only [isNew, Bool.false_eq_true, if_false]
      split at h
      · rename_i hs
        have hu : ρ a ≠ .undef := fun e => by rw [e] at h; simp [nstore] at h
        have hu2 : ρ x ≠ .undef := fun e => by
          rw [e] at h
          unfold nstore at h
          split at h
          · split at h
            · rw [if_neg (by simp [ncellsOf, ncellB])] at h; cases h
            · cases h
          · cases h
        obtain ⟨hp', ahp', h1, h2, h3, h4⟩ := nstore_sound hh h (hρ a) (hρ x)
        rw [sees_rel (hρ a) hu, sees_rel (hρ x) hu2] at hs
        rw [if_pos hs, h1]
        exact ⟨.undef, .undef, hp', ahp', rfl, .undef _, h2, h3, h4⟩
      · cases h
    · -- append
      rename_i e bytes flat s x ho
      rw [ho]
      simp only [isNew, Bool.false_eq_true, if_false]
      split at h
      · rename_i hs
        have hu2 : ρ x ≠ .undef := fun e => by rw [e] at h; simp [nappend, nappended] at h
        have hu : ρ s ≠ .undef := fun e => by
          rw [e] at h
          unfold nappend at h
          obtain ⟨els, ys, h1, h2, h3, h4⟩ := nappended_sound hh h (hρ x)
          split at h4
          · cases h4
          · split at h4 <;> cases h4
        rw [sees_rel (hρ s) hu, sees_rel (hρ x) hu2] at hs
        rw [if_pos hs]
        exact nappend_sound hh h (hρ s) (hρ x)
      · cases h
    · -- sliceArr
      rename_i len e x ho
      rw [ho]
      simp only [isNew, Bool.false_eq_true, if_false]
      split at h
      · rename_i hs
        split at h
        · rename_i cs off l hv
          split at h
          · rename_i hle
            have hcb := view_cell hv
            have hu : ρ x ≠ .undef := fun e => by rw [e] at hcb; cases hcb
            obtain ⟨u', h1, h2⟩ := view_rel hh hv ((hρ x).cell hcb)
            obtain ⟨ds, rfl, h3⟩ := h2.iptr_inv
            rw [sees_rel (hρ x) hu] at hs
            rw [if_pos hs]
            unfold sliceArrVal
            rw [h1]
            simp only
            rw [if_pos (by rw [← h3.1]; exact hle)]
            exact ⟨_, _, _, _, rfl, (RI.mk_rows (chunks_rel (h3.drop off))).rt, kill_rel hh, nkill_evo _ _, h⟩
          · cases h
        · cases h
      · cases h
    · -- call
      rename_i f args quiet room ho
      rw [ho]
      simp only [isNew, Bool.false_eq_true, if_false]
      split at h
      · rename_i hs
        have hu : ρ f ≠ .undef := fun e => by rw [e] at h; simp [ncall] at h
        have hargs : A2 (fun (p : Bool × NVal) (q : Bool × AVal) => p.1 = q.1 ∧ RT hp p.2 q.2) (args.map fun (m, x) => (m, ρ x)) (args.map fun (m, x) => (m, aρ x)) := by
          refine ⟨by simp, fun j p q h1 h2 => ?_⟩
          simp only [List.getElem?_map, Option.map_eq_some_iff] at h1 h2
          obtain ⟨a1, e1, rfl⟩ := h1
          obtain ⟨a2, e2, rfl⟩ := h2
          rw [e1] at e2
          cases e2
          exact ⟨rfl, hρ _⟩
        have hua : ∀ a ∈ args, ρ a.2 ≠ .undef := fun a ha e => by
          unfold ncall at h
          split at h
          · split at h
            · cases h
            · rename_i hvs
              obtain ⟨q, hq⟩ := allOn_mem hvs (a.1, ρ a.2) (List.mem_map.2 ⟨a, ha, rfl⟩)
              rw [e] at hq
              exact argView_undef hq
          · cases h
        have hs2 : (args.all fun (_, x) => seesB base o.sees (aρ x)) = true := by
          rw [List.all_eq_true]
          intro a ha
          have := List.all_eq_true.1 hs.2 a ha
          simp only at this ⊢
          rw [← sees_rel (hρ a.2) (hua a ha)]
          exact this
        rw [if_pos ⟨by rw [← sees_rel (hρ f) hu]; exact hs.1, hs2⟩]
        exact ncall_sound hT hh (hρ f) hargs h
      · cases h
    · cases h

theorem owns_rel (hh : RH hp ahp) (hg : noGone hp) (b : Nat) : ownsAt (skH hp) b = ownsAt ahp b := by
  unfold ownsAt
  rw [skH_get]
  cases hb : nget hp b with
  | none => rw [hh.getNone hg hb]; rfl
  | some kb =>
    obtain ⟨k, hk, hr⟩ := hh.get hb
    rw [hk]
    simp only [Option.map_some, hr.owns]

set_option maxHeartbeats 2000000 in
theorem touch_rel (hh : RH hp ahp) {base : Nat} {o : AOper} {hint : Option Ty} {ρ : Opd → NVal} {aρ : Opd → AVal} (hρ : ∀ x, RT hp (ρ x) (aρ x)) {k : NVal → NHeap → Option ω} (h : neff0 T base o hint ρ hp k = some r) :
    ntouchL hp o.op ρ = touchL ahp o.op aρ := by
  unfold neff0 at h
  cases ho : o.op with
  | store n a x =>
    rw [ho] at h
    simp only [isPure, Bool.false_eq_true, if_false] at h
    split at h
    case isFalse => cases h
    unfold nstore at h
    split at h
    case h_2 => cases h
    rename_i bb i f hv
    have hp1 := hρ a
    rw [hv] at hp1
    have e1 := hp1.ptr_inv
    simp only [ntouchL, touchL, nstoreL, storeL, hv, e1]
    split at h
    case h_2 => cases h
    rename_i kb hkb
    obtain ⟨kk, hk, hrb⟩ := hh.get hkb
    first
    | (rw [hkb, hk]; simp only)
    | simp only [hk]
    | fail
    split at h
    case isFalse => cases h
    rename_i hc
    obtain ⟨c1, c2⟩ := (hρ x).cells hc.2
    split at h
    case h_2 => cases h
    rename_i us hp1 hst
    rw [RB.flat hrb]
    unfold nsettle at hst
    split at hst
    · rename_i hf
      split at hst
      case h_2 => cases hst
      rename_i us1 l hus
      obtain ⟨bs, hg, hrus⟩ := allOn_rel (R := RC hp) (R' := RI) (g := viewP ahp DEEP) (fun x y u l hxy hx => view_rel hh hx hxy) hus c1
      first
      | rw [if_pos hf, if_pos hf, hus, hg]
      | rw [if_pos hf, if_pos hf, hg]
      | fail
    · rename_i hf
      rw [if_neg hf, if_neg hf]
  | sliceArr len e x =>
    rw [ho] at h
    simp only [isPure, Bool.false_eq_true, if_false] at h
    split at h
    case isFalse => cases h
    split at h
    case h_2 => cases h
    rename_i cs off l hv
    obtain ⟨u', h1, h2⟩ := view_rel hh hv ((hρ x).cell (view_cell hv))
    simp only [ntouchL, touchL, hv, h1]
  | call f args quiet room =>
    rw [ho] at h
    simp only [isPure, Bool.false_eq_true, if_false] at h
    split at h
    case isFalse => cases h
    have hargs : A2 (fun (p : Bool × NVal) (q : Bool × AVal) => p.1 = q.1 ∧ RT hp p.2 q.2) (args.map fun (m, x) => (m, ρ x)) (args.map fun (m, x) => (m, aρ x)) := by
      refine ⟨by simp, fun j p q h1 h2 => ?_⟩
      simp only [List.getElem?_map, Option.map_eq_some_iff] at h1 h2
      obtain ⟨a1, e1, rfl⟩ := h1
      obtain ⟨a2, e2, rfl⟩ := h2
      rw [e1] at e2
      cases e2
      exact ⟨rfl, hρ _⟩
    unfold ncall at h
    split at h
    case h_2 => cases h
    rename_i fn cap hv
    have hf := hρ f
    rw [hv] at hf
    obtain ⟨cap', hfe, hcap⟩ := hf.fn_inv
    split at h
    case h_1 => cases h
    rename_i vs lent hvs
    obtain ⟨vs', hvs', hrv⟩ := allOn_rel (R := fun (p : Bool × NVal) (q : Bool × AVal) => p.1 = q.1 ∧ RT hp p.2 q.2) (R' := RV hp) (g := argView ahp) (fun x y u l hxy hx => argView_rel hh hxy hx) hvs hargs
    have hall : A2 (RV hp) (vs ++ cap) (vs' ++ cap') := hrv.append (hcap.mono fun _ _ h => .c (.p h))
    have hroots : ((vs ++ cap).flatMap fun v => (skV v).ownV) = (vs' ++ cap').flatMap AVal.ownV := A2.flatMap_eq (fun x y hxy => hxy.own) hall
    simp only at h
    split at h
    case isFalse => cases h
    rename_i hc
    obtain ⟨c1, c2, c3, c4, c5, c6⟩ := hc
    simp only [ntouchL, touchL, ncallL, callL, hv, hfe, hvs, hvs']
    rw [hroots] at c6 ⊢
    rcases c6 with c6 | c6
    · rw [List.isEmpty_iff.1 c6, reach_nil, reach_nil]
      rfl
    · rw [hh.reach (noneGone_iff c6)]
      have ho : ownsAt (skH hp) = ownsAt ahp := funext fun b => owns_rel hh (noneGone_iff c6) b
      rw [ho]
  | _ => rfl

theorem neff_sound (hT : ∀ e ∈ T, EntOk K e) (hh : RH hp ahp) {base : Nat} {o : AOper} {hint : Option Ty} {ρ : Opd → NVal} {aρ : Opd → AVal} (hρ : ∀ x, RT hp (ρ x) (aρ x)) {k : NVal → NHeap → Option ω} (h : neff T base o hint ρ hp k = some r) :
    ∃ v c hp' ahp', effOp K base o aρ ahp = some (c, ahp') ∧ RT hp' v c ∧ RH hp' ahp' ∧ Evo hp hp' ∧ k v hp' = some r := by
  unfold neff at h
  cases ht : ntightOk base o ρ hp with
  | false => rw [ht] at h; cases h
  | true =>
    rw [ht] at h
    simp only [cond_true] at h
    unfold effOp
    have : tightOk base o aρ ahp = true := by
      unfold ntightOk at ht
      unfold tightOk
      rw [← touch_rel hh hρ h]
      exact ht
    rw [if_pos this]
    exact neff0_sound hT hh hρ h

/-- states of both machines -/
structure SR (st : NSt) (ast : St) : Prop where
  tmps : A2 (RT st.heap) st.tmps ast.tmps
  heap : RH st.heap ast.heap
  k : ast.k = st.k

theorem set_same {l : List NVal} {t : Nat} {v : NVal} (h : l.getD t .undef = v) (hv : v ≠ .undef) : l.set t v = l := by
  apply List.ext_getElem?
  intro j
  rw [List.getElem?_set]
  split
  · rename_i e
    subst e
    rw [List.getD_eq_getElem?_getD] at h
    cases hj : l[t]? with
    | none => rw [hj] at h; exact absurd h.symm hv
    | some x =>
      rw [hj] at h
      rw [if_pos (List.getElem?_eq_some_iff.1 hj).1, ← h]
      rfl
  · rfl

theorem nset_frame {tmps : List NVal} {d : Option Nat} {v : NVal} {t : Nat} (h : d ≠ some t) : (nset tmps d v).getD t .undef = tmps.getD t .undef := by
  cases d with
  | none => rfl
  | some u =>
    simp only [nset, List.getD_eq_getElem?_getD]
    rw [List.getElem?_set_ne (fun e => h (by rw [e]))]
theorem nset_rel {tmps : List NVal} {atmps : List AVal} {d : Option Nat} {v : NVal} {c : AVal} (h : A2 (RT hp) tmps atmps) (hv : RT hp v c) : A2 (RT hp) (nset tmps d v) (setTmp atmps d c) := by
  cases d with
  | none => exact h
  | some t => exact h.set t hv

theorem oneOf_inv {i : Int} {k : Nat → Option ω} : ∀ {n : Nat}, oneOf i k n = some r → ∃ j : Nat, i = (j : Int) ∧ k j = some r
  | 0, h => by simp [oneOf] at h
  | n + 1, h => by
    simp only [oneOf] at h
    by_cases hi : i = (n : Int)
    · rw [decide_eq_true hi] at h
      exact ⟨n, hi, h⟩
    · rw [decide_eq_false hi] at h
      exact oneOf_inv (n := n) h
theorem nsplit_inv {tmps : List NVal} {s : Option (Nat × Nat)} {k : List NVal → Option ω} (h : nsplit tmps s k = some r) : k tmps = some r := by
  unfold nsplit at h
  split at h
  · exact h
  · rename_i t n
    split at h
    · rename_i kd i hi
      obtain ⟨j, hj, hk⟩ := oneOf_inv h
      subst hj
      rw [set_same hi (by simp)] at hk
      exact hk
    · cases h
theorem nop_sound (hT : ∀ e ∈ T, EntOk K e) {base : Nat} {hints : List Hint} {o : AOper} {st : NSt} {ast : St} (hs : SR st ast) {k : NSt → Option ω} (h : nop T base hints o st k = some r) :
    ∃ st' ast', runOp K base o ast = some ast' ∧ SR st' ast' ∧ k st' = some r ∧ (∀ t, o.dst ≠ some t → st'.tmps.getD t .undef = st.tmps.getD t .undef) ∧ st'.k = st.k ∧ st'.tmps.length = st.tmps.length := by
  have eff : ∀ {k : NVal → NHeap → Option ω}, neff T base o (hintOf hints o.dst) (nlook st.tmps) st.heap k = some r → ∃ v h c ahp, effOp K base o (AM.look ast.tmps) ast.heap = some (c, ahp) ∧ SR ⟨nset st.tmps o.dst v, h, st.k⟩ ⟨setTmp ast.tmps o.dst c, ahp, ast.k⟩ ∧ k v h = some r := fun hk => by
    obtain ⟨v, c, hp', ahp', h1, h2, h3, h4, h5⟩ := neff_sound hT hs.heap (nlook_rel hs.tmps) hk
    exact ⟨v, hp', c, ahp', h1, ⟨nset_rel (hs.tmps.mono fun _ _ h => h.mono h4) h2, h3, hs.k⟩, h5⟩
  have nlen : ∀ v, (nset st.tmps o.dst v).length = st.tmps.length := fun v => by cases o.dst <;> simp [nset]
  have skip : SR ⟨nset st.tmps o.dst (.tup []), st.heap, st.k⟩ ⟨setTmp ast.tmps o.dst (.tup []), ast.heap, ast.k⟩ := ⟨nset_rel hs.tmps (.tup _ _ .nil), hs.heap, hs.k⟩
  unfold nop at h
  unfold runOp
  split at h
  · rename_i hg
    rw [hg]
    obtain ⟨v, hp', c, ahp', h1, h2, h3⟩ := eff (nsplit_inv h)
    exact ⟨_, _, by simp only [h1]; rfl, h2, h3, fun t ht => nset_frame ht, rfl, nlen _⟩
  · rename_i t want hg
    rw [hg]
    have hrt := hs.tmps.getD (RT.undef .undef) t
    split at h
    · rename_i b hb
      rw [hb] at hrt
      simp only [hrt.bool_inv]
      rw [show cond b = fun (x y : Option ω) => cond b x y from rfl] at h
      cases b with
      | true =>
        simp only [cond_true] at h
        rw [set_same hb (by simp)] at h
        cases want with
        | true =>
          simp only [cond_true] at h
          obtain ⟨v, hp', c, ahp', h1, h2, h3⟩ := eff (nsplit_inv h)
          exact ⟨_, _, by simp only [if_true, h1]; rfl, h2, h3, fun t ht => nset_frame ht, rfl, nlen _⟩
        | false =>
          simp only [cond_false] at h
          exact ⟨_, _, by rw [if_neg (by simp)], skip, h, fun t ht => nset_frame ht, rfl, nlen _⟩
      | false =>
        simp only [cond_false] at h
        rw [set_same hb (by simp)] at h
        cases want with
        | true =>
          simp only [cond_true] at h
          exact ⟨_, _, by rw [if_neg (by simp)], skip, h, fun t ht => nset_frame ht, rfl, nlen _⟩
        | false =>
          simp only [cond_false] at h
          obtain ⟨v, hp', c, ahp', h1, h2, h3⟩ := eff (nsplit_inv h)
          exact ⟨_, _, by simp only [if_true, h1]; rfl, h2, h3, fun t ht => nset_frame ht, rfl, nlen _⟩
    · rename_i hb
      rw [hb] at hrt
      obtain ⟨ds, e, hd⟩ := hrt.tup_inv
      rw [hd.nil_inv] at e
      simp only [e]
      exact ⟨_, _, rfl, skip, h, fun t ht => nset_frame ht, rfl, nlen _⟩
    · cases h

theorem nops_sound (hT : ∀ e ∈ T, EntOk K e) {base : Nat} {hints : List Hint} : ∀ {os : List AOper} {st : NSt} {ast : St} {k : NSt → Option ω}, SR st ast → nops T base hints os st k = some r →
    ∃ st' ast', runOps K base os ast = some ast' ∧ SR st' ast' ∧ k st' = some r ∧ (∀ t, (∀ o ∈ os, o.dst ≠ some t) → st'.tmps.getD t .undef = st.tmps.getD t .undef) ∧ st'.k = st.k ∧ st'.tmps.length = st.tmps.length
  | [], st, ast, k, hs, h => ⟨st, ast, rfl, hs, h, fun _ _ => rfl, rfl, rfl⟩
  | o :: os, st, ast, k, hs, h => by
    simp only [nops] at h
    obtain ⟨st1, ast1, h1, h2, h3, h4, h5, h6⟩ := nop_sound hT hs h
    obtain ⟨st2, ast2, g1, g2, g3, g4, g5, g6⟩ := nops_sound hT h2 h3
    exact ⟨st2, ast2, by simp only [runOps, h1, Option.bind_some, g1], g2, g3, fun t ht => (g4 t fun o ho => ht o (List.mem_cons_of_mem _ ho)).trans (h4 t (ht o List.mem_cons_self)), g5.trans h5, g6.trans h6⟩
end

end NM
end Go.Proofs.Ytfelhbeiegppgaa
