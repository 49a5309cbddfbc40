/-
  Shapes: what is read of a state by a shape, laid down again, stands for the same.
-/
import Derived.Test.YtfelhbeiegppgaaNmG
set_option linter.unusedVariables false
set_option linter.unusedSimpArgs false
namespace Go.Proofs.Ytfelhbeiegppgaa
namespace NM
open AM

section
variable {hp : NHeap}

theorem un_RI {t : Ty} {cs : List NVal} {ds : List AVal} {x : den t} (h : (ops t).un cs = some x) (hr : A2 (RC hp) cs ds) : A2 RI ((ops t).cells x) ds :=
  (good t).2.1 _ _ _ h ⟨hr.1, fun j c d hc hd => ((hr.2 j c d hc hd).imm ((good t).2.2.2 _ _ _ h (List.mem_of_getElem? hc))).1⟩
theorem one_of {t : Ty} {x : den t} {d : AVal} (h : A2 RI ((ops t).cells x) [d]) : ∃ c, (ops t).cells x = [c] ∧ RI c d := by
  match hc : (ops t).cells x, h with
  | [c], h => exact ⟨c, rfl, h.head⟩
  | [], h => have := h.1; simp at this
  | _ :: _ :: _, h => have := h.1; simp at this

/-- of one cell -/
theorem getV_RI {t : Ty} {v : NVal} {a : AVal} {x : den t} (h : getV t v = some x) (hr : RC hp v a) : RI (putV t x) a := by
  unfold getV at h
  split at h
  · split at h
    · rename_i cs
      cases hr with | p hp' => cases hp' with | ro h => cases h
    · cases h
  · rename_i ht
    obtain ⟨c, hc, hrc⟩ := one_of (un_RI h (A2.single hr))
    unfold putV
    rw [ht]
    simp only [hc]
    exact hrc
theorem getV_RV {t : Ty} {v : NVal} {a : AVal} {x : den t} (h : getV t v = some x) (hr : RV hp v a) : RV hp (putV t x) a := by
  cases hr with
  | c hc => exact (getV_RI h hc).rv
  | agg cs ds hd =>
    unfold getV at h
    split at h
    · rename_i ht
      unfold putV
      rw [ht]
      exact .agg _ _ ((un_RI h hd).mono fun _ _ h => h.c)
    · have := (good t).2.2.2 _ _ (.agg cs) h (by simp)
      cases this

mutual
theorem get_RI : ∀ {s : Sh} {v : NVal} {a : AVal} {x : s.den}, s.isUndef = false → get s v = some x → RI v a → RI (put s x) a
  | .v t, v, a, x, _, h, hr => getV_RI (hp := []) h hr.c
  | .undef, v, a, x, hu, h, hr => by cases hu
  | .nilp, v, a, x, _, h, hr => by simp only [get] at h; split at h <;> first | exact hr | cases h
  | .zsl, v, a, x, _, h, hr => by simp only [get] at h; split at h <;> first | exact hr | cases h
  | .nilfn, v, a, x, _, h, hr => by simp only [get] at h; split at h <;> first | exact hr | cases h
  | .nili, v, a, x, _, h, hr => by simp only [get] at h; split at h <;> first | exact hr | cases h
  | .ptr b i f, v, a, x, _, h, hr => by simp only [get] at h; split at h <;> first | (cases h; done) | (cases hr; done)
  | .slw b e, v, a, x, _, h, hr => by simp only [get] at h; split at h <;> first | (cases h; done) | (cases hr; done)
  | .fn f l, v, a, x, _, h, hr => by
    simp only [get] at h
    split at h
    · split at h
      · rename_i hf
        subst hf
        cases hr with
        | fn _ cap cap' hl hh =>
          have := gets_RI h ⟨hl, hh⟩
          exact .fn _ _ _ this.1 this.2
      · cases h
    · cases h
  | .agg l, v, a, x, _, h, hr => by simp only [get] at h; split at h <;> first | (cases h; done) | (cases hr; done)
  | .tup l, v, a, x, _, h, hr => by simp only [get] at h; split at h <;> first | (cases h; done) | (cases hr; done)
  | .iptr l off, v, a, x, _, h, hr => by
    simp only [get] at h
    split at h
    · split at h
      · rename_i hf
        subst hf
        obtain ⟨ds, rfl, hd⟩ := hr.iptr_inv
        have := gets_RI h hd
        exact .iptr _ _ _ this.1 this.2
      · cases h
    · cases h
  | .rows e l, v, a, x, _, h, hr => by
    simp only [get] at h
    split at h
    · split at h
      · rename_i he
        subst he
        simp only [put]
        rcases hr.rows_inv with ⟨ys, rfl, hy⟩ | ⟨rfl, rfl⟩
        · exact .mk_rows (getsR_RI h hy)
        · have := (getsR_RI (ds := []) h .nil).1
          rw [List.eq_nil_of_length_eq_zero this]
          exact .rows0 _
      · cases h
    · cases h
  | .nil, v, a, x, _, h, hr => by simp [get] at h
  | .cons _ _, v, a, x, _, h, hr => by simp [get] at h
theorem gets_RI : ∀ {s : Sh} {vs : List NVal} {ds : List AVal} {x : s.den}, gets s vs = some x → A2 RI vs ds → A2 RI (puts s x) ds
  | .cons a l, vs, ds, x, h, hr => by
    simp only [gets] at h
    split at h
    · rename_i v vs
      obtain ⟨d, ds, rfl, h1, h2⟩ := hr.cons_inv
      split at h
      · rename_i y hy
        split at h
        · rename_i z hz
          cases h
          split at hy
          · cases hy
          · rename_i hu
            simp only [puts]
            exact .cons (get_RI (by simpa using hu) hy h1) (gets_RI hz h2)
        · cases h
      · cases h
    · cases h
  | .nil, vs, ds, x, h, hr => by
    simp only [gets] at h
    split at h
    · rw [hr.nil_inv]; exact .nil
    · cases h
  | .v _, vs, ds, x, h, hr => by simp [gets] at h
  | .undef, vs, ds, x, h, hr => by simp [gets] at h
  | .nilp, vs, ds, x, h, hr => by simp [gets] at h
  | .zsl, vs, ds, x, h, hr => by simp [gets] at h
  | .nilfn, vs, ds, x, h, hr => by simp [gets] at h
  | .nili, vs, ds, x, h, hr => by simp [gets] at h
  | .ptr _ _ _, vs, ds, x, h, hr => by simp [gets] at h
  | .slw _ _, vs, ds, x, h, hr => by simp [gets] at h
  | .fn _ _, vs, ds, x, h, hr => by simp [gets] at h
  | .agg _, vs, ds, x, h, hr => by simp [gets] at h
  | .tup _, vs, ds, x, h, hr => by simp [gets] at h
  | .iptr _ _, vs, ds, x, h, hr => by simp [gets] at h
  | .rows _ _, vs, ds, x, h, hr => by simp [gets] at h
theorem getsR_RI : ∀ {s : Sh} {vs : List (List NVal)} {ds : List (List AVal)} {x : s.den}, getsR s vs = some x → A2 (A2 RI) vs ds → A2 (A2 RI) (putsR s x) ds
  | .cons a l, vs, ds, x, h, hr => by
    simp only [getsR] at h
    split at h
    · rename_i v vs
      obtain ⟨d, ds, rfl, h1, h2⟩ := hr.cons_inv
      split at h
      · rename_i y hy
        split at h
        · rename_i z hz
          cases h
          simp only [putsR]
          exact .cons (gets_RI hy h1) (getsR_RI hz h2)
        · cases h
      · cases h
    · cases h
  | .nil, vs, ds, x, h, hr => by
    simp only [getsR] at h
    split at h
    · rw [hr.nil_inv]; exact .nil
    · cases h
  | .v _, vs, ds, x, h, hr => by simp [getsR] at h
  | .undef, vs, ds, x, h, hr => by simp [getsR] at h
  | .nilp, vs, ds, x, h, hr => by simp [getsR] at h
  | .zsl, vs, ds, x, h, hr => by simp [getsR] at h
  | .nilfn, vs, ds, x, h, hr => by simp [getsR] at h
  | .nili, vs, ds, x, h, hr => by simp [getsR] at h
  | .ptr _ _ _, vs, ds, x, h, hr => by simp [getsR] at h
  | .slw _ _, vs, ds, x, h, hr => by simp [getsR] at h
  | .fn _ _, vs, ds, x, h, hr => by simp [getsR] at h
  | .agg _, vs, ds, x, h, hr => by simp [getsR] at h
  | .tup _, vs, ds, x, h, hr => by simp [getsR] at h
  | .iptr _ _, vs, ds, x, h, hr => by simp [getsR] at h
  | .rows _ _, vs, ds, x, h, hr => by simp [getsR] at h
end

/-- lists, whatever goes with their elements -/
theorem gets_R {R : NVal → AVal → Prop} (hR : ∀ (s : Sh) (v : NVal) (a : AVal) (x : s.den), s.isUndef = false → get s v = some x → R v a → R (put s x) a) : ∀ {s : Sh} {vs : List NVal} {ds : List AVal} {x : s.den}, gets s vs = some x → A2 R vs ds → A2 R (puts s x) ds
  | .cons a l, vs, ds, x, h, hr => by
    simp only [gets] at h
    split at h
    · rename_i v vs
      obtain ⟨d, ds, rfl, h1, h2⟩ := hr.cons_inv
      split at h
      · rename_i y hy
        split at h
        · rename_i z hz
          cases h
          split at hy
          · cases hy
          · rename_i hu
            simp only [puts]
            exact .cons (hR _ _ _ _ (by simpa using hu) hy h1) (gets_R hR hz h2)
        · cases h
      · cases h
    · cases h
  | .nil, vs, ds, x, h, hr => by
    simp only [gets] at h
    split at h
    · rw [hr.nil_inv]; exact .nil
    · cases h
  | .v _, vs, ds, x, h, hr => by simp [gets] at h
  | .undef, vs, ds, x, h, hr => by simp [gets] at h
  | .nilp, vs, ds, x, h, hr => by simp [gets] at h
  | .zsl, vs, ds, x, h, hr => by simp [gets] at h
  | .nilfn, vs, ds, x, h, hr => by simp [gets] at h
  | .nili, vs, ds, x, h, hr => by simp [gets] at h
  | .ptr _ _ _, vs, ds, x, h, hr => by simp [gets] at h
  | .slw _ _, vs, ds, x, h, hr => by simp [gets] at h
  | .fn _ _, vs, ds, x, h, hr => by simp [gets] at h
  | .agg _, vs, ds, x, h, hr => by simp [gets] at h
  | .tup _, vs, ds, x, h, hr => by simp [gets] at h
  | .iptr _ _, vs, ds, x, h, hr => by simp [gets] at h
  | .rows _ _, vs, ds, x, h, hr => by simp [gets] at h

theorem get_undef {s : Sh} {x : s.den} (hu : s.isUndef = false) (h : get s .undef = some x) : False := by
  cases s <;> simp [get, Sh.isUndef] at h hu
  rename_i t
  unfold getV at h
  split at h
  · cases h
  · have := (good t).2.2.2 _ _ .undef h (by simp)
    cases this
theorem get_RP (s : Sh) (v : NVal) (a : AVal) (x : s.den) (hu : s.isUndef = false) (h : get s v = some x) (hr : RP hp v a) : RP hp (put s x) a := by
  cases hr with
  | ro hr => exact .ro (get_RI hu h hr)
  | undef => exact (get_undef hu h).elim
  | ptr b i f =>
    cases s <;> simp [get, Sh.isUndef] at h hu
    · rename_i t
      exact .ro (getV_RI (hp := hp) h (.p (.ptr b i f)))
    · obtain ⟨rfl, rfl, rfl⟩ := h
      exact .ptr _ _ _
  | sl b o l e =>
    cases s <;> simp [get, Sh.isUndef] at h hu
    rename_i t
    exact .ro (getV_RI (hp := hp) h (.p (.sl b o l e)))
  | slw b e n hn =>
    cases s <;> simp [get, Sh.isUndef] at h hu
    · rename_i t
      exact .ro (getV_RI (hp := hp) h (.p (.slw b e n hn)))
    · obtain ⟨rfl, rfl⟩ := h
      exact .slw _ _ _ hn
theorem get_RC (s : Sh) (v : NVal) (a : AVal) (x : s.den) (hu : s.isUndef = false) (h : get s v = some x) (hr : RC hp v a) : RC hp (put s x) a := by
  cases hr with
  | p hr => exact .p (get_RP s v a x hu h hr)
  | fn f cap cap' hc =>
    cases s with
    | v t =>
      simp only [get] at h
      exact (getV_RI (hp := hp) h (.fn f cap cap' hc)).c
    | fn f' l =>
      simp only [get] at h
      split at h
      · rename_i hf
        subst hf
        exact .fn _ _ _ (gets_R get_RP h hc)
      · cases h
    | undef => cases hu
    | _ => simp [get] at h
theorem get_RV (s : Sh) (v : NVal) (a : AVal) (x : s.den) (hu : s.isUndef = false) (h : get s v = some x) (hr : RV hp v a) : RV hp (put s x) a := by
  cases hr with
  | c hr => exact .c (get_RC s v a x hu h hr)
  | agg cs ds hd =>
    cases s with
    | v t =>
      simp only [get] at h
      exact getV_RV h (.agg cs ds hd)
    | agg l => exact .agg _ _ (gets_R get_RC (by simpa only [get] using h) hd)
    | undef => cases hu
    | _ => simp [get] at h
theorem get_RT (s : Sh) (v : NVal) (a : AVal) (x : s.den) (h : get s v = some x) (hr : RT hp v a) : RT hp (put s x) a := by
  by_cases hu : s.isUndef = true
  · cases s <;> simp [Sh.isUndef] at hu
    exact .undef _
  · have hu : s.isUndef = false := by simpa using hu
    cases hr with
    | undef a => exact (get_undef hu h).elim
    | v hr => exact .v (get_RV s v a x hu h hr)
    | tup cs ds hd =>
      cases s with
      | v t =>
        simp only [get] at h
        unfold getV at h
        split at h
        · cases h
        · have := (good t).2.2.2 _ _ (.tup cs) h (by simp)
          cases this
      | tup l => exact .tup _ _ (gets_R get_RV (by simpa only [get] using h) hd)
      | undef => cases hu
      | _ => simp [get] at h
end

/- blocks -/
theorem allOf_length {α β : Type} {f : α → Option β} : ∀ {xs : List α} {ys : List β}, allOf f xs = some ys → ys.length = xs.length
  | [], ys, h => by simp [allOf] at h; subst h; rfl
  | x :: xs, ys, h => by
    simp only [allOf] at h
    split at h
    · split at h
      · rename_i hz; cases h; simp [allOf_length hz]
      · cases h
    · cases h
def slotLen : NSlot → Nat → Prop
  | .live k, n => k.len = n
  | .dead, _ => True
  | .gone, _ => True
  | .free, _ => False
theorem lenAt_iff {hp : NHeap} {b n : Nat} : lenAt hp b n ↔ ∃ s, hp[b]? = some s ∧ slotLen s n := by
  unfold lenAt
  cases hb : hp[b]? with
  | none => simp
  | some s => cases s <;> simp [slotLen]
theorem getsR_length : ∀ {s : Sh} {rows : List (List NVal)} {x : s.den}, getsR s rows = some x → (putsR s x).length = rows.length
  | .cons a l, rows, x, h => by
    cases rows with
    | nil => simp [getsR] at h
    | cons v vs =>
      simp only [getsR] at h
      split at h
      · split at h
        · rename_i y hy
          cases h
          simp [putsR, getsR_length hy]
        · cases h
      · cases h
  | .nil, rows, x, h => by
    cases rows with
    | nil => simp [putsR]
    | cons v vs => simp [getsR] at h
  | .v _, _, _, h => by cases h
  | .undef, _, _, h => by cases h
  | .nilp, _, _, h => by cases h
  | .zsl, _, _, h => by cases h
  | .nilfn, _, _, h => by cases h
  | .nili, _, _, h => by cases h
  | .ptr _ _ _, _, _, h => by cases h
  | .slw _ _, _, _, h => by cases h
  | .fn _ _, _, _, h => by cases h
  | .agg _, _, _, h => by cases h
  | .tup _, _, _, h => by cases h
  | .iptr _ _, _, _, h => by cases h
  | .rows _ _, _, _, h => by cases h
theorem getsR_rel {hp : NHeap} : ∀ {s : Sh} {rows : List (List NVal)} {ds : List (List AVal)} {x : s.den}, getsR s rows = some x → A2 (A2 (RC hp)) rows ds → A2 (A2 (RC hp)) (putsR s x) ds
  | .cons a l, rows, ds, x, h, hr => by
    cases rows with
    | nil => simp [getsR] at h
    | cons v vs =>
      simp only [getsR] at h
      obtain ⟨d, ds, rfl, h1, h2⟩ := hr.cons_inv
      split at h
      · rename_i x hx
        split at h
        · rename_i y hy
          cases h
          simp only [putsR]
          exact .cons (gets_R get_RC hx h1) (getsR_rel hy h2)
        · cases h
      · cases h
  | .nil, rows, ds, x, h, hr => by
    cases rows with
    | nil => simpa [putsR] using hr
    | cons v vs => simp [getsR] at h
  | .v _, _, _, _, h, _ => by cases h
  | .undef, _, _, _, h, _ => by cases h
  | .nilp, _, _, _, h, _ => by cases h
  | .zsl, _, _, _, h, _ => by cases h
  | .nilfn, _, _, _, h, _ => by cases h
  | .nili, _, _, _, h, _ => by cases h
  | .ptr _ _ _, _, _, _, h, _ => by cases h
  | .slw _ _, _, _, _, h, _ => by cases h
  | .fn _ _, _, _, _, h, _ => by cases h
  | .agg _, _, _, _, h, _ => by cases h
  | .tup _, _, _, _, h, _ => by cases h
  | .iptr _ _, _, _, _, h, _ => by cases h
  | .rows _ _, _, _, _, h, _ => by cases h
theorem getS_len {h : HS} {s : NSlot} {x : h.den} (hg : getS h s = some x) {n : Nat} (hs : slotLen s n) : slotLen (putS h x) n := by
  cases h with
  | dead => trivial
  | typed t =>
    simp only [getS] at hg
    split at hg
    · split at hg
      · rename_i ht; subst ht; cases hg; exact hs
      · cases hg
    · split at hg
      · have := allOf_length hg
        simp only [slotLen, putS, NBlk.len] at hs ⊢
        rw [this]; exact hs
      · cases hg
    · cases hg
  | cell flat row =>
    simp only [getS] at hg
    split at hg
    · simp only [slotLen, putS, NBlk.len] at hs ⊢
      simpa using hs
    · cases hg
  | one flat t =>
    simp only [getS] at hg
    split at hg
    · simp only [slotLen, putS, NBlk.len] at hs ⊢
      simpa using hs
    · cases hg
  | many e r =>
    simp only [getS] at hg
    split at hg
    · split at hg
      · simp only [slotLen, putS, NBlk.len] at hs ⊢
        rw [getsR_length hg]; exact hs
      · cases hg
    · cases hg
theorem RB.row' {hp : NHeap} {k : AM.Blk} {e : Nat} {flat : Bool} {rows : List (List NVal)} (h : RB hp (.cells e flat rows) k) : A2 (A2 (RC hp)) rows k.elems := by
  cases flat with
  | true => exact (h.2.2.1 rfl).mono fun _ _ h => h.mono fun _ _ h => h.c
  | false => exact h.2.2.2 rfl
theorem getS_rel {hp : NHeap} {h : HS} {s : NSlot} {s' : Slot} {x : h.den} (hg : getS h s = some x) (hr : RS hp s s') : RS hp (putS h x) s' := by
  cases h with
  | dead =>
    simp only [getS] at hg
    split at hg
    · exact hr
    · cases hg
  | typed t =>
    simp only [getS] at hg
    split at hg
    · split at hg
      · rename_i ht; subst ht; cases hg; exact hr
      · cases hg
    · rename_i e rows
      split at hg
      · rename_i he
        cases hr with
        | live _ k hk => exact .live _ _ ⟨by rw [hk.1]; exact he, hk.2.1, allOf_A2 (good t) hg (hk.2.2.1 rfl)⟩
      · cases hg
    · cases hg
  | one flat t =>
    simp only [getS] at hg
    split at hg
    · rename_i e flat' row'
      split at hg
      · rename_i hc
        obtain ⟨rfl, rfl⟩ := hc
        cases hr with
        | live _ k hk =>
          have hrow := RB.row' hk
          obtain ⟨ds, dss, qe, q5, q6⟩ := hrow.cons_inv
          rw [q6.nil_inv] at qe
          have hx := un_RI hg q5
          refine .live _ _ ⟨?_, hk.2.1, fun hf => ?_, fun hf => ?_⟩
          · rw [hk.1, q5.1, hx.1]
          · rw [qe]
            exact .single hx
          · rw [qe]
            exact .single (hx.mono fun _ _ h => h.c)
      · cases hg
    · cases hg
  | many e r =>
    simp only [getS] at hg
    split at hg
    · rename_i e' rows
      split at hg
      · rename_i he
        cases hr with
        | live _ k hk => exact .live _ _ ⟨by rw [hk.1]; exact he, hk.2.1, fun hf => (by cases hf), fun _ => getsR_rel hg (hk.2.2.2 rfl)⟩
      · cases hg
    · cases hg
  | cell flat row =>
    simp only [getS] at hg
    split at hg
    · rename_i e flat' row'
      split at hg
      · rename_i hc
        obtain ⟨rfl, rfl⟩ := hc
        cases hr with
        | live _ k hk =>
          have key : ∃ r', k.elems = [r'] := by
            have := hk.len
            simp [NBlk.len] at this
            exact List.length_eq_one_iff.1 this.symm
          obtain ⟨r', hr'⟩ := key
          refine .live _ _ ⟨?_, hk.2.1, fun hf => ?_, fun hf => ?_⟩
          · rw [hk.1]
            cases flat' with
            | true =>
              have h1 := hk.2.2.1 rfl
              rw [hr'] at h1
              rw [(gets_RI hg h1.head).1, h1.head.1]
            | false =>
              have h1 := hk.2.2.2 rfl
              rw [hr'] at h1
              rw [(gets_R get_RC hg h1.head).1, h1.head.1]
          · have h1 := hk.2.2.1 hf
            rw [hr'] at h1 ⊢
            exact .single (gets_RI hg h1.head)
          · have h1 := hk.2.2.2 hf
            rw [hr'] at h1 ⊢
            exact .single (gets_R get_RC hg h1.head)
      · cases hg
    · cases hg
theorem getH_len : ∀ {l : List HS} {hp : NHeap} {x : denH l}, getH l hp = some x → Evo hp (putH l x)
  | [], hp, x, h => by
    simp only [getH] at h
    split at h
    · exact .refl _
    · cases h
  | h :: l, hp, x, hg => by
    simp only [getH] at hg
    split at hg
    · rename_i s hp
      split at hg
      · rename_i y hy
        split at hg
        · rename_i z hz
          cases hg
          intro b n hb
          rw [lenAt_iff] at hb ⊢
          obtain ⟨s', hs', hl⟩ := hb
          simp only [putH]
          cases b with
          | zero => simp at hs'; subst hs'; exact ⟨_, rfl, getS_len hy hl⟩
          | succ b =>
            simp at hs'
            obtain ⟨s2, h2, h3⟩ := lenAt_iff.1 (getH_len hz b n (lenAt_iff.2 ⟨s', hs', hl⟩))
            exact ⟨s2, by simpa using h2, h3⟩
        · cases hg
      · cases hg
    · cases hg
theorem getH_rel' {R : NHeap} : ∀ {l : List HS} {hp : NHeap} {ahp : Heap} {x : denH l}, getH l hp = some x → A2 (RS R) hp ahp → A2 (RS R) (putH l x) ahp
  | [], hp, ahp, x, h, hr => by
    simp only [getH] at h
    split at h
    · exact hr
    · cases h
  | h :: l, hp, ahp, x, hg, hr => by
    simp only [getH] at hg
    split at hg
    · rename_i s hp
      obtain ⟨a, ahp, rfl, h1, h2⟩ := hr.cons_inv
      split at hg
      · rename_i y hy
        split at hg
        · rename_i z hz
          cases hg
          exact .cons (getS_rel hy h1) (getH_rel' hz h2)
        · cases hg
      · cases hg
    · cases hg
theorem getH_rel {l : List HS} {hp : NHeap} {ahp : Heap} {x : denH l} (h : getH l hp = some x) (hr : RH hp ahp) : RH (putH l x) ahp :=
  A2.mono (fun _ _ k => k.mono (getH_len h)) (getH_rel' h hr)

end NM
end Go.Proofs.Ytfelhbeiegppgaa
