/-
  Blocks of the call's own: new ones, read-only views of them, blocks that are given up, new numbers.
-/
import Derived.Test.YtfelhbeiegppgaaAmE
set_option linter.unusedVariables false
set_option linter.unusedSimpArgs false
namespace Go.Proofs.Ytfelhbeiegppgaa
namespace AM

section
variable {P : Program} {μ μ' : Nat → Loc} {w w' : World} {S S' : Nat → Prop} {hp : Heap}

theorem Heap.get_set (hp : Heap) (b : Nat) (s : Slot) (c : Nat) : Heap.get (hp.set b s) c = if b = c ∧ b < hp.length then (match s with | .live k => some k | _ => none) else hp.get c := by
  unfold Heap.get
  rw [List.getElem?_set]
  by_cases h : b = c
  · subst h
    by_cases hl : b < hp.length
    · simp [hl]; cases s <;> rfl
    · simp [hl]
  · simp [h]
theorem Heap.isFree_set (hp : Heap) (b : Nat) (s : Slot) (c : Nat) : Heap.isFree (hp.set b s) c = if b = c ∧ b < hp.length then (match s with | .free => true | _ => false) else hp.isFree c := by
  unfold Heap.isFree
  rw [List.getElem?_set]
  by_cases h : b = c
  · subst h
    by_cases hl : b < hp.length
    · simp [hl]; cases s <;> rfl
    · simp [hl]
  · simp [h]
theorem Heap.free_lt {hp : Heap} {b : Nat} (h : hp.isFree b = true) : b < hp.length := by
  unfold Heap.isFree at h
  rcases Nat.lt_or_ge b hp.length with hl | hl
  · exact hl
  · rw [List.getElem?_eq_none hl] at h; cases h
theorem Heap.free_get {hp : Heap} {b : Nat} (h : hp.isFree b = true) : hp.get b = none := by
  unfold Heap.isFree at h
  unfold Heap.get
  split at h
  · rename_i hs; rw [hs]
  · cases h

theorem kill_length : ∀ (l : List Nat) (hp : Heap), (kill hp l).length = hp.length
  | [], _ => rfl
  | b :: l, hp => by rw [kill, kill_length l]; simp
theorem kill_get : ∀ (l : List Nat) (hp : Heap) (c : Nat), (kill hp l).get c = if c ∈ l then none else hp.get c
  | [], hp, c => by simp [kill]
  | b :: l, hp, c => by
    rw [kill, kill_get l, Heap.get_set]
    by_cases h1 : c ∈ l
    · simp [h1]
    · by_cases h2 : b = c
      · subst h2
        have e1 : (if b ∈ b :: l then none else hp.get b) = none := if_pos (by simp)
        rw [if_neg h1, e1]
        by_cases hl : b < hp.length
        · rw [if_pos ⟨rfl, hl⟩]
        · rw [if_neg (fun h => hl h.2)]
          unfold Heap.get
          rw [List.getElem?_eq_none (by omega)]
      · rw [if_neg h1, if_neg (by simp [h2]), if_neg (by simp [h1]; exact fun h => h2 h.symm)]
theorem kill_free : ∀ (l : List Nat) (hp : Heap) (c : Nat), (kill hp l).isFree c = true → hp.isFree c = true
  | [], hp, c, h => h
  | b :: l, hp, c, h => by
    have := kill_free l _ c (by rw [kill] at h; exact h)
    rw [Heap.isFree_set] at this
    split at this
    · cases this
    · exact this

/-- the blocks of these numbers -/
def At (μ : Nat → Loc) (l : List Nat) (m : Nat) : Prop := ∃ b, b ∈ l ∧ ∃ n e, μ b = .here m n e
/-- read-only blocks, and those -/
def With (S : Nat → Prop) (μ : Nat → Loc) (l : List Nat) (m : Nat) : Prop := S m ∨ At μ l m

theorem With.mono {l l' : List Nat} (h : ∀ b, b ∈ l → b ∈ l') : ∀ m, With S μ l m → With S μ l' m := fun m hm => by
  rcases hm with hm | ⟨b, hb, hr⟩
  · exact .inl hm
  · exact .inr ⟨b, h b hb, hr⟩

theorem allOn_get {α β : Type} {f : α → Option (β × List Nat)} : ∀ {xs : List α} {ys : List β} {l : List Nat}, allOn f xs = some (ys, l) →
    ys.length = xs.length ∧ ∀ (i : Nat) (y : β), ys[i]? = some y → ∃ x li, xs[i]? = some x ∧ f x = some (y, li) ∧ ∀ b, b ∈ li → b ∈ l
  | [], ys, l, h => by simp [allOn] at h; obtain ⟨rfl, rfl⟩ := h; simp
  | x :: xs, ys, l, h => by
    simp only [allOn] at h
    split at h
    · rename_i y lx hx
      split at h
      · rename_i ys' m hxs
        simp only [Option.some.injEq, Prod.mk.injEq] at h
        obtain ⟨rfl, rfl⟩ := h
        obtain ⟨h1, h2⟩ := allOn_get hxs
        refine ⟨by simp [h1], fun i z hz => ?_⟩
        cases i with
        | zero => simp at hz; subst hz; exact ⟨x, lx, rfl, hx, fun b hb => by simp [hb]⟩
        | succ i =>
          simp at hz
          obtain ⟨x', li, hx', hf, hb⟩ := h2 i z hz
          exact ⟨x', li, by simpa using hx', hf, fun b hb' => by simp [hb b hb']⟩
      · cases h
    · cases h

theorem blk_cells {l : Loc} {k : Blk} {i j : Nat} {x : List AVal} {c : AVal} (h : BlkR μ w S l k) (hi : k.elems[i]? = some x) (hj : x[j]? = some c) :
    ∃ m n v, l = .here m n k.e ∧ x.length = k.e ∧ i < n ∧ w.cell? ⟨m, i * k.e + j, none⟩ = some v ∧ Blk.R μ w S k.flat c v := by
  cases l with
  | free => exact h.elim
  | dead => exact h.elim
  | void => have h : k.elems = [] := h; rw [h] at hi; simp at hi
  | here m n e =>
    obtain ⟨rfl, hn, hx, cells, t, hh, hs, hc⟩ := h
    obtain ⟨v, hv, hr⟩ := hc i x j c hi hj
    have := (List.getElem?_eq_some_iff.1 hi).1
    exact ⟨m, n, v, rfl, hx i x hi, by omega, by simp [World.cell?, hh, hv], hr⟩

/-- a view shows what the value stands for -/
theorem viewP_sound (r : HRep μ w S hp) : ∀ (d : Nat) (v v' : AVal) (l : List Nat) (cv : Value), VR μ w S v cv → viewP hp d v = some (v', l) → IR w (With S μ l) v' cv := by
  intro d
  induction d with
  | zero =>
    intro v v' l cv h hv
    simp only [viewP] at hv
    split at hv
    · rename_i hi
      simp only [Option.some.injEq, Prod.mk.injEq] at hv
      obtain ⟨rfl, rfl⟩ := hv
      exact (h.imm_of hi).mono (fun _ _ => rfl) (fun m hm => .inl hm)
    · cases hv
  | succ d ih =>
    intro v v' l cv h hv
    unfold viewP at hv
    split at hv
    · rename_i hz
      exact absurd hz (Nat.succ_ne_zero _)
    · -- a slice
      rename_i d' b off len e hd
      cases hd
      split at hv
      · rename_i k hk
        have hb := r.live b k hk
        have hsl := h.sl_inv
        split at hv
        · rename_i hlen
          have key : ∀ (xs : List (List AVal)) (l : List Nat), xs.length = len → b ∈ l → (∀ (i : Nat) (x : List AVal) (j : Nat) (c : AVal), xs[i]? = some x → x[j]? = some c →
              ∃ (x0 : List AVal) (c0 : AVal), k.elems[off + i]? = some x0 ∧ x0.length = x.length ∧ x0[j]? = some c0 ∧ ∀ u, Blk.R μ w S k.flat c0 u → IR w (With S μ l) c u) →
              (∀ (i : Nat) (x : List AVal), xs[i]? = some x → ∃ x0, k.elems[off + i]? = some x0 ∧ x0.length = x.length) → IR w (With S μ l) (.imm e xs) cv := by
            intro xs l hxl hbl hx hx0
            cases hμ : μ b with
            | free => rw [hμ] at hsl; exact hsl.elim
            | dead => rw [hμ] at hb; exact hb.elim
            | void =>
              rw [hμ] at hsl
              obtain ⟨_, rfl, A, rfl⟩ := hsl
              have : xs = [] := List.eq_nil_of_length_eq_zero hxl
              subst this
              exact .imm e [] A 0 (fun _ _ => undef) (Nat.le_refl _) (fun _ => rfl) (by simp) (by simp) (by simp)
            | here m n e' =>
              rw [hμ] at hsl
              obtain ⟨rfl, cap, rfl, hcap, hlc⟩ := hsl
              subst hxl
              have hke : k.e = e' := by rw [hμ] at hb; exact hb.1.symm
              refine .imm e' xs _ cap (fun i j => (w.cell? ⟨m, (off + i) * e' + j, none⟩).getD undef) hlc (fun hh => by cases hh) (fun i x hi => ?_) (fun i x j c hi hj => ?_) (fun i x j c hi hj => ?_)
              · obtain ⟨x0, h0, h1⟩ := hx0 i x hi
                rw [← h1]
                rw [hμ] at hb
                rw [← hke]
                exact hb.2.2.1 _ _ h0
              · obtain ⟨x0, c0, h0, h1, h2, h3⟩ := hx i x j c hi hj
                obtain ⟨m', n', u, hl, _, _, hcell, hr⟩ := blk_cells hb h0 h2
                rw [hμ] at hl
                cases hl
                refine ⟨m, off * k.e, rfl, .inr ⟨b, hbl, n, k.e, hμ⟩, ?_⟩
                rw [show off * k.e + (i * k.e + j) = (off + i) * k.e + j by rw [Nat.add_mul]; omega, hcell]
                rfl
              · obtain ⟨x0, c0, h0, h1, h2, h3⟩ := hx i x j c hi hj
                obtain ⟨m', n', u, hl, _, _, hcell, hr⟩ := blk_cells hb h0 h2
                rw [hμ] at hl
                cases hl
                show IR w _ c ((w.cell? ⟨m, (off + i) * k.e + j, none⟩).getD undef)
                rw [hcell]
                exact h3 u hr
          split at hv
          · rename_i hflat
            simp only [Option.some.injEq, Prod.mk.injEq] at hv
            obtain ⟨rfl, rfl⟩ := hv
            refine key _ _ (by simp; omega) (by simp) (fun i x j c hi hj => ?_) (fun i x hi => ?_)
            · rw [List.getElem?_take] at hi
              split at hi
              · rw [List.getElem?_drop] at hi
                refine ⟨x, c, hi, rfl, hj, fun u hu => ?_⟩
                have hu := hu.1
                rw [if_pos hflat] at hu
                exact hu.mono (fun _ _ => rfl) (fun m hm => .inl hm)
              · cases hi
            · rw [List.getElem?_take] at hi
              split at hi
              · rw [List.getElem?_drop] at hi; exact ⟨x, hi, rfl⟩
              · cases hi
          · rename_i hflat
            split at hv
            · rename_i xs l1 hall
              simp only [Option.some.injEq, Prod.mk.injEq] at hv
              obtain ⟨rfl, rfl⟩ := hv
              obtain ⟨hl1, hg⟩ := allOn_get hall
              have hrow : ∀ (i : Nat) (x0 : List AVal), ((k.elems.drop off).take len)[i]? = some x0 → k.elems[off + i]? = some x0 := fun i x0 hi => by
                rw [List.getElem?_take] at hi
                split at hi
                · rw [List.getElem?_drop] at hi; exact hi
                · cases hi
              refine key _ _ (by rw [hl1]; simp; omega) (by simp) (fun i x j c hi hj => ?_) (fun i x hi => ?_)
              · obtain ⟨x0, li, h0, h1, h2⟩ := hg i x hi
                obtain ⟨h3, h4⟩ := allOn_get h1
                obtain ⟨c0, lj, h5, h6, h7⟩ := h4 j c hj
                refine ⟨x0, c0, hrow i x0 h0, h3.symm, h5, fun u hu => ?_⟩
                exact (ih c0 c lj u hu.vr h6).mono (fun _ _ => rfl) (With.mono fun b hb => by simp [h2 b (h7 b hb)])
              · obtain ⟨x0, li, h0, h1, h2⟩ := hg i x hi
                exact ⟨x0, hrow i x0 h0, (allOn_get h1).1.symm⟩
            · cases hv
        · cases hv
      · cases hv
    · -- a pointer
      rename_i d' b i f hd
      cases hd
      split at hv
      · rename_i k hk
        have hb := r.live b k hk
        have hp := h.ptr_inv
        split at hv
        · rename_i x hx
          have key : ∀ (y : List AVal) (l : List Nat), b ∈ l → (∀ (j : Nat) (c : AVal), y[j]? = some c → ∃ c0, x[j]? = some c0 ∧ ∀ u, Blk.R μ w S k.flat c0 u → IR w (With S μ l) c u) → IR w (With S μ l) (.iptr y f) cv := by
            intro y l hbl hy
            cases hμ : μ b with
            | free => rw [hμ] at hb; exact hb.elim
            | dead => rw [hμ] at hb; exact hb.elim
            | void => rw [hμ] at hb; have hb : k.elems = [] := hb; rw [hb] at hx; simp at hx
            | here m n e =>
              rw [hμ] at hp
              have hp : cv = _ := hp
              subst hp
              have hke : k.e = e := by rw [hμ] at hb; exact hb.1.symm
              refine .iptr y f m (i * e) (fun j => (w.cell? ⟨m, i * e + j, none⟩).getD undef) (.inr ⟨b, hbl, n, e, hμ⟩) (fun j c hj => ?_) (fun j c hj => ?_)
              · obtain ⟨c0, h0, h1⟩ := hy j c hj
                obtain ⟨m', n', u, hl, _, _, hcell, hr⟩ := blk_cells hb hx h0
                rw [hμ] at hl
                cases hl
                rw [hcell]
                rfl
              · obtain ⟨c0, h0, h1⟩ := hy j c hj
                obtain ⟨m', n', u, hl, _, _, hcell, hr⟩ := blk_cells hb hx h0
                rw [hμ] at hl
                cases hl
                show IR w _ c ((w.cell? ⟨m, i * k.e + j, none⟩).getD undef)
                rw [hcell]
                exact h1 u hr
          split at hv
          · rename_i hflat
            simp only [Option.some.injEq, Prod.mk.injEq] at hv
            obtain ⟨rfl, rfl⟩ := hv
            refine key _ _ (by simp) (fun j c hj => ⟨c, hj, fun u hu => ?_⟩)
            have hu := hu.1
            rw [if_pos hflat] at hu
            exact hu.mono (fun _ _ => rfl) (fun m hm => .inl hm)
          · rename_i hflat
            split at hv
            · rename_i y l1 hall
              simp only [Option.some.injEq, Prod.mk.injEq] at hv
              obtain ⟨rfl, rfl⟩ := hv
              obtain ⟨hl1, hg⟩ := allOn_get hall
              refine key _ _ (by simp) (fun j c hj => ?_)
              obtain ⟨c0, li, h0, h1, h2⟩ := hg j c hj
              exact ⟨c0, h0, fun u hu => (ih c0 c li u hu.vr h1).mono (fun _ _ => rfl) (With.mono fun b hb => by simp [h2 b hb])⟩
            · cases hv
        · cases hv
      · cases hv
    · -- a function
      rename_i d' f cap hd
      cases hd
      split at hv
      · rename_i c l1 hall
        simp only [Option.some.injEq, Prod.mk.injEq] at hv
        obtain ⟨rfl, rfl⟩ := hv
        obtain ⟨hl1, hg⟩ := allOn_get hall
        obtain ⟨caps, rfl, hl, hcs⟩ := h.fn_inv
        refine .fn f c caps (by rw [hl1]; exact hl) (fun j x u hj hu => ?_)
        obtain ⟨x0, li, h0, h1, h2⟩ := hg j x hj
        exact (ih x0 x li u (hcs j x0 u h0 hu) h1).mono (fun _ _ => rfl) (With.mono h2)
      · cases hv
    · split at hv
      · rename_i hi
        simp only [Option.some.injEq, Prod.mk.injEq] at hv
        obtain ⟨rfl, rfl⟩ := hv
        exact (h.imm_of hi).mono (fun _ _ => rfl) (fun m hm => .inl hm)
      · cases hv

end

end AM
end Go.Proofs.Ytfelhbeiegppgaa
