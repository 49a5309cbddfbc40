/-
  Blocks of the call's own under new numbers; calls.
-/
import Derived.Test.YtfelhbeiegppgaaAmJ
set_option linter.unusedVariables false
set_option linter.unusedSimpArgs false
namespace Go.Proofs.Ytfelhbeiegppgaa
namespace AM

section
variable {P : Program} {μ μ' μ2 : Nat → Loc} {w w' : World} {S S' : Nat → Prop} {hp : Heap} {rn : Nat → Option Nat}

/-- the new numbers stand where the old ones did -/
def Follows (rn : Nat → Option Nat) (μ μ2 : Nat → Loc) : Prop := ∀ b c, rn b = some c → μ b ≠ .free → μ2 c = μ b

theorem VR.renP (hr : Follows rn μ μ2) {v : AVal} {cv : Value} (h : VR μ w S v cv) : VR μ2 w S (v.renP rn) cv := by
  cases v with
  | ptr b i f =>
    simp only [AVal.renP]
    split
    · rename_i c hc
      have hp := h.ptr_inv
      have hf : μ b ≠ .free := fun e => by rw [e] at hp; exact hp
      exact .ptr _ _ _ _ (by rw [hr b c hc hf]; exact hp)
    · exact .undef _
  | sl b o l e =>
    simp only [AVal.renP]
    split
    · rename_i c hc
      have hp := h.sl_inv
      have hf : μ b ≠ .free := fun e => by rw [e] at hp; exact hp
      exact .sl _ _ _ _ _ (by rw [hr b c hc hf]; exact hp)
    · exact .undef _
  | fn f cap =>
    simp only [AVal.renP]
    split
    · rename_i hc; exact .imm _ _ (h.immC_of (by simpa [AVal.immC] using hc))
    · exact .undef _
  | agg cs => exact .undef _
  | tup cs => exact .undef _
  | undef => exact .undef _
  | bool b => exact .imm _ _ (h.imm_of rfl)
  | int k n => exact .imm _ _ (h.imm_of rfl)
  | str s => exact .imm _ _ (h.imm_of rfl)
  | nilp => exact .imm _ _ (h.imm_of rfl)
  | iptr cs o => exact .imm _ _ (h.imm_of rfl)
  | imm e xs => exact .imm _ _ (h.imm_of rfl)
  | zsl => exact .imm _ _ (h.imm_of rfl)
  | nilfn => exact .imm _ _ (h.imm_of rfl)
  | nili => exact .imm _ _ (h.imm_of rfl)
  | fl n => exact .imm _ _ (h.imm_of rfl)
  | cx a b => exact .imm _ _ (h.imm_of rfl)

theorem VR.renC (hr : Follows rn μ μ2) {v : AVal} {cv : Value} (h : VR μ w S v cv) : VR μ2 w S (v.renC rn) cv := by
  cases v with
  | fn f cap =>
    obtain ⟨caps, rfl, hl, hc⟩ := h.fn_inv
    refine .fn f (cap.map (AVal.renP rn)) caps (by simpa using hl) fun j c u hj hu => ?_
    rw [List.getElem?_map] at hj
    simp only [Option.map_eq_some_iff] at hj
    obtain ⟨c0, h0, rfl⟩ := hj
    exact (hc j c0 u h0 hu).renP hr
  | _ => exact h.renP hr

theorem VR.renV (hr : Follows rn μ μ2) {v : AVal} {cv : Value} (h : VR μ w S v cv) : VR μ2 w S (v.renV rn) cv := by
  cases v with
  | agg cs =>
    obtain ⟨a, rfl, hl, hc⟩ := h.agg_inv
    refine .agg _ a (by simpa using hl) fun j c u hj hu => ?_
    rw [List.getElem?_map] at hj
    simp only [Option.map_eq_some_iff] at hj
    obtain ⟨c0, h0, rfl⟩ := hj
    exact (hc j c0 u h0 hu).renC hr
  | _ => exact h.renC hr

theorem VR.renT (hr : Follows rn μ μ2) {v : AVal} {cv : Value} (h : VR μ w S v cv) : VR μ2 w S (v.renT rn) cv := by
  cases v with
  | tup cs =>
    obtain ⟨a, rfl, hl, hc⟩ := h.tup_inv
    refine .tup _ a (by simpa using hl) fun j c u hj hu => ?_
    rw [List.getElem?_map] at hj
    simp only [Option.map_eq_some_iff] at hj
    obtain ⟨c0, h0, rfl⟩ := hj
    exact (hc j c0 u h0 hu).renV hr
  | _ => exact h.renV hr

theorem BlkR.ren (hr : Follows rn μ μ2) {l : Loc} {k : Blk} (h : BlkR μ w S l k) : BlkR μ2 w S l (k.ren rn) := by
  unfold Blk.ren
  split
  · rename_i hf
    cases l with
    | free => exact h
    | dead => exact h
    | void => exact h
    | here m n e =>
      obtain ⟨he, hn, hx, cells, t, hh, hs, hc⟩ := h
      exact ⟨he, hn, hx, cells, t, hh, hs, fun i x j c hi hj => by
        obtain ⟨v, hv, hr1, hr2⟩ := hc i x j c hi hj
        rw [if_pos hf] at hr1
        exact ⟨v, hv, by rw [if_pos hf]; exact hr1, hr2⟩⟩
  · rename_i hf
    cases l with
    | free => exact h
    | dead => exact h
    | void => have h : k.elems = [] := h; show _ = _; simp [h]
    | here m n e =>
      obtain ⟨he, hn, hx, cells, t, hh, hs, hc⟩ := h
      refine ⟨he, by simpa using hn, fun i x hi => ?_, cells, t, hh, hs, fun i x j c hi hj => ?_⟩
      · simp only [List.getElem?_map, Option.map_eq_some_iff] at hi
        obtain ⟨x0, h0, rfl⟩ := hi
        simpa using hx i x0 h0
      · simp only [List.getElem?_map, Option.map_eq_some_iff] at hi
        obtain ⟨x0, h0, rfl⟩ := hi
        rw [List.getElem?_map] at hj
        simp only [Option.map_eq_some_iff] at hj
        obtain ⟨c0, h1, rfl⟩ := hj
        obtain ⟨v, hv, hr1, hr2⟩ := hc i x0 j c0 h0 h1
        rw [if_neg hf] at hr1
        exact ⟨v, hv, by rw [if_neg hf]; exact hr1.renC hr, hr2⟩

theorem index_get {ids : List Nat} {b j : Nat} (h : index ids b = some j) : ids[j]? = some b := by
  unfold index at h
  obtain ⟨hlt, h1, _⟩ := List.findIdx?_eq_some_iff_getElem.1 h
  simp at h1
  rw [List.getElem?_eq_getElem hlt, h1]
theorem nodupB_inj : ∀ {ids : List Nat}, nodupB ids = true → ∀ {i j b : Nat}, ids[i]? = some b → ids[j]? = some b → i = j
  | [], _, i, j, b, hi, _ => by simp at hi
  | x :: xs, h, i, j, b, hi, hj => by
    simp only [nodupB, Bool.and_eq_true, Bool.not_eq_true', List.contains_eq_mem, decide_eq_false_iff_not] at h
    cases i with
    | zero =>
      cases j with
      | zero => rfl
      | succ j => simp at hi hj; subst hi; exact absurd (List.mem_of_getElem? hj) h.1
    | succ i =>
      cases j with
      | zero => simp at hi hj; subst hj; exact absurd (List.mem_of_getElem? hi) h.1
      | succ j => simp at hi hj; rw [nodupB_inj h.2 hi hj]
theorem get_index {ids : List Nat} (hn : nodupB ids = true) {b j : Nat} (h : ids[j]? = some b) : index ids b = some j := by
  cases hi : index ids b with
  | some i => rw [nodupB_inj hn (index_get hi) h]
  | none =>
    unfold index at hi
    rw [List.findIdx?_eq_none_iff] at hi
    have := hi b (List.mem_of_getElem? h)
    simp at this
theorem index_none {ids : List Nat} {b : Nat} (h : index ids b = none) : b ∉ ids := by
  unfold index at h
  rw [List.findIdx?_eq_none_iff] at h
  intro hb
  have := h b hb
  simp at this

/-- where the picked blocks lie -/
def pick (μ : Nat → Loc) (ids : List Nat) (j : Nat) : Loc := match ids[j]? with | some b => μ b | none => .free

theorem pick_follows (ids : List Nat) : Follows (index ids) μ (pick μ ids) := fun b c hc _ => by
  unfold pick; rw [index_get hc]

theorem get_of_slot (hp : Heap) (b : Nat) : hp.get b = match hp[b]? with | some (.live k) => some k | _ => none := rfl
theorem free_of_slot (hp : Heap) (b : Nat) : hp.isFree b = match hp[b]? with | some .free => true | _ => false := rfl
theorem packHeap_slot (hp : Heap) (ids : List Nat) (j : Nat) : (packHeap hp ids)[j]? = (ids[j]?).map fun b => match hp.get b with | some k => Slot.live (k.ren (index ids)) | none => .dead := List.getElem?_map

theorem packHeap_get {ids : List Nat} {j : Nat} {k : Blk} (h : (packHeap hp ids).get j = some k) : ∃ b k0, ids[j]? = some b ∧ hp.get b = some k0 ∧ k = k0.ren (index ids) := by
  rw [get_of_slot, packHeap_slot] at h
  cases hj : ids[j]? with
  | none => rw [hj] at h; cases h
  | some b =>
    rw [hj] at h
    simp only [Option.map_some] at h
    cases hb : Heap.get hp b with
    | none => rw [hb] at h; cases h
    | some k0 => rw [hb] at h; cases h; exact ⟨b, k0, rfl, hb, rfl⟩

theorem pack_rep (r : HRep μ w S hp) {ids : List Nat} (hn : nodupB ids = true) (hS : ∀ m, S m → S' m) (hap : ∀ m, Owned (pick μ ids) m → ¬ S' m) (hin : ∀ m, S' m → m < w.heap.size) : HRep (pick μ ids) w S' (packHeap hp ids) where
  live j k hk := by
    obtain ⟨b, k0, hj, hb, rfl⟩ := packHeap_get hk
    have : pick μ ids j = μ b := by unfold pick; rw [hj]
    rw [this]
    exact ((r.live b k0 hb).ren (pick_follows ids)).mono (Up.refl _) (fun _ _ => rfl) hS (fun _ _ _ _ => rfl)
  gone j hk := by
    unfold pick
    cases hj : ids[j]? with
    | none => exact .inl rfl
    | some b =>
      refine r.gone b ?_
      rw [get_of_slot, packHeap_slot, hj] at hk
      simp only [Option.map_some] at hk
      cases hb : Heap.get hp b with
      | none => rfl
      | some k0 => rw [hb] at hk; cases hk
  free j hk := by
    unfold pick
    cases hj : ids[j]? with
    | none => rfl
    | some b =>
      exfalso
      have hjl := (List.getElem?_eq_some_iff.1 hj).1
      rcases hk with hk | hk
      · rw [free_of_slot, packHeap_slot, hj] at hk
        simp only [Option.map_some] at hk
        cases hb : Heap.get hp b <;> rw [hb] at hk <;> cases hk
      · unfold packHeap at hk; simp at hk; omega
  inj j j' m n n' e e' h h' := by
    unfold pick at h h'
    cases hj : ids[j]? with
    | none => rw [hj] at h; cases h
    | some b =>
      cases hj' : ids[j']? with
      | none => rw [hj'] at h'; cases h'
      | some b' =>
        rw [hj] at h
        rw [hj'] at h'
        have := r.inj b b' m n n' e e' h h'
        subst this
        exact nodupB_inj hn hj hj'
  apart := hap
  inS := hin
  gl := r.gl.mono (fun _ _ => rfl) hS

theorem pick_owned {ids : List Nat} {m : Nat} (h : Owned (pick μ ids) m) : ∃ b, b ∈ ids ∧ ∃ n e, μ b = .here m n e := by
  obtain ⟨j, n, e, hj⟩ := h
  unfold pick at hj
  cases hb : ids[j]? with
  | none => rw [hb] at hj; cases hj
  | some b => rw [hb] at hj; exact ⟨b, List.mem_of_getElem? hb, n, e, hj⟩

/-- what is known of a function's calls -/
def Enters (P : Program) (f : Nat) : Prop := ∃ fn, P.funcs[f]? = some fn ∧ (fn.name == "runtime.NumGoroutine") = false ∧ fn.body.isNone = false

def CallOk (P : Program) (f : Nat) (args : List AVal) (hp : Heap) (r : AVal) (hp' : Heap) : Prop :=
  ∀ (μ : Nat → Loc) (w : World) (S : Nat → Prop) (cargs : Array Value), HRep μ w S hp → args.length = cargs.size → (∀ (j : Nat) (a : AVal) (v : Value), args[j]? = some a → cargs[j]? = some v → VR μ w S a v) →
    Calls P f cargs w fun e w' => ∃ v μ' S', e = .returned v ∧ HRep μ' w' S' hp' ∧ Ext μ S w μ' S' w' ∧ VR μ' w' S' r v ∧ hp.length ≤ hp'.length ∧ ∀ b, b < hp.length → μ b ≠ .free → μ' b = μ b ∨ μ' b = .dead

def Valid (P : Program) (K : Oracle) : Prop := ∀ f args hp r hp', K f args hp = some (r, hp') → Enters P f ∧ CallOk P f args hp r hp'

theorem layBack_length (rn : Nat → Option Nat) : ∀ (back : Heap) (hp : Heap) (j : Nat), (layBack rn hp j back).length = hp.length
  | [], _, _ => rfl
  | s :: rest, hp, j => by
    rw [layBack, layBack_length rn rest]
    cases rn j <;> simp
theorem layBack_other (rn : Nat → Option Nat) : ∀ (back : Heap) (hp : Heap) (j b : Nat), (∀ i, i < back.length → rn (j + i) ≠ some b) → (layBack rn hp j back)[b]? = hp[b]?
  | [], _, _, _, _ => rfl
  | s :: rest, hp, j, b, h => by
    rw [layBack, layBack_other rn rest _ (j + 1) b (fun i hi => by have := h (i + 1) (by simp; omega); rwa [show j + (i + 1) = j + 1 + i by omega] at this)]
    have h0 := h 0 (by simp)
    rw [Nat.add_zero] at h0
    cases hj : rn j with
    | none => rfl
    | some c =>
      rw [List.getElem?_set]
      rw [if_neg (fun e => h0 (by rw [hj, e]))]
theorem layBack_at (rn : Nat → Option Nat) : ∀ (back : Heap) (hp : Heap) (j i b : Nat) (s : Slot), (∀ i i', i < back.length → i' < back.length → rn (j + i) = rn (j + i') → i = i') → back[i]? = some s → rn (j + i) = some b → b < hp.length →
    (layBack rn hp j back)[b]? = some (s.ren rn)
  | [], _, _, _, _, _, _, h, _, _ => by simp at h
  | s0 :: rest, hp, j, 0, b, s, hinj, hs, hb, hl => by
    simp at hs
    subst hs
    rw [layBack, layBack_other rn rest _ (j + 1) b (fun i hi e => by
      have := hinj 0 (i + 1) (by simp) (by simp; omega) (by rw [Nat.add_zero] at hb ⊢; rw [hb, show j + (i + 1) = j + 1 + i by omega, e])
      omega)]
    rw [Nat.add_zero] at hb
    rw [hb]
    simp [List.getElem?_set, hl]
  | s0 :: rest, hp, j, i + 1, b, s, hinj, hs, hb, hl => by
    simp at hs
    rw [layBack]
    exact layBack_at rn rest _ (j + 1) i b s (fun a a' ha ha' e => by
      have := hinj (a + 1) (a' + 1) (by simp; omega) (by simp; omega) (by rw [show j + (a + 1) = j + 1 + a by omega, show j + (a' + 1) = j + 1 + a' by omega]; exact e)
      omega) hs (by rw [show j + 1 + i = j + (i + 1) by omega]; exact hb) (by cases rn j <;> simp <;> exact hl)

end

end AM
end Go.Proofs.Ytfelhbeiegppgaa
