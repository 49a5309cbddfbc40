/-
  Code and bodies: what the abstract machine computes of a body is what a call in the model gives.
-/
import Derived.Test.YtfelhbeiegppgaaAmO
import Derived.LoopN
import Derived.ScopeJumps
set_option linter.unusedVariables false
set_option linter.unusedSimpArgs false
set_option linter.unnecessarySimpa false
namespace Go.Proofs.Ytfelhbeiegppgaa
namespace AM

def chkCode (P : Program) : Code → ACode → Bool
  | .skip, .skip => true
  | .region _ ops false, .region _ al => all2 (chkOper P ops) ops.toList al
  | .region _ ops true, .region _ al => chkDraw P ops al
  | .seq a b, .seq a' b' => chkCode P a a' && chkCode P b b'
  | .cond c a b, .cond c' a' b' => chkOpd c c' && chkCode P a a' && chkCode P b b'
  | .block id c, .block id' c' => id == id' && chkCode P c c'
  | .loop c, .loop _ c' => chkCode P c c'
  | .exit id, .exit id' => id == id'
  | .ret, .ret => true
  | .label _, .label => true
  | .goto l, .goto l' => l == l'
  | .scope c, .scope l _ rest body => chkCode P c body && (match findLabel c l with | some r => chkCode' P r rest | none => false)
  | _, _ => false
where
  /-- the same, for the code behind a label (no scope in it) -/
  chkCode' (P : Program) : Code → ACode → Bool
  | .skip, .skip => true
  | .region _ ops false, .region _ al => all2 (chkOper P ops) ops.toList al
  | .region _ ops true, .region _ al => chkDraw P ops al
  | .seq a b, .seq a' b' => chkCode' P a a' && chkCode' P b b'
  | .cond c a b, .cond c' a' b' => chkOpd c c' && chkCode' P a a' && chkCode' P b b'
  | .block id c, .block id' c' => id == id' && chkCode' P c c'
  | .loop c, .loop _ c' => chkCode' P c c'
  | .exit id, .exit id' => id == id'
  | .ret, .ret => true
  | .label _, .label => true
  | .goto l, .goto l' => l == l'
  | _, _ => false

def exitOf : AExit → Exit
  | .normal => .normal
  | .exit id => .exit id
  | .ret => .ret
  | .goto l => .goto l

/-- the caller's blocks keep their places, or are given up -/
def KeepsK (k : Nat) (μ μ' : Nat → Loc) : Prop := ∀ b, b < k → μ b ≠ .free → μ' b = μ b ∨ μ' b = .dead

theorem KeepsK.refl (k : Nat) (μ : Nat → Loc) : KeepsK k μ μ := fun _ _ _ => .inl rfl
theorem KeepsK.of_up {k : Nat} {μ μ' : Nat → Loc} (h : Up μ μ') : KeepsK k μ μ' := fun b _ hb => h b hb
theorem KeepsK.trans {k : Nat} {a b c : Nat → Loc} (h : KeepsK k a b) (g : KeepsK k b c) : KeepsK k a c := fun x hx hf => by
  rcases h x hx hf with e | e
  · rcases g x hx (by rw [e]; exact hf) with e' | e'
    · exact .inl (e'.trans e)
    · exact .inr e'
  · rcases g x hx (by rw [e]; simp) with e' | e'
    · exact .inr (e'.trans e)
    · exact .inr e'

section
variable {P : Program} {K : Oracle} {N : Nat}

/-- what is asked of the end of a piece of code -/
def Ends (μ : Nat → Loc) (w : World) (S : Nat → Prop) (k : Nat) (st' : St) (Q : Act → World → Prop) : Prop :=
  ∀ a' w' μ1 S1, Rep μ1 w' S1 st' a' → Ext μ S w μ1 S1 w' → KeepsK k μ μ1 → st'.k = k → Q a' w'

theorem Ends.after {μ μ1 : Nat → Loc} {w w1 : World} {S S1 : Nat → Prop} {k : Nat} {st' : St} {Q : Act → World → Prop} (h : Ends μ w S k st' Q) (x : Ext μ S w μ1 S1 w1) (kk : KeepsK k μ μ1) : Ends μ1 w1 S1 k st' Q :=
  fun a' w' μ2 S2 r x2 k2 hk => h a' w' μ2 S2 r (x.trans x2) (kk.trans k2) hk

theorem norm_sound {μ : Nat → Loc} {w : World} {S : Nat → Prop} {st s : St} {a : Act} {keep : List Nat} (rep : Rep μ w S st a) (h : norm keep st = some s) :
    ∃ μ1, Rep μ1 w S s a ∧ Ext μ S w μ1 S w ∧ KeepsK st.k μ μ1 ∧ s.k = st.k := by
  unfold norm at h
  simp only at h
  generalize hts : (st.tmps.zipIdx.map fun (x : AVal × Nat) => match x with | (v, t) => if keep.contains t then v else AVal.undef) = ts at h
  generalize hids : reach st.heap (List.range st.k) (ts.flatMap AVal.ownT) = ids at h
  split at h
  · rename_i hc
    simp only [Option.some.injEq] at h
    subst h
    refine ⟨pick μ ids, ⟨⟨?_, fun t v hv => ?_, rep.tmps.defers⟩, ?_⟩, ?_, fun b hb hf => .inl ?_, rfl⟩
    · have : ts.length = st.tmps.length := by rw [← hts]; simp
      simp [this, rep.tmps.size]
    · simp only [List.getElem?_map, Option.map_eq_some_iff] at hv
      obtain ⟨v0, hv0, rfl⟩ := hv
      refine VR.renT (pick_follows ids) ?_
      rw [← hts, List.getElem?_map] at hv0
      simp only [Option.map_eq_some_iff] at hv0
      obtain ⟨⟨v1, t1⟩, hz, heq⟩ := hv0
      rw [List.getElem?_zipIdx] at hz
      simp only [Option.map_eq_some_iff, Prod.mk.injEq] at hz
      obtain ⟨v2, hv2, rfl, ht⟩ := hz
      simp only at heq
      split at heq
      · rw [← heq]; exact rep.tmps.vr t v2 hv2
      · rw [← heq]; exact .undef _
    · refine pack_rep rep.heap hc.1 (fun m hm => hm) (fun m ho hS => ?_) rep.heap.inS
      obtain ⟨c, hc', n, e, hh⟩ := pick_owned ho
      exact rep.heap.apart m ⟨c, n, e, hh⟩ hS
    · refine ⟨rfl, rfl, rfl, Nat.le_refl _, fun _ _ _ => rfl, fun _ h => h, fun _ h => .inl h, fun m ho => ?_⟩
      obtain ⟨c, hc', n, e, hh⟩ := pick_owned ho
      exact .inl ⟨c, n, e, hh⟩
    · have : ids[b]? = some b := by
        have h1 : (ids.take st.k)[b]? = some b := by rw [hc.2, List.getElem?_range hb]
        rw [List.getElem?_take, if_pos hb] at h1
        exact h1
      unfold pick
      rw [this]
  · cases h

/-- sound at a piece of code -/
def Sound (P : Program) (K : Oracle) (N : Nat) (c : Code) (ac : ACode) : Prop :=
  ∀ (st st' : St) (e : AExit) (a : Act) (w : World) (μ : Nat → Loc) (S : Nat → Prop) (Q : Exit → Act → World → Prop), Rep μ w S st a → exec K N ac st = some (e, st') → Ends μ w S st.k st' (Q (exitOf e)) → c.wp P Q a w

theorem free_replicate {hp : Heap} {n b : Nat} (h : (hp ++ List.replicate n Slot.free).get b ≠ none) : hp.get b = (hp ++ List.replicate n Slot.free).get b := by
  rw [get_of_slot, get_of_slot] at *
  rcases Nat.lt_or_ge b hp.length with hl | hl
  · rw [List.getElem?_append_left hl]
  · exfalso
    rw [List.getElem?_append_right hl, List.getElem?_replicate] at h
    by_cases h1 : b - hp.length < n
    · rw [if_pos h1] at h; exact h rfl
    · rw [if_neg h1] at h; exact h rfl

theorem HRep.more {μ : Nat → Loc} {w : World} {S : Nat → Prop} {hp : Heap} (r : HRep μ w S hp) (n : Nat) : HRep μ w S (hp ++ List.replicate n .free) where
  live b k hb := r.live b k (by rw [free_replicate (n := n) (by rw [hb]; simp)]; exact hb)
  gone b hb := by
    cases hk : hp.get b with
    | none => exact r.gone b hk
    | some k =>
      exfalso
      have hlt := Heap.get_lt hk
      rw [get_of_slot, List.getElem?_append, if_pos hlt, ← get_of_slot, hk] at hb
      cases hb
  free b hb := by
    rcases Nat.lt_or_ge b hp.length with hl | hl
    · refine r.free b ?_
      rcases hb with hb | hb
      · rw [free_of_slot, List.getElem?_append, if_pos hl, ← free_of_slot] at hb; exact .inl hb
      · simp at hb; exact .inr (by omega)
    · exact r.free b (.inr hl)
  inj := r.inj
  apart := r.apart
  inS := r.inS
  gl := r.gl

theorem region_sound (hK : Valid P K) (hmix : P.follows .mixedOrders = true) {id ids : Nat} {ops : Array Oper} {al : List AOper} {d : Bool} (hc : (if d then chkDraw P ops al else all2 (chkOper P ops) ops.toList al) = true) : Sound P K N (.region id ops d) (.region ids al) := by
  intro st st' e a w μ S Q rep h hq
  simp only [exec, Option.map_eq_some_iff, Prod.mk.injEq] at h
  obtain ⟨s, hs, rfl, rfl⟩ := h
  have rep' : Rep μ w S ⟨st.tmps, st.heap ++ List.replicate ids .free, st.k⟩ a := ⟨rep.tmps, rep.heap.more ids⟩
  have fin : ∀ a' w' μ1 S1, Rep μ1 w' S1 s a' → Ext μ S w μ1 S1 w' → Up μ μ1 → s.k = st.k → Q .normal a' w' := fun a' w' μ1 S1 r x u hk => hq a' w' μ1 S1 r x (KeepsK.of_up u) hk
  cases d with
  | true => exact draw_sound hK hmix hc rep' hs fin
  | false => exact wp_region_list (runOps_sound hK ops.toList al _ s a w μ S hc rep' hs fin)

theorem seq_sound {x y : Code} {x' y' : ACode} (hx : Sound P K N x x') (hy : Sound P K N y y') : Sound P K N (.seq x y) (.seq x' y') := by
  intro st st' e a w μ S Q rep h hq
  simp only [exec] at h
  refine wp_seq ?_
  cases hex : exec K N x' st with
  | none => rw [hex] at h; cases h
  | some p =>
    obtain ⟨e1, s1⟩ := p
    rw [hex] at h
    refine hx st s1 e1 a w μ S _ rep hex fun a1 w1 μ1 S1 r1 x1 k1 hk1 => ?_
    cases e1 with
    | normal =>
      simp only at h
      exact hy s1 st' e a1 w1 μ1 S1 Q r1 h (by rw [hk1]; exact hq.after x1 k1)
    | exit i => simp only [Option.some.injEq, Prod.mk.injEq] at h; obtain ⟨rfl, rfl⟩ := h; exact hq a1 w1 μ1 S1 r1 x1 k1 hk1
    | ret => simp only [Option.some.injEq, Prod.mk.injEq] at h; obtain ⟨rfl, rfl⟩ := h; exact hq a1 w1 μ1 S1 r1 x1 k1 hk1
    | goto l => simp only [Option.some.injEq, Prod.mk.injEq] at h; obtain ⟨rfl, rfl⟩ := h; exact hq a1 w1 μ1 S1 r1 x1 k1 hk1

theorem cond_sound {c : Operand} {c' : Opd} {x y : Code} {x' y' : ACode} (hc : chkOpd c c' = true) (hx : Sound P K N x x') (hy : Sound P K N y y') : Sound P K N (.cond c x y) (.cond c' x' y') := by
  intro st st' e a w μ S Q rep h hq
  simp only [exec] at h
  split at h
  · rename_i t ht
    have hv := rep.tmps.look rep.heap.gl hc
    rw [ht] at hv
    refine wp_cond (t := t) hv.bool_inv ?_
    cases t with
    | true => exact hx st st' e a w μ S Q rep h hq
    | false => exact hy st st' e a w μ S Q rep h hq
  · cases h

theorem block_sound {id : Nat} {c : Code} {c' : ACode} (hc : Sound P K N c c') : Sound P K N (.block id c) (.block id c') := by
  intro st st' e a w μ S Q rep h hq
  simp only [exec] at h
  refine wp_block ?_
  cases hex : exec K N c' st with
  | none => rw [hex] at h; cases h
  | some p =>
    obtain ⟨e1, s1⟩ := p
    rw [hex] at h
    refine hc st s1 e1 a w μ S _ rep hex fun a1 w1 μ1 S1 r1 x1 k1 hk1 => ?_
    cases e1 with
    | exit i =>
      simp only at h
      simp only [exitOf, Exit.inBlock]
      split at h
      · rename_i hi
        rw [if_pos hi]
        simp only [Option.some.injEq, Prod.mk.injEq] at h
        obtain ⟨rfl, rfl⟩ := h
        exact hq a1 w1 μ1 S1 r1 x1 k1 hk1
      · rename_i hi
        rw [if_neg hi]
        simp only [Option.some.injEq, Prod.mk.injEq] at h
        obtain ⟨rfl, rfl⟩ := h
        exact hq a1 w1 μ1 S1 r1 x1 k1 hk1
    | normal => simp only [Option.some.injEq, Prod.mk.injEq] at h; obtain ⟨rfl, rfl⟩ := h; exact hq a1 w1 μ1 S1 r1 x1 k1 hk1
    | ret => simp only [Option.some.injEq, Prod.mk.injEq] at h; obtain ⟨rfl, rfl⟩ := h; exact hq a1 w1 μ1 S1 r1 x1 k1 hk1
    | goto l => simp only [Option.some.injEq, Prod.mk.injEq] at h; obtain ⟨rfl, rfl⟩ := h; exact hq a1 w1 μ1 S1 r1 x1 k1 hk1

theorem loop_sound {keep : List Nat} {c : Code} {c' : ACode} (hc : Sound P K N c c') : Sound P K N (.loop c) (.loop keep c') := by
  intro st st' e a w μ S Q rep h hq
  simp only [exec] at h
  have key : ∀ (n : Nat) (st : St) (a : Act) (w : World) (μ : Nat → Loc) (S : Nat → Prop), Rep μ w S st a → iter keep (exec K N c') n st = some (e, st') → Ends μ w S st.k st' (Q (exitOf e)) → Code.rounds P c Q n a w := by
    intro n
    induction n with
    | zero => intro st a w μ S rep h _; simp [iter] at h
    | succ n ih =>
      intro st a w μ S rep h hq
      simp only [iter] at h
      split at h
      · rename_i s hs
        obtain ⟨μ0, rep0, x0, k0, hk0⟩ := norm_sound rep hs
        rw [rounds_succ]
        cases hex : exec K N c' s with
        | none => rw [hex] at h; cases h
        | some p =>
          obtain ⟨e1, s1⟩ := p
          rw [hex] at h
          refine hc s s1 e1 a w μ0 S _ rep0 hex fun a1 w1 μ1 S1 r1 x1 k1 hk1 => ?_
          have hk1' : s1.k = st.k := hk1.trans hk0
          have k1' : KeepsK st.k μ μ1 := k0.trans (by rw [← hk0]; exact k1)
          cases e1 with
          | normal =>
            simp only at h
            exact ih s1 a1 w1 μ1 S1 r1 h (by rw [hk1']; exact hq.after (x0.trans x1) k1')
          | exit i => simp only [Option.some.injEq, Prod.mk.injEq] at h; obtain ⟨rfl, rfl⟩ := h; exact hq a1 w1 μ1 S1 r1 (x0.trans x1) k1' hk1'
          | ret => simp only [Option.some.injEq, Prod.mk.injEq] at h; obtain ⟨rfl, rfl⟩ := h; exact hq a1 w1 μ1 S1 r1 (x0.trans x1) k1' hk1'
          | goto l => simp only [Option.some.injEq, Prod.mk.injEq] at h; obtain ⟨rfl, rfl⟩ := h; exact hq a1 w1 μ1 S1 r1 (x0.trans x1) k1' hk1'
      · cases h
  exact wp_loop_rounds N (key N st a w μ S rep h hq)

/-- the passes from a label -/
def passes (P : Program) (l : Nat) (rest : Code) (Q : Exit → Act → World → Prop) : Nat → Act → World → Prop
  | 0, _, _ => False
  | n + 1, a, w => rest.wp P (Exit.jump l (passes P l rest Q n) Q) a w

theorem wp_scope_passes {Q : Exit → Act → World → Prop} {a : Act} {w : World} {c rest : Code} (l n : Nat) (hf : findLabel c l = some rest) (first : c.wp P (Exit.jump l (passes P l rest Q n) Q) a w) : (Code.scope c).wp P Q a w := by
  intro b k cs
  have hg : gotoIn l (.inScope c :: k) = some (.code rest :: .inScope c :: k) := by simp [gotoIn, hf]
  have key : ∀ n a w, passes P l rest Q n a w → ∃ e a' w', Q e a' w' ∧ Arrives P (lone (b.at a (.code rest :: .inScope c :: k)) cs w) b k cs e a' w' := by
    intro n
    induction n with
    | zero => intro a w h; exact h.elim
    | succ n ih =>
      intro a w h
      obtain ⟨e, a₁, w₁, hq, harr⟩ := h b (.inScope c :: k) cs
      cases e with
      | normal => exact ⟨.normal, a₁, w₁, hq, Steps.trans harr (.one step_inScope)⟩
      | exit id => exact ⟨.exit id, a₁, w₁, hq, fun k' hk => harr k' (by simp [exitTo, hk])⟩
      | goto l' =>
        obtain ⟨rfl, hJ'⟩ := hq
        obtain ⟨e₂, a₂, w₂, hq₂, harr₂⟩ := ih a₁ w₁ hJ'
        exact ⟨e₂, a₂, w₂, hq₂, .of_steps (harr _ hg) harr₂⟩
      | ret => exact ⟨_, a₁, w₁, hq, harr⟩
      | panic ch => exact ⟨_, a₁, w₁, hq, harr⟩
      | outgrown => exact ⟨_, a₁, w₁, hq, harr⟩
  obtain ⟨e, a₁, w₁, hq, harr⟩ := first b (.inScope c :: k) cs
  cases e with
  | normal => exact ⟨.normal, a₁, w₁, hq, .head step_scope (Steps.trans harr (.one step_inScope))⟩
  | exit id => exact ⟨.exit id, a₁, w₁, hq, fun k' hk => .head step_scope (harr k' (by simp [exitTo, hk]))⟩
  | goto l' =>
    obtain ⟨rfl, hJ'⟩ := hq
    obtain ⟨e₂, a₂, w₂, hq₂, harr₂⟩ := key n a₁ w₁ hJ'
    exact ⟨e₂, a₂, w₂, hq₂, .of_steps (.head step_scope (harr _ hg)) harr₂⟩
  | ret => exact ⟨_, a₁, w₁, hq, .of_steps (.one step_scope) harr⟩
  | panic ch => exact ⟨_, a₁, w₁, hq, .of_steps (.one step_scope) harr⟩
  | outgrown => exact ⟨_, a₁, w₁, hq, .of_steps (b := b) (k := k) (cs := cs) (e := .outgrown) (.one step_scope) harr⟩

theorem scope_sound {l : Nat} {keep : List Nat} {c r : Code} {rest body : ACode} (hf : findLabel c l = some r) (hr : Sound P K N r rest) (hb : Sound P K N c body) : Sound P K N (.scope c) (.scope l keep rest body) := by
  intro st st' e a w μ S Q rep h hq
  simp only [exec] at h
  have key : ∀ (n : Nat) (st : St) (a : Act) (w : World) (μ : Nat → Loc) (S : Nat → Prop), Rep μ w S st a → jump l keep (exec K N rest) n st = some (e, st') → Ends μ w S st.k st' (Q (exitOf e)) → passes P l r Q n a w := by
    intro n
    induction n with
    | zero => intro st a w μ S rep h _; simp [jump] at h
    | succ n ih =>
      intro st a w μ S rep h hq
      simp only [jump] at h
      split at h
      · rename_i s hs
        obtain ⟨μ0, rep0, x0, k0, hk0⟩ := norm_sound rep hs
        show r.wp P _ a w
        cases hex : exec K N rest s with
        | none => rw [hex] at h; cases h
        | some p =>
          obtain ⟨e1, s1⟩ := p
          rw [hex] at h
          refine hr s s1 e1 a w μ0 S _ rep0 hex fun a1 w1 μ1 S1 r1 x1 k1 hk1 => ?_
          have hk1' : s1.k = st.k := hk1.trans hk0
          have k1' : KeepsK st.k μ μ1 := k0.trans (by rw [← hk0]; exact k1)
          cases e1 with
          | goto l' =>
            simp only at h
            split at h
            · rename_i hl
              exact ⟨hl, ih s1 a1 w1 μ1 S1 r1 h (by rw [hk1']; exact hq.after (x0.trans x1) k1')⟩
            · cases h
          | exit i => simp only [Option.some.injEq, Prod.mk.injEq] at h; obtain ⟨rfl, rfl⟩ := h; exact hq a1 w1 μ1 S1 r1 (x0.trans x1) k1' hk1'
          | ret => simp only [Option.some.injEq, Prod.mk.injEq] at h; obtain ⟨rfl, rfl⟩ := h; exact hq a1 w1 μ1 S1 r1 (x0.trans x1) k1' hk1'
          | normal => simp only [Option.some.injEq, Prod.mk.injEq] at h; obtain ⟨rfl, rfl⟩ := h; exact hq a1 w1 μ1 S1 r1 (x0.trans x1) k1' hk1'
      · cases h
  refine wp_scope_passes l N hf ?_
  cases hex : exec K N body st with
  | none => rw [hex] at h; cases h
  | some p =>
    obtain ⟨e1, s1⟩ := p
    rw [hex] at h
    refine hb st s1 e1 a w μ S _ rep hex fun a1 w1 μ1 S1 r1 x1 k1 hk1 => ?_
    cases e1 with
    | goto l' =>
      simp only at h
      split at h
      · rename_i hl
        exact ⟨hl, key N s1 a1 w1 μ1 S1 r1 h (by rw [hk1]; exact hq.after x1 k1)⟩
      · cases h
    | exit i => simp only [Option.some.injEq, Prod.mk.injEq] at h; obtain ⟨rfl, rfl⟩ := h; exact hq a1 w1 μ1 S1 r1 x1 k1 hk1
    | ret => simp only [Option.some.injEq, Prod.mk.injEq] at h; obtain ⟨rfl, rfl⟩ := h; exact hq a1 w1 μ1 S1 r1 x1 k1 hk1
    | normal => simp only [Option.some.injEq, Prod.mk.injEq] at h; obtain ⟨rfl, rfl⟩ := h; exact hq a1 w1 μ1 S1 r1 x1 k1 hk1

theorem skip_sound : Sound P K N .skip .skip := by
  intro st st' e a w μ S Q rep h hq
  simp only [exec, Option.some.injEq, Prod.mk.injEq] at h
  obtain ⟨rfl, rfl⟩ := h
  exact wp_skip (hq a w μ S rep (Ext.refl _ _ _) (KeepsK.refl _ _) rfl)
theorem label_sound {l : Nat} : Sound P K N (.label l) .label := by
  intro st st' e a w μ S Q rep h hq
  simp only [exec, Option.some.injEq, Prod.mk.injEq] at h
  obtain ⟨rfl, rfl⟩ := h
  exact wp_label (hq a w μ S rep (Ext.refl _ _ _) (KeepsK.refl _ _) rfl)
theorem exit_sound {id : Nat} : Sound P K N (.exit id) (.exit id) := by
  intro st st' e a w μ S Q rep h hq
  simp only [exec, Option.some.injEq, Prod.mk.injEq] at h
  obtain ⟨rfl, rfl⟩ := h
  exact wp_exit (hq a w μ S rep (Ext.refl _ _ _) (KeepsK.refl _ _) rfl)
theorem goto_sound {l : Nat} : Sound P K N (.goto l) (.goto l) := by
  intro st st' e a w μ S Q rep h hq
  simp only [exec, Option.some.injEq, Prod.mk.injEq] at h
  obtain ⟨rfl, rfl⟩ := h
  exact wp_goto (hq a w μ S rep (Ext.refl _ _ _) (KeepsK.refl _ _) rfl)
theorem ret_sound : Sound P K N .ret .ret := by
  intro st st' e a w μ S Q rep h hq
  simp only [exec, Option.some.injEq, Prod.mk.injEq] at h
  obtain ⟨rfl, rfl⟩ := h
  exact wp_ret (hq a w μ S rep (Ext.refl _ _ _) (KeepsK.refl _ _) rfl)

theorem code_sound' (hK : Valid P K) (hmix : P.follows .mixedOrders = true) : ∀ (ac : ACode) (c : Code), chkCode.chkCode' P c ac = true → Sound P K N c ac := by
  intro ac
  induction ac with
  | skip => intro c h; cases c <;> simp [chkCode.chkCode'] at h; exact skip_sound
  | region ids al => intro c h; cases c <;> try (simp [chkCode.chkCode'] at h; done)
                     rename_i id ops d; cases d <;> exact region_sound hK hmix h
  | seq a b iha ihb => intro c h; cases c <;> simp [chkCode.chkCode'] at h; exact seq_sound (iha _ h.1) (ihb _ h.2)
  | cond c a b iha ihb => intro c h; cases c <;> simp [chkCode.chkCode'] at h; exact cond_sound h.1.1 (iha _ h.1.2) (ihb _ h.2)
  | block id b ih => intro c h; cases c <;> simp [chkCode.chkCode'] at h; obtain ⟨rfl, h⟩ := h; exact block_sound (ih _ h)
  | loop keep b ih => intro c h; cases c <;> simp [chkCode.chkCode'] at h; exact loop_sound (ih _ h)
  | exit id => intro c h; cases c <;> simp [chkCode.chkCode'] at h; subst h; exact exit_sound
  | ret => intro c h; cases c <;> simp [chkCode.chkCode'] at h; exact ret_sound
  | label => intro c h; cases c <;> simp [chkCode.chkCode'] at h; exact label_sound
  | goto l => intro c h; cases c <;> simp [chkCode.chkCode'] at h; subst h; exact goto_sound
  | scope l keep rest body ihr ihb => intro c h; cases c <;> simp [chkCode.chkCode'] at h

theorem code_sound (hK : Valid P K) (hmix : P.follows .mixedOrders = true) : ∀ (ac : ACode) (c : Code), chkCode P c ac = true → Sound P K N c ac := by
  intro ac
  induction ac with
  | skip => intro c h; cases c <;> simp [chkCode] at h; exact skip_sound
  | region ids al => intro c h; cases c <;> try (simp [chkCode] at h; done)
                     rename_i id ops d; cases d <;> exact region_sound hK hmix h
  | seq a b iha ihb => intro c h; cases c <;> simp [chkCode] at h; exact seq_sound (iha _ h.1) (ihb _ h.2)
  | cond c a b iha ihb => intro c h; cases c <;> simp [chkCode] at h; exact cond_sound h.1.1 (iha _ h.1.2) (ihb _ h.2)
  | block id b ih => intro c h; cases c <;> simp [chkCode] at h; obtain ⟨rfl, h⟩ := h; exact block_sound (ih _ h)
  | loop keep b ih => intro c h; cases c <;> simp [chkCode] at h; exact loop_sound (ih _ h)
  | exit id => intro c h; cases c <;> simp [chkCode] at h; subst h; exact exit_sound
  | ret => intro c h; cases c <;> simp [chkCode] at h; exact ret_sound
  | label => intro c h; cases c <;> simp [chkCode] at h; exact label_sound
  | goto l => intro c h; cases c <;> simp [chkCode] at h; subst h; exact goto_sound
  | scope l keep rest body ihr ihb =>
    intro c h
    cases c <;> simp [chkCode] at h
    rename_i c0
    obtain ⟨h1, h2⟩ := h
    split at h2
    · rename_i r hf
      exact scope_sound hf (code_sound' hK hmix rest r h2) (ihb _ h1)
    · cases h2

end

end AM
end Go.Proofs.Ytfelhbeiegppgaa
