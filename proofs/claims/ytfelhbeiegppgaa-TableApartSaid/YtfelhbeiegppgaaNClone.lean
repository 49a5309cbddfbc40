/-
  slices.Clone of a slice of the call's own, in plain form: from what it does to memory.
-/
import Derived.Test.YtfelhbeiegppgaaNInsert
set_option linter.unusedVariables false
set_option linter.unusedSimpArgs false
namespace Go.Proofs.Ytfelhbeiegppgaa
open Go.RowKit Go.Lib Go
namespace NM
open AM

structure RawClone (P : Program) (f k bytes : Nat) : Prop where
  ent : AM.Enters P f
  pos : 0 < k
  some_ : ∀ (m n c : Nat) (cur : Array Value) (tb : TypeId) (w : World), 1 ≤ n → n * k ≤ cur.size → n * bytes ≤ 140737488355328 → w.heap[m]? = some (.cells cur tb (0, 0)) → (∀ j v, j < n * k → cur[j]? = some v → v.oneCell' = true) →
    Calls P f #[.slice (some ⟨m, 0, none⟩) n c] w (InsPost k w w.heap.size n (cur.toList.take (n * k)))
  none_ : ∀ (A : Option Addr) (c : Nat) (w : World), Calls P f #[.slice A 0 c] w fun e w' => ∃ A', e = .returned (.slice A' 0 0) ∧ Below w.heap.size w w'

@[reducible] def sigCl (t : Ty) : Sig := ⟨.cons (.slw 0 (ops t).size) .nil, [.typed t], (.slw 1 (ops t).size, [.typed t, .typed t]), []⟩
@[reducible] def sigClZ : Sig := ⟨.cons .zsl .nil, [], (.zsl, []), []⟩
def cloneE {α : Type} (bytes : Nat) (xs : List α) : Option (Unit × (List α × (List α × Unit))) := cond (decide (xs.length * bytes ≤ 140737488355328 ∧ xs.length ≤ 4294967296)) (some ((), (xs, (xs, ())))) none
theorem arrC {cargs : Array Value} (h : cargs.size = 1) : ∃ a, cargs = #[a] := by
  refine ⟨cargs[0], ?_⟩
  apply Array.ext
  · simp [h]
  · intro i h1 h2
    have : i = 0 := by omega
    subst this; simp
theorem NOk.cloneE {P : Program} {f bytes : Nat} (t : Ty) (h : RawClone P f (ops t).size bytes) : NOk P ⟨f, sigCl t, fun x hh => NM.cloneE bytes hh.1⟩ := by
  refine ⟨h.ent, rfl, fun x hh y hy args ahp ha hb => ?_⟩
  obtain ⟨u0, u1⟩ := x
  obtain ⟨xs, u2⟩ := hh
  have hy : NM.cloneE bytes xs = some y := hy
  obtain ⟨⟨c1, c2⟩, rfl⟩ : (xs.length * bytes ≤ 140737488355328 ∧ xs.length ≤ 4294967296) ∧ y = ((), (xs, (xs, ()))) := by
    unfold NM.cloneE at hy
    by_cases hp : xs.length * bytes ≤ 140737488355328 ∧ xs.length ≤ 4294967296
    · rw [decide_eq_true hp] at hy; cases hy; exact ⟨hp, rfl⟩
    · rw [decide_eq_false hp] at hy; cases hy
  intro μ w S cargs r0 hl hv
  simp only [puts, put, putV, Ty.isAgg] at ha
  obtain ⟨a0, as0, rfl, h0, ha⟩ := ha.cons_inv
  rw [ha.nil_inv] at hl hv
  obtain ⟨v0, rfl⟩ := arrC (by simpa using hl.symm)
  obtain ⟨n0, e0, l0⟩ := (RT.v h0).slw_inv
  subst e0
  have hn0 := lenAt_typed (h := .dead) l0
  subst hn0
  have s0 := (hv 0 _ v0 rfl rfl).sl_inv
  have r1 : HRep μ w S [.live ⟨(ops t).size, true, xs.map (acells t)⟩] := hrep_conv r0 (canH_conv (l := [.typed t]) (x := (xs, ())) putH_lens rfl hb)
  have B0 := r1.live 0 _ rfl
  have hlen : ahp.length = 1 := by rw [← hb.1]; rfl
  have hf1 : μ 1 = .free := r1.free 1 (.inr (by simp))
  have r2 := r1.more 1
  have hset : ∀ k, (([.live ⟨(ops t).size, true, xs.map (acells t)⟩] : AM.Heap) ++ List.replicate 1 Slot.free).set 1 (.live k) = [.live ⟨(ops t).size, true, xs.map (acells t)⟩, .live k] := fun k => rfl
  have e3 : yA (sigCl t).res (sigCl t).more ((), (xs, (xs, ()))) = .sl 1 0 xs.length (ops t).size := by
    simp [yA, outA, can, lensOf, putH, putS, nget, NBlk.len]
  -- the copy lies at l
  have fin : ∀ (l : AM.Loc) (v' : Value) (w' : World), w'.os = w.os → w'.tape = w.tape → w'.output = w.output → w.heap.size ≤ w'.heap.size → (∀ m, m < w.heap.size → w'.heap[m]? = w.heap[m]?) → (∀ m n e, l = .here m n e → w.heap.size ≤ m) →
      BlkR (give μ 1 l) w' S l ⟨(ops t).size, true, xs.map (acells t)⟩ → SlAt l 0 xs.length (ops t).size v' →
      ∃ v'' μ' S', Ending.returned v' = .returned v'' ∧ HRep μ' w' S' (yB (sigCl t).res (sigCl t).more ((), (xs, (xs, ())))) ∧ Ext μ S w μ' S' w' ∧ VR μ' w' S' (yA (sigCl t).res (sigCl t).more ((), (xs, (xs, ())))) v'' ∧ ahp.length ≤ (yB (sigCl t).res (sigCl t).more ((), (xs, (xs, ())))).length ∧ ∀ b, b < ahp.length → μ b ≠ .free → μ' b = μ b ∨ μ' b = .dead := by
    intro l v' w' g1 g2 g3 g4 g5 g6 g7 g8
    have q1 := give_rep (w' := w') (k := ⟨(ops t).size, true, xs.map (acells t)⟩) (l := l) r2 hf1 (by simp) g7 g5 g4 g6
    have q2 := give_ext (w' := w') (l := l) r2 hf1 g1 g2 g3 g5 g4 g6
    rw [hset] at q1
    refine ⟨v', give μ 1 l, S, rfl, q1, q2, ?_, by rw [hlen]; exact Nat.le_succ 1, fun b hb hf => .inl (give_other (by omega))⟩
    rw [e3]
    refine .sl _ _ _ _ _ ?_
    rw [give_same]
    exact g8
  by_cases hx : xs = []
  · subst hx
    obtain ⟨A, c, rfl⟩ : ∃ A c, v0 = .slice A 0 c := by
      cases m0 : μ 0 with
      | free => rw [m0] at B0; exact B0.elim
      | dead => rw [m0] at B0; exact B0.elim
      | void => rw [m0] at s0; obtain ⟨_, _, A, rfl⟩ := s0; exact ⟨A, 0, rfl⟩
      | here m N e0 => rw [m0] at s0; obtain ⟨_, c, rfl, _⟩ := s0; exact ⟨_, c, rfl⟩
    refine (h.none_ A c w).mono fun e w' ⟨A', he, hbel⟩ => ?_
    subst he
    exact fin .void _ w' hbel.os hbel.tape hbel.output hbel.size hbel.block (fun _ _ _ h => by cases h) rfl ⟨rfl, rfl, A', rfl⟩
  · have hpos : 1 ≤ xs.length := by
      cases xs with
      | nil => exact absurd rfl hx
      | cons a l => simp
    cases m0 : μ 0 with
    | free => rw [m0] at B0; exact B0.elim
    | dead => rw [m0] at B0; exact B0.elim
    | void =>
      rw [m0] at B0
      have : xs.map (acells t) = [] := B0
      exact absurd (by simpa using this) hx
    | here m N e0 =>
      rw [m0] at B0 s0
      obtain ⟨he0, hN0, cur, tb, hcc, hcsz, hcr⟩ := blk_at B0
      subst he0
      obtain ⟨_, c, rfl, hcN, hcx⟩ := s0
      rw [Nat.zero_mul]
      refine (h.some_ m xs.length c cur tb w hpos (by rw [hcsz]; exact Nat.mul_le_mul_right _ hN0) c1 hcc (blk_one hcr)).mono fun e w' hp => ?_
      obtain ⟨g, cap, N', cur', t', rfl, p1, p2, p3, p4, p5, p6, p7, p8, p9, p10, p11⟩ := hp
      have p6 : w.heap.size ≤ g := by rcases p6 with h | h <;> omega
      have hfr : ∀ j, j < w.heap.size → w'.heap[j]? = w.heap[j]? := fun j hj => p11 j hj (by omega)
      have hS : ∀ j, S j → w'.heap[j]? = w.heap[j]? := fun j hj => hfr j (r1.inS j hj)
      refine fin (.here g N' (ops t).size) _ w' p7 p8 p9 p10 hfr (fun m n e h => by cases h; exact p6) ?_ ⟨rfl, cap, by rw [Nat.zero_mul], by omega, p4⟩
      refine ⟨rfl, by rw [List.length_map]; omega, fun r x hr => ?_, cur', t', p1, p2, fun r x j c hr hc => ?_⟩
      · rw [List.getElem?_map, Option.map_eq_some_iff] at hr
        obtain ⟨y, _, rfl⟩ := hr
        rw [acells_len]
      · rw [List.getElem?_map, Option.map_eq_some_iff] at hr
        obtain ⟨y, hy', rfl⟩ := hr
        obtain ⟨v, hv, hR, h1⟩ := hcr r y j c hy' hc
        have hj : j < (ops t).size := by
          have := (List.getElem?_eq_some_iff.1 hc).1
          rw [acells_len] at this; exact this
        have hr' := (List.getElem?_eq_some_iff.1 hy').1
        refine ⟨v, p5 _ _ ?_, hR.mono hS (fun _ h => h), h1⟩
        rw [List.getElem?_take, if_pos (rowIx hr' hj), Array.getElem?_toList]
        exact hv
theorem NOk.cloneZ {P : Program} {f k bytes : Nat} (h : RawClone P f k bytes) : NOk P ⟨f, sigClZ, fun _ _ => some ()⟩ := by
  refine ⟨h.ent, rfl, fun x hh y hy args ahp ha hb => ?_⟩
  obtain ⟨u0, u1⟩ := x
  cases hy
  intro μ w S cargs r0 hl hv
  simp only [puts, put, putV, Ty.isAgg] at ha
  obtain ⟨a0, as0, rfl, h0, ha⟩ := ha.cons_inv
  rw [ha.nil_inv] at hl hv
  obtain ⟨v0, rfl⟩ := arrC (by simpa using hl.symm)
  have e0 : a0 = .zsl := (RT.v h0).zsl_inv
  subst e0
  obtain ⟨A, rfl⟩ := (hv 0 _ v0 rfl rfl).zsl_inv
  have hlen : ahp.length = 0 := by rw [← hb.1]; rfl
  have hnil : ahp = [] := List.eq_nil_of_length_eq_zero hlen
  subst hnil
  refine (h.none_ A 0 w).mono fun e w' ⟨A', he, hbel⟩ => ?_
  subst he
  refine ⟨_, μ, S, rfl, ?_, ⟨hbel.os, hbel.tape, hbel.output, hbel.size, fun m hm _ => hbel.block m hm, fun _ h => h, fun m hm => .inl hm, fun m ho => .inl ho⟩, ?_, Nat.le_refl _, fun b hb => absurd hb (Nat.not_lt_zero _)⟩
  · show HRep μ w' S []
    refine ⟨fun b k hbk => ?_, fun b _ => .inl (r0.free b (.inr (Nat.zero_le _))), fun b _ => r0.free b (.inr (Nat.zero_le _)), r0.inj, r0.apart, fun m hm => Nat.lt_of_lt_of_le (r0.inS m hm) hbel.size, r0.gl.mono (fun m hm => hbel.block m (r0.inS m hm)) (fun _ h => h)⟩
    unfold Heap.get at hbk
    simp at hbk
  · show VR μ w' S .zsl _
    exact .imm _ _ (.zsl A')
end NM
end Go.Proofs.Ytfelhbeiegppgaa
