/-
  slices.Delete, and slices.Insert into an empty slice, in plain form: from what they do to memory.
-/
import Derived.Test.YtfelhbeiegppgaaNInsert
import Derived.Deep.RegionLaw
import Derived.Deep.LoopGhost
set_option linter.unusedVariables false
set_option linter.unusedSimpArgs false
namespace Go.Proofs.Ytfelhbeiegppgaa
open Go.RowKit Go.Lib Go

section
variable {P : Program}
theorem setCells_row (P : Program) (w : World) (g o : Nat) (cs : List Value) (cur : Array Value) (t : TypeId) (hg : w.heap[g]? = some (.cells cur t (0, 0))) (hfit : o + cs.length ≤ cur.size) (h1 : ∀ v ∈ cs, v.oneCell' = true) :
    w.setCells g o cs = w.setRow g (cur.toList.take o ++ cs ++ cur.toList.drop (o + cs.length)).toArray := by
  have h2 := run_storeCells_at P g o t cs 0 cur w hg (by simpa using hfit) h1
  have h3 := run_storeCells_cells (P := P) g o cs 0 w (fun j hj => by
      simp only [World.cell?, hg]
      rw [Array.getElem?_eq_getElem (by omega)]
      rfl) (fun j hj => by simp [World.frozen?, hg]) h1
  simp only [Nat.add_zero] at h2 h3
  rw [h2] at h3
  simp only [Result.ok.injEq, true_and] at h3
  exact h3.symm
/-- 'clear' of n > 0 elements of several cells -/
theorem run_clear_sliceK (w : World) (t e ty : TypeId) (z : Value) (ht : P.underlying t = some (.slice e)) (hv : ∀ w, (zeroValue e).run P w = .ok z w) (b o n c : Nat) (hn : 0 < n) (zs : List Value) (hzs : (Builtin.zeroCells z.cells n).toList = zs) (h1 : ∀ v ∈ zs, v.oneCell' = true)
    (hc : ∀ j, j < zs.length → (w.cell? ⟨b, o + j, none⟩).isSome = true) (hf : ∀ j, j < zs.length → w.frozen? ⟨b, o + j, none⟩ = false) :
    (Builtin.clear_ #[t] ty #[.slice (some ⟨b, o, none⟩) n c]).run P w = .ok (.tuple #[]) (w.setCells b o zs) := by
  have hst := run_storeCells_cells (P := P) b o zs 0 w (by simpa using hc) (by simpa using hf) h1
  simp only [Nat.add_zero] at hst
  obtain ⟨m, rfl⟩ : ∃ m, n = m + 1 := ⟨n - 1, by omega⟩
  simp [Builtin.clear_, run_underlying ht, hv, hzs, hst]
end

/-- what is given back: the same slice, cut, that holds these cells -/
def DelPost (k N : Nat) (tb : TypeId) (w : World) (b n c : Nat) (cells : List Value) (e : Ending) (w' : World) : Prop :=
  ∃ cur' : Array Value, e = .returned (.slice (some ⟨b, 0, none⟩) n c) ∧ w'.heap[b]? = some (.cells cur' tb (0, 0)) ∧ cur'.size = N * k ∧ (∀ (j : Nat) (v : Value), cells[j]? = some v → cur'[j]? = some v) ∧
    w'.os = w.os ∧ w'.tape = w.tape ∧ w'.output = w.output ∧ w'.heap.size = w.heap.size ∧ ∀ m, m ≠ b → w'.heap[m]? = w.heap[m]?

namespace NM
open AM

structure RawDel (P : Program) (f k : Nat) : Prop where
  ent : AM.Enters P f
  pos : 0 < k
  here : ∀ (w : World) (m N n c i j : Nat) (cur : Array Value) (tb : TypeId), i < j → j ≤ n → n ≤ c → c ≤ N → n ≤ 4294967296 → w.heap[m]? = some (.cells cur tb (0, 0)) → cur.size = N * k →
    (∀ j v, j < n * k → cur[j]? = some v → v.oneCell' = true) →
    Calls P f #[.slice (some ⟨m, 0, none⟩) n c, .int .i64 i, .int .i64 j] w (DelPost k N tb w m (i + (n - j)) c (cur.toList.take (i * k) ++ (cur.toList.take (n * k)).drop (j * k)))

@[reducible] def sigD (t : Ty) : Sig := ⟨.cons (.slw 0 (ops t).size) (.cons (.v (.int .i64)) (.cons (.v (.int .i64)) .nil)), [.typed t], (.slw 1 (ops t).size, [.dead, .typed t]), []⟩
@[reducible] def sigDZ (t : Ty) : Sig := ⟨.cons .zsl (.cons (.v (.int .i64)) (.cons (.v (.int .i64)) .nil)), [], (.zsl, []), []⟩
def delL {α : Type} (i j : Nat) (xs : List α) : List α := xs.take i ++ xs.drop j
def deleteG {α : Type} (i j : Int) (xs : List α) : Option (Unit × (Unit × (List α × Unit))) :=
  cond (decide (0 ≤ i ∧ i < j ∧ j.toNat ≤ xs.length ∧ xs.length ≤ 4294967296)) (some ((), ((), (delL i.toNat j.toNat xs, ())))) none
theorem del_rows {w w' : World} {S : Nat → Prop} {μ : Nat → AM.Loc} {t : Ty} {xs : List (den t)} {i j N' g : Nat} {cur cur' : Array Value} {t' : TypeId} (hij : i < j) (hj : j ≤ xs.length)
    (hx : ∀ (i : Nat) (x : den t) (j : Nat) (c : AVal), xs[i]? = some x → (acells t x)[j]? = some c → ∃ v, cur[i * (ops t).size + j]? = some v ∧ IR w S c v ∧ oneV v = true)
    (hcur : xs.length * (ops t).size ≤ cur.size)
    (hfin : ∀ (q : Nat) (v : Value), (cur.toList.take (i * (ops t).size) ++ (cur.toList.take (xs.length * (ops t).size)).drop (j * (ops t).size))[q]? = some v → cur'[q]? = some v) (hg : w'.heap[g]? = some (.cells cur' t' (0, 0))) (hsz : cur'.size = N' * (ops t).size) (hN : xs.length ≤ N')
    (hS : ∀ m, S m → w'.heap[m]? = w.heap[m]?) : BlkR μ w' S (.here g N' (ops t).size) ⟨(ops t).size, true, (delL i j xs).map (acells t)⟩ := by
  have hlen : (delL i j xs).length = i + (xs.length - j) := by simp [delL]; omega
  have hl1 : (cur.toList.take (i * (ops t).size)).length = i * (ops t).size := by
    have : i * (ops t).size ≤ xs.length * (ops t).size := Nat.mul_le_mul_right _ (by omega)
    rw [List.length_take, Array.length_toList]; omega
  refine ⟨rfl, by rw [List.length_map, hlen]; omega, fun r x hr => ?_, cur', t', hg, hsz, fun r x q c hr hc => ?_⟩
  · rw [List.getElem?_map, Option.map_eq_some_iff] at hr
    obtain ⟨y, _, rfl⟩ := hr
    exact acells_len t y
  · rw [List.getElem?_map, Option.map_eq_some_iff] at hr
    obtain ⟨y, hy, rfl⟩ := hr
    have hq : q < (ops t).size := by
      have := (List.getElem?_eq_some_iff.1 hc).1
      rw [acells_len] at this; exact this
    have htl : (xs.take i).length = i := by rw [List.length_take]; omega
    unfold delL at hy
    rw [List.getElem?_append, htl] at hy
    split at hy
    · rename_i hri
      rw [List.getElem?_take, if_pos hri] at hy
      obtain ⟨u, hu, h1, h2⟩ := hx r y q c hy hc
      have hlt := rowIx hri hq
      refine ⟨u, hfin _ _ ?_, h1.mono hS (fun _ h => h), h2⟩
      rw [List.getElem?_append_left (by rw [hl1]; exact hlt), List.getElem?_take, if_pos hlt, Array.getElem?_toList]
      exact hu
    · rename_i hri
      obtain ⟨p, rfl⟩ : ∃ p, r = i + p := ⟨r - i, by omega⟩
      rw [Nat.add_sub_cancel_left, List.getElem?_drop] at hy
      obtain ⟨u, hu, h1, h2⟩ := hx (j + p) y q c hy hc
      have hp := (List.getElem?_eq_some_iff.1 hy).1
      have hlt := rowIx hp hq
      have e1 : (i + p) * (ops t).size + q = i * (ops t).size + (p * (ops t).size + q) := by rw [Nat.add_mul]; omega
      have e2 : (j + p) * (ops t).size + q = j * (ops t).size + (p * (ops t).size + q) := by rw [Nat.add_mul]; omega
      refine ⟨u, hfin _ _ ?_, h1.mono hS (fun _ h => h), h2⟩
      rw [e2] at hu hlt
      rw [e1, List.getElem?_append_right (by rw [hl1]; omega), hl1, Nat.add_sub_cancel_left, List.getElem?_drop, List.getElem?_take, if_pos hlt, Array.getElem?_toList]
      exact hu
theorem NOk.delete {P : Program} {f : Nat} (t : Ty) (h : RawDel P f (ops t).size) : NOk P ⟨f, sigD t, fun x hh => deleteG x.2.1 x.2.2.1 hh.1⟩ := by
  refine ⟨h.ent, rfl, fun x hh y hy args ahp ha hb => ?_⟩
  obtain ⟨u0, iz, jz, u2⟩ := x
  obtain ⟨xs, u3⟩ := hh
  have hy : deleteG iz jz xs = some y := hy
  obtain ⟨⟨c1, c2, c3, c4⟩, rfl⟩ : (@LE.le Int _ 0 iz ∧ @LT.lt Int _ iz jz ∧ jz.toNat ≤ xs.length ∧ xs.length ≤ 4294967296) ∧ y = ((), ((), (delL iz.toNat jz.toNat xs, ()))) := by
    unfold deleteG at hy
    by_cases hp : 0 ≤ iz ∧ iz < jz ∧ jz.toNat ≤ xs.length ∧ xs.length ≤ 4294967296
    · rw [decide_eq_true hp] at hy; cases hy; exact ⟨hp, rfl⟩
    · rw [decide_eq_false hp] at hy; cases hy
  intro μ w S cargs r0 hl hv
  simp only [puts, put, putV, Ty.isAgg] at ha
  obtain ⟨a0, as0, rfl, h0, ha⟩ := ha.cons_inv
  obtain ⟨a1, as1, rfl, h1, ha⟩ := ha.cons_inv
  obtain ⟨a2, as2, rfl, h2, ha⟩ := ha.cons_inv
  rw [ha.nil_inv] at hl hv
  obtain ⟨v0, v1, v2, rfl⟩ := arr3 (by simpa using hl.symm)
  obtain ⟨n0, e0, l0⟩ := (RT.v h0).slw_inv
  have e1 : a1 = .int .i64 iz := (RT.v h1).int_inv
  have e2 : a2 = .int .i64 jz := (RT.v h2).int_inv
  subst e0; subst e1; subst e2
  have hn0 := lenAt_typed (h := .dead) l0
  subst hn0
  have s0 := (hv 0 _ v0 rfl rfl).sl_inv
  have s1 := (hv 1 _ v1 rfl rfl).int_inv
  have s2 := (hv 2 _ v2 rfl rfl).int_inv
  subst s1; subst s2
  have r1 : HRep μ w S [.live ⟨(ops t).size, true, xs.map (acells t)⟩] := hrep_conv r0 (canH_conv (l := [.typed t]) (x := (xs, ())) putH_lens rfl hb)
  have B0 := r1.live 0 _ rfl
  have hlen : ahp.length = 1 := by rw [← hb.1]; rfl
  have hiz : iz = (Int.toNat iz : Int) := (Int.toNat_of_nonneg c1).symm
  have hjz : jz = (Int.toNat jz : Int) := (Int.toNat_of_nonneg (Int.le_of_lt (Int.lt_of_le_of_lt c1 c2))).symm
  have hlt : iz.toNat < jz.toNat := by have h1 := hiz; have h2 := hjz; rw [h1, h2] at c2; exact Int.ofNat_lt.1 c2
  cases m0 : μ 0 with
  | free => rw [m0] at B0; exact B0.elim
  | dead => rw [m0] at B0; exact B0.elim
  | void =>
    rw [m0] at B0
    have : xs.map (acells t) = [] := B0
    have : xs = [] := by simpa using this
    subst this
    simp at c3
    omega
  | here m N e0 =>
    rw [m0] at B0 s0
    obtain ⟨he0, hN0, cur, tb, hcc, hcsz, hcr⟩ := blk_at B0
    subst he0
    obtain ⟨_, c, rfl, hcN, hcx⟩ := s0
    rw [Nat.zero_mul, hiz, hjz]
    refine (h.here w m N xs.length c iz.toNat jz.toNat cur tb hlt c3 hcx (by omega) c4 hcc hcsz (blk_one hcr)).mono fun e w' hp => ?_
    rw [← hiz, ← hjz]
    obtain ⟨cur', rfl, p1, p2, p3, p4, p5, p6, p7, p8⟩ := hp
    have hS : ∀ j, S j → w'.heap[j]? = w.heap[j]? := fun j hj => p8 j fun e => by subst e; exact r1.apart _ ⟨0, N, _, m0⟩ hj
    obtain ⟨q1, q2, q3⟩ := place (hp2 := [.dead, .live ⟨(ops t).size, true, (delL iz.toNat jz.toNat xs).map (acells t)⟩]) (dead := fun b => b == 0) (g := m) (N' := N) (e := (ops t).size) r1 rfl rfl (fun b hb => by
        have : b = 0 := by simp at hb; omega
        subst this; rfl) (.inr ⟨0, N, _, by simp, rfl, m0⟩)
      (del_rows (μ := locs μ 1 (fun b => b == 0) (.here m N (ops t).size)) hlt c3 hcr (by rw [hcsz]; exact Nat.mul_le_mul_right _ hN0) p3 p1 p2 hN0 hS) (fun m' _ hm => p8 m' hm) (Nat.le_of_eq p7.symm) p4 p5 p6
    refine ⟨_, _, S, rfl, q1, q2, ?_, by rw [hlen]; exact Nat.le_succ 1, fun b hb hf => q3 b (by rw [hlen] at hb; exact hb) hf⟩
    have hdl : (delL iz.toNat jz.toNat xs).length = iz.toNat + (xs.length - jz.toNat) := by simp [delL]; omega
    have e3 : yA (sigD t).res (sigD t).more ((), ((), (delL iz.toNat jz.toNat xs, ()))) = .sl 1 0 (iz.toNat + (xs.length - jz.toNat)) (ops t).size := by
      simp [yA, outA, can, lensOf, putH, putS, nget, NBlk.len, hdl]
    rw [e3]
    refine .sl _ _ _ _ _ ?_
    show SlAt (.here m N (ops t).size) 0 (iz.toNat + (xs.length - jz.toNat)) (ops t).size _
    exact ⟨rfl, c, by rw [Nat.zero_mul], by omega, by omega⟩
theorem NOk.insZ {P : Program} {f bytes : Nat} (t : Ty) (h : RawIns P f (ops t).size bytes) : NOk P ⟨f, sigIZ t, fun x hh => insertZ bytes x.2.1 hh.1⟩ := by
  refine ⟨h.ent, rfl, fun x hh y hy args ahp ha hb => ?_⟩
  obtain ⟨u0, iz, u1, u2⟩ := x
  obtain ⟨vs, u3⟩ := hh
  have hy : insertZ bytes iz vs = some y := hy
  rcases vs with _ | ⟨v, _ | ⟨v', vs⟩⟩
  · cases hy
  · unfold insertZ at hy
    by_cases hz : iz = 0
    · rw [decide_eq_true hz] at hy
      cases hy
      subst hz
      intro μ w S cargs r0 hl hv
      simp only [puts, put, putV, Ty.isAgg] at ha
      obtain ⟨a0, as0, rfl, h0, ha⟩ := ha.cons_inv
      obtain ⟨a1, as1, rfl, h1, ha⟩ := ha.cons_inv
      obtain ⟨a2, as2, rfl, h2, ha⟩ := ha.cons_inv
      rw [ha.nil_inv] at hl hv
      obtain ⟨v0, v1, v2, rfl⟩ := arr3 (by simpa using hl.symm)
      have e0 : a0 = .zsl := (RT.v h0).zsl_inv
      have e1 : a1 = .int .i64 0 := (RT.v h1).int_inv
      obtain ⟨n2, e2, l2⟩ := (RT.v h2).slw_inv
      subst e0; subst e1; subst e2
      have hn2 := lenAt_typed (h := .dead) l2
      subst hn2
      have s0 := (hv 0 _ v0 rfl rfl).zsl_inv
      have s1 := (hv 1 _ v1 rfl rfl).int_inv
      have s2 := (hv 2 _ v2 rfl rfl).sl_inv
      subst s1
      obtain ⟨A, rfl⟩ := s0
      have r1 : HRep μ w S [.live ⟨(ops t).size, true, [v].map (acells t)⟩] := hrep_conv r0 (canH_conv (l := [.typed t]) (x := ([v], ())) putH_lens rfl hb)
      have B1 := r1.live 0 _ rfl
      have hlen : ahp.length = 1 := by rw [← hb.1]; rfl
      cases m1 : μ 0 with
      | free => rw [m1] at B1; exact B1.elim
      | dead => rw [m1] at B1; exact B1.elim
      | void => rw [m1] at B1; cases B1
      | here vb N1 ev =>
        rw [m1] at B1 s2
        obtain ⟨hev, hN1, vcur, tv, hvc, hvsz, hvr⟩ := blk_at B1
        subst hev
        obtain ⟨_, vc, rfl, _, hvc1⟩ := s2
        simp only [List.length_cons, List.length_nil, Nat.zero_add] at hN1 hvc1 ⊢
        have hvk : (ops t).size ≤ vcur.size := by rw [hvsz]; exact Nat.le_mul_of_pos_left _ hN1
        rw [Nat.zero_mul]
        refine (h.void w A vb vc vcur tv hvc hvk).mono fun e w' hpost => ?_
        obtain ⟨g, cap, N', cur', t', rfl, p1, p2, p3, p4, p5, p6, p7, p8, p9, p10, p11⟩ := hpost
        have hg0 : w.heap.size ≤ g := by rcases p6 with rfl | h <;> omega
        have hS : ∀ m, S m → w'.heap[m]? = w.heap[m]? := fun m hm => p11 m (r1.inS m hm) fun he => by
          subst he
          have := r1.inS m hm; omega
        obtain ⟨q1, q2, q3⟩ := place (hp2 := [.live ⟨(ops t).size, true, [v].map (acells t)⟩, .live ⟨(ops t).size, true, [v].map (acells t)⟩]) (dead := fun _ => false) r1 rfl rfl (fun b hb => by
            have : b = 0 := by simp at hb; omega
            subst this; rfl) (.inl hg0)
          (ins_rows (xs := []) (i := 0) (v := v) (cur := #[]) (μ := locs μ 1 (fun _ => false) (.here g N' (ops t).size)) (Nat.le_refl _) h.pos (fun i x j c hx => by simp at hx) (fun j c hc => by
              have := hvr 0 v j c rfl hc
              simpa using this) (by simp) hvk (by simp) p5 p1 p2 (by simp; omega) hS) p11 p10 p7 p8 p9
        refine ⟨_, _, S, rfl, q1, q2, ?_, by rw [hlen]; exact Nat.le_succ 1, fun b hb hf => q3 b (by rw [hlen] at hb; exact hb) hf⟩
        have e3 : yA (sigIZ t).res (sigIZ t).more ((), ([v], ([v], ()))) = .sl 1 0 1 (ops t).size := by
          simp [yA, outA, can, lensOf, putH, putS, nget, NBlk.len]
        rw [e3]
        refine .sl _ _ _ _ _ ?_
        show SlAt (.here g N' (ops t).size) 0 1 (ops t).size _
        exact ⟨rfl, cap, by rw [Nat.zero_mul], by omega, p4⟩
    · rw [decide_eq_false hz] at hy; cases hy
  · cases hy
end NM
end Go.Proofs.Ytfelhbeiegppgaa
