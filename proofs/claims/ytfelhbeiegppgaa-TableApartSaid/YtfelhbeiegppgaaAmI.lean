/-
  Blocks of the call's own: literals, make, append.
-/
import Derived.Test.YtfelhbeiegppgaaAmH
import Derived.Laws.AppendOwn
set_option linter.unusedVariables false
set_option linter.unusedSimpArgs false
namespace Go.Proofs.Ytfelhbeiegppgaa
namespace AM

section
variable {P : Program} {μ μ' : Nat → Loc} {w w' : World} {S S' : Nat → Prop} {hp : Heap}

theorem VR.heap {c : AVal} {v : Value} (h : VR μ w S c v) (hw : w'.heap = w.heap) : VR μ w' S c v := h.mono (Up.refl _) (fun m _ => by rw [hw]) (fun _ h => h)
theorem HRep.heap (r : HRep μ w S hp) (hw : w'.heap = w.heap) : HRep μ w' S hp where
  live b k hb := (r.live b k hb).mono (Up.refl _) (fun m _ => by rw [hw]) (fun _ h => h) (fun _ _ _ _ => by rw [hw])
  gone := r.gone
  free := r.free
  inj := r.inj
  apart := r.apart
  inS m hm := by rw [hw]; exact r.inS m hm
  gl := r.gl.mono (fun m _ => by rw [hw]) (fun _ h => h)
theorem Ext.heap (hw : w'.heap = w.heap) (ho : w'.os = w.os) (ht : w'.tape = w.tape) (hp : w'.output = w.output) : Ext μ S w μ S w' :=
  ⟨ho, ht, hp, by rw [hw]; exact Nat.le_refl _, fun m _ _ => by rw [hw], fun _ h => h, fun _ h => .inl h, fun _ h => .inl h⟩

/-- rows of cells, one behind the other -/
structure RowsC (μ : Nat → Loc) (w : World) (S : Nat → Prop) (e : Nat) (xs : List (List AVal)) (a : Array Value) : Prop where
  size : a.size = xs.length * e
  row : ∀ (i : Nat) (x : List AVal), xs[i]? = some x → x.length = e
  cell : ∀ (i : Nat) (x : List AVal) (j : Nat) (c : AVal), xs[i]? = some x → x[j]? = some c → ∃ u, a[i * e + j]? = some u ∧ VR μ w S c u ∧ oneV u = true

theorem constB_one {c : AVal} {v : Value} (h : constB c v = true) : oneV v = true := (IR.of_constB (w := default) (S := fun _ => False) h).one

theorem zeroB_one {t : TypeId} {zs : List AVal} (h : zeroB P t zs = true) : ∃ i z, P.info? t = some i ∧ i.zero = some z ∧ i.size = zs.length ∧ z.cells.size = zs.length ∧ ∀ (j : Nat) (c : AVal) (v : Value), zs[j]? = some c → z.cells[j]? = some v → constB c v = true := by
  unfold zeroB at h
  split at h
  · rename_i i hi
    split at h
    · rename_i z hz
      simp only [Bool.and_eq_true, beq_iff_eq] at h
      exact ⟨i, z, hi, hz, h.2, by have := all2_length h.1; simpa using this.symm, fun j c v hj hv => all2_get h.1 j c v hj (by simpa using hv)⟩
    · cases h
  · cases h

theorem zero_rows {zs : List AVal} {z : Array Value} {n e : Nat} (hl : zs.length = e) (hz : z.size = e) (hc : ∀ (j : Nat) (c : AVal) (v : Value), zs[j]? = some c → z[j]? = some v → constB c v = true) (a : Array Value)
    (ha : a.size = n * e) (hg : ∀ p, p < n * e → a[p]? = z[p % e]?) : ∀ (i : Nat) (x : List AVal) (j : Nat) (c : AVal), (List.replicate n zs)[i]? = some x → x[j]? = some c → ∃ u, a[i * e + j]? = some u ∧ constB c u = true := by
  intro i x j c hi hj
  rw [List.getElem?_replicate] at hi
  split at hi
  · rename_i hin
    simp only [Option.some.injEq] at hi
    subst hi
    have hj' := (List.getElem?_eq_some_iff.1 hj).1
    have hp : i * e + j < n * e := row_lt (by omega) hin
    rw [hg _ hp, Nat.mul_comm, Nat.mul_add_mod, Nat.mod_eq_of_lt (by omega)]
    have hzj : z[j]? = some (z[j]'(by omega)) := Array.getElem?_eq_getElem _
    exact ⟨z[j]'(by omega), hzj, hc j c _ hj hzj⟩
  · cases hi

theorem fillS_sound {ρ : Operand → Value} {r : Opd → AVal} (hρ : ∀ x y, chkOpd x y = true → VR μ w S (r y) (ρ x)) (e : Nat) :
    ∀ (parts : List (Nat × Operand)) (ps : List (Nat × Opd)) (xs out : List (List AVal)) (a : Array Value),
      all2 (fun (p : Nat × Operand) (q : Nat × Opd) => p.1 == q.1 && chkOpd p.2 q.2) parts ps = true → RowsC μ w S e xs a → fillS r e xs ps = some out →
      ∃ b, Instr.fill (fun i => some (i * e, e)) a (parts.map fun p => (p.1, ρ p.2)) = some b ∧ RowsC μ w S e out b ∧ out.length = xs.length
  | [], [], xs, out, a, _, h, hf => by simp [fillS] at hf; subst hf; exact ⟨a, rfl, h, rfl⟩
  | p :: parts, q :: ps, xs, out, a, hc, h, hf => by
    obtain ⟨i, x⟩ := q
    simp only [all2, Bool.and_eq_true, beq_iff_eq] at hc
    obtain ⟨⟨rfl, hx⟩, hrest⟩ := hc
    simp only [fillS] at hf
    split at hf
    · rename_i hcond
      obtain ⟨h1, h2, h3⟩ := hcond
      have hv := Cells.of (hρ _ _ hx) h3
      have hcl : (ρ p.2).cells.toList.length = e := by have := hv.1; simp; omega
      have hfit : p.1 * e + e ≤ a.size := by
        rw [h.size]
        have : (p.1 + 1) * e ≤ xs.length * e := Nat.mul_le_mul_right _ (by omega)
        rw [Nat.add_mul] at this
        omega
      have hput : RowsC μ w S e (xs.set p.1 (cellsOf (r x))) (laid a (p.1 * e) (ρ p.2).cells.toList) := by
        refine ⟨by rw [laid_size, h.size]; simp, fun i' y hi' => ?_, fun i' y j c hi' hj => ?_⟩
        · rw [List.getElem?_set] at hi'
          split at hi'
          · simp only [h2, if_true, Option.some.injEq] at hi'; subst hi'; exact h1
          · exact h.row i' y hi'
        · rw [laid_get a _ _ (by omega), hcl]
          rw [List.getElem?_set] at hi'
          split at hi'
          · rename_i hii
            subst hii
            simp only [h2, if_true, Option.some.injEq] at hi'
            subst hi'
            have hjl := (List.getElem?_eq_some_iff.1 hj).1
            rw [if_pos (by omega), show p.1 * e + j - p.1 * e = j by omega]
            obtain ⟨u, hu, hr⟩ := hv.get hj
            refine ⟨u, by simpa using hu, hr, hr.one (List.all_eq_true.1 h3 c (List.mem_of_getElem? hj))⟩
          · rename_i hii
            have hjl := (List.getElem?_eq_some_iff.1 hj).1
            rw [h.row i' y hi'] at hjl
            have hne : ¬ (p.1 * e ≤ i' * e + j ∧ i' * e + j < p.1 * e + e) := by
              intro hcond
              rcases Nat.lt_or_gt_of_ne hii with h4 | h4
              · have := row_lt (e := e) (i := p.1) (i' := i') (j := e - 1) (by omega) h4
                omega
              · have := row_lt hjl h4
                omega
            rw [if_neg hne]
            exact h.cell i' y j c hi' hj
      obtain ⟨b, hb, hcb, hbl⟩ := fillS_sound hρ e parts ps _ out _ hrest hput hf
      refine ⟨b, ?_, hcb, by rw [hbl]; simp⟩
      rw [List.map_cons, fill_cons (fun i => some (i * e, e)) a p.1 (p.1 * e) e (ρ p.2) _ rfl (by rw [← hv.1]; exact h1) hfit]
      exact hb
    · cases hf
  | [], q :: ps, _, _, _, hc, _, _ => by simp [all2] at hc
  | p :: parts, [], _, _, _, hc, _, _ => by simp [all2] at hc

def chkNew (P : Program) (op : Op) (ao : AOp) : Bool :=
  match op, ao with
  | .box _ x, .box _ x' => chkOpd x x'
  | .alloc t, .alloc zero => zeroB P t zero
  | .buildSlice t len parts, .buildSlice e len' flat zero ps => (match P.underlying t with
    | some (.slice el) => szB P el e && zeroB P el zero && len == len' && decide (len * e ≤ 16777216) && e != 0 && all2 (fun (p : Nat × Operand) (q : Nat × Opd) => p.1 == q.1 && chkOpd p.2 q.2) parts.toList ps
    | _ => false)
  | .makeSlice t l c, .makeSlice e bytes flat zero l' c' => (match P.underlying t with
    | some (.slice el) => szB P el e && bytesB P el bytes && zeroB P el zero && e != 0 && chkOpd l l' && chkOpd c c'
    | _ => false)
  | _, _ => false

/-- what an operation gives in the model: a value that is the abstract one, memory as the abstract blocks say -/
def Makes (P : Program) (μ : Nat → Loc) (w : World) (S : Nat → Prop) (s : Sem Next) (v : AVal) (hp' : Heap) : Prop :=
  ∃ cv w' μ1 S1, s.run P w = .ok (.value cv) w' ∧ HRep μ1 w' S1 hp' ∧ Ext μ S w μ1 S1 w' ∧ Up μ μ1 ∧ VR μ1 w' S1 v cv

theorem mod_of_row {e : Nat} (a : Array Value) (z : Array Value) (n : Nat) (hz : z.size = e) (ha : a = (Array.range (n * e)).map fun i => z[i % z.size]!) (he : e ≠ 0) : a.size = n * e ∧ ∀ p, p < n * e → a[p]? = z[p % e]? := by
  subst ha
  refine ⟨by simp, fun p hp => ?_⟩
  have hlt : p % e < z.size := by rw [hz]; exact Nat.mod_lt _ (by omega)
  rw [Array.getElem?_map, Array.getElem?_range]
  simp only [hp, if_true, Option.map_some, hz]
  rw [getElem!_pos z (p % e) hlt]
  simp [hlt]

theorem new_sound (r : HRep μ w S hp) {ρ : Operand → Value} {rr : Opd → AVal} (hρ : ∀ x y, chkOpd x y = true → VR μ w S (rr y) (ρ x)) {o : Oper} {ao : AOp} {v : AVal} {k : Blk} {id : Nat} (hc : chkNew P o.op ao = true) (hf : hp.isFree id = true)
    (hv : newOp ao rr id = some (v, k)) : Makes P μ w S (execOp ρ o) v (hp.set id (.live k)) := by
  obtain ⟨dst, op, ty, pos, aft, guard⟩ := o
  simp only at hc
  unfold chkNew at hc
  split at hc
  · -- box
    rename_i t x n x'
    simp only [newOp] at hv
    split at hv
    · rename_i hcond
      simp only [Option.some.injEq, Prod.mk.injEq] at hv
      obtain ⟨rfl, rfl⟩ := hv
      have hx := Cells.of (hρ _ _ hc) hcond.2
      obtain ⟨r1, x1, u1⟩ := new_rep (t := t) (k := ⟨n, false, [cellsOf (rr x')]⟩) (n := 1) (cells := (ρ x).cells) r hf (by rw [← hx.1, hcond.1]; simp) (by simp) (fun i y hi => by
          cases i with
          | zero => simp at hi; subst hi; exact hcond.1
          | succ i => simp at hi) (fun i y j c hi hj => by
          cases i with
          | zero =>
            simp at hi
            subst hi
            obtain ⟨u, hu, hr⟩ := hx.get hj
            exact ⟨u, by simpa using hu, by simpa using hr, hr.one (List.all_eq_true.1 hcond.2 c (List.mem_of_getElem? hj))⟩
          | succ i => simp at hi)
      refine ⟨.pointer (some ⟨w.heap.size, 0, none⟩), _, _, S, by simp [execOp, Instr.box, newVar, newRow], r1, x1, u1, .ptr _ _ _ _ ?_⟩
      rw [give_same]
      show _ = _
      simp
    · cases hv
  · -- alloc
    rename_i t zero
    simp only [newOp, Option.some.injEq, Prod.mk.injEq] at hv
    obtain ⟨rfl, rfl⟩ := hv
    obtain ⟨i, z, hi, hz, hs, hzs, hzc⟩ := zeroB_one hc
    obtain ⟨r1, x1, u1⟩ := new_rep (t := t) (k := ⟨zero.length, false, [zero]⟩) (n := 1) (cells := z.cells) r hf (by rw [hzs]; simp) (by simp) (fun i y hi => by
          cases i with
          | zero => simp at hi; subst hi; rfl
          | succ i => simp at hi) (fun i y j c hi hj => by
          cases i with
          | zero =>
            simp at hi
            subst hi
            have hjl := (List.getElem?_eq_some_iff.1 hj).1
            have hu : z.cells[j]? = some (z.cells[j]'(by omega)) := Array.getElem?_eq_getElem _
            have hcb := hzc j c _ hj hu
            exact ⟨_, by rw [Nat.zero_mul, Nat.zero_add]; exact hu, VR.imm _ _ (.of_constB hcb), constB_one hcb⟩
          | succ i => simp at hi)
    refine ⟨.pointer (some ⟨w.heap.size, 0, none⟩), _, _, S, by simp [execOp, Instr.alloc, zeroValue, typeInfo, hi, hz, newVar, newRow], r1, x1, u1, .ptr _ _ _ _ ?_⟩
    rw [give_same]
    show _ = _
    simp
  · -- buildSlice
    rename_i t len parts e len' flat zero ps
    split at hc
    · rename_i el hu
      simp only [Bool.and_eq_true, beq_iff_eq, decide_eq_true_eq, bne_iff_ne] at hc
      obtain ⟨⟨⟨⟨⟨h1, h2⟩, rfl⟩, h4⟩, h5⟩, h6⟩ := hc
      simp only [newOp] at hv
      split at hv
      · rename_i xs hxs
        simp only [Option.some.injEq, Prod.mk.injEq] at hv
        obtain ⟨rfl, rfl⟩ := hv
        obtain ⟨i, z, hi, hz, hs, hzs, hzc⟩ := zeroB_one h2
        obtain ⟨i', hi', hs'⟩ := szB_inv h1
        rw [hi] at hi'
        cases hi'
        have hze : zero.length = e := by omega
        obtain ⟨hsz, hget⟩ := mod_of_row _ z.cells len (by omega) rfl h5
        have hrows : RowsC μ w S e (List.replicate len zero) ((Array.range (len * e)).map fun i => z.cells[i % z.cells.size]!) := by
          refine ⟨by rw [hsz]; simp, fun i x hi => ?_, fun i x j c hi hj => ?_⟩
          · rw [List.getElem?_replicate] at hi
            split at hi
            · simp only [Option.some.injEq] at hi; subst hi; exact hze
            · cases hi
          · obtain ⟨u, hu, hcb⟩ := zero_rows hze (by omega) hzc _ hsz hget i x j c hi hj
            exact ⟨u, hu, .imm _ _ (.of_constB hcb), constB_one hcb⟩
        obtain ⟨b, hb, hcb, hol⟩ := fillS_sound hρ e parts.toList ps _ xs _ h6 hrows hxs
        have hxl : xs.length = len := by rw [hol]; simp
        have hrun : (Instr.buildSlice t len (parts.map fun (i, x) => (i, ρ x))).run P w = .ok (.slice (some ⟨w.heap.size, 0, none⟩) len len) (w.alloc (.cells b el)) := by
          have hb' : Instr.fill (fun i => some (i * e, e)) ((Array.range (len * e)).map fun i => z.cells[i % z.cells.size]!) (parts.map fun (i, x) => (i, ρ x)).toList = some b := by
            rw [Array.toList_map]; exact hb
          by_cases h0 : len * e = 0
          · have : len = 0 := by rcases Nat.mul_eq_zero.1 h0 with h | h; exact h; exact absurd h h5
            subst this
            have er : Array.range 0 = #[] := rfl
            have hb2 : Instr.fill (fun i => some (i * e, e)) #[] (parts.toList.map fun x => (x.1, ρ x.2)) = some b := by simpa [er] using hb
            simp [Instr.buildSlice, run_underlying hu, run_sizeOf h1, hb2, newRow, er]
          · exact run_buildSlice w t el len _ b i z hu hi hz (by rw [hs']; omega) (by rw [hs']; exact h0) (by rw [hs']; exact hb')
        obtain ⟨r1, x1, u1⟩ := new_rep (t := el) (k := ⟨e, flat && xs.all (·.all AVal.immC), xs⟩) (n := len) (cells := b) r hf (by rw [hcb.size, hxl]) (by simp [hxl]) hcb.row (fun i x j c hi hj => by
          obtain ⟨u, hu, hr, ho⟩ := hcb.cell i x j c hi hj
          refine ⟨u, hu, ?_, ho⟩
          split
          · rename_i hfl
            simp only [Bool.and_eq_true, List.all_eq_true] at hfl
            exact hr.immC_of (hfl.2 x (List.mem_of_getElem? hi) c (List.mem_of_getElem? hj))
          · exact hr)
        refine ⟨_, _, _, S, by simp only [execOp, Sem.run_bind, hrun, Result.andThen_ok]; rfl, r1, x1, u1, .sl _ _ _ _ _ ?_⟩
        rw [give_same]
        exact ⟨rfl, len, by simp, by omega, Nat.le_refl _⟩
      · cases hv
    · cases hc
  · -- makeSlice
    rename_i t l c e bytes flat zero l' c'
    split at hc
    · rename_i el hu
      simp only [Bool.and_eq_true, bne_iff_ne] at hc
      obtain ⟨⟨⟨⟨⟨h1, h2⟩, h3⟩, h4⟩, h5⟩, h6⟩ := hc
      simp only [newOp] at hv
      split at hv
      · rename_i ln cp hl hcp
        split at hv
        · rename_i hcond
          simp only [Option.some.injEq, Prod.mk.injEq] at hv
          obtain ⟨rfl, rfl⟩ := hv
          obtain ⟨i, z, hi, hz, hs, hzs, hzc⟩ := zeroB_one h3
          obtain ⟨i', hi', hs'⟩ := szB_inv h1
          rw [hi] at hi'
          cases hi'
          have hby : i.bytes = bytes := by unfold bytesB at h2; rw [hi] at h2; simpa using h2
          have hze : zero.length = e := by omega
          obtain ⟨kd1, n1, hn1, _, rfl⟩ := idxNat_inv hl
          obtain ⟨kd2, n2, hn2, _, rfl⟩ := idxNat_inv hcp
          have e1 := hρ _ _ h5
          have e2 := hρ _ _ h6
          rw [hn1] at e1
          rw [hn2] at e2
          have e1 := e1.int_inv
          have e2 := e2.int_inv
          obtain ⟨hsz, hget⟩ := mod_of_row _ z.cells cp (by omega) rfl h4
          obtain ⟨hlc, hcb, hc32⟩ := hcond
          have w1 : IntKind.i64.wrap (ln : Int) = ln := by simp [IntKind.wrap, IntKind.bits, IntKind.signed]; omega
          have w2 : IntKind.i64.wrap (cp : Int) = cp := by simp [IntKind.wrap, IntKind.bits, IntKind.signed]; omega
          have hrun : (Instr.makeSlice t (ρ l) (ρ c)).run P w = .ok (.slice (some ⟨w.heap.size, 0, none⟩) ln cp) (w.alloc (.cells ((Array.range (cp * e)).map fun i => z.cells[i % z.cells.size]!) el)) := by
            have hbig : ¬ ((281474976710656 : Int) < (bytes : Int) * (cp : Int)) := by
              have : ((cp * bytes : Nat) : Int) ≤ 1099511627776 := by omega
              rw [Int.natCast_mul, Int.mul_comm] at this
              omega
            have hroom : ¬ (roomBytes < cp * bytes) := by unfold roomBytes; omega
            by_cases h0 : cp * e = 0
            · have : cp = 0 := by rcases Nat.mul_eq_zero.1 h0 with h | h; exact h; exact absurd h h4
              subst this
              have : ln = 0 := by omega
              subst this
              have er : Array.range 0 = #[] := rfl
              simp [Instr.makeSlice, run_underlying hu, e1, e2, asInt, asIntOf, typeInfo, hi, hby, sizeOf, hs', newRow, askRoom, roomBytes, IntKind.wrap, IntKind.bits, IntKind.signed, er]
            · have hbig2 : ¬ ((2 : Int) ^ 48 < (bytes : Int) * (cp : Int)) := by omega
              simp [Instr.makeSlice, run_underlying hu, e1, e2, asInt, asIntOf, typeInfo, hi, hby, w1, w2, sizeOf, hs', h0, zeroValue, hz, newRow, askRoom, hroom, hbig, hbig2]
              omega
          obtain ⟨r1, x1, u1⟩ := new_rep (t := el) (k := ⟨e, flat, List.replicate ln zero⟩) (n := cp) (cells := (Array.range (cp * e)).map fun i => z.cells[i % z.cells.size]!) r hf hsz (by simp; exact hlc) (fun i x hi => by
              rw [List.getElem?_replicate] at hi
              split at hi
              · simp only [Option.some.injEq] at hi; subst hi; exact hze
              · cases hi) (fun i x j c hi hj => by
              have hi2 : (List.replicate cp zero)[i]? = some x := by
                rw [List.getElem?_replicate] at hi ⊢
                split at hi
                · rw [if_pos (by omega)]; exact hi
                · cases hi
              obtain ⟨u, hu, hcb⟩ := zero_rows hze (by omega) hzc _ hsz hget i x j c hi2 hj
              refine ⟨u, hu, ?_, constB_one hcb⟩
              split
              · exact .of_constB hcb
              · exact .imm _ _ (.of_constB hcb))
          refine ⟨_, _, _, S, by simp only [execOp, Sem.run_bind, hrun, Result.andThen_ok]; rfl, r1, x1, u1, .sl _ _ _ _ _ ?_⟩
          rw [give_same]
          exact ⟨rfl, cp, by simp, by omega, hlc⟩
        · cases hv
      · cases hv
    · cases hc
  · cases hc

end

end AM
end Go.Proofs.Ytfelhbeiegppgaa
