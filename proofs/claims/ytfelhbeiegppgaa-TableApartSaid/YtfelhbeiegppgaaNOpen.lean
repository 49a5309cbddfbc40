/-
  slices.Insert of jobs into no slice; slices.Clone of a slice of one job, told row by row.
-/
import Derived.Test.YtfelhbeiegppgaaNDelete
import Derived.Test.YtfelhbeiegppgaaCloneJob
set_option linter.unusedVariables false
set_option linter.unusedSimpArgs false
namespace Go.Proofs.Ytfelhbeiegppgaa
open Go.RowKit Go.Lib Go
namespace NM
open AM
theorem extz35 : NOk Try.prog ⟨35, sigIZ .job, fun x hh => insertZ 152 x.2.1 hh.1⟩ := NOk.insZ .job InsJob.raw
/- a job, cell by cell -/
@[reducible] def jobRow : Sh := .cons (.v (.int .i64)) (.cons (.v (.int .i64)) (.cons (.v (.int .i64)) (.cons (.v (.int .i64)) (.cons (.v (.int .i64)) (.cons (.v (.int .i64)) (.cons (.v (.int .i64)) (.cons (.v (.int .i64)) (.cons (.v (.int .i64)) (.cons (.v (.list .dep)) (.cons (.v (.int .i64)) (.cons (.v .bool) (.cons (.v .bool) (.cons (.v (.int .i64)) (.cons (.v (.int .i64)) (.cons (.v (.int .i64)) (.cons (.v (.int .i64)) (.cons (.v (.int .i64)) .nil)))))))))))))))))
abbrev JobRow := Int × (Int × (Int × (Int × (Int × (Int × (Int × (Int × (Int × ((List Dep) × (Int × (Bool × (Bool × (Int × (Int × (Int × (Int × (Int × Unit)))))))))))))))))
def rowJob (x : Job) : JobRow := (x.id, (x.user, (x.queue, (x.many, (x.need.cpu, (x.need.mem, (x.need.gpu, (x.need.lic, (x.wall, (x.after, (x.state, (x.ok, (x.kill, (x.version, (x.born, (x.start, (x.fin, (x.array, ()))))))))))))))))))
theorem puts_row (x : Job) : puts jobRow (rowJob x) = (ops .job).cells x := rfl
theorem cans_conv {w : World} {S : Nat → Prop} {l : Sh} {y : l.den} (hok : okIs l = true) {lens : Nat → Nat} {cs0 : List AVal} (ha : A2 RIc (puts l y) cs0) (j : Nat) (c c0 : AVal) (v : Value) (hc : (cans lens l y)[j]? = some c) (h0 : cs0[j]? = some c0) (hv : IR w S c0 v) : IR w S c v := by
  have h1 := canIs_rel (lens := lens) l y hok
  have hj : j < (puts l y).length := by rw [h1.1]; exact (List.getElem?_eq_some_iff.1 hc).1
  have e1 : (puts l y)[j]? = some (puts l y)[j] := List.getElem?_eq_getElem hj
  exact (h1.2 j _ c e1 hc).canon (ha.2 j _ c0 e1 h0).ri hv
@[reducible] def sigClO : Sig := ⟨.cons (.slw 0 18) .nil, [.typed .job], (.slw 1 18, [.typed .job, .many 18 (.cons jobRow .nil)]), []⟩
def cloneOne (xs : List Job) : Option (Unit × (List Job × ((JobRow × Unit) × Unit))) := match xs with
  | [x] => some ((), ([x], ((rowJob x, ()), ())))
  | _ => none
theorem NOk.cloneOne {P : Program} {f bytes : Nat} (h : RawClone P f 18 bytes) (hb1 : bytes ≤ 140737488355328) : NOk P ⟨f, sigClO, fun x hh => NM.cloneOne hh.1⟩ := by
  refine ⟨h.ent, rfl, fun x hh y hy args ahp ha hb => ?_⟩
  obtain ⟨u0, u1⟩ := x
  obtain ⟨xs, u2⟩ := hh
  have hy : NM.cloneOne xs = some y := hy
  obtain ⟨x, rfl, rfl⟩ : ∃ x, xs = [x] ∧ y = ((), ([x], ((rowJob x, ()), ()))) := by
    match xs, hy with
    | [x], hy => exact ⟨x, rfl, (Option.some.inj hy).symm⟩
    | [], hy => exact absurd hy (by simp [NM.cloneOne])
    | _ :: _ :: _, hy => exact absurd hy (by simp [NM.cloneOne])
  intro μ w S cargs r0 hl hv
  simp only [puts, put, putV, Ty.isAgg] at ha
  obtain ⟨a0, as0, rfl, h0, ha⟩ := ha.cons_inv
  rw [ha.nil_inv] at hl hv
  obtain ⟨v0, rfl⟩ := arrC (by simpa using hl.symm)
  obtain ⟨n0, e0, l0⟩ := (RT.v h0).slw_inv
  subst e0
  have hn0 := lenAt_typed (h := .dead) l0
  subst hn0
  have s0 := (hv 0 _ v0 rfl rfl).sl_inv
  have r1 : HRep μ w S [.live ⟨18, true, [x].map (acells .job)⟩] := hrep_conv r0 (canH_conv (l := [.typed .job]) (x := ([x], ())) putH_lens rfl hb)
  have B0 := r1.live 0 _ rfl
  have hlen : ahp.length = 1 := by rw [← hb.1]; rfl
  have hf1 : μ 1 = .free := r1.free 1 (.inr (by simp))
  have r2 := r1.more 1
  have hset : ∀ k, (([.live ⟨18, true, [x].map (acells .job)⟩] : AM.Heap) ++ List.replicate 1 Slot.free).set 1 (.live k) = [.live ⟨18, true, [x].map (acells .job)⟩, .live k] := fun k => rfl
  obtain ⟨lens, e4⟩ : ∃ lens : Nat → Nat, yB sigClO.res sigClO.more ((), ([x], ((rowJob x, ()), ()))) = [.live ⟨18, true, [x].map (acells .job)⟩, .live ⟨18, false, [cans lens jobRow (rowJob x)]⟩] := ⟨_, rfl⟩
  have e3 : yA sigClO.res sigClO.more ((), ([x], ((rowJob x, ()), ()))) = .sl 1 0 1 18 := by
    simp [yA, outA, can, lensOf, putH, putS, nget, NBlk.len, putsR]
  cases m0 : μ 0 with
  | free => rw [m0] at B0; exact B0.elim
  | dead => rw [m0] at B0; exact B0.elim
  | void =>
    rw [m0] at B0
    have : [x].map (acells .job) = [] := B0
    cases this
  | here m N e0 =>
    rw [m0] at B0 s0
    obtain ⟨he0, hN0, cur, tb, hcc, hcsz, hcr⟩ := blk_at (t := .job) (xs := [x]) B0
    subst he0
    obtain ⟨_, c, rfl, hcN, hcx⟩ := s0
    rw [Nat.zero_mul]
    refine (h.some_ m 1 c cur tb w (Nat.le_refl _) (by rw [hcsz]; exact Nat.mul_le_mul_right _ hN0) (by omega) hcc (blk_one hcr)).mono fun e w' hp => ?_
    obtain ⟨g, cap, N', cur', t', rfl, p1, p2, p3, p4, p5, p6, p7, p8, p9, p10, p11⟩ := hp
    have p6 : w.heap.size ≤ g := by rcases p6 with h | h <;> omega
    have hfr : ∀ j, j < w.heap.size → w'.heap[j]? = w.heap[j]? := fun j hj => p11 j hj (by omega)
    have hS : ∀ j, S j → w'.heap[j]? = w.heap[j]? := fun j hj => hfr j (r1.inS j hj)
    have hcl : (cans lens jobRow (rowJob x)).length = 18 := by
      rw [← (canIs_rel (lens := lens) jobRow (rowJob x) rfl).1]
      rfl
    have hblk : BlkR (give μ 1 (.here g N' 18)) w' S (.here g N' 18) ⟨18, false, [cans lens jobRow (rowJob x)]⟩ := by
      refine ⟨rfl, by simp; omega, fun r z hr => ?_, cur', t', p1, p2, fun r z j c hr hc => ?_⟩
      · match r with
        | 0 => cases hr; exact hcl
      · match r with
        | 0 =>
          cases hr
          have hj : j < 18 := by
            have := (List.getElem?_eq_some_iff.1 hc).1
            omega
          have ha : A2 RIc (puts jobRow (rowJob x)) (acells .job x) := by rw [puts_row]; exact acells_rel .job x
          have hal : (acells .job x).length = 18 := acells_len .job x
          obtain ⟨c0, h0'⟩ : ∃ c0, (acells .job x)[j]? = some c0 := ⟨_, List.getElem?_eq_getElem (by omega)⟩
          obtain ⟨v, hv, hR, h1⟩ := hcr 0 x j c0 rfl h0'
          refine ⟨v, p5 _ _ ?_, ?_, h1⟩
          · rw [List.getElem?_take, if_pos (by omega), Array.getElem?_toList]
            exact hv
          · exact .imm _ _ (cans_conv rfl ha j c c0 v hc h0' (hR.mono hS (fun _ h => h)))
    have q1 := give_rep (w' := w') (k := ⟨18, false, [cans lens jobRow (rowJob x)]⟩) (l := .here g N' 18) r2 hf1 (by simp) hblk hfr p10 (fun m n e h => by cases h; exact p6)
    have q2 := give_ext (w' := w') (l := .here g N' 18) r2 hf1 p7 p8 p9 hfr p10 (fun m n e h => by cases h; exact p6)
    rw [hset] at q1
    refine ⟨_, give μ 1 (.here g N' 18), S, rfl, by rw [e4]; exact q1, q2, ?_, by rw [hlen, e4]; exact Nat.le_succ 1, fun b hb hf => .inl (give_other (by omega))⟩
    rw [e3]
    refine .sl _ _ _ _ _ ?_
    rw [give_same]
    exact ⟨rfl, cap, by rw [Nat.zero_mul], by omega, p4⟩
theorem exto37 : NOk Try.prog ⟨37, sigClO, fun x hh => cloneOne hh.1⟩ := NOk.cloneOne CloneJob.raw (by decide)
end NM
end Go.Proofs.Ytfelhbeiegppgaa
