/-
  Values and blocks of both machines; operations that look at no block's cells.
-/
import Derived.Test.YtfelhbeiegppgaaNmC
set_option linter.unusedVariables false
set_option linter.unusedSimpArgs false
namespace Go.Proofs.Ytfelhbeiegppgaa
namespace NM
open AM

/-- a block's length, as long as it is alive -/
def lenAt (hp : NHeap) (b n : Nat) : Prop := match hp[b]? with
  | some (.live k) => k.len = n
  | some .dead => True
  | some .gone => True
  | _ => False
def Evo (hp hp' : NHeap) : Prop := ∀ b n, lenAt hp b n → lenAt hp' b n
theorem Evo.refl (hp : NHeap) : Evo hp hp := fun _ _ h => h
theorem Evo.trans {a b c : NHeap} (h : Evo a b) (g : Evo b c) : Evo a c := fun x n hx => g x n (h x n hx)

inductive RP (hp : NHeap) : NVal → AVal → Prop
  | ro {v : NVal} {a : AVal} : RI v a → RP hp v a
  | undef : RP hp .undef .undef
  | ptr (b i f : Nat) : RP hp (.ptr b i f) (.ptr b i f)
  | sl (b o l e : Nat) : RP hp (.sl b o l e) (.sl b o l e)
  | slw (b e n : Nat) : lenAt hp b n → RP hp (.slw b e) (.sl b 0 n e)
inductive RC (hp : NHeap) : NVal → AVal → Prop
  | p {v : NVal} {a : AVal} : RP hp v a → RC hp v a
  | fn (f : Nat) (cap : List NVal) (cap' : List AVal) : A2 (RP hp) cap cap' → RC hp (.fn f cap) (.fn f cap')
inductive RV (hp : NHeap) : NVal → AVal → Prop
  | c {v : NVal} {a : AVal} : RC hp v a → RV hp v a
  | agg (cs : List NVal) (ds : List AVal) : A2 (RC hp) cs ds → RV hp (.agg cs) (.agg ds)
inductive RT (hp : NHeap) : NVal → AVal → Prop
  | undef (a : AVal) : RT hp .undef a
  | v {v : NVal} {a : AVal} : RV hp v a → RT hp v a
  | tup (cs : List NVal) (ds : List AVal) : A2 (RV hp) cs ds → RT hp (.tup cs) (.tup ds)

theorem RP.mono {hp hp' : NHeap} (e : Evo hp hp') {v : NVal} {a : AVal} (h : RP hp v a) : RP hp' v a := by
  cases h with
  | ro h => exact .ro h
  | undef => exact .undef
  | ptr b i f => exact .ptr b i f
  | sl b o l k => exact .sl b o l k
  | slw b k n h => exact .slw b k n (e _ _ h)
theorem RC.mono {hp hp' : NHeap} (e : Evo hp hp') {v : NVal} {a : AVal} (h : RC hp v a) : RC hp' v a := by
  cases h with
  | p h => exact .p (h.mono e)
  | fn f c d h => exact .fn f c d (h.mono fun _ _ k => k.mono e)
theorem RV.mono {hp hp' : NHeap} (e : Evo hp hp') {v : NVal} {a : AVal} (h : RV hp v a) : RV hp' v a := by
  cases h with
  | c h => exact .c (h.mono e)
  | agg c d h => exact .agg c d (h.mono fun _ _ k => k.mono e)
theorem RT.mono {hp hp' : NHeap} (e : Evo hp hp') {v : NVal} {a : AVal} (h : RT hp v a) : RT hp' v a := by
  cases h with
  | undef a => exact .undef a
  | v h => exact .v (h.mono e)
  | tup c d h => exact .tup c d (h.mono fun _ _ k => k.mono e)

section
variable {hp : NHeap} {a : AVal}
theorem RI.c {v : NVal} (h : RI v a) : RC hp v a := .p (.ro h)
theorem RI.rv {v : NVal} (h : RI v a) : RV hp v a := .c (.p (.ro h))
theorem RI.rt {v : NVal} (h : RI v a) : RT hp v a := .v (.c (.p (.ro h)))
theorem RP.rt {v : NVal} (h : RP hp v a) : RT hp v a := .v (.c (.p h))
theorem RC.rt {v : NVal} (h : RC hp v a) : RT hp v a := .v (.c h)

/- what a value is that goes with one of these -/
theorem RT.bool_inv {b : Bool} (h : RT hp (.bool b) a) : a = .bool b := by
  cases h with | v h => cases h with | c h => cases h with | p h => cases h with | ro h => cases h; rfl
theorem RT.int_inv {k : IntKind} {n : Int} (h : RT hp (.int k n) a) : a = .int k n := by
  cases h with | v h => cases h with | c h => cases h with | p h => cases h with | ro h => cases h; rfl
theorem RT.str_inv {s : List UInt8} (h : RT hp (.str s) a) : a = .str s := by
  cases h with | v h => cases h with | c h => cases h with | p h => cases h with | ro h => cases h; rfl
theorem RT.nilp_inv (h : RT hp .nilp a) : a = .nilp := by
  cases h with | v h => cases h with | c h => cases h with | p h => cases h with | ro h => cases h; rfl
theorem RT.zsl_inv (h : RT hp .zsl a) : a = .zsl := by
  cases h with | v h => cases h with | c h => cases h with | p h => cases h with | ro h => cases h; rfl
theorem RT.nili_inv (h : RT hp .nili a) : a = .nili := by
  cases h with | v h => cases h with | c h => cases h with | p h => cases h with | ro h => cases h; rfl
theorem RT.ptr_inv {b i f : Nat} (h : RT hp (.ptr b i f) a) : a = .ptr b i f := by
  cases h with | v h => cases h with | c h => cases h with | p h => cases h with
    | ro h => cases h
    | ptr => rfl
theorem RT.sl_inv {b o l e : Nat} (h : RT hp (.sl b o l e) a) : a = .sl b o l e := by
  cases h with | v h => cases h with | c h => cases h with | p h => cases h with
    | ro h => cases h
    | sl => rfl
theorem RT.slw_inv {b e : Nat} (h : RT hp (.slw b e) a) : ∃ n, a = .sl b 0 n e ∧ lenAt hp b n := by
  cases h with | v h => cases h with | c h => cases h with | p h => cases h with
    | ro h => cases h
    | slw b e n h => exact ⟨n, rfl, h⟩
theorem RI.iptr_inv {cs : List NVal} {off : Nat} (h : RI (.iptr cs off) a) : ∃ ds, a = .iptr ds off ∧ A2 RI cs ds := by
  cases h with | iptr _ ds _ hl h => exact ⟨ds, rfl, hl, h⟩
theorem RT.iptr_inv {cs : List NVal} {off : Nat} (h : RT hp (.iptr cs off) a) : ∃ ds, a = .iptr ds off ∧ A2 RI cs ds := by
  cases h with | v h => cases h with | c h => cases h with | p h => cases h with | ro h => exact h.iptr_inv
theorem RT.lst_inv {t : Ty} {xs : List (den t)} (h : RT hp (.lst t xs) a) : RI (.lst t xs) a := by
  cases h with | v h => cases h with | c h => cases h with | p h => cases h with | ro h => exact h
theorem RT.rows_inv {e : Nat} {xs : List (List NVal)} (h : RT hp (.rows e xs) a) : RI (.rows e xs) a := by
  cases h with | v h => cases h with | c h => cases h with | p h => cases h with | ro h => exact h
theorem RC.fn_inv {f : Nat} {cap : List NVal} (h : RC hp (.fn f cap) a) : ∃ cap', a = .fn f cap' ∧ A2 (RP hp) cap cap' := by
  cases h with
  | p h => cases h with | ro h => cases h with | fn _ _ cap' hl h => exact ⟨cap', rfl, hl, fun j c d hc hd => .ro (h j c d hc hd)⟩
  | fn _ _ cap' h => exact ⟨cap', rfl, h⟩
theorem RT.fn_inv {f : Nat} {cap : List NVal} (h : RT hp (.fn f cap) a) : ∃ cap', a = .fn f cap' ∧ A2 (RP hp) cap cap' := by
  cases h with | v h => cases h with | c h => exact h.fn_inv
theorem RT.agg_inv {cs : List NVal} (h : RT hp (.agg cs) a) : ∃ ds, a = .agg ds ∧ A2 (RC hp) cs ds := by
  cases h with | v h => cases h with
    | c h => cases h with | p h => cases h with | ro h => cases h
    | agg _ ds h => exact ⟨ds, rfl, h⟩
theorem RT.tup_inv {cs : List NVal} (h : RT hp (.tup cs) a) : ∃ ds, a = .tup ds ∧ A2 (RV hp) cs ds := by
  cases h with
  | v h => cases h with | c h => cases h with | p h => cases h with | ro h => cases h
  | tup _ ds h => exact ⟨ds, rfl, h⟩

/-- one cell -/
theorem RT.cell {v : NVal} (h : RT hp v a) (hv : ncellB v = true) : RC hp v a := by
  cases h with
  | undef a => simp [ncellB] at hv
  | tup c d h => simp [ncellB] at hv
  | v h => cases h with
    | c h => exact h
    | agg c d h => simp [ncellB] at hv
theorem RC.cellB {v : NVal} (h : RC hp v a) (hv : ncellB v = true) : a.cellB = true := by
  cases h with
  | fn f c d h => rfl
  | p h => cases h with
    | ro h => cases h <;> rfl
    | undef => simp [ncellB] at hv
    | ptr => rfl
    | sl => rfl
    | slw => rfl
theorem RT.cells {v : NVal} (h : RT hp v a) (hv : (ncellsOf v).all ncellB = true) : A2 (RC hp) (ncellsOf v) (cellsOf a) ∧ (cellsOf a).all AVal.cellB = true := by
  have key : ∀ {cs : List NVal} {ds : List AVal}, A2 (RC hp) cs ds → cs.all ncellB = true → ds.all AVal.cellB = true := fun hh hc => hh.all_of (fun x y hxy hx => hxy.cellB hx) hc
  by_cases hva : ∃ cs, v = .agg cs
  · obtain ⟨cs, rfl⟩ := hva
    obtain ⟨ds, rfl, hd⟩ := h.agg_inv
    exact ⟨hd, key hd hv⟩
  · have e1 : ncellsOf v = [v] := by
      cases v <;> first | rfl | exact absurd ⟨_, rfl⟩ hva
    rw [e1] at hv ⊢
    have hv1 : ncellB v = true := by simpa using hv
    have hc := h.cell hv1
    have ha := hc.cellB hv1
    have e2 : cellsOf a = [a] := by
      cases a <;> first | rfl | simp [AVal.cellB] at ha
    rw [e2]
    exact ⟨.single hc, by simpa using ha⟩
theorem RI.imm {v : NVal} (h : RI v a) (hv : nimmP v = true) : a.immP = true := by
  cases h <;> first | rfl | simp [nimmP] at hv
theorem RP.imm {v : NVal} (h : RP hp v a) (hv : nimmP v = true) : RI v a ∧ a.immP = true := by
  cases h with
  | ro h => exact ⟨h, h.imm hv⟩
  | undef => simp [nimmP] at hv
  | ptr => simp [nimmP] at hv
  | sl => simp [nimmP] at hv
  | slw => simp [nimmP] at hv
theorem RC.imm {v : NVal} (h : RC hp v a) (hv : nimmP v = true) : RI v a ∧ a.immP = true := by
  cases h with
  | p h => exact h.imm hv
  | fn => simp [nimmP] at hv

/- operands -/
theorem ofC_rel (c : AVal) : ofC c = .undef ∨ RI (ofC c) c := by
  cases c <;> first | exact .inl rfl | exact .inr (.bool _) | exact .inr (.int _ _) | exact .inr (.str _) | exact .inr .nilp | exact .inr .zsl | exact .inr .nilfn | exact .inr .nili
theorem ofC_const {c : AVal} (h : constC c = true) : RI (ofC c) c := by
  cases c <;> first | (simp [constC] at h; done) | exact .bool _ | exact .int _ _ | exact .str _ | exact .nilp | exact .zsl | exact .nilfn | exact .nili
end


theorem nzero_rel {hp : NHeap} {zs : List AVal} {cs : List NVal} (h : nzero zs = some cs) : A2 RI cs zs := by
  unfold nzero at h
  split at h
  · rename_i hc
    cases h
    refine ⟨by simp, fun j c d hc' hd => ?_⟩
    simp only [List.getElem?_map, Option.map_eq_some_iff] at hc'
    obtain ⟨c', hc', rfl⟩ := hc'
    rw [hc'] at hd
    cases hd
    rw [List.all_eq_true] at hc
    exact ofC_const (hc _ (List.mem_of_getElem? hc'))
  · cases h
theorem ofC_rt {hp : NHeap} (c : AVal) : RT hp (ofC c) c := by
  rcases ofC_rel c with h | h
  · rw [h]; exact .undef _
  · exact h.rt
theorem nlook_rel {hp : NHeap} {tmps : List NVal} {atmps : List AVal} (h : A2 (RT hp) tmps atmps) (x : Opd) : RT hp (nlook tmps x) (AM.look atmps x) := by
  cases x with
  | tmp t => exact h.getD (.undef _) t
  | func f => exact .v (.c (.fn f [] [] .nil))
  | glob b =>
    simp only [nlook, AM.look]
    cases hb : globOf b globs with
    | none => exact .undef _
    | some cs =>
      simp only
      split
      · rename_i hc
        have hz : nzero cs = some (cs.map ofC) := by unfold nzero; rw [if_pos hc]
        have ha : A2 RI (cs.map ofC) cs := nzero_rel (hp := hp) hz
        exact (RI.iptr _ _ 0 ha.1 ha.2).rt
      · exact .undef _
  | const v =>
    simp only [nlook, AM.look]
    unfold ofV
    split
    · rename_i cs
      split
      · rename_i hc
        have hz : nzero cs = some (cs.map ofC) := by unfold nzero; rw [if_pos hc]
        exact .v (.agg _ _ ((nzero_rel (hp := hp) hz).mono fun _ _ h => h.c))
      · exact .undef _
    · exact ofC_rt _

end NM
end Go.Proofs.Ytfelhbeiegppgaa
