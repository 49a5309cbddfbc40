/-
  The statement UnitsRead about plain data, and its call.
-/
import Derived.Test.YtbhnojlcbgkcbaaDoorPUnitsD
import Derived.KernelRfl
set_option linter.unusedVariables false
set_option linter.unusedSimpArgs false
namespace Go.Proofs.YtbhnojlcbgkcbaaDoor
namespace unitsRead
open NM AM
theorem awake03 : f14 = some true := by kernel_rfl
theorem law_UnitsRead (s : List UInt8) : f6 s = some true := by
  unfold f6 F6
  simp only [awake03, Option.bind_some, Bool.not_true, cond_false]
  by_cases hl : 200 < (s.length : Int)
  · rw [decide_eq_true hl]
    rfl
  · rw [decide_eq_false hl]
    simp only [cond_false]
    have hs : s.length ≤ 200 := by omega
    have key : (∃ r, Small4 r ∧ s = txtU r) ∨ (f17 s = badU ∧ f19 s = badU) := by
      rcases p_Read s (by omega) with h | ⟨h1, h2⟩
      · exact .inl h
      · exact .inr ⟨h2, r_Read_no s hs h1⟩
    rcases key with ⟨r, hr, rfl⟩ | ⟨h1, h2⟩
    · rw [p_Read_txt r hr, r_Read_txt r hr]
      simp only [Option.bind_some, decide_true, Bool.and_self, Bool.not_true, cond_false, p_Text r hr, cond_true]
    · rw [h1, h2]
      rfl
theorem walk (x0 : ByteArray) (v0 : Value) (W : World) (hgl : GlobR W (Lt W.heap.size)) (h0 : V W (Lt W.heap.size) x0 v0) :
    Calls Tryd.prog 6 #[v0] W fun e w' => e = .returned (.bool true) ∧ Go.RowKit.Below W.heap.size W w' :=
  nlaw_walk NM.ok6 (x := (NEnc.f x0, ())) (law_UnitsRead _) (arg_cons x0 arg_nil) rfl (fun j a v ha hv => by
    match j with
    | 0 => simp at ha hv; subst ha; subst hv; exact h0.vr (fun _ h => h) _) hgl
end unitsRead
end Go.Proofs.YtbhnojlcbgkcbaaDoor
