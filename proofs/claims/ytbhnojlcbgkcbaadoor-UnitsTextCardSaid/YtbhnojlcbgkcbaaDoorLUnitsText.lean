/-
  The statement UnitsText about plain data, and its call.
-/
import Derived.Test.YtbhnojlcbgkcbaaDoorPUnitsC
import Derived.KernelRfl
set_option linter.unusedVariables false
set_option linter.unusedSimpArgs false
namespace Go.Proofs.YtbhnojlcbgkcbaaDoor
namespace unitsText
open NM AM
theorem awake03 : f14 = some true := by kernel_rfl
theorem p_Text_no (a : Res) (h : ¬ rightP a) : f15 a = some ([], 2, ()) := by
  unfold f15 F15
  rw [p_vRight, decide_eq_false h]
  rfl
theorem law_UnitsText (a : Res) : f5 a = some true := by
  unfold f5 F5
  simp only [awake03, r_Right, Option.bind_some, Bool.not_true, cond_false]
  by_cases h : rightP a
  · obtain ⟨r, rfl, hr⟩ := res_of a h
    rw [decide_eq_true h, p_Text r hr]
    simp only [Option.bind_some, Bool.not_true, cond_false, p_Read_txt r hr, r_Text r hr, decide_true, cond_true, Bool.and_self]
  · rw [decide_eq_false h, p_Text_no a h]
    rfl
theorem walk (x0 : Res) (v0 : Value) (W : World) (hgl : GlobR W (Lt W.heap.size)) (h0 : V W (Lt W.heap.size) x0 v0) :
    Calls Tryd.prog 5 #[v0] W fun e w' => e = .returned (.bool true) ∧ Go.RowKit.Below W.heap.size W w' :=
  nlaw_walk NM.ok5 (x := (NEnc.f x0, ())) (law_UnitsText _) (arg_cons x0 arg_nil) rfl (fun j a v ha hv => by
    match j with
    | 0 => simp at ha hv; subst ha; subst hv; exact h0.vr (fun _ h => h) _) hgl
end unitsText
end Go.Proofs.YtbhnojlcbgkcbaaDoor
