/-
  Vectors so many times as functions of the machine of plain data.
-/
import Derived.Test.YtgccppgpbnmaaaaDoorVecT
import Derived.Test.YtgccppgpbnmaaaaDoorNVecD
set_option linter.unusedVariables false
namespace Go.Proofs.YtgccppgpbnmaaaaDoor
namespace NM
open AM Go.RowKit
@[reducible] def sigTimes : Sig := ⟨.cons (.v .res) (.cons (.v (.int .i64)) .nil), [], (.tup (.cons (.v .res) (.cons (.v (.int .i64)) .nil)), []), []⟩
theorem NOk.times {P : Program} {f : Nat} {g : List AVal → Heap → Option (AVal × Heap)} {G : Res → Int → Res × Int} (h : Ok P f g) (hg : ∀ x n, g [ints x, .int .i64 n] [] = some (resR (G x n), [])) :
    NOk P ⟨f, sigTimes, fun x _ => some ((G x.1 x.2.1).1, ((G x.1 x.2.1).2, ()))⟩ := by
  refine ⟨h.1, rfl, fun x hh y hy args ahp ha hb => ?_⟩
  obtain ⟨x, z, u⟩ := x
  cases hy
  have e0 : ahp = [] := A2.nil_inv hb
  subst e0
  simp only [puts, put, putV, Ty.isAgg] at ha
  obtain ⟨a, as', rfl, h1, ha⟩ := ha.cons_inv
  obtain ⟨b, bs', rfl, h2, ha⟩ := ha.cons_inv
  rw [ha.nil_inv]
  obtain ⟨d1, rfl, k1⟩ := (RT.v h1).agg_inv
  rw [a2_ints (fun _ _ _ h => rc_int h) k1]
  have hb2 : b = .int .i64 z := (RT.v h2).int_inv
  subst hb2
  have hk := h.2 [ints x, .int .i64 z] [] _ _ (hg x z)
  generalize G x z = r at hk ⊢
  obtain ⟨r, n⟩ := r
  have e1 : yA sigTimes.res sigTimes.more (r, (n, ())) = resR (r, n) := by
    simp [yA, outA, can, cans, Ty.isAgg, acells_res, acells_int, resR, ints]
  have e2 : yB sigTimes.res sigTimes.more (r, (n, ())) = [] := rfl
  show CallOk P f [ints x, .int .i64 z] [] (yA sigTimes.res sigTimes.more (r, (n, ()))) (yB sigTimes.res sigTimes.more (r, (n, ())))
  rw [e1, e2]
  exact hk
def vecTimes (x : Res) (n : Int) : Option (Res × (Int × Unit)) := some ((timesG x n).1, ((timesG x n).2, ()))
theorem ext111 : NOk Tryd.prog ⟨111, sigTimes, fun x _ => vecTimes x.1 x.2.1⟩ := NOk.times (G := timesG) ok_111 g_times
end NM
end Go.Proofs.YtgccppgpbnmaaaaDoor
