/-
  Vectors' operations as functions of the machine of plain data.
-/
import Derived.Test.YtgccppgpbnmaaaaDoorVecD
import Derived.Test.YtgccppgpbnmaaaaDoorNmX
set_option linter.unusedVariables false
namespace Go.Proofs.YtgccppgpbnmaaaaDoor
namespace NM
open AM Go.RowKit
@[reducible] def sigVec : Sig := ⟨.cons (.v .res) (.cons (.v .res) .nil), [], (.tup (.cons (.v .res) (.cons (.v (.int .i64)) .nil)), []), []⟩
theorem ri_int {k : IntKind} {n : Int} {a : AVal} (h : RI (.int k n) a) : a = .int k n := by cases h; rfl
theorem rc_int {hp : NHeap} {k : IntKind} {n : Int} {a : AVal} (h : RC hp (.int k n) a) : a = .int k n := (RT.v (RV.c h)).int_inv
theorem a2_ints {R : NVal → AVal → Prop} (hR : ∀ k n a, R (.int k n) a → a = .int k n) {x : Res} {ds : List AVal} (h : A2 R ((ops .res).cells x) ds) : ds = [.int .i64 x.cpu, .int .i64 x.mem, .int .i64 x.gpu, .int .i64 x.lic] := by
  have h : A2 R [.int .i64 x.cpu, .int .i64 x.mem, .int .i64 x.gpu, .int .i64 x.lic] ds := h
  obtain ⟨a, l, rfl, h1, h⟩ := h.cons_inv
  obtain ⟨b, l, rfl, h2, h⟩ := h.cons_inv
  obtain ⟨c, l, rfl, h3, h⟩ := h.cons_inv
  obtain ⟨d, l, rfl, h4, h⟩ := h.cons_inv
  rw [hR _ _ _ h1, hR _ _ _ h2, hR _ _ _ h3, hR _ _ _ h4, h.nil_inv]
theorem acells_res (x : Res) : acells .res x = [.int .i64 x.cpu, .int .i64 x.mem, .int .i64 x.gpu, .int .i64 x.lic] := a2_ints (fun _ _ _ h => ri_int h.ri) (acells_rel .res x)
theorem acells_int (n : Int) : acells (.int .i64) n = [.int .i64 n] := by
  have h : A2 RIc [.int .i64 n] (acells (.int .i64) n) := acells_rel (.int .i64) n
  obtain ⟨a, l, e, h1, h⟩ := h.cons_inv
  rw [e, ri_int h1.ri, h.nil_inv]
theorem NOk.vec {P : Program} {f : Nat} {g : List AVal → Heap → Option (AVal × Heap)} {G : Res → Res → Res × Int} (h : Ok P f g) (hg : ∀ x y, g [ints x, ints y] [] = some (resR (G x y), [])) :
    NOk P ⟨f, sigVec, fun x _ => some ((G x.1 x.2.1).1, ((G x.1 x.2.1).2, ()))⟩ := by
  refine ⟨h.1, rfl, fun x hh y hy args ahp ha hb => ?_⟩
  obtain ⟨x, z, u⟩ := x
  cases hy
  have e0 : ahp = [] := A2.nil_inv hb
  subst e0
  simp only [puts, put, putV, Ty.isAgg] at ha
  obtain ⟨a, as', rfl, h1, ha⟩ := ha.cons_inv
  obtain ⟨b, bs', rfl, h2, ha⟩ := ha.cons_inv
  rw [ha.nil_inv]
  obtain ⟨d1, rfl, k1⟩ := (RT.v h1).agg_inv
  obtain ⟨d2, rfl, k2⟩ := (RT.v h2).agg_inv
  rw [a2_ints (fun _ _ _ h => rc_int h) k1, a2_ints (fun _ _ _ h => rc_int h) k2]
  have hk := h.2 [ints x, ints z] [] _ _ (hg x z)
  generalize G x z = r at hk ⊢
  obtain ⟨r, n⟩ := r
  have e1 : yA sigVec.res sigVec.more (r, (n, ())) = resR (r, n) := by
    simp [yA, outA, can, cans, Ty.isAgg, acells_res, acells_int, resR, ints]
  have e2 : yB sigVec.res sigVec.more (r, (n, ())) = [] := rfl
  show CallOk P f [ints x, ints z] [] (yA sigVec.res sigVec.more (r, (n, ()))) (yB sigVec.res sigVec.more (r, (n, ())))
  rw [e1, e2]
  exact hk
end NM
end Go.Proofs.YtgccppgpbnmaaaaDoor
