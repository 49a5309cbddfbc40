/-
  Functions of the library that give plain values, as functions of the machine of plain data; where a byte stands in a string.
-/
import Derived.Test.YtbhnojlcbgkcbaaDoorNmX
import Derived.Test.YtbhnojlcbgkcbaaDoorShelf
set_option linter.unusedVariables false
namespace Go.Proofs.YtbhnojlcbgkcbaaDoor
namespace NM
open AM Go.RowKit

section
variable {μ : Nat → AM.Loc} {w w' : World} {S : Nat → Prop} {hp : Heap}
theorem HRep.later (r : HRep μ w S hp) (h : Below w.heap.size w w') : HRep μ w' S hp ∧ Ext μ S w μ S w' := by
  refine ⟨⟨fun b k hb => ?_, r.gone, r.free, r.inj, r.apart, fun m hm => Nat.lt_of_lt_of_le (r.inS m hm) h.size, r.gl.mono (fun m hm => h.block m (r.inS m hm)) (fun _ h => h)⟩, ⟨h.os, h.tape, h.output, h.size, fun m hm _ => h.block m hm, fun _ h => h, fun m hm => .inl hm, fun m hm => .inl hm⟩⟩
  exact (r.live b k hb).mono (Up.refl _) (fun m hm => h.block m (r.inS m hm)) (fun m hm => hm) (fun m n e he => h.block m (r.lt ⟨b, n, e, he⟩))
end
theorem arr1 {cargs : Array Value} (h : cargs.size = 1) : ∃ a, cargs = #[a] := by
  refine ⟨cargs[0], ?_⟩
  apply Array.ext
  · simp [h]
  · intro i h1 h2
    have : i = 0 := by omega
    subst this; simp
theorem arr2 {cargs : Array Value} (h : cargs.size = 2) : ∃ a b, cargs = #[a, b] := by
  refine ⟨cargs[0], cargs[1], ?_⟩
  apply Array.ext
  · simp [h]
  · intro i h1 h2
    have : i = 0 ∨ i = 1 := by omega
    rcases this with rfl | rfl <;> simp

theorem ya_int (k : IntKind) (n : Int) : yA (.v (.int k), []) [] n = .int k n := by
  obtain ⟨c, d, h1, h2, h3, h4⟩ := one_cells (t := .int k) rfl n
  simp only [yA, outA, can, Ty.isAgg, h2]
  have : c = .int k n := by cases h1; rfl
  subst this
  cases h3
  rfl
theorem ya_str (s : List UInt8) : yA (.v .str, []) [] s = .str s := by
  obtain ⟨c, d, h1, h2, h3, h4⟩ := one_cells (t := .str) rfl s
  simp only [yA, outA, can, Ty.isAgg, h2]
  have : c = .str s := by cases h1; rfl
  subst this
  cases h3
  rfl
@[reducible] def sigS2I : Sig := ⟨.cons (.v .str) (.cons (.v .str) .nil), [], (.v (.int .i64), []), []⟩
/-- where a byte stands first; -1: nowhere -/
def strIdx (s sep : List UInt8) : Option Int := match sep with
  | [c] => some (Lib.indexByte s c)
  | _ => none
theorem strIdx_inv {s sep : List UInt8} {y : Int} (h : strIdx s sep = some y) : ∃ c, sep = [c] ∧ y = Lib.indexByte s c := by
  unfold strIdx at h
  split at h
  · rename_i c; cases h; exact ⟨c, rfl, rfl⟩
  · cases h
theorem NOk.index {P : Program} {f : Nat} (hent : AM.Enters P f) (h : ∀ (s : ByteArray) (c : UInt8) (w : World), Calls P f #[.string s, .string ⟨#[c]⟩] w fun e w' => e = .returned (.int .i64 (Lib.indexByte s.data.toList c)) ∧ w' = w) :
    NOk P ⟨f, sigS2I, fun x _ => strIdx x.1 x.2.1⟩ := by
  refine ⟨hent, rfl, fun x hh y hy args ahp ha hb => ?_⟩
  obtain ⟨s, sep, u⟩ := x
  have e0 : ahp = [] := A2.nil_inv hb
  subst e0
  simp only [puts, put, putV, Ty.isAgg] at ha
  obtain ⟨a, as', rfl, h1, ha⟩ := ha.cons_inv
  obtain ⟨b, bs', rfl, h2, ha⟩ := ha.cons_inv
  rw [ha.nil_inv]
  have ha1 : a = .str s := (RT.v h1).str_inv
  have hb1 : b = .str sep := (RT.v h2).str_inv
  subst ha1; subst hb1
  have hy : strIdx s sep = some y := hy
  obtain ⟨c, rfl, rfl⟩ := strIdx_inv hy
  · skip
    intro μ w S cargs r0 hl hv
    obtain ⟨v0, v1, rfl⟩ := arr2 (by simpa using hl.symm)
    obtain ⟨s0, rfl, e1⟩ := (hv 0 _ v0 rfl rfl).str_inv
    obtain ⟨s2, rfl, e2⟩ := (hv 1 _ v1 rfl rfl).str_inv
    have hs2 : s2 = ⟨#[c]⟩ := by
      obtain ⟨d⟩ := s2
      have : d.toList = [c] := e2
      have : d = #[c] := by apply Array.toList_inj.1; simpa using this
      rw [this]
    subst hs2
    subst e1
    refine (h s0 c w).mono fun e w' ⟨he, hw⟩ => ?_
    subst hw
    exact ⟨_, μ, S, he, r0, Ext.refl _ _ _, (ya_int .i64 _).symm ▸ .imm _ _ (.int _ _), Nat.le_refl _, fun b hb _ => .inl rfl⟩
theorem ext43 : NOk Tryd.prog ⟨43, sigS2I, fun x _ => strIdx x.1 x.2.1⟩ :=
  NOk.index (P := Tryd.prog) ⟨_, Tryd.func43, rfl, rfl⟩ Tryd.stringslite_Index_one
end NM
end Go.Proofs.YtbhnojlcbgkcbaaDoor
