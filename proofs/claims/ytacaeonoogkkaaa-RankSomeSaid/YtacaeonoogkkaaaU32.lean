/-
  Unsigned numbers of 32 bits as arguments.
-/
import Derived.Test.YtacaeonoogkkaaaNmR
set_option linter.unusedVariables false
set_option linter.unusedSimpArgs false
namespace Go.Proofs.Ytacaeonoogkkaaa
instance : Lay UInt32 where
  n := 1
  agg := false
  pos := Nat.one_pos
  R _ _ x cs := cs = [.int .u32 (x.toNat : Int)]
  size h := by rw [h]; rfl
  one h u hu := by rw [h] at hu; simp at hu; subst hu; rfl
  keep _ h := h
  mono _ h := h
theorem rd_u32 {P : Program} {t : TypeId} (ht : P.underlying t = some (.int .u32)) : Rd P t UInt32 := fun h => by
  obtain ⟨n, rfl, _, hw⟩ := DataW.trod_int ht h
  have hb : 0 ≤ n ∧ n ≤ 4294967295 := by simpa [Lit.wf, IntKind.min, IntKind.max, IntKind.signed, IntKind.bits] using hw
  refine ⟨UInt32.ofNat n.toNat, ?_⟩
  show _ = [Value.int .u32 ((UInt32.ofNat n.toNat).toNat : Int)]
  rw [UInt32.toNat_ofNat']
  congr 2
  omega
instance : Flat UInt32 := ⟨fun h => h⟩
namespace AM
instance : Enc UInt32 where
  cells x := [.int .u32 (x.toNat : Int)]
  ok h _ := by
    have h : _ = _ := h
    rw [h]; exact one_cell (.int _ _)
end AM
namespace NM
open AM
instance : Rng UInt32 := ⟨fun _ => True, fun _ => trivial⟩
instance : NEnc UInt32 (.int .u32) := ⟨fun x => (x.toNat : Int), fun x => .single (.int _ _), rfl, rfl⟩
end NM
end Go.Proofs.Ytacaeonoogkkaaa
