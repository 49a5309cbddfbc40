/-
  Unsigned numbers of 64 bits as arguments.
-/
import Derived.Test.YtofboijlcjgnnaaNmR
set_option linter.unusedVariables false
set_option linter.unusedSimpArgs false
namespace Go.Proofs.Ytofboijlcjgnnaa
instance : Lay UInt64 where
  n := 1
  agg := false
  pos := Nat.one_pos
  R _ _ x cs := cs = [.int .u64 (x.toNat : Int)]
  size h := by rw [h]; rfl
  one h u hu := by rw [h] at hu; simp at hu; subst hu; rfl
  keep _ h := h
  mono _ h := h
theorem rd_u64 {P : Program} {t : TypeId} (ht : P.underlying t = some (.int .u64)) : Rd P t UInt64 := fun h => by
  obtain ⟨n, rfl, _, hw⟩ := DataW.trod_int ht h
  have hb : 0 ≤ n ∧ n ≤ 18446744073709551615 := by simpa [Lit.wf, IntKind.min, IntKind.max, IntKind.signed, IntKind.bits] using hw
  refine ⟨UInt64.ofNat n.toNat, ?_⟩
  show _ = [Value.int .u64 ((UInt64.ofNat n.toNat).toNat : Int)]
  rw [UInt64.toNat_ofNat']
  congr 2
  omega
instance : Flat UInt64 := ⟨fun h => h⟩
namespace AM
instance : Enc UInt64 where
  cells x := [.int .u64 (x.toNat : Int)]
  ok h _ := by
    have h : _ = _ := h
    rw [h]; exact one_cell (.int _ _)
end AM
namespace NM
open AM
instance : Rng UInt64 := ⟨fun _ => True, fun _ => trivial⟩
instance : NEnc UInt64 (.int .u64) := ⟨fun x => (x.toNat : Int), fun x => .single (.int _ _), rfl, rfl⟩
end NM
end Go.Proofs.Ytofboijlcjgnnaa
