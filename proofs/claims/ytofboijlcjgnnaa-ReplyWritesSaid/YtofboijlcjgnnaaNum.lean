import Derived.Test.YtofboijlcjgnnaaReader
set_option linter.unusedVariables false
namespace Go.Proofs.Ytofboijlcjgnnaa
open Go.RowKit

theorem ofNat_toNat {n : Nat} (h : n < 256) : (UInt8.ofNat n).toNat = n := by
  rw [UInt8.toNat_ofNat']; omega

/-- a number's bytes are read as it is -/
theorem numGo_vb : ∀ (g f i : Nat) (acc : Int) (m : Nat) (rest : List UInt8), g < f → m < 128 ^ (g + 1) → (i = 0 ∨ 0 < m) → acc + (m : Int) * 2 ^ (7 * i) ≤ 281474976710656 → numGo f i acc (vb g m ++ rest) = (acc + (m : Int) * 2 ^ (7 * i), rest, 0)
  | 0, 0, _, _, _, _, h, _, _, _ => by omega
  | 0, f + 1, i, acc, m, rest, _, hm, hz, hl => by
    simp at hm
    have e : (UInt8.ofNat m).toNat = m := ofNat_toNat (by omega)
    rw [vb, List.singleton_append, numGo, e, if_neg (by omega), show ((m : Int) % 128) = m by omega, if_neg (by omega)]
  | g + 1, 0, _, _, _, _, h, _, _, _ => by omega
  | g + 1, f + 1, i, acc, m, rest, hf, hm, hz, hl => by
    rw [vb]
    split
    · have e : (UInt8.ofNat m).toNat = m := ofNat_toNat (by omega)
      rw [List.singleton_append, numGo, e, if_neg (by omega), show ((m : Int) % 128) = m by omega, if_neg (by omega)]
    · have e : (UInt8.ofNat (m % 128 + 128)).toNat = m % 128 + 128 := ofNat_toNat (by omega)
      have hp : (2 : Int) ^ (7 * (i + 1)) = 128 * 2 ^ (7 * i) := by
        rw [show 7 * (i + 1) = 7 * i + 7 by omega, Int.pow_add]; omega
      have hs : acc + ((m % 128 + 128 : Nat) : Int) % 128 * 2 ^ (7 * i) + ((m / 128 : Nat) : Int) * 2 ^ (7 * (i + 1)) = acc + (m : Int) * 2 ^ (7 * i) := by
        rw [hp, show ((m % 128 + 128 : Nat) : Int) % 128 = ((m % 128 : Nat) : Int) by omega]
        have h1 : (m : Int) = ((m % 128 : Nat) : Int) + 128 * ((m / 128 : Nat) : Int) := by omega
        conv => rhs; rw [h1]
        rw [Int.add_mul, Int.add_assoc]
        congr 2
        rw [Int.mul_comm 128 (((m / 128 : Nat) : Int)), Int.mul_assoc]
      rw [List.cons_append, numGo, e, if_pos (by omega), numGo_vb g f (i + 1) _ (m / 128) rest (by omega) (by rw [Nat.pow_succ] at hm; omega) (.inr (by omega)) (by rw [hs]; exact hl), hs]

theorem num_vbytes {z : Int} (h0 : 0 ≤ z) (h : z ≤ 281474976710656) (rest : List UInt8) : num (vbytes z ++ rest) = (z, rest, 0) := by
  have hz : z.toNat < 128 ^ (7 + 1) := by
    have e : (128 : Nat) ^ (7 + 1) = 72057594037927936 := by decide
    omega
  unfold num vbytes
  rw [vb_more 7 _ hz, numGo_vb 7 8 0 0 z.toNat rest (by omega) hz (.inl rfl) (by simp; omega)]
  simp; omega

/-- what is read as a number is its bytes -/
theorem numGo_ok : ∀ (f i : Nat) (acc : Int) (bs : List UInt8), 0 ≤ acc → (numGo f i acc bs).2.2 = 0 →
    ∃ m : Nat, bs = vb f m ++ (numGo f i acc bs).2.1 ∧ (numGo f i acc bs).1 = acc + (m : Int) * 2 ^ (7 * i) ∧ (0 < i → 0 < m) ∧ (numGo f i acc bs).1 ≤ 281474976710656 ∧ m < 128 ^ f
  | 0, i, acc, bs, _, h => by simp [numGo] at h
  | f + 1, i, acc, [], _, h => by simp [numGo] at h
  | f + 1, i, acc, d :: r, ha, h => by
    have hp0 : (0 : Int) < 2 ^ (7 * i) := Int.pow_pos (by omega)
    have hd : 0 ≤ (d.toNat : Int) % 128 * 2 ^ (7 * i) := Int.mul_nonneg (by omega) (by omega)
    have hd2 : d.toNat < 256 := UInt8.toNat_lt d
    rw [numGo] at h ⊢
    split at h
    · rename_i hbig
      rw [if_pos hbig]
      obtain ⟨m, hr, hn, hpos, hle, hm⟩ := numGo_ok f (i + 1) _ r (by omega) h
      refine ⟨d.toNat % 128 + 128 * m, ?_, ?_, fun _ => by have := hpos (by omega); omega, hle, ?_⟩
      · have hm0 := hpos (by omega)
        rw [vb, if_neg (by omega), show (d.toNat % 128 + 128 * m) % 128 + 128 = d.toNat by omega, show (d.toNat % 128 + 128 * m) / 128 = m by omega, List.cons_append, ← hr]
        simp
      · rw [hn]
        have hp : (2 : Int) ^ (7 * (i + 1)) = 128 * 2 ^ (7 * i) := by
          rw [show 7 * (i + 1) = 7 * i + 7 by omega, Int.pow_add]; omega
        rw [hp, show ((d.toNat % 128 + 128 * m : Nat) : Int) = (d.toNat : Int) % 128 + 128 * (m : Int) by omega, Int.add_mul, Int.add_assoc]
        congr 2
        rw [Int.mul_comm 128 (m : Int), Int.mul_assoc]
      · rw [Nat.pow_succ]; omega
    · rename_i hsm
      rw [if_neg hsm]
      split at h
      · simp at h
      · rename_i hbad
        rw [if_neg hbad]
        refine ⟨d.toNat, ?_, ?_, fun hi => by omega, by show acc + _ ≤ _; omega, ?_⟩
        · rw [vb, if_pos (by omega)]; simp
        · show acc + _ = _; rw [show (d.toNat : Int) % 128 = d.toNat by omega]
        · have : 0 < 128 ^ f := Nat.pow_pos (by omega)
          rw [Nat.pow_succ]; omega
theorem numGo_bad : ∀ (f i : Nat) (acc : Int) (bs : List UInt8), (numGo f i acc bs).2.2 ≠ 0 → (numGo f i acc bs).2.1 = [] ∧ (numGo f i acc bs).1 = 0
  | 0, i, acc, bs, _ => by simp [numGo]
  | f + 1, i, acc, [], h => by simp [numGo]
  | f + 1, i, acc, d :: r, h => by
    rw [numGo] at h ⊢
    split at h
    · rename_i hb; rw [if_pos hb]; exact numGo_bad f _ _ r h
    · rename_i hb; rw [if_neg hb]
      split at h
      · rename_i hb; rw [if_pos hb]; simp
      · simp at h
theorem num_ok {bs : List UInt8} (h : (num bs).2.2 = 0) : bs = vbytes (num bs).1 ++ (num bs).2.1 ∧ 0 ≤ (num bs).1 ∧ (num bs).1 ≤ 281474976710656 := by
  obtain ⟨m, hr, hn, _, hle, hm⟩ := numGo_ok 8 0 0 bs (by omega) h
  unfold num vbytes
  have e : (numGo 8 0 0 bs).1 = (m : Int) := by rw [hn]; simp
  refine ⟨?_, by rw [e]; omega, hle⟩
  rw [e, Int.toNat_natCast]
  exact hr
theorem num_bad {bs : List UInt8} (h : (num bs).2.2 ≠ 0) : (num bs).2.1 = [] ∧ (num bs).1 = 0 := numGo_bad 8 0 0 bs h
theorem vbytes_pos (z : Int) : 0 < (vbytes z).length := by
  unfold vbytes; rw [vb]; split <;> simp
theorem num_less {bs : List UInt8} (h : 0 < bs.length) : (num bs).2.1.length < bs.length := by
  by_cases h0 : (num bs).2.2 = 0
  · have e := congrArg List.length (num_ok h0).1
    have := vbytes_pos (num bs).1
    simp at e
    omega
  · rw [(num_bad h0).1]; simpa using h
theorem num_range {bs : List UInt8} : 0 ≤ (num bs).1 ∧ (num bs).1 ≤ 281474976710656 := by
  by_cases h0 : (num bs).2.2 = 0
  · exact (num_ok h0).2
  · rw [(num_bad h0).2]; omega

end Go.Proofs.Ytofboijlcjgnnaa
