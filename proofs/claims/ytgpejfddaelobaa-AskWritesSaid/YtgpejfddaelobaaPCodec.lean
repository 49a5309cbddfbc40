/-
  The codec, and the document's, in plain form.
-/
import Derived.Test.YtgpejfddaelobaaPPut
set_option linter.unusedVariables false
set_option linter.unusedSimpArgs false
namespace Go.Proofs.Ytgpejfddaelobaa
namespace NM
open AM

/- the document's bytes -/
theorem r_BytesN : ∀ (k : Nat) (n : Nat) (z : Int), k < n → k ≤ 8 → 0 ≤ z → z.toNat < 128 ^ (k + 1) → r113 n z = some (vb k z.toNat)
  | k, 0, z, h, _, _, _ => by omega
  | 0, n + 1, z, _, _, h0, h1 => by
    simp at h1
    show F113 (@LN LOOPS) (r113 n) z = _
    unfold F113
    simp only [show z < 128 by omega, decide_true, cond_true, u8_id h0 (by omega), vb]
    congr 2
    omega
  | k + 1, n + 1, z, hk, h8, h0, h1 => by
    have e9 : (128 : Nat) ^ (8 + 2) = 1180591620717411303424 := by decide
    have hle : (128 : Nat) ^ (k + 1 + 1) ≤ 128 ^ (8 + 1) := Nat.pow_le_pow_right (by omega) (by omega)
    rw [pow8] at hle
    show F113 (@LN LOOPS) (r113 n) z = _
    unfold F113
    by_cases h : z < 128
    · simp only [h, decide_true, cond_true, u8_id h0 (by omega), vb, if_pos (show z.toNat < 128 by omega)]
      congr 2
      omega
    · have hq : IntKind.wrap .i64 (Int.tdiv z 128) = z / 128 := by rw [tdiv_pos h0]; exact wi (by omega) (by omega)
      have ih := r_BytesN k n (z / 128) (by omega) (by omega) (by omega) (by rw [Nat.pow_succ] at h1; omega)
      have hl := vb_len9 k (z / 128).toNat
      have hd : IntKind.wrap .u8 (IntKind.wrap .i64 (128 + Int.tmod z 128)) = ((z.toNat % 128 + 128 : Nat) : Int) := by
        rw [tmod_pos h0, wi (by omega) (by omega), u8_id (by omega) (by omega)]
        omega
      simp only [h, decide_false, cond_false, hq, ih, Option.bind_some, small_ok' 1 (by decide) (show 1 + (vb k (z / 128).toNat).length ≤ 4294967295 by omega), cond_true, hd, vb, if_neg (show ¬ z.toNat < 128 by omega)]
      rw [show (z / 128).toNat = z.toNat / 128 by omega]
      rfl
theorem r_Bytes {z : Int} (h : inN z = true) : f113 z = some (bytesI z) := by
  simp only [inN, Bool.and_eq_true, decide_eq_true_eq] at h
  have := r_BytesN 8 RDEEP z (by decide) (Nat.le_refl _) h.1 (by rw [pow8]; omega)
  exact this
theorem r_Right5 (z : Int) : f34 z = some (inN z) := by
  unfold f34 F34 inN
  by_cases h1 : 0 ≤ z <;> by_cases h2 : z ≤ 281474976710656 <;> simp [h1, h2]

/-- a number within -/
def withinI (lo hi : Int) (bs : List Int) : Int × (List Int × Int) := if (numI bs).2.2 = 0 then (if (numI bs).1 < lo ∨ hi < (numI bs).1 then (0, [], 11) else numI bs) else (0, [], (numI bs).2.2)
/- the codec's reader -/
theorem p_fail (e : Int) (x : List Int × Int) : f110 e x = some (0, (((), (e, ())), ())) := rfl
/-- the digits behind the first -/
theorem p_digits (l : List Int) (hb : Bytes8 l) (hl : l.length ≤ 9007199254740992) (i : Nat) (hi : 1 ≤ i) (acc : Int) (h0 : 0 ≤ acc) (hacc : acc < 2 ^ (7 * i)) (hi8 : i ≤ 8) (hil : i ≤ l.length) :
    LN LOOPS (fun (s : ((Unit × (Int × (Int × Unit))) × (((List Int) × Int) × Unit))) next => l72_0 f110 next s.1.2.1 s.1.2.2.1 s.2.1) (((), acc, (i : Int), ()), ((l, 0), ())) = some ((numGo (8 - i) i acc (l.drop i)).1, (((numGo (8 - i) i acc (l.drop i)).2.1, (numGo (8 - i) i acc (l.drop i)).2.2), ())) := by
  have key := loop_eq (f := fun (s : ((Unit × (Int × (Int × Unit))) × (((List Int) × Int) × Unit))) next => l72_0 f110 next s.1.2.1 s.1.2.2.1 s.2.1)
    (fun s => ∃ (i : Nat) (acc : Int), s = (((), acc, (i : Int), ()), ((l, 0), ())) ∧ 1 ≤ i ∧ i ≤ 8 ∧ i ≤ l.length ∧ 0 ≤ acc ∧ acc < 2 ^ (7 * i)) (fun s => 8 - s.1.2.2.1.toNat)
    (fun s => some ((numGo (8 - s.1.2.2.1.toNat) s.1.2.2.1.toNat s.1.2.1 (l.drop s.1.2.2.1.toNat)).1, (((numGo (8 - s.1.2.2.1.toNat) s.1.2.2.1.toNat s.1.2.1 (l.drop s.1.2.2.1.toNat)).2.1, (numGo (8 - s.1.2.2.1.toNat) s.1.2.2.1.toNat s.1.2.1 (l.drop s.1.2.2.1.toNat)).2.2), ()))) ?_
    (s := (((), acc, (i : Int), ()), ((l, 0), ()))) ⟨i, acc, rfl, hi, hi8, hil, h0, hacc⟩ (by unfold LOOPS; show 8 - _ < _; omega)
  · rw [key]
    simp only [Int.toNat_natCast]
  · rintro s next ⟨i, acc, rfl, hi, hi8, hil, h0, hacc⟩ hnext
    simp only [Int.toNat_natCast]
    by_cases e8 : i = 8
    · subst e8
      simp only [l72_0]
      simp [p_fail, numGo]
    · have hne : ¬ ((i : Int) = 8) := by omega
      obtain ⟨f, hf⟩ : ∃ f, 8 - i = f + 1 := ⟨7 - i, by omega⟩
      by_cases el : i = l.length
      · subst el
        rw [hf, List.drop_of_length_le (by omega), numGo]
        simp only [l72_0, hne, decide_false, decide_true, cond_false, cond_true, p_fail, Option.bind_some]
      · have hnl : ¬ ((i : Int) = (l.length : Int)) := by omega
        have hlt : i < l.length := by omega
        obtain ⟨d, hd⟩ : ∃ d, l[i]? = some d := ⟨_, List.getElem?_eq_getElem hlt⟩
        have hdb := hb d (List.mem_of_getElem? hd)
        have hdrop : l.drop i = d :: l.drop (i + 1) := by
          rw [List.drop_eq_getElem_cons hlt]
          congr 1
          rw [List.getElem?_eq_getElem hlt] at hd
          exact Option.some.inj hd
        have hp1 : (2 : Int) ^ (7 * (i + 1)) = 128 * 2 ^ (7 * i) := pow7 i
        have hp2 : (2 : Int) ^ (7 * (i + 1)) ≤ 72057594037927936 := by
          have h1 : (2 : Nat) ^ (7 * (i + 1)) ≤ 2 ^ 56 := Nat.pow_le_pow_right (by omega) (by omega)
          have h2 : (2 : Nat) ^ 56 = 72057594037927936 := by decide
          have h3 : ((2 ^ (7 * (i + 1)) : Nat) : Int) = (2 : Int) ^ (7 * (i + 1)) := by simp
          omega
        have hp0 : (0 : Int) < 2 ^ (7 * i) := Int.pow_pos (by omega)
        have hp3 : (2 : Int) ^ (7 * i) ≤ 72057594037927936 := by omega
        have hdm : 0 ≤ d % 128 ∧ d % 128 ≤ 127 := by omega
        have hmul : d % 128 * 2 ^ (7 * i) ≤ 127 * 2 ^ (7 * i) := Int.mul_le_mul_of_nonneg_right hdm.2 (by omega)
        have hmul0 : 0 ≤ d % 128 * 2 ^ (7 * i) := Int.mul_nonneg hdm.1 (by omega)
        have hu : IntKind.wrap .i64 d = d := wi (by omega) (by omega)
        have h7 : IntKind.wrap .i64 (7 * (i : Int)) = 7 * (i : Int) := wi (by omega) (by omega)
        have hmin : min (Int.toNat (7 * (i : Int))) 64 = 7 * i := by omega
        have hv : IntKind.wrap .i64 (Int.tmod d 128 * 2 ^ (7 * i)) = d % 128 * 2 ^ (7 * i) := by rw [tmod_pos hdb.1]; exact wi (by omega) (by omega)
        have hs : IntKind.wrap .i64 (acc + d % 128 * 2 ^ (7 * i)) = acc + d % 128 * 2 ^ (7 * i) := wi (by omega) (by omega)
        have hi1 : IntKind.wrap .i64 ((i : Int) + 1) = ((i + 1 : Nat) : Int) := by rw [wi (by omega) (by omega)]; omega
        rw [hf, hdrop, numGo]
        simp only [l72_0, hne, hnl, decide_false, cond_false, show (0 : Int) ≤ (i : Int) by omega, decide_true, cond_true, Int.toNat_natCast, hd, Option.bind_some, hu, h7, show ¬ (7 * (i : Int) < 0) by omega, hmin, hv, hs, hi1, p_fail]
        by_cases h128 : 128 ≤ d
        · simp only [h128, decide_true, cond_true, if_true]
          rw [hnext _ ⟨i + 1, _, rfl, by omega, by omega, by omega, by omega, by omega⟩ (by simp only [Int.toNat_natCast]; omega)]
          simp only [Int.toNat_natCast]
          rw [show 8 - (i + 1) = f by omega]
        · simp only [h128, decide_false, cond_false, if_false, show (1 : Int) < ((i + 1 : Nat) : Int) by omega, decide_true, cond_true]
          by_cases hz : d = 0
          · subst hz
            have hi0 : 0 < i := by omega
            simp [hi0]
          · by_cases hbig : 281474976710656 < acc + d % 128 * 2 ^ (7 * i)
            · simp [hz, hbig]
            · simp [hz, hbig, show i + 1 ≤ l.length by omega, show (0 : Int) ≤ (i : Int) + 1 by omega]
theorem p_rNumber (l : List Int) (hb : Bytes8 l) (hl : l.length ≤ 9007199254740992) : f72 (l, 0) = some ((numI l).1, (((numI l).2.1, (numI l).2.2), ())) := by
  unfold f72 F72 numI
  cases l with
  | nil => simp [p_fail, numGo]
  | cons d r =>
    have hdb := hb d List.mem_cons_self
    have hu : IntKind.wrap .i64 d = d := wi (by omega) (by omega)
    have hmin : min (Int.toNat 0) 64 = 0 := by decide
    have hv : IntKind.wrap .i64 (Int.tmod d 128 * 2 ^ 0) = d % 128 := by rw [tmod_pos hdb.1, Int.pow_zero, Int.mul_one]; exact wi (by omega) (by omega)
    have hs : IntKind.wrap .i64 (0 + d % 128) = d % 128 := by rw [Int.zero_add]; exact wi (by omega) (by omega)
    have hn0 : ¬ ((0 : Int) = (((d :: r).length : Nat) : Int)) := by simp; omega
    simp only [decide_true, Bool.not_true, cond_false, hn0, decide_false, List.getElem?_cons_zero, Option.bind_some, hu, hmin, hv, hs, p_fail]
    rw [numGo]
    by_cases h128 : 128 ≤ d
    · simp only [h128, decide_true, cond_true, if_true]
      have := p_digits (d :: r) hb hl 1 (by omega) (d % 128) (by omega) (by simp; omega) (by omega) (by simp)
      simp only [List.drop_succ_cons, List.drop_zero] at this
      rw [show ((1 : Nat) : Int) = 1 from rfl] at this
      rw [this]
      simp
    · have hnb : ¬ (281474976710656 < d % 128) := by omega
      simp [h128, hnb]
theorem p_rNumber_bad {x : List Int × Int} (h : x.2 ≠ 0) : f72 x = some (0, (x, ())) := by
  unfold f72 F72
  simp [h]
theorem p_rWithin (lo hi : Int) (l : List Int) (hb : Bytes8 l) (hl : l.length ≤ 9007199254740992) : f71 lo hi (l, 0) = some ((withinI lo hi l).1, (((withinI lo hi l).2.1, (withinI lo hi l).2.2), ())) := by
  unfold f71 F71 withinI
  simp only [p_rNumber l hb hl, Option.bind_some, p_fail]
  by_cases h0 : (numI l).2.2 = 0
  · by_cases hlo : (numI l).1 < lo
    · simp [h0, hlo]
    · by_cases hhi : hi < (numI l).1
      · simp [h0, hlo, hhi]
      · simp [h0, hlo, hhi]
  · simp [h0, (numI_bad hb h0).1]
theorem p_rWithin_bad (lo hi : Int) {x : List Int × Int} (h : x.2 ≠ 0) : f71 lo hi x = some (0, (x, ())) := by
  unfold f71 F71
  simp [p_rNumber_bad h, h]
theorem p_rEnd (x : List Int × Int) : f73 x = some (if x.2 = 0 then (if x.1.length = 0 then 0 else 11) else x.2, (x, ())) := by
  unfold f73 F73 f82 F82 f111 F111
  by_cases h : x.2 = 0
  · by_cases hl : x.1.length = 0
    · simp [h, hl]
    · have : (0 : Int) < (x.1.length : Int) := by omega
      simp only [Option.bind_some, h, decide_true, Bool.not_true, cond_false, this, cond_true, if_true, hl, if_false]
  · simp [h]
theorem p_bClone (l : List Int) (hl : l.length ≤ 4294967295) : f109 l = some ((), (l, ())) := by
  unfold f109 F109
  cases l with
  | nil => rfl
  | cons x l =>
    have hs := small_ok' 1 (by decide) hl
    simp only [cloneF, List.isEmpty_cons, cond_false, Nat.zero_add, hs, cond_true, List.nil_append]
theorem p_rNew (l : List Int) (hl : l.length ≤ 4294967295) : f69 l = some ((), ((l, 0), ())) := by
  unfold f69 F69
  simp [p_bClone l hl]

end NM
end Go.Proofs.Ytgpejfddaelobaa
