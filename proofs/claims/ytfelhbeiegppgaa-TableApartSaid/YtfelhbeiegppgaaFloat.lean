/-
  Whole numbers as floating-point numbers of 64 bits: sums and differences are exact while they are small.
-/
import GoSem.Core.Float
set_option linter.unusedVariables false
set_option linter.unusedSimpArgs false
namespace Go.Proofs.Ytfelhbeiegppgaa
open Ieee
namespace Fl

theorem log_add (q d : Nat) (hq : 0 < q) : (q * 2 ^ d).log2 = q.log2 + d := by
  have h1 : 2 ^ q.log2 ≤ q := Nat.log2_self_le (by omega)
  have h2 : q < 2 ^ (q.log2 + 1) := Nat.lt_log2_self
  have hp : 0 < 2 ^ d := Nat.pow_pos (by omega)
  refine (Nat.log2_eq_iff (Nat.ne_of_gt (Nat.mul_pos hq hp))).2 ⟨?_, ?_⟩
  · rw [Nat.pow_add]; exact Nat.mul_le_mul_right _ h1
  · rw [show q.log2 + d + 1 = q.log2 + 1 + d by omega, Nat.pow_add]
    exact Nat.mul_lt_mul_of_pos_right h2 hp
/-- what is dropped is nothing -/
theorem cut_exact (way : Toward) (neg : Bool) (a drop : Nat) (ha : 0 < a) : way.cut neg (a * 2 ^ drop) drop = a := by
  have hl : drop ≤ (a * 2 ^ drop).log2 + 2 := by rw [log_add a drop ha]; omega
  have hp : 0 < 2 ^ drop := Nat.pow_pos (by omega)
  unfold Toward.cut
  simp only [Nat.min_eq_left hl, Nat.shiftLeft_eq, Nat.one_mul, Nat.mul_div_cancel _ hp, Nat.mul_mod_left]
  have h0 : ¬ (2 ^ drop < 2 * 0) := by omega
  have h1 : (2 ^ drop == 2 * 0) = false := by rw [beq_eq_false_iff_ne]; omega
  cases way <;> simp [h0, h1, hp]
/-- the rung of a whole number -/
def rung (q : Nat) : Nat := (q.log2 + 1022) * 4503599627370496 + q * 2 ^ (52 - q.log2)
theorem nearest_exact (neg : Bool) (q d : Nat) (hq : 0 < q) (hl : q.log2 ≤ 52) : Format.nearest double neg (q * 2 ^ d) (-(d : Int)) = double.word neg (rung q) := by
  have hp : 0 < 2 ^ d := Nat.pow_pos (by omega)
  have hm : q * 2 ^ d ≠ 0 := Nat.ne_of_gt (Nat.mul_pos hq hp)
  unfold Format.nearest
  rw [if_neg hm, log_add q d hq]
  have hlp : double.leastPlace = -1074 := by decide
  have hfb : (double.fractionBits : Int) = 52 := rfl
  rw [hlp, hfb]
  have hmax : max (-(d : Int) + ((q.log2 + d : Nat) : Int) - 52) (-1074) = (q.log2 : Int) - 52 := by omega
  simp only [hmax]
  have hinf : rung q ≤ double.infRung := by
    have h2 : q < 2 ^ (q.log2 + 1) := Nat.lt_log2_self
    have h3 : q * 2 ^ (52 - q.log2) < 9007199254740992 := by
      have : 2 ^ (q.log2 + 1) * 2 ^ (52 - q.log2) = 9007199254740992 := by rw [← Nat.pow_add, show q.log2 + 1 + (52 - q.log2) = 53 by omega]
      rw [← this]; exact Nat.mul_lt_mul_of_pos_right h2 (Nat.pow_pos (by omega))
    have h4 : double.infRung = 2047 * 4503599627370496 := by decide
    rw [h4]
    unfold rung
    have h5 : (q.log2 + 1022) * 4503599627370496 ≤ 1074 * 4503599627370496 := Nat.mul_le_mul_right _ (by omega)
    exact Nat.le_trans (Nat.add_le_add h5 (Nat.le_of_lt h3)) (by decide)
  have hk : Toward.even.cut neg ((q * 2 ^ d) <<< (-(d : Int) - ((q.log2 : Int) - 52)).toNat) (((q.log2 : Int) - 52) - -(d : Int)).toNat = q * 2 ^ (52 - q.log2) := by
    rw [Nat.shiftLeft_eq]
    rcases Nat.lt_or_ge (52 - q.log2) d with h | h
    · rw [show (-(d : Int) - ((q.log2 : Int) - 52)).toNat = 0 by omega, show (((q.log2 : Int) - 52) - -(d : Int)).toNat = d - (52 - q.log2) by omega, Nat.pow_zero, Nat.mul_one]
      have : q * 2 ^ d = q * 2 ^ (52 - q.log2) * 2 ^ (d - (52 - q.log2)) := by
        rw [Nat.mul_assoc, ← Nat.pow_add]; congr 2; omega
      rw [this]
      exact cut_exact _ _ _ _ (Nat.mul_pos hq (Nat.pow_pos (by omega)))
    · rw [show (-(d : Int) - ((q.log2 : Int) - 52)).toNat = 52 - q.log2 - d by omega, show (((q.log2 : Int) - 52) - -(d : Int)).toNat = 0 by omega, Nat.mul_assoc, ← Nat.pow_add, show d + (52 - q.log2 - d) = 52 - q.log2 by omega]
      have := cut_exact .even neg (q * 2 ^ (52 - q.log2)) 0 (Nat.mul_pos hq (Nat.pow_pos (by omega)))
      rw [Nat.pow_zero, Nat.mul_one] at this
      exact this
  rw [hk]
  have hb : double.binade = 4503599627370496 := by decide
  rw [hb, show (((q.log2 : Int) - 52) - (-1074)).toNat = q.log2 + 1022 by omega]
  rw [show (q.log2 + 1022) * 4503599627370496 + q * 2 ^ (52 - q.log2) = rung q from rfl, Nat.min_eq_left hinf]
/-- a whole number's word -/
def bits (n : Int) : Nat := FloatKind.f64.nearest n
theorem bits_word (n : Int) (h0 : n ≠ 0) (h : n.natAbs.log2 ≤ 52) : bits n = double.word (decide (n < 0)) (rung n.natAbs) := by
  have := nearest_exact (decide (n < 0)) n.natAbs 0 (by omega) h
  rw [Nat.pow_zero, Nat.mul_one] at this
  exact this
theorem bits_zero : bits 0 = 0 := by decide
theorem log_small {q : Nat} (h : q < 9007199254740992) : q.log2 ≤ 52 := by
  rcases Nat.eq_zero_or_pos q with rfl | h0
  · decide
  · have h' : q < 2 ^ 53 := Nat.lt_of_lt_of_le h (by decide)
    have := (Nat.log2_lt (by omega)).2 h'
    omega
theorem rung_lt (q : Nat) (hq : 0 < q) (hl : q.log2 ≤ 52) : rung q = (q.log2 + 1023) * 4503599627370496 + (q * 2 ^ (52 - q.log2) - 4503599627370496) ∧ 4503599627370496 ≤ q * 2 ^ (52 - q.log2) ∧ q * 2 ^ (52 - q.log2) < 9007199254740992 := by
  have h1 : 2 ^ q.log2 ≤ q := Nat.log2_self_le (by omega)
  have h2 : q < 2 ^ (q.log2 + 1) := Nat.lt_log2_self
  have h3 : q * 2 ^ (52 - q.log2) < 9007199254740992 := by
    have : 2 ^ (q.log2 + 1) * 2 ^ (52 - q.log2) = 9007199254740992 := by rw [← Nat.pow_add, show q.log2 + 1 + (52 - q.log2) = 53 by omega]
    rw [← this]; exact Nat.mul_lt_mul_of_pos_right h2 (Nat.pow_pos (by omega))
  have h4 : 4503599627370496 ≤ q * 2 ^ (52 - q.log2) := by
    have : 2 ^ q.log2 * 2 ^ (52 - q.log2) = 4503599627370496 := by rw [← Nat.pow_add, show q.log2 + (52 - q.log2) = 52 by omega]
    rw [← this]; exact Nat.mul_le_mul_right _ h1
  refine ⟨?_, h4, h3⟩
  unfold rung
  generalize q * 2 ^ (52 - q.log2) = X at *
  omega
theorem read_word (neg : Bool) (q : Nat) (hq : 0 < q) (hl : q.log2 ≤ 52) : double.read (double.word neg (rung q)) = .number neg (q * 2 ^ (52 - q.log2)) ((q.log2 : Int) - 52) := by
  obtain ⟨h1, h2, h3⟩ := rung_lt q hq hl
  generalize hX : q * 2 ^ (52 - q.log2) = X at *
  have hsw : double.signWeight = 9223372036854775808 := by decide
  have hr : rung q < 9223372036854775808 := by
    rw [h1]
    have : (q.log2 + 1023) * 4503599627370496 ≤ 1075 * 4503599627370496 := Nat.mul_le_mul_right _ (by omega)
    omega
  have hb : double.binade = 4503599627370496 := by decide
  have hi : double.infRung = 2047 * 4503599627370496 := by decide
  have hw1 : (double.word neg (rung q) / 9223372036854775808 % 2 == 1) = neg := by
    unfold Format.word
    rw [hsw]
    cases neg with
    | true => rw [if_pos rfl, show (9223372036854775808 + rung q) / 9223372036854775808 = 1 by omega]; rfl
    | false =>
      rw [if_neg (by simp), show rung q / 9223372036854775808 = 0 by omega]; rfl
  have hw2 : double.word neg (rung q) % 9223372036854775808 = rung q := by
    unfold Format.word
    rw [hsw]
    cases neg with
    | true => rw [if_pos rfl]; omega
    | false => rw [if_neg (by simp)]; omega
  unfold Format.read
  rw [hsw, hw1, hw2, hb, hi]
  have hge : ¬ (rung q < 4503599627370496) := by
    rw [h1]
    have : 1023 * 4503599627370496 ≤ (q.log2 + 1023) * 4503599627370496 := Nat.mul_le_mul_right _ (by omega)
    omega
  have hlt : rung q < 2047 * 4503599627370496 := by
    rw [h1]
    have : (q.log2 + 1023) * 4503599627370496 ≤ 1075 * 4503599627370496 := Nat.mul_le_mul_right _ (by omega)
    omega
  simp only [hge, hlt, if_false, if_true]
  have hdiv : rung q / 4503599627370496 = q.log2 + 1023 := by
    rw [h1, Nat.mul_comm, Nat.mul_add_div (by decide), Nat.div_eq_of_lt (by omega), Nat.add_zero]
  have hmod : rung q % 4503599627370496 = X - 4503599627370496 := by
    rw [h1, Nat.mul_comm, Nat.mul_add_mod, Nat.mod_eq_of_lt (by omega)]
  rw [hdiv, hmod]
  have hlp : double.leastPlace = -1074 := by decide
  rw [hlp]
  have e1 : 4503599627370496 + (X - 4503599627370496) = X := Nat.add_sub_cancel' h2
  have e2 : (-1074 : Int) + ((q.log2 + 1023 - 1 : Nat) : Int) = (q.log2 : Int) - 52 := by
    clear h1 h2 h3 hr hb hi hw1 hw2 hge hlt hdiv hmod e1
    omega
  rw [e1, e2]

/-- the word of a whole number stands for it -/
theorem read_bits (n : Int) (h0 : n ≠ 0) (h : n.natAbs.log2 ≤ 52) : FloatKind.f64.decode (bits n) = .number (decide (n < 0)) (n.natAbs * 2 ^ (52 - n.natAbs.log2)) ((n.natAbs.log2 : Int) - 52) := by
  rw [bits_word n h0 h]
  exact read_word _ _ (by omega) h
theorem read_zero : FloatKind.f64.decode 0 = .number false 0 (-1074) := by decide
theorem to_int (n : Int) (h : n.natAbs.log2 ≤ 52) : (FloatKind.f64.decode (bits n)).toInt .zero = some n := by
  by_cases h0 : n = 0
  · subst h0; decide
  · rw [read_bits n h0 h]
    unfold Datum.toInt Datum.integral
    simp only
    rw [show (((n.natAbs.log2 : Int) - 52)).toNat = 0 by omega, show (-((n.natAbs.log2 : Int) - 52)).toNat = 52 - n.natAbs.log2 by omega, Nat.shiftLeft_eq, Nat.pow_zero, Nat.mul_one, cut_exact _ _ _ _ (by omega)]
    unfold signed
    by_cases hn : n < 0
    · simp [hn]; omega
    · simp [hn]; omega
/-- what a word stands for, as so many parts -/
theorem signed_val (s : Bool) (m up : Nat) : signed s m up = (if s = true then -1 else 1) * ((m * 2 ^ up : Nat) : Int) := by
  unfold signed
  rw [Nat.shiftLeft_eq]
  cases s <;> simp
/-- numbers that are not negative: what they stand for -/
structure Is (d : Datum) (n : Nat) where
  mag : Nat
  e : Nat
  d_eq : d = .number false mag (-(e : Int))
  val : mag = n * 2 ^ e
theorem is_bits (n : Nat) (h : n.log2 ≤ 52) : ∃ mag e, FloatKind.f64.decode (bits n) = .number false mag (-((e : Nat) : Int)) ∧ mag = n * 2 ^ e := by
  by_cases h0 : n = 0
  · subst h0
    obtain ⟨e, he⟩ : ∃ e : Nat, (-1074 : Int) = -(e : Int) := ⟨1074, rfl⟩
    exact ⟨0, e, by rw [← he]; decide, (Nat.zero_mul _).symm⟩
  · refine ⟨n * 2 ^ (52 - n.log2), 52 - n.log2, ?_, rfl⟩
    have := read_bits (n : Int) (by omega) (by simpa using h)
    rw [this]
    have hlt : ¬ ((n : Int) < 0) := by omega
    simp only [hlt, decide_false, Int.natAbs_natCast]
    congr 1
    have := h
    omega
theorem write_exact (q d : Nat) (neg : Bool) (hl : q.log2 ≤ 52) (hz : q = 0 → neg = false) : FloatKind.f64.encode (.number neg (q * 2 ^ d) (-(d : Int))) = bits (if neg = true then -(q : Int) else q) := by
  show Format.nearest double neg (q * 2 ^ d) (-(d : Int)) = _
  by_cases h0 : q = 0
  · subst h0
    rw [hz rfl]
    rw [Nat.zero_mul]
    unfold Format.nearest
    rw [if_pos rfl]
    decide
  · rw [nearest_exact neg q d (by omega) hl]
    cases neg with
    | true =>
      have := bits_word (-(q : Int)) (by omega) (by simpa using hl)
      simp only [if_true]
      rw [this]
      have : (-(q : Int)) < 0 := by omega
      rw [decide_eq_true this, Int.natAbs_neg, Int.natAbs_natCast]
    | false =>
      have := bits_word (q : Int) (by omega) (by simpa using hl)
      simp only [Bool.false_eq_true, if_false]
      rw [this]
      have : ¬ ((q : Int) < 0) := by omega
      simp [this]
theorem sum_parts (a b ea eb base : Nat) (ha : ea ≤ base) (hb : eb ≤ base) : ∀ s t : Bool, signed s (a * 2 ^ ea) (-(ea : Int) - -(base : Int)).toNat + signed t (b * 2 ^ eb) (-(eb : Int) - -(base : Int)).toNat = ((if s = true then -(a : Int) else a) + (if t = true then -(b : Int) else b)) * ((2 ^ base : Nat) : Int) := by
  intro s t
  rw [show (-(ea : Int) - -(base : Int)).toNat = base - ea by omega, show (-(eb : Int) - -(base : Int)).toNat = base - eb by omega]
  unfold signed
  rw [Nat.shiftLeft_eq, Nat.shiftLeft_eq, Nat.mul_assoc, Nat.mul_assoc, ← Nat.pow_add, ← Nat.pow_add, show ea + (base - ea) = base by omega, show eb + (base - eb) = base by omega]
  cases s <;> cases t <;> simp [Int.add_mul, Int.neg_mul]
theorem total_exact (z : Int) (base : Nat) (h : z.natAbs.log2 ≤ 52) (st : Bool) (hst : st = false) : FloatKind.f64.encode (.number (if z * ((2 ^ base : Nat) : Int) = 0 then st else decide (z * ((2 ^ base : Nat) : Int) < 0)) (z * ((2 ^ base : Nat) : Int)).natAbs (-(base : Int))) = bits z := by
  have hp : (0 : Int) < ((2 ^ base : Nat) : Int) := by
    have : 0 < 2 ^ base := Nat.pow_pos (by omega)
    omega
  have hab : (z * ((2 ^ base : Nat) : Int)).natAbs = z.natAbs * 2 ^ base := by rw [Int.natAbs_mul, Int.natAbs_natCast]
  have hneg : (if z * ((2 ^ base : Nat) : Int) = 0 then st else decide (z * ((2 ^ base : Nat) : Int) < 0)) = decide (z < 0) := by
    by_cases h0 : z = 0
    · subst h0; simp [hst]
    · rw [if_neg (by intro he; rcases Int.mul_eq_zero.1 he with h1 | h1; exact h0 h1; omega)]
      by_cases hz : z < 0
      · have := Int.mul_neg_of_neg_of_pos hz hp
        rw [decide_eq_true hz, decide_eq_true this]
      · have := Int.mul_nonneg (show 0 ≤ z by omega) (Int.le_of_lt hp)
        rw [decide_eq_false hz, decide_eq_false (show ¬ (z * ((2 ^ base : Nat) : Int) < 0) by omega)]
  rw [hneg, hab, write_exact z.natAbs base _ h (by intro he; have : z = 0 := by omega
                                                   subst this; rfl)]
  congr 1
  by_cases hz : z < 0
  · simp [hz]; omega
  · simp [hz]; omega
theorem add_bits (a b : Nat) (ha : a.log2 ≤ 52) (hb : b.log2 ≤ 52) (hs : (a + b).log2 ≤ 52) : double.add (bits a) (bits b) = some (bits ((a : Int) + b)) := by
  obtain ⟨ma, ea, h1, rfl⟩ := is_bits a ha
  obtain ⟨mb, eb, h2, rfl⟩ := is_bits b hb
  unfold Format.add
  rw [show double.read (bits a) = _ from h1, show double.read (bits b) = _ from h2]
  simp only [Datum.sum, Option.map_some]
  have hmin : min (-(ea : Int)) (-(eb : Int)) = -((max ea eb : Nat) : Int) := by omega
  rw [hmin, sum_parts a b ea eb (max ea eb) (by omega) (by omega) false false]
  simp only [Bool.false_eq_true, if_false]
  exact congrArg some (total_exact ((a : Int) + b) (max ea eb) (by rw [show ((a : Int) + b).natAbs = a + b by omega]; exact hs) _ rfl)
theorem sub_bits (a b : Nat) (ha : a.log2 ≤ 52) (hb : b.log2 ≤ 52) (hs : ((a : Int) - b).natAbs.log2 ≤ 52) : double.sub (bits a) (bits b) = some (bits ((a : Int) - b)) := by
  obtain ⟨ma, ea, h1, rfl⟩ := is_bits a ha
  obtain ⟨mb, eb, h2, rfl⟩ := is_bits b hb
  unfold Format.sub
  rw [show double.read (bits a) = _ from h1, show double.read (bits b) = _ from h2]
  simp only [Datum.sum, Datum.opposite, Option.map_some]
  have hmin : min (-(ea : Int)) (-(eb : Int)) = -((max ea eb : Nat) : Int) := by omega
  rw [hmin, sum_parts a b ea eb (max ea eb) (by omega) (by omega) false (!false)]
  simp only [Bool.false_eq_true, if_false, Bool.not_false, if_true, Bool.false_and]
  exact congrArg some (total_exact ((a : Int) - b) (max ea eb) hs _ rfl)
theorem mul_bits (a b : Nat) (ha : a.log2 ≤ 52) (hb : b.log2 ≤ 52) (hs : (a * b).log2 ≤ 52) : double.mul (bits a) (bits b) = some (bits ((a : Int) * b)) := by
  obtain ⟨ma, ea, h1, rfl⟩ := is_bits a ha
  obtain ⟨mb, eb, h2, rfl⟩ := is_bits b hb
  unfold Format.mul
  rw [show double.read (bits a) = _ from h1, show double.read (bits b) = _ from h2]
  simp only [Datum.product, Option.map_some]
  have e1 : a * 2 ^ ea * (b * 2 ^ eb) = a * b * 2 ^ (ea + eb) := by
    rw [Nat.pow_add, Nat.mul_assoc, Nat.mul_assoc]
    congr 1
    rw [← Nat.mul_assoc, Nat.mul_comm (2 ^ ea) b, Nat.mul_assoc]
  have e2 : -(ea : Int) + -(eb : Int) = -((ea + eb : Nat) : Int) := by omega
  rw [e1, e2]
  have := write_exact (a * b) (ea + eb) false hs (fun _ => rfl)
  simp only [Bool.false_eq_true, if_false] at this
  rw [Int.natCast_mul] at this
  exact congrArg some this
end Fl
end Go.Proofs.Ytfelhbeiegppgaa
