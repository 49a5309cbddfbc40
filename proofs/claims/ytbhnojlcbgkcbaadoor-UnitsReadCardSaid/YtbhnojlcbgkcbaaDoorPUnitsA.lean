/-
  Vectors as text, about plain data: numbers and their digits, parts of a string.
-/
import Derived.Test.YtbhnojlcbgkcbaaDoorUnitsM
import Derived.KernelRfl
set_option linter.unusedVariables false
set_option linter.unusedSimpArgs false
namespace Go.Proofs.YtbhnojlcbgkcbaaDoor
namespace NM
open AM

theorem LN_succ {σ ω : Type} (f : σ → (σ → Option ω) → Option ω) (s : σ) : LN LOOPS f s = f s (loopN f (LOOPS - 1)) := by
  show loopN f LOOPS s = _
  rw [show LOOPS = (LOOPS - 1) + 1 by unfold LOOPS; omega]
  rfl
theorem loop_one {σ ω : Type} (f : σ → (σ → Option ω) → Option ω) (s : σ) : loopN f (LOOPS - 1) s = f s (loopN f (LOOPS - 2)) := by
  rw [show LOOPS - 1 = (LOOPS - 2) + 1 by unfold LOOPS; omega]
  rfl
theorem loop_two {σ ω : Type} (f : σ → (σ → Option ω) → Option ω) (s : σ) : loopN f (LOOPS - 2) s = f s (loopN f (LOOPS - 3)) := by
  rw [show LOOPS - 2 = (LOOPS - 3) + 1 by unfold LOOPS; omega]
  rfl
def toI (l : List UInt8) : List Int := l.map fun c => (c.toNat : Int)

theorem bytes_toI : ∀ l : List UInt8, nbytes (toI l) = some l
  | [] => rfl
  | c :: l => by
    have ih := bytes_toI l
    unfold nbytes toI at *
    have hc := UInt8.toNat_lt c
    have h1 : nbyte (c.toNat : Int) = some c := by
      unfold nbyte
      rw [if_pos ⟨by omega, by omega⟩]
      simp
    simp only [List.map_cons, allOf, h1, ih]
def cutL (c : UInt8) : List UInt8 → List UInt8 × (List UInt8 × Bool)
  | [] => ([], ([], false))
  | x :: l => if x = c then ([], (l, true)) else (x :: (cutL c l).1, (cutL c l).2)
theorem cut_idx (c : UInt8) : ∀ s : List UInt8, ((cutL c s).2.2 = true ∧ Lib.indexByte s c = ((cutL c s).1.length : Int) ∧ s = (cutL c s).1 ++ c :: (cutL c s).2.1) ∨ ((cutL c s).2.2 = false ∧ Lib.indexByte s c = -1 ∧ (cutL c s).1 = s ∧ (cutL c s).2.1 = [])
  | [] => .inr ⟨rfl, rfl, rfl, rfl⟩
  | x :: l => by
    by_cases h : x = c
    · refine .inl ?_
      simp [cutL, h, Lib.indexByte]
    · have hb : (x == c) = false := by simp [h]
      rcases cut_idx c l with ⟨h1, h2, h3⟩ | ⟨h1, h2, h3, h4⟩
      · refine .inl ⟨by simp [cutL, h, h1], ?_, by simp only [cutL, h, if_false, List.cons_append]; rw [← h3]⟩
        simp only [cutL, h, if_false, Lib.indexByte, hb, Bool.false_eq_true]
        rw [h2, if_neg (by simp)]
        simp
      · refine .inr ⟨by simp [cutL, h, h1], ?_, by simp [cutL, h, h3], by simp [cutL, h, h4]⟩
        simp only [Lib.indexByte, hb, Bool.false_eq_true, if_false]
        rw [h2]
        try rfl
theorem cut_len (c : UInt8) (s : List UInt8) : (cutL c s).2.1.length ≤ s.length := by
  rcases cut_idx c s with ⟨_, _, h⟩ | ⟨_, _, _, h⟩
  · have := congrArg List.length h; simp at this; omega
  · rw [h]; simp
theorem p_Cut (s : List UInt8) (c : UInt8) (hs : s.length ≤ maxLen) : f22 s [c] = some ((cutL c s).1, (cutL c s).2.1, (cutL c s).2.2, ()) := by
  have hml : maxLen = 9223372036854775807 := rfl
  unfold f22 F22 f35 F35 f43
  simp only [strIdx, Option.bind_some, List.length_singleton]
  rcases cut_idx c s with ⟨h1, h2, h3⟩ | ⟨h1, h2, h3, h4⟩
  · have hl : s.length = (cutL c s).1.length + 1 + (cutL c s).2.1.length := by
      have := congrArg List.length h3; simp at this; omega
    have ew : IntKind.wrap .i64 (((cutL c s).1.length : Int) + ((1 : Nat) : Int)) = ((cutL c s).1.length : Int) + ((1 : Nat) : Int) := wi (by omega) (by omega)
    have e1 : Int.toNat ((cutL c s).1.length : Int) = (cutL c s).1.length := by omega
    have e2 : Int.toNat (((cutL c s).1.length : Int) + ((1 : Nat) : Int)) = (cutL c s).1.length + 1 := by omega
    have d1 : (0 : Int) ≤ ((cutL c s).1.length : Int) := by omega
    have d2 : (cutL c s).1.length ≤ s.length := by omega
    have d3 : (0 : Int) ≤ ((cutL c s).1.length : Int) + ((1 : Nat) : Int) := by omega
    have d4 : (cutL c s).1.length + 1 ≤ s.length := by omega
    simp only [h2, ew, e1, e2, d1, d2, d3, d4, decide_true, cond_true, Option.bind_some, h1]
    clear ew e1 e2 d1 d2 d3 d4 h1 h2 hl
    generalize cutL c s = p at *
    obtain ⟨a, b, e⟩ := p
    simp only at h3 ⊢
    subst h3
    simp
  · rw [h2, decide_eq_false (by omega)]
    simp only [cond_false, Option.bind_some, h1, h3, h4]

theorem cut_at (c : UInt8) : ∀ (a b : List UInt8), c ∉ a → cutL c (a ++ c :: b) = (a, (b, true))
  | [], b, _ => by simp [cutL]
  | x :: a, b, h => by
    have hx : ¬ x = c := fun e => h (by simp [e])
    have := cut_at c a b (fun hm => h (by simp [hm]))
    simp [cutL, hx, this]

/- digits -/
theorem dec_small {n : Nat} (h : n < 10) : Lib.decDigits n = [UInt8.ofNat (48 + n)] := Lib.decDigits_one h
theorem dec_big {n : Nat} (h : ¬ n < 10) : Lib.decDigits n = Lib.decDigits (n / 10) ++ [UInt8.ofNat (48 + n % 10)] := by rw [Lib.decDigits, dif_neg h]
theorem dec_len : ∀ (k n : Nat), n < 10 ^ (k + 1) → (Lib.decDigits n).length ≤ k + 1
  | 0, n, h => by rw [dec_small (by simpa using h)]; simp
  | k + 1, n, h => by
    by_cases h0 : n < 10
    · rw [dec_small h0]; simp
    · rw [dec_big h0, List.length_append]
      have := dec_len k (n / 10) (by rw [Nat.pow_succ] at h; omega)
      simp
      omega
theorem dec_ne (n : Nat) : Lib.decDigits n ≠ [] := by
  by_cases h : n < 10
  · rw [dec_small h]; simp
  · rw [dec_big h]; simp
def digB (c : UInt8) : Prop := 48 ≤ c.toNat ∧ c.toNat ≤ 57
theorem dig_of {d : Nat} (h : d < 10) : digB (UInt8.ofNat (48 + d)) ∧ (UInt8.ofNat (48 + d)).toNat = 48 + d := by
  have : (UInt8.ofNat (48 + d)).toNat = 48 + d := by rw [UInt8.toNat_ofNat']; omega
  exact ⟨⟨by omega, by omega⟩, this⟩
theorem dec_dig (n : Nat) : ∀ c ∈ Lib.decDigits n, digB c := by
  induction n using Nat.strongRecOn with
  | _ n ih =>
    intro c hc
    by_cases h : n < 10
    · rw [dec_small h] at hc
      rw [List.mem_singleton.1 hc]
      exact (dig_of h).1
    · rw [dec_big h, List.mem_append] at hc
      rcases hc with hc | hc
      · exact ih (n / 10) (by omega) c hc
      · rw [List.mem_singleton.1 hc]
        exact (dig_of (by omega)).1
/-- the number that digits are -/
theorem num_fwd (n : Nat) : 1 ≤ n → n ≤ 1048576 → ∀ l, numGo (Lib.decDigits n ++ l) true 0 = numGo l false (n : Int) := by
  induction n using Nat.strongRecOn with
  | _ n ih =>
    intro h1 h2 l
    by_cases h : n < 10
    · rw [dec_small h]
      obtain ⟨h3, h4⟩ := dig_of h
      simp only [List.cons_append, List.nil_append, numGo, h4]
      rw [if_neg (by omega), if_neg (by omega), if_neg (by omega)]
      congr 1
      omega
    · rw [dec_big h, List.append_assoc, ih (n / 10) (by omega) (by omega) (by omega)]
      obtain ⟨h3, h4⟩ := dig_of (d := n % 10) (by omega)
      simp only [List.cons_append, List.nil_append, numGo, h4]
      rw [if_neg (by omega), if_neg (by simp), if_neg (by omega)]
      congr 1
      omega
theorem num_dec (n : Nat) (h1 : 1 ≤ n) (h2 : n ≤ 1048576) : numGo (Lib.decDigits n) true 0 = (n : Int) := by
  have := num_fwd n h1 h2 []
  rwa [List.append_nil] at this
theorem u8_of {c : UInt8} {d : Nat} (h : c.toNat = 48 + d) (hd : d < 10) : UInt8.ofNat (48 + d) = c := by
  apply UInt8.toNat_inj.1
  rw [(dig_of hd).2, h]
theorem num_bwd : ∀ (l : List UInt8) (acc : Nat), 1 ≤ acc → acc ≤ 1048576 → numGo l false (acc : Int) ≥ 1 → ∃ n : Nat, numGo l false (acc : Int) = (n : Int) ∧ n ≤ 1048576 ∧ Lib.decDigits n = Lib.decDigits acc ++ l
  | [], acc, h1, h2, _ => ⟨acc, rfl, h2, by simp⟩
  | c :: l, acc, h1, h2, h => by
    simp only [numGo] at h ⊢
    by_cases hc : c.toNat < 48 ∨ 57 < c.toNat
    · rw [if_pos hc] at h; omega
    · rw [if_neg hc, if_neg (by simp)] at h
      rw [if_neg hc, if_neg (by simp)]
      by_cases hb : 1048576 < 10 * (acc : Int) + ((c.toNat : Int) - 48)
      · rw [if_pos hb] at h; omega
      · rw [if_neg hb] at h
        rw [if_neg hb]
        have e : (10 * (acc : Int) + ((c.toNat : Int) - 48)) = ((10 * acc + (c.toNat - 48) : Nat) : Int) := by omega
        rw [e] at h ⊢
        obtain ⟨n, hn1, hn2, hn3⟩ := num_bwd l (10 * acc + (c.toNat - 48)) (by omega) (by omega) h
        refine ⟨n, hn1, hn2, ?_⟩
        rw [hn3, dec_big (n := 10 * acc + (c.toNat - 48)) (by omega), show (10 * acc + (c.toNat - 48)) / 10 = acc by omega, show (10 * acc + (c.toNat - 48)) % 10 = c.toNat - 48 by omega, u8_of (c := c) (d := c.toNat - 48) (by omega) (by omega)]
        simp
/-- which texts are numbers -/
theorem num_inv (l : List UInt8) (h : 1 ≤ numGo l true 0) : ∃ n : Nat, numGo l true 0 = (n : Int) ∧ 1 ≤ n ∧ n ≤ 1048576 ∧ l = Lib.decDigits n := by
  match l, h with
  | [], h => simp [numGo] at h
  | c :: l, h =>
    simp only [numGo] at h ⊢
    by_cases hc : c.toNat < 48 ∨ 57 < c.toNat
    · rw [if_pos hc] at h; omega
    · rw [if_neg hc] at h
      rw [if_neg hc]
      by_cases h0 : c.toNat = 48
      · rw [if_pos ⟨by simp, h0⟩] at h; omega
      · rw [if_neg (fun e => h0 e.2)] at h
        rw [if_neg (fun e => h0 e.2)]
        rw [if_neg (by omega)] at h
        rw [if_neg (by omega)]
        have e : (10 * 0 + ((c.toNat : Int) - 48)) = ((c.toNat - 48 : Nat) : Int) := by omega
        rw [e] at h ⊢
        obtain ⟨n, hn1, hn2, hn3⟩ := num_bwd l (c.toNat - 48) (by omega) (by omega) h
        refine ⟨n, hn1, by omega, hn2, ?_⟩
        rw [hn3, dec_small (by omega), u8_of (c := c) (d := c.toNat - 48) (by omega) (by omega)]
        rfl
theorem itoa_nat (n : Nat) : Lib.itoa (n : Int) = Lib.decDigits n := by
  unfold Lib.itoa
  rw [if_neg (by omega)]
  simp
theorem p_Itoa (n : Nat) (h : n ≤ 1048576) : f28 (n : Int) = some (Lib.decDigits n) := by
  unfold f28 itoaF
  rw [decide_eq_true (by omega), decide_eq_true (by omega), itoa_nat]
  rfl
theorem wu8 {x : Int} (h0 : 0 ≤ x) (h1 : x < 256) : IntKind.wrap .u8 x = x := by
  simp only [IntKind.wrap, IntKind.signed, IntKind.bits]
  exact Int.emod_eq_of_lt h0 (by omega)
/-- the document's digits -/
theorem r_Digits (n : Nat) (h : n ≤ 1048576) : f24 (n : Int) = some (Lib.decDigits n) := by
  unfold f24 F24
  have key := loop_eq (ω := List UInt8) (f := fun (s1 : ((Int × ((List UInt8) × Unit)) × Unit)) nx2 => l24_0 nx2 s1.1.1 s1.1.2.1)
    (fun s => ∃ (m : Nat), s.1.1 = (m : Int) ∧ m ≤ 1048576 ∧ s.1.2.1.length + m ≤ 1048676)
    (fun s => s.1.1.toNat + (if s.1.2.1 = [] then 1 else 0))
    (fun s => some (if s.1.2.1 = [] ∨ 0 < s.1.1 then Lib.decDigits s.1.1.toNat ++ s.1.2.1 else s.1.2.1))
    (fun s next hI ih => by
      obtain ⟨⟨z, zs, u⟩, u'⟩ := s
      obtain ⟨m, hm, hk, hl⟩ := hI
      simp only at hm hk hl ih ⊢
      subst hm
      have e1 : IntKind.wrap .u8 (IntKind.wrap .i64 (48 + Int.tmod (m : Int) 10)) = (((UInt8.ofNat (48 + m % 10)).toNat : Nat) : Int) := by
        rw [(dig_of (by omega)).2, Int.tmod_eq_emod_of_nonneg (by omega), wi (by omega) (by omega), wu8 (by omega) (by omega)]
        omega
      have e2 : IntKind.wrap .i64 (Int.tdiv (m : Int) 10) = ((m / 10 : Nat) : Int) := by
        rw [Int.tdiv_eq_ediv_of_nonneg (by omega), wi (by omega) (by omega)]
        omega
      have e3 : nbytes [(((UInt8.ofNat (48 + m % 10)).toNat : Nat) : Int)] = some [UInt8.ofNat (48 + m % 10)] := bytes_toI [UInt8.ofNat (48 + m % 10)]
      have hlen : ([UInt8.ofNat (48 + m % 10)] : List UInt8).length + zs.length ≤ 4294967296 := by simp; omega
      simp only [l24_0, e1, e2, e3, Option.bind_some, hlen, decide_true, cond_true]
      have hnext : (zs = [] ∨ 0 < (m : Int)) → (zs.length = 0 ∨ 0 < m) → next (((((m / 10 : Nat) : Int), [UInt8.ofNat (48 + m % 10)] ++ zs, ()), ())) = some (Lib.decDigits m ++ zs) := fun hz hz2 => by
        rw [ih (((((m / 10 : Nat) : Int), [UInt8.ofNat (48 + m % 10)] ++ zs, ()), ())) ⟨m / 10, rfl, by omega, by simp only [List.length_append, List.length_singleton]; omega⟩ (by
          have : ¬ ([UInt8.ofNat (48 + m % 10)] ++ zs = []) := by simp
          simp only [this, if_false]
          rcases hz with hz | hz
          · rw [if_pos hz]; omega
          · split <;> omega)]
        refine congrArg some ?_
        dsimp only
        by_cases h10 : m < 10
        · rw [if_neg (by simp; omega), dec_small h10, Nat.mod_eq_of_lt h10]
        · rw [if_pos (.inr (by omega)), show (((m / 10 : Nat) : Int)).toNat = m / 10 by omega, dec_big h10]
          simp
      by_cases hz : zs = []
      · subst hz
        simp only [decide_true, cond_true, true_or, if_true]
        exact hnext (.inl rfl) (.inl rfl)
      · rw [decide_eq_false hz]
        by_cases h0 : 0 < (m : Int)
        · rw [decide_eq_true h0, if_pos (.inr h0)]
          exact hnext (.inr h0) (.inr (by omega))
        · rw [decide_eq_false h0, if_neg (by rintro (h | h); exact hz h; exact h0 h)]
          rfl)
    (s := (((n : Int), ([] : List UInt8), ()), ())) ⟨n, rfl, h, by simp; omega⟩ (by
      have : ((n : Int)).toNat = n := by omega
      simp only [this, if_true]
      unfold LOOPS
      omega)
  rw [key]
  simp
end NM
end Go.Proofs.YtbhnojlcbgkcbaaDoor
