/-
  Numbers as bytes, in plain form.
-/
import Derived.Test.YtgpejfddaelobaaNmX
set_option linter.unusedVariables false
set_option linter.unusedSimpArgs false
namespace Go.Proofs.Ytgpejfddaelobaa
namespace NM
open AM

theorem loop_run' {σ ω : Type} {f : σ → (σ → Option ω) → Option ω} {r : Option ω} (n : Nat) (hn : n < LOOPS) (s : Nat → σ) (hs : ∀ i, i < n → ∀ next, f (s i) next = next (s (i + 1))) (hend : ∀ next, f (s n) next = r) : LN LOOPS f (s 0) = r := by
  have key : ∀ m i, i ≤ n → n - i < m → loopN f m (s i) = r := by
    intro m
    induction m with
    | zero => intro i _ h; omega
    | succ m ih =>
      intro i hi hm
      simp only [loopN]
      rcases Nat.lt_or_ge i n with h | h
      · rw [hs i h]
        exact ih (i + 1) h (by omega)
      · have : i = n := by omega
        subst this
        exact hend _
  exact key LOOPS 0 (Nat.zero_le _) (by omega)
theorem loops_gt (n : Nat) (h : n ≤ 9223372036854775807) : n < LOOPS := by unfold LOOPS; omega
theorem small_ok' {n : Nat} (b : Nat) (hb : b ≤ 256) (h : n ≤ 4294967295) : smallB n b = true := by
  have h1 : n * b ≤ 1099511627776 := Nat.le_trans (Nat.mul_le_mul h hb) (by decide)
  have h2 : n ≤ 4294967296 := Nat.le_trans h (by decide)
  unfold smallB
  rw [decide_eq_true h1, decide_eq_true h2]
  rfl

theorem nomem {q : Int → Prop} : ∀ x, x ∈ ([] : List Int) → q x := fun x hx => (by cases hx)
/-- bytes of a number, the lowest digits first -/
def vb : Nat → Nat → List Int
  | 0, n => [(n : Int)]
  | k + 1, n => if n < 128 then [(n : Int)] else ((n % 128 + 128 : Nat) : Int) :: vb k (n / 128)
def bytesI (z : Int) : List Int := vb 8 z.toNat
def putsI : List Int → List Int
  | [] => []
  | z :: l => bytesI z ++ putsI l
def inN (z : Int) : Bool := decide (0 ≤ z) && decide (z ≤ 281474976710656)
def Bytes8 (l : List Int) : Prop := ∀ x, x ∈ l → 0 ≤ x ∧ x ≤ 255
def numGo : Nat → Nat → Int → List Int → Int × (List Int × Int)
  | 0, _, _, _ => (0, [], 11)
  | _ + 1, _, _, [] => (0, [], 10)
  | f + 1, i, acc, d :: r => if 128 ≤ d then numGo f (i + 1) (acc + d % 128 * 2 ^ (7 * i)) r else if (0 < i ∧ d = 0) ∨ 281474976710656 < acc + d % 128 * 2 ^ (7 * i) then (0, [], 11) else (acc + d % 128 * 2 ^ (7 * i), r, 0)
def numI (bs : List Int) : Int × (List Int × Int) := numGo 8 0 0 bs
def val : List Int → Nat
  | [] => 0
  | d :: r => d.toNat % 128 + 128 * val r

theorem putsI_append (a b : List Int) : putsI (a ++ b) = putsI a ++ putsI b := by
  induction a with
  | nil => rfl
  | cons x a ih => simp [putsI, ih]
theorem vb_more : ∀ (k : Nat) (n : Nat) {j : Nat}, n < 128 ^ (k + 1) → k ≤ j → vb j n = vb k n
  | 0, n, j, h, _ => by
    simp at h
    cases j with
    | zero => rfl
    | succ j => simp [vb, h]
  | k + 1, n, j, h, hj => by
    cases j with
    | zero => omega
    | succ j =>
      rw [vb, vb]
      split
      · rfl
      · rw [vb_more k (n / 128) (by rw [Nat.pow_succ] at h; omega) (by omega)]
theorem vb_len : ∀ (k n j : Nat), n < 128 ^ (j + 1) → (vb k n).length ≤ j + 1
  | 0, n, j, _ => by simp [vb]
  | k + 1, n, j, h => by
    rw [vb]
    split
    · simp
    · cases j with
      | zero => simp at h; omega
      | succ j =>
        have := vb_len k (n / 128) j (by rw [Nat.pow_succ] at h; omega)
        simp only [List.length_cons]; omega
theorem vb_pos (k n : Nat) : 0 < (vb k n).length := by
  cases k with
  | zero => simp [vb]
  | succ k => rw [vb]; split <;> simp
theorem bytesI_pos (z : Int) : 0 < (bytesI z).length := vb_pos _ _
theorem vb_len9 (k n : Nat) : (vb k n).length ≤ k + 1 := by
  induction k generalizing n with
  | zero => simp [vb]
  | succ k ih =>
    rw [vb]
    split
    · simp
    · have := ih (n / 128); simp only [List.length_cons]; omega
theorem bytesI_len (z : Int) : (bytesI z).length ≤ 9 := vb_len9 _ _
theorem vb_bytes : ∀ (k n : Nat), n < 128 ^ (k + 1) → Bytes8 (vb k n)
  | 0, n, h, x, hx => by
    simp at h
    simp [vb] at hx
    omega
  | k + 1, n, h, x, hx => by
    rw [vb] at hx
    split at hx
    · simp at hx; omega
    · rcases List.mem_cons.1 hx with rfl | hx
      · omega
      · exact vb_bytes k (n / 128) (by rw [Nat.pow_succ] at h; omega) x hx
theorem pow8 : (128 : Nat) ^ (8 + 1) = 9223372036854775808 := by decide
theorem bytesI_bytes {z : Int} (h : inN z = true) : Bytes8 (bytesI z) := by
  simp only [inN, Bool.and_eq_true, decide_eq_true_eq] at h
  refine vb_bytes 8 _ ?_
  rw [pow8]
  omega

theorem val_append_zero : ∀ p : List Int, val (p ++ [0]) = val p
  | [] => rfl
  | d :: r => by simp [val, val_append_zero r]
theorem val_lt : ∀ p : List Int, val p < 128 ^ p.length
  | [] => by simp [val]
  | d :: r => by
    have := val_lt r
    simp only [val, List.length_cons, Nat.pow_succ]
    omega
theorem vb_val : ∀ (p : List Int) (f : Nat) (d : Int), (∀ x, x ∈ p → 128 ≤ x ∧ x ≤ 255) → 0 ≤ d → d < 128 → (p = [] ∨ 0 < d) → p.length ≤ f → vb f (val (p ++ [d])) = p ++ [d]
  | [], f, d, _, h0, h1, _, _ => by
    have e : val ([] ++ [d]) = d.toNat := by simp [val]; omega
    rw [e]
    cases f with
    | zero => simp [vb]; omega
    | succ f => rw [vb, if_pos (by omega)]; simp; omega
  | x :: p, 0, d, _, _, _, _, hl => by simp at hl
  | x :: p, f + 1, d, hp, h0, h1, hd, hl => by
    have hx := hp x List.mem_cons_self
    have hd : 0 < d := by rcases hd with h | h; cases h; exact h
    have hv : 0 < val (p ++ [d]) := by
      clear hl hp
      induction p with
      | nil => simp [val]; omega
      | cons y p ih => simp only [List.cons_append, val]; omega
    rw [List.cons_append, val, vb, if_neg (by omega), show (x.toNat % 128 + 128 * val (p ++ [d])) / 128 = val (p ++ [d]) by omega, vb_val p f d (fun y hy => hp y (List.mem_cons_of_mem _ hy)) h0 h1 (.inr hd) (by simpa using hl)]
    congr 1
    omega

theorem pow7 (i : Nat) : (2 : Int) ^ (7 * (i + 1)) = 128 * 2 ^ (7 * i) := by
  rw [show 7 * (i + 1) = 7 * i + 7 by omega, Int.pow_add]; omega
theorem numGo_split : ∀ (p : List Int) (f i : Nat) (acc d : Int) (r : List Int), (∀ x, x ∈ p → 128 ≤ x ∧ x ≤ 255) → 0 ≤ d → d < 128 → p.length < f →
    numGo f i acc (p ++ d :: r) = if (0 < i + p.length ∧ d = 0) ∨ 281474976710656 < acc + (val (p ++ [d]) : Int) * 2 ^ (7 * i) then (0, [], 11) else (acc + (val (p ++ [d]) : Int) * 2 ^ (7 * i), r, 0)
  | [], 0, i, acc, d, r, _, _, _, h => by simp at h
  | [], f + 1, i, acc, d, r, _, h0, h1, _ => by
    have e : ((val ([] ++ [d]) : Nat) : Int) = d % 128 := by simp [val]; omega
    rw [e, List.nil_append, numGo, if_neg (by omega)]
    simp
  | x :: p, 0, i, acc, d, r, _, _, _, h => by simp at h
  | x :: p, f + 1, i, acc, d, r, hp, h0, h1, h => by
    have hx := hp x List.mem_cons_self
    rw [List.cons_append, numGo, if_pos hx.1, numGo_split p f (i + 1) _ d r (fun y hy => hp y (List.mem_cons_of_mem _ hy)) h0 h1 (by simpa using h)]
    have e : acc + x % 128 * 2 ^ (7 * i) + (val (p ++ [d]) : Int) * 2 ^ (7 * (i + 1)) = acc + (val (x :: p ++ [d]) : Int) * 2 ^ (7 * i) := by
      rw [pow7, List.cons_append, val, show ((x.toNat % 128 + 128 * val (p ++ [d]) : Nat) : Int) = x % 128 + 128 * (val (p ++ [d]) : Int) by omega, Int.add_mul, Int.add_assoc]
      congr 2
      rw [Int.mul_comm 128 (val (p ++ [d]) : Int), Int.mul_assoc]
    rw [e, show i + 1 + p.length = i + (x :: p).length by simp; omega]
theorem numGo_short : ∀ (p : List Int) (f i : Nat) (acc : Int), (∀ x, x ∈ p → 128 ≤ x ∧ x ≤ 255) → p.length < f → numGo f i acc p = (0, [], 10)
  | [], 0, i, acc, _, h => by simp at h
  | [], f + 1, i, acc, _, _ => by rw [numGo]
  | x :: p, 0, i, acc, _, h => by simp at h
  | x :: p, f + 1, i, acc, hp, h => by
    rw [numGo, if_pos (hp x List.mem_cons_self).1]
    exact numGo_short p f _ _ (fun y hy => hp y (List.mem_cons_of_mem _ hy)) (by simpa using h)
theorem numGo_long : ∀ (p : List Int) (f i : Nat) (acc : Int) (r : List Int), (∀ x, x ∈ p → 128 ≤ x ∧ x ≤ 255) → p.length = f → numGo f i acc (p ++ r) = (0, [], 11)
  | [], 0, i, acc, r, _, _ => by rw [numGo]
  | [], f + 1, i, acc, r, _, h => by simp at h
  | x :: p, 0, i, acc, r, _, h => by simp at h
  | x :: p, f + 1, i, acc, r, hp, h => by
    rw [List.cons_append, numGo, if_pos (hp x List.mem_cons_self).1]
    exact numGo_long p f _ _ r (fun y hy => hp y (List.mem_cons_of_mem _ hy)) (by simpa using h)
/-- bytes: the first digits, up to the last of a number -/
theorem split3 : ∀ (n : Nat) (bs : List Int), Bytes8 bs → (∃ p d r, bs = p ++ d :: r ∧ (∀ x, x ∈ p → 128 ≤ x ∧ x ≤ 255) ∧ 0 ≤ d ∧ d < 128 ∧ p.length < n) ∨ ((∀ x, x ∈ bs → 128 ≤ x ∧ x ≤ 255) ∧ bs.length < n) ∨ (∃ p r, bs = p ++ r ∧ (∀ x, x ∈ p → 128 ≤ x ∧ x ≤ 255) ∧ p.length = n)
  | 0, bs, _ => .inr (.inr ⟨[], bs, rfl, nomem, rfl⟩)
  | n + 1, [], _ => .inr (.inl ⟨nomem, by simp⟩)
  | n + 1, d :: r, hb => by
    have hd := hb d List.mem_cons_self
    by_cases h : d < 128
    · exact .inl ⟨[], d, r, rfl, nomem, hd.1, h, by simp⟩
    · have hd2 : 128 ≤ d ∧ d ≤ 255 := by omega
      have cons : ∀ p : List Int, (∀ x, x ∈ p → 128 ≤ x ∧ x ≤ 255) → ∀ x, x ∈ d :: p → 128 ≤ x ∧ x ≤ 255 := fun p hp x hx => by
        rcases List.mem_cons.1 hx with rfl | hx
        · exact hd2
        · exact hp x hx
      rcases split3 n r (fun x hx => hb x (List.mem_cons_of_mem _ hx)) with ⟨p, e, q, rfl, hp, h0, h1, hl⟩ | ⟨hp, hl⟩ | ⟨p, q, rfl, hp, hl⟩
      · exact .inl ⟨d :: p, e, q, rfl, cons p hp, h0, h1, by simpa using hl⟩
      · exact .inr (.inl ⟨cons r hp, by simpa using hl⟩)
      · exact .inr (.inr ⟨d :: p, q, rfl, cons p hp, by simpa using hl⟩)

/-- what is read as a number is its bytes -/
theorem numI_ok {bs : List Int} (hb : Bytes8 bs) (h : (numI bs).2.2 = 0) : bs = bytesI (numI bs).1 ++ (numI bs).2.1 ∧ inN (numI bs).1 = true := by
  unfold numI at h ⊢
  rcases split3 8 bs hb with ⟨p, d, r, rfl, hp, h0, h1, hl⟩ | ⟨hp, hl⟩ | ⟨p, r, rfl, hp, hl⟩
  · rw [numGo_split p 8 0 0 d r hp h0 h1 hl] at h ⊢
    split at h
    · cases h
    · rename_i hc
      rw [if_neg hc]
      simp only [Nat.zero_add, Int.zero_add, Nat.mul_zero, Int.pow_zero, Int.mul_one] at hc ⊢
      refine ⟨?_, ?_⟩
      · unfold bytesI
        rw [Int.toNat_natCast, vb_val p 8 d hp h0 h1 ?_ (by omega)]
        · simp
        · cases p with
          | nil => exact .inl rfl
          | cons x p => right; simp at hc; omega
      · simp only [inN, Bool.and_eq_true, decide_eq_true_eq]; omega
  · rw [numGo_short _ _ _ _ hp hl] at h; cases h
  · rw [numGo_long _ _ _ _ _ hp hl] at h; cases h
theorem numI_bad {bs : List Int} (hb : Bytes8 bs) (h : (numI bs).2.2 ≠ 0) : (numI bs).2.1 = [] ∧ (numI bs).1 = 0 ∧ ((numI bs).2.2 = 10 ∨ (numI bs).2.2 = 11) := by
  unfold numI at h ⊢
  rcases split3 8 bs hb with ⟨p, d, r, rfl, hp, h0, h1, hl⟩ | ⟨hp, hl⟩ | ⟨p, r, rfl, hp, hl⟩
  · rw [numGo_split p 8 0 0 d r hp h0 h1 hl] at h ⊢
    split at h
    · rename_i hc; rw [if_pos hc]; simp
    · simp at h
  · rw [numGo_short _ _ _ _ hp hl]; simp
  · rw [numGo_long _ _ _ _ _ hp hl]; simp
theorem vb_shape : ∀ (k n : Nat), n < 128 ^ (k + 1) → ∃ p d, vb k n = p ++ [d] ∧ (∀ x, x ∈ p → 128 ≤ x ∧ x ≤ 255) ∧ 0 ≤ d ∧ d < 128 ∧ (p = [] ∨ 0 < d) ∧ val (p ++ [d]) = n
  | 0, n, h => ⟨[], n, rfl, nomem, by omega, by simp at h; omega, .inl rfl, by simp [val] at h ⊢; omega⟩
  | k + 1, n, h => by
    rw [vb]
    split
    · exact ⟨[], n, rfl, nomem, by omega, by omega, .inl rfl, by simp [val]; omega⟩
    · rename_i hn
      obtain ⟨p, d, e, hp, h0, h1, hd, hv⟩ := vb_shape k (n / 128) (by rw [Nat.pow_succ] at h; omega)
      have hd' : 0 < d := by
        rcases hd with rfl | hd
        · simp [val] at hv; omega
        · exact hd
      refine ⟨((n % 128 + 128 : Nat) : Int) :: p, d, by rw [e]; rfl, fun x hx => ?_, h0, h1, .inr hd', ?_⟩
      · rcases List.mem_cons.1 hx with rfl | hx
        · omega
        · exact hp x hx
      · rw [List.cons_append, val, hv]; omega
/-- a number's bytes are read as it is -/
theorem numI_bytes {z : Int} (h : inN z = true) (rest : List Int) : numI (bytesI z ++ rest) = (z, rest, 0) := by
  simp only [inN, Bool.and_eq_true, decide_eq_true_eq] at h
  have hz : z.toNat < 128 ^ (7 + 1) := by
    have e : (128 : Nat) ^ (7 + 1) = 72057594037927936 := by decide
    omega
  obtain ⟨p, d, e, hp, h0, h1, hd, hv⟩ := vb_shape 7 z.toNat hz
  have hlen : p.length + 1 ≤ 8 := by
    have := vb_len9 7 z.toNat
    rw [e] at this
    simpa using this
  unfold numI bytesI
  rw [vb_more 7 _ hz (by omega), e, List.append_assoc, List.singleton_append, numGo_split p 8 0 0 d rest hp h0 h1 (by omega), hv]
  rw [if_neg]
  · simp; omega
  · simp only [Nat.zero_add, Int.zero_add, Nat.mul_zero, Int.pow_zero, Int.mul_one]
    rintro (⟨g1, g2⟩ | g)
    · rcases hd with rfl | hd
      · simp at g1
      · omega
    · omega
theorem numI_range {bs : List Int} (hb : Bytes8 bs) : 0 ≤ (numI bs).1 ∧ (numI bs).1 ≤ 281474976710656 := by
  by_cases h : (numI bs).2.2 = 0
  · have := (numI_ok hb h).2
    simpa [inN] using this
  · rw [(numI_bad hb h).2.1]; omega
theorem numI_rest {bs : List Int} (hb : Bytes8 bs) : Bytes8 (numI bs).2.1 := by
  by_cases h : (numI bs).2.2 = 0
  · intro x hx
    exact hb x (by rw [(numI_ok hb h).1]; exact List.mem_append_right _ hx)
  · rw [(numI_bad hb h).1]; intro x hx; cases hx
theorem numI_less {bs : List Int} (hb : Bytes8 bs) : (numI bs).2.1.length ≤ bs.length := by
  by_cases h : (numI bs).2.2 = 0
  · have := congrArg List.length (numI_ok hb h).1
    simp at this
    omega
  · rw [(numI_bad hb h).1]; simp
end NM
end Go.Proofs.Ytgpejfddaelobaa
