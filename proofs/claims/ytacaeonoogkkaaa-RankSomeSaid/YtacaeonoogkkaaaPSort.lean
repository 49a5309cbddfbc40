/-
  The library's stable sort of few numbers under an order: blocks by insertion, one merge by rotations.
-/
import Derived.Test.YtacaeonoogkkaaaRankSomeM
set_option linter.unusedVariables false
set_option linter.unusedSimpArgs false
set_option maxHeartbeats 4000000
namespace Go.Proofs.Ytacaeonoogkkaaa
namespace NM
open AM
theorem loop_ex {σ ω : Type} {f : σ → (σ → Option ω) → Option ω} (I : σ → Prop) (m : σ → Nat) (Q : Option ω → Prop) (h : ∀ s next, I s → (∀ s', I s' → m s' < m s → Q (next s')) → Q (f s next)) {s : σ} (hs : I s) (hm : m s < LOOPS) : Q (LN LOOPS f s) := by
  have key : ∀ n s, I s → m s < n → Q (loopN f n s) := by
    intro n
    induction n with
    | zero => intro s _ h; omega
    | succ n ih =>
      intro s hs hn
      simp only [loopN]
      exact h s _ hs fun s' hs' hlt => ih s' hs' (by omega)
  exact key LOOPS s hs hm
theorem loopN_succ {σ ω : Type} (f : σ → (σ → Option ω) → Option ω) (n : Nat) (s : σ) : loopN f (n + 1) s = f s (loopN f n) := rfl
section
variable {α : Type}
theorem get_mid {A T : List α} {x : α} {k : Nat} (h : k = A.length) : (A ++ x :: T)[k]? = some x := by subst h; simp
theorem set_mid {A T : List α} {x y : α} {k : Nat} (h : k = A.length) : (A ++ x :: T).set k y = A ++ y :: T := by subst h; simp
theorem get_far {A N T : List α} {x y : α} {k : Nat} (h : k = A.length + 1 + N.length) : (A ++ x :: (N ++ y :: T))[k]? = some y := by
  have : A ++ x :: (N ++ y :: T) = (A ++ x :: N) ++ y :: T := by simp
  rw [this]; exact get_mid (by simp; omega)
theorem set_far {A N T : List α} {x y z : α} {k : Nat} (h : k = A.length + 1 + N.length) : (A ++ x :: (N ++ y :: T)).set k z = A ++ x :: (N ++ z :: T) := by
  have e : ∀ y : α, A ++ x :: (N ++ y :: T) = (A ++ x :: N) ++ y :: T := fun y => by simp
  rw [e y, e z]; exact set_mid (by simp; omega)
theorem len_far {A N T : List α} {x y : α} : (A ++ x :: (N ++ y :: T)).length = A.length + 1 + N.length + 1 + T.length := by simp; omega
end

/-- two runs of one length change places -/
theorem p_swapRange {a b n : Int} (ha : 0 ≤ a) (hb : 0 ≤ b) (hn2 : n ≤ 1000) (hb2 : b ≤ 2000) : ∀ (X Y A M S : List Int), X.length = Y.length → ((A.length : Int) + X.length ≤ 1000) → ∀ i : Int, 0 ≤ i → n = i + X.length → (A.length : Int) = a + i → (A.length : Int) + X.length + M.length = b + i → ∀ m, X.length < m →
    loopN (fun (s5 : ((Unit × (Int × Unit)) × ((List Int) × Unit))) nx6 => l214_0 a b n nx6 s5.1.2.1 s5.2.1) m (((), i, ()), (A ++ X ++ M ++ Y ++ S, ())) = some ((), (A ++ Y ++ M ++ X ++ S, ())) := by
  intro X
  induction X with
  | nil =>
    intro Y A M S hl hA i hi hn h1 h2 m hm
    obtain ⟨m, rfl⟩ : ∃ m', m = m' + 1 := ⟨m - 1, by omega⟩
    obtain rfl : Y = [] := by cases Y with | nil => rfl | cons _ _ => simp at hl
    simp only [List.length_nil] at hn
    rw [loopN_succ]
    simp only [l214_0]
    rw [show decide (i < n) = false from by rw [decide_eq_false_iff_not]; omega]
    rfl
  | cons x X ih =>
    intro Y A M S hl hA i hi hn h1 h2 m hm
    obtain ⟨m, rfl⟩ : ∃ m', m = m' + 1 := ⟨m - 1, by omega⟩
    obtain ⟨y, Y, rfl⟩ : ∃ y Y', Y = y :: Y' := by cases Y with | nil => simp at hl | cons y Y => exact ⟨y, Y, rfl⟩
    simp only [List.length_cons] at hl hn h2 hm hA
    have w1 : IntKind.wrap .i64 (b + i) = b + i := wi (by omega) (by omega)
    have w2 : IntKind.wrap .i64 (a + i) = a + i := wi (by omega) (by omega)
    have w3 : IntKind.wrap .i64 (i + 1) = i + 1 := wi (by omega) (by omega)
    have p1 : Int.toNat (a + i) = A.length := by omega
    have p2 : Int.toNat (b + i) = A.length + 1 + (X ++ M).length := by simp only [List.length_append]; omega
    have hz : A ++ x :: X ++ M ++ y :: Y ++ S = A ++ x :: ((X ++ M) ++ y :: (Y ++ S)) := by simp
    have e1 : (A ++ x :: ((X ++ M) ++ y :: (Y ++ S)))[A.length]? = some x := get_mid rfl
    have e2 : (A ++ x :: ((X ++ M) ++ y :: (Y ++ S)))[A.length + 1 + (X ++ M).length]? = some y := get_far rfl
    have e3 : (A ++ x :: ((X ++ M) ++ y :: (Y ++ S))).set A.length y = A ++ y :: ((X ++ M) ++ y :: (Y ++ S)) := set_mid rfl
    have e4 : (A ++ y :: ((X ++ M) ++ y :: (Y ++ S)))[A.length + 1 + (X ++ M).length]? = some y := get_far rfl
    have e5 : (A ++ y :: ((X ++ M) ++ y :: (Y ++ S))).set (A.length + 1 + (X ++ M).length) x = A ++ y :: ((X ++ M) ++ x :: (Y ++ S)) := set_far rfl
    have l1 : A.length < (A ++ x :: ((X ++ M) ++ y :: (Y ++ S))).length := by rw [len_far]; omega
    have l2 : A.length + 1 + (X ++ M).length < (A ++ x :: ((X ++ M) ++ y :: (Y ++ S))).length := by rw [len_far]; omega
    have l3 : A.length + 1 + (X ++ M).length < (A ++ y :: ((X ++ M) ++ y :: (Y ++ S))).length := by rw [len_far]; omega
    have ih := ih Y (A ++ [y]) (M ++ [x]) S (by omega) (by simp; omega) (i + 1) (by omega) (by omega) (by simp; omega) (by simp; omega) m (by omega)
    rw [loopN_succ]
    generalize loopN _ m = nx at ih ⊢
    simp only [l214_0]
    rw [hz]
    simp only [show i < n by omega, w1, w2, w3, p1, p2, show (0 : Int) ≤ b + i by omega, show (0 : Int) ≤ a + i by omega, e1, e2, e3, e4, e5, l1, l2, l3, decide_true, cond_true, Option.bind_some]
    have hz1 : A ++ y :: ((X ++ M) ++ x :: (Y ++ S)) = A ++ [y] ++ X ++ (M ++ [x]) ++ Y ++ S := by simp
    have hz2 : A ++ y :: Y ++ M ++ x :: X ++ S = A ++ [y] ++ Y ++ (M ++ [x]) ++ X ++ S := by simp
    rw [hz1, hz2]
    exact ih
theorem p_swap {K : List (Int × (Int × Int))} {a b n : Int} (X Y A M S : List Int) (hl : X.length = Y.length) (hA : A.length ≤ 400) (hX : X.length ≤ 200) (hM : M.length ≤ 200) (ha : a = A.length) (hb : b = A.length + X.length + M.length) (hn : n = X.length) :
    f214 a b n K (A ++ X ++ M ++ Y ++ S) = some ((), (A ++ Y ++ M ++ X ++ S, ())) := by
  unfold f214 F214
  exact p_swapRange (by omega) (by omega) (by omega) (by omega) X Y A M S hl (by omega) 0 (by omega) (by omega) (by omega) (by omega) LOOPS (by unfold LOOPS; omega)

/-- two neighbouring runs change places -/
theorem p_rotLoop {K : List (Int × (Int × Int))} {m : Int} : ∀ (d : Nat) (X Y P S : List Int), X.length + Y.length = d → 0 < X.length → 0 < Y.length → X.length + Y.length ≤ 100 → P.length + X.length + Y.length ≤ 300 → m = P.length + X.length → ∀ k, d < k →
    loopN (fun (s5 : ((Unit × (Int × (Int × Unit))) × ((List Int) × Unit))) nx6 => l206_0 f214 m K nx6 s5.1.2.1 s5.1.2.2.1 s5.2.1) k (((), (X.length : Int), (Y.length : Int), ()), (P ++ X ++ Y ++ S, ())) = some ((), (P ++ Y ++ X ++ S, ())) := by
  intro d
  induction d using Nat.strongRecOn with
  | _ d ih =>
    intro X Y P S hd hX hY hXY hP hm k hk
    obtain ⟨k, rfl⟩ : ∃ k', k = k' + 1 := ⟨k - 1, by omega⟩
    have ih := fun X Y P S h1 h2 h3 h4 h5 h6 h7 => ih (X.length + Y.length) h1 X Y P S rfl h2 h3 h4 h5 h6 k h7
    rw [loopN_succ]
    generalize loopN _ k = nx at ih ⊢
    simp only [l206_0]
    have w1 : IntKind.wrap .i64 (m - (X.length : Int)) = (P.length : Int) := by rw [wi (by omega) (by omega)]; omega
    have w2 : IntKind.wrap .i64 (m + (Y.length : Int)) = m + (Y.length : Int) := wi (by omega) (by omega)
    by_cases h : X.length = Y.length
    · have e := p_swap (K := K) (a := P.length) (b := m) (n := X.length) X Y P [] S h (by omega) (by omega) (by simp) rfl (by simp; omega) rfl
      simp only [List.append_nil] at e
      simp only [show (X.length : Int) = (Y.length : Int) by omega, decide_true, Bool.not_true, cond_false]
      rw [h] at w1 e
      rw [w1, e]
      have l1 : (P ++ Y ++ X ++ S).length = (P ++ X ++ Y ++ S).length := by simp; omega
      simp only [Option.bind_some, l1, decide_true, Bool.and_self, cond_true]
    · simp only [show ¬ (X.length : Int) = (Y.length : Int) by omega, decide_false, Bool.not_false, cond_true]
      by_cases h2 : Y.length < X.length
      · have hX12 : X = X.take Y.length ++ X.drop Y.length := (List.take_append_drop _ _).symm
        have l1 : (X.take Y.length).length = Y.length := by simp; omega
        have l2 : (X.drop Y.length).length = X.length - Y.length := by simp
        generalize X.take Y.length = X1 at hX12 l1
        generalize X.drop Y.length = X2 at hX12 l2
        subst hX12
        have e := p_swap (K := K) (a := P.length) (b := m) (n := Y.length) X1 Y P X2 S l1 (by omega) (by omega) (by omega) rfl (by simp only [List.length_append] at hm; omega) (by omega)
        simp only [List.length_append] at h2 hXY hm
        have w3 : IntKind.wrap .i64 (((X1 ++ X2).length : Int) - (Y.length : Int)) = (X2.length : Int) := by rw [wi (by omega) (by omega)]; omega
        have hz : P ++ (X1 ++ X2) ++ Y ++ S = P ++ X1 ++ X2 ++ Y ++ S := by simp
        simp only [show (Y.length : Int) < ((X1 ++ X2).length : Int) by omega, decide_true, cond_true]
        rw [w1, hz, e]
        have l3 : (P ++ Y ++ X2 ++ X1 ++ S).length = (P ++ X1 ++ X2 ++ Y ++ S).length := by simp; omega
        simp only [Option.bind_some, l3, decide_true, Bool.and_self, cond_true, w3]
        have := ih X2 X1 (P ++ Y) S (by simp only [List.length_append] at hd; omega) (by omega) (by omega) (by omega) (by simp only [List.length_append]; omega) (by simp only [List.length_append]; omega) (by simp only [List.length_append] at hd; omega)
        rw [l1] at this
        rw [this]
        simp
      · have hY12 : Y = Y.take (Y.length - X.length) ++ Y.drop (Y.length - X.length) := (List.take_append_drop _ _).symm
        have l1 : (Y.take (Y.length - X.length)).length = Y.length - X.length := by simp
        have l2 : (Y.drop (Y.length - X.length)).length = X.length := by simp; omega
        generalize Y.take (Y.length - X.length) = Y1 at hY12 l1
        generalize Y.drop (Y.length - X.length) = Y2 at hY12 l2
        subst hY12
        have w4 : IntKind.wrap .i64 (m + ((Y1 ++ Y2).length : Int) - (X.length : Int)) = m + (Y1.length : Int) := by rw [wi (by omega) (by omega)]; omega
        have e := p_swap (K := K) (a := P.length) (b := m + Y1.length) (n := X.length) X Y2 P Y1 S l2.symm (by omega) (by omega) (by omega) rfl (by omega) rfl
        have w3 : IntKind.wrap .i64 (((Y1 ++ Y2).length : Int) - (X.length : Int)) = (Y1.length : Int) := by rw [wi (by omega) (by omega)]; omega
        have hz : P ++ X ++ (Y1 ++ Y2) ++ S = P ++ X ++ Y1 ++ Y2 ++ S := by simp
        simp only [show ¬ ((Y1 ++ Y2).length : Int) < (X.length : Int) by omega, decide_false, cond_false]
        rw [w1, w2, w4, hz, e]
        have l3 : (P ++ Y2 ++ Y1 ++ X ++ S).length = (P ++ X ++ Y1 ++ Y2 ++ S).length := by simp; omega
        simp only [Option.bind_some, l3, decide_true, Bool.and_self, cond_true, w3]
        have := ih Y2 Y1 P (X ++ S) (by simp only [List.length_append] at hd; omega) (by omega) (by omega) (by simp only [List.length_append] at hXY; omega) (by omega) (by omega) (by simp only [List.length_append] at hd; omega)
        rw [l2] at this
        have hz2 : P ++ Y2 ++ Y1 ++ X ++ S = P ++ Y2 ++ Y1 ++ (X ++ S) := by simp
        rw [hz2, this]
        simp
theorem p_rotate {K : List (Int × (Int × Int))} {a m b : Int} (X Y P S : List Int) (hX : 0 < X.length) (hY : 0 < Y.length) (hXY : X.length + Y.length ≤ 100) (hP : P.length ≤ 200) (ha : a = P.length) (hm : m = P.length + X.length) (hb : b = P.length + X.length + Y.length) :
    f206 a m b K (P ++ X ++ Y ++ S) = some ((), (P ++ Y ++ X ++ S, ())) := by
  unfold f206 F206
  have w1 : IntKind.wrap .i64 (m - a) = (X.length : Int) := by rw [wi (by omega) (by omega)]; omega
  have w2 : IntKind.wrap .i64 (b - m) = (Y.length : Int) := by rw [wi (by omega) (by omega)]; omega
  rw [w1, w2]
  exact p_rotLoop (X.length + Y.length) X Y P S rfl hX hY hXY (by omega) hm LOOPS (by unfold LOOPS; omega)

/-- how what stood ahead and what stood behind compare -/
def Cmp (K : List (Int × (Int × Int))) (lt : Int → Int → Prop) (x y : Int) : Prop := ∃ c, f125 y x K = some c ∧ ((c < 0 ∧ lt y x) ∨ (¬ c < 0 ∧ lt x y))
section
variable {lt : Int → Int → Prop}
theorem lastLt (tr : ∀ x y z, lt x y → lt y z → lt x z) {R : List Int} (hs : R.Pairwise lt) {k : Nat} {x : Int} (hb : k = 0 ∨ ∃ w, R[k - 1]? = some w ∧ lt w x) : ∀ r, r ∈ R.take k → lt r x := by
  intro r hr
  obtain ⟨j, hj, rfl⟩ := List.mem_iff_getElem.1 hr
  simp only [List.length_take] at hj
  rcases hb with rfl | ⟨w, hw, hwx⟩
  · omega
  · obtain ⟨hk, rfl⟩ := List.getElem?_eq_some_iff.1 hw
    rw [List.getElem_take]
    rcases Nat.lt_or_ge j (k - 1) with h | h
    · exact tr _ _ _ (List.pairwise_iff_getElem.1 hs j (k - 1) (by omega) hk h) hwx
    · have : j = k - 1 := by omega
      subst this
      exact hwx
theorem headLt (tr : ∀ x y z, lt x y → lt y z → lt x z) {R : List Int} (hs : R.Pairwise lt) {k : Nat} {x : Int} (hb : k = R.length ∨ ∃ w, R[k]? = some w ∧ lt x w) : ∀ r, r ∈ R.drop k → lt x r := by
  intro r hr
  obtain ⟨j, hj, rfl⟩ := List.mem_iff_getElem.1 hr
  simp only [List.length_drop] at hj
  rcases hb with rfl | ⟨w, hw, hwx⟩
  · omega
  · obtain ⟨hk, rfl⟩ := List.getElem?_eq_some_iff.1 hw
    rw [List.getElem_drop]
    rcases Nat.eq_zero_or_pos j with h | h
    · subst h; exact hwx
    · exact tr _ _ _ hwx (List.pairwise_iff_getElem.1 hs k (k + j) hk (by omega) (by omega))
/-- half of a sum of few -/
theorem half {i j : Int} (hi : 0 ≤ i) (hj : 0 ≤ j) (hs : i + j ≤ 4000) : IntKind.wrap .i64 (Int.fdiv (IntKind.wrap .u64 (IntKind.wrap .i64 (i + j))) (2 ^ (min (Int.toNat 1) 64))) = (i + j) / 2 := by
  have w1 : IntKind.wrap .i64 (i + j) = i + j := wi (by omega) (by omega)
  have w2 : IntKind.wrap .u64 (i + j) = i + j := by
    simp only [IntKind.wrap, IntKind.signed, IntKind.bits, Bool.false_eq_true, if_false, false_and]
    exact Int.emod_eq_of_lt (by omega) (by omega)
  have w3 : Int.fdiv (i + j) (2 ^ (min (Int.toNat 1) 64)) = (i + j) / 2 := by
    rw [show (2 : Int) ^ (min (Int.toNat 1) 64) = 2 from rfl]
    exact Int.fdiv_eq_ediv_of_nonneg _ (by decide)
  rw [w1, w2, w3]
  exact wi (by omega) (by omega)
/-- one is moved behind others -/
theorem p_shiftR {x : Int} {i : Int} : ∀ (R P T : List Int) (k : Int), k = P.length → i - 1 = P.length + R.length → P.length + R.length ≤ 500 → ∀ m, R.length < m →
    loopN (fun (s14 : ((Unit × (Int × Unit)) × ((List Int) × Unit))) nx15 => l189_0 i nx15 s14.1.2.1 s14.2.1) m (((), k, ()), (P ++ x :: (R ++ T), ())) = some (.inr ((), (P ++ R ++ x :: T, ())))
  | [], P, T, k, hk, hi, hl, m, hm => by
    obtain ⟨m, rfl⟩ : ∃ m', m = m' + 1 := ⟨m - 1, by omega⟩
    simp only [List.length_nil] at hi
    rw [loopN_succ]
    simp only [l189_0]
    rw [wi (by omega) (by omega), show decide (k < i - 1) = false from by rw [decide_eq_false_iff_not]; omega]
    simp
  | r :: R, P, T, k, hk, hi, hl, m, hm => by
    obtain ⟨m, rfl⟩ : ∃ m', m = m' + 1 := ⟨m - 1, by omega⟩
    simp only [List.length_cons] at hi hl hm
    have ih := p_shiftR (x := x) (i := i) R (P ++ [r]) T (k + 1) (by simp; omega) (by simp; omega) (by simp; omega) m (by omega)
    rw [loopN_succ]
    generalize loopN _ m = nx at ih ⊢
    simp only [l189_0]
    have w1 : IntKind.wrap .i64 (i - 1) = i - 1 := wi (by omega) (by omega)
    have w2 : IntKind.wrap .i64 (k + 1) = k + 1 := wi (by omega) (by omega)
    have p1 : k.toNat = P.length := by omega
    have p2 : (k + 1).toNat = P.length + 1 + ([] : List Int).length := by simp; omega
    have hz : P ++ x :: (r :: R ++ T) = P ++ x :: ([] ++ r :: (R ++ T)) := by simp
    rw [hz]
    have e1 : (P ++ x :: ([] ++ r :: (R ++ T)))[P.length]? = some x := get_mid rfl
    have e2 : (P ++ x :: ([] ++ r :: (R ++ T)))[P.length + 1 + ([] : List Int).length]? = some r := get_far rfl
    have e3 : (P ++ x :: ([] ++ r :: (R ++ T))).set P.length r = P ++ r :: ([] ++ r :: (R ++ T)) := set_mid rfl
    have e4 : (P ++ r :: ([] ++ r :: (R ++ T)))[P.length + 1 + ([] : List Int).length]? = some r := get_far rfl
    have e5 : (P ++ r :: ([] ++ r :: (R ++ T))).set (P.length + 1 + ([] : List Int).length) x = P ++ r :: ([] ++ x :: (R ++ T)) := set_far rfl
    have l1 : P.length < (P ++ x :: ([] ++ r :: (R ++ T))).length := by rw [len_far]; omega
    have l2 : P.length + 1 + ([] : List Int).length < (P ++ x :: ([] ++ r :: (R ++ T))).length := by rw [len_far]; omega
    have l3 : P.length + 1 + ([] : List Int).length < (P ++ r :: ([] ++ r :: (R ++ T))).length := by rw [len_far]; omega
    simp only [w1, w2, show k < i - 1 by omega, show (0 : Int) ≤ k by omega, show (0 : Int) ≤ k + 1 by omega, p1, p2, e1, e2, e3, e4, e5, l1, l2, l3, decide_true, cond_true, Option.bind_some]
    have hz1 : P ++ r :: ([] ++ x :: (R ++ T)) = P ++ [r] ++ x :: (R ++ T) := by simp
    rw [hz1, ih]
    simp
/-- one is moved ahead of others -/
theorem p_shiftL {y : Int} {i : Int} : ∀ (n : Nat) (L P T : List Int) (k : Int), L.length = n → i = P.length → k = P.length + L.length → P.length + L.length ≤ 500 → ∀ m, n < m →
    loopN (fun (s32 : ((Unit × (Int × Unit)) × ((List Int) × Unit))) nx33 => l189_2 i nx33 s32.1.2.1 s32.2.1) m (((), k, ()), (P ++ L ++ y :: T, ())) = some (.inr ((), (P ++ y :: (L ++ T), ()))) := by
  intro n
  induction n with
  | zero =>
    intro L P T k hn hi hk hl m hm
    obtain ⟨m, rfl⟩ : ∃ m', m = m' + 1 := ⟨m - 1, by omega⟩
    obtain rfl : L = [] := List.length_eq_zero_iff.1 hn
    simp only [List.length_nil] at hk
    rw [loopN_succ]
    simp only [l189_2]
    rw [show decide (i < k) = false from by rw [decide_eq_false_iff_not]; omega]
    simp
  | succ n ih =>
    intro L P T k hn hi hk hl m hm
    obtain ⟨m, rfl⟩ : ∃ m', m = m' + 1 := ⟨m - 1, by omega⟩
    obtain ⟨L, r, rfl⟩ : ∃ L' r, L = L' ++ [r] := ⟨L.dropLast, L.getLast (by intro h; subst h; simp at hn), (List.dropLast_concat_getLast _).symm⟩
    simp only [List.length_append, List.length_singleton] at hn hk hl
    have ih := ih L P (r :: T) (k - 1) (by omega) hi (by omega) (by omega) m (by omega)
    rw [loopN_succ]
    generalize loopN _ m = nx at ih ⊢
    simp only [l189_2]
    have w1 : IntKind.wrap .i64 (k - 1) = k - 1 := wi (by omega) (by omega)
    have p1 : (k - 1).toNat = (P ++ L).length := by simp; omega
    have p2 : k.toNat = (P ++ L).length + 1 + ([] : List Int).length := by simp; omega
    have hz : P ++ (L ++ [r]) ++ y :: T = (P ++ L) ++ r :: ([] ++ y :: T) := by simp
    rw [hz]
    have e1 : ((P ++ L) ++ r :: ([] ++ y :: T))[(P ++ L).length]? = some r := get_mid rfl
    have e2 : ((P ++ L) ++ r :: ([] ++ y :: T))[(P ++ L).length + 1 + ([] : List Int).length]? = some y := get_far rfl
    have e3 : ((P ++ L) ++ r :: ([] ++ y :: T)).set ((P ++ L).length + 1 + ([] : List Int).length) r = (P ++ L) ++ r :: ([] ++ r :: T) := set_far rfl
    have e4 : ((P ++ L) ++ r :: ([] ++ r :: T))[(P ++ L).length]? = some r := get_mid rfl
    have e5 : ((P ++ L) ++ r :: ([] ++ r :: T)).set (P ++ L).length y = (P ++ L) ++ y :: ([] ++ r :: T) := set_mid rfl
    have e3' : ((P ++ L) ++ r :: ([] ++ y :: T)).set (P ++ L).length y = (P ++ L) ++ y :: ([] ++ y :: T) := set_mid rfl
    have e4' : ((P ++ L) ++ y :: ([] ++ y :: T))[(P ++ L).length + 1 + ([] : List Int).length]? = some y := get_far rfl
    have e5' : ((P ++ L) ++ y :: ([] ++ y :: T)).set ((P ++ L).length + 1 + ([] : List Int).length) r = (P ++ L) ++ y :: ([] ++ r :: T) := set_far rfl
    have l1 : (P ++ L).length < ((P ++ L) ++ r :: ([] ++ y :: T)).length := by rw [len_far]; omega
    have l2 : (P ++ L).length + 1 + ([] : List Int).length < ((P ++ L) ++ r :: ([] ++ y :: T)).length := by rw [len_far]; omega
    have l3 : (P ++ L).length < ((P ++ L) ++ r :: ([] ++ r :: T)).length := by rw [len_far]; omega
    have l4 : (P ++ L).length + 1 + ([] : List Int).length < ((P ++ L) ++ y :: ([] ++ y :: T)).length := by rw [len_far]; omega
    simp only [w1, show i < k by omega, show (0 : Int) ≤ k by omega, show (0 : Int) ≤ k - 1 by omega, p1, p2, e1, e2, e3, e4, e5, e3', e4', e5', l1, l2, l3, l4, decide_true, cond_true, Option.bind_some]
    have hz1 : (P ++ L) ++ y :: ([] ++ r :: T) = P ++ L ++ y :: (r :: T) := by simp
    rw [hz1, ih]
    simp

theorem get_in {α : Type} {A R S : List α} {k n : Nat} (h : n = A.length + k) (hk : k < R.length) : (A ++ R ++ S)[n]? = some R[k] := by
  subst h
  rw [List.append_assoc, List.getElem?_append_right (by omega), Nat.add_sub_cancel_left, List.getElem?_append_left hk, List.getElem?_eq_getElem hk]
theorem lt_in {α : Type} {A R S : List α} {k n : Nat} (h : n = A.length + k) (hk : k < R.length) : n < (A ++ R ++ S).length := by simp; omega
theorem ins_sorted {R : List Int} {x : Int} {i : Nat} (hs : R.Pairwise lt) (h1 : ∀ r, r ∈ R.take i → lt r x) (h2 : ∀ r, r ∈ R.drop i → lt x r) : (R.take i ++ x :: R.drop i).Pairwise lt := by
  have h := hs
  rw [← List.take_append_drop i R, List.pairwise_append] at h
  rw [List.pairwise_append]
  refine ⟨h.1, List.pairwise_cons.2 ⟨h2, h.2.1⟩, fun a ha b hb => ?_⟩
  rcases List.mem_cons.1 hb with rfl | hb
  · exact h1 a ha
  · exact h.2.2 a ha b hb
theorem ins_perm {R : List Int} {x : Int} {i : Nat} : (R.take i ++ x :: R.drop i).Perm (x :: R) := by
  have := List.perm_middle (a := x) (l₁ := R.take i) (l₂ := R.drop i)
  rwa [List.take_append_drop] at this
abbrev JT := ((Unit × (Int × (Int × (Int × ((((List (Int × (Int × Int))) × Unit) × Unit) × Unit))))) × ((List Int) × Unit))
def SortedAs (lt : Int → Int → Prop) (P S l : List Int) (r : Option (JT ⊕ (Unit × ((List Int) × Unit)))) : Prop := ∃ M, r = some (.inr ((), (P ++ M ++ S, ()))) ∧ M.Pairwise lt ∧ M.Perm l
variable {K : List (Int × (Int × Int))}
/-- one, and a run behind it -/
theorem p_oneL (tr : ∀ x y z, lt x y → lt y z → lt x z) {x a b : Int} {R P S : List Int} (hs : R.Pairwise lt) (hc : ∀ y, y ∈ R → Cmp K lt x y) (hP : P.length + R.length ≤ 400) (ha : a = P.length) (hb : b = P.length + 1 + R.length) :
    SortedAs lt P S (x :: R) (LN LOOPS (fun (s5 : ((Unit × (Int × (Int × Unit))) × ((List Int) × Unit))) nx6 => l189_1 (@LN LOOPS) f125 a K nx6 s5.1.2.1 s5.1.2.2.1 s5.2.1) (((), a + 1, b, ()), (P ++ x :: (R ++ S), ()))) := by
  refine loop_ex (I := fun s => ∃ i j : Nat, s = (((), (P.length : Int) + 1 + i, (P.length : Int) + 1 + j, ()), (P ++ x :: (R ++ S), ())) ∧ i ≤ j ∧ j ≤ R.length ∧ (i = 0 ∨ ∃ w, R[i - 1]? = some w ∧ lt w x) ∧ (j = R.length ∨ ∃ w, R[j]? = some w ∧ lt x w)) (m := fun s => (s.1.2.2.1 - s.1.2.1).toNat) (Q := SortedAs lt P S (x :: R)) ?_ ⟨0, R.length, by rw [ha, hb]; simp, by omega, by omega, .inl rfl, .inl rfl⟩ (by show (b - (a + 1)).toNat < LOOPS; unfold LOOPS; omega)
  rintro s next ⟨i, j, rfl, hij, hj, h1, h2⟩ hn
  simp only [l189_1]
  by_cases h : i < j
  · have hh := half (i := (P.length : Int) + 1 + i) (j := (P.length : Int) + 1 + j) (by omega) (by omega) (by omega)
    have hk : ((P.length : Int) + 1 + i + ((P.length : Int) + 1 + j)) / 2 = (P.length : Int) + 1 + ((i + j) / 2 : Nat) := by omega
    rw [hk] at hh
    have hlt : (i + j) / 2 < R.length := by omega
    generalize hk2 : (i + j) / 2 = k at hh hlt
    have hz : P ++ x :: (R ++ S) = (P ++ [x]) ++ R ++ S := by simp
    have p1 : ((P.length : Int) + 1 + (k : Int)).toNat = (P ++ [x]).length + k := by simp; omega
    have g1 : (P ++ x :: (R ++ S))[(P ++ [x]).length + k]? = some R[k] := by rw [hz]; exact get_in rfl hlt
    have l1 : (P ++ [x]).length + k < (P ++ x :: (R ++ S)).length := by rw [hz]; exact lt_in rfl hlt
    have p2 : a.toNat = P.length := by omega
    have g2 : (P ++ x :: (R ++ S))[P.length]? = some x := get_mid rfl
    have l2 : P.length < (P ++ x :: (R ++ S)).length := by simp
    have w : IntKind.wrap .i64 ((P.length : Int) + 1 + (k : Int) + 1) = (P.length : Int) + 1 + ((k + 1 : Nat) : Int) := by rw [wi (by omega) (by omega)]; omega
    obtain ⟨c, hc1, hc2⟩ := hc R[k] (List.getElem_mem hlt)
    simp only [show (P.length : Int) + 1 + (i : Int) < (P.length : Int) + 1 + (j : Int) by omega, hh, show (0 : Int) ≤ (P.length : Int) + 1 + (k : Int) by omega, p1, g1, l1, show (0 : Int) ≤ a by omega, p2, g2, l2, hc1, decide_true, cond_true, Option.bind_some, w]
    rcases hc2 with ⟨hc2, hc3⟩ | ⟨hc2, hc3⟩
    · simp only [hc2, decide_true, cond_true]
      exact hn _ ⟨k + 1, j, rfl, by omega, hj, .inr ⟨R[k], by simp [hlt], hc3⟩, h2⟩ (by simp only; omega)
    · simp only [hc2, decide_false, cond_false]
      exact hn _ ⟨i, k, rfl, by omega, by omega, h1, .inr ⟨R[k], by simp [hlt], hc3⟩⟩ (by simp only; omega)
  · obtain rfl : i = j := by omega
    simp only [show ¬ (P.length : Int) + 1 + (i : Int) < (P.length : Int) + 1 + (i : Int) by omega, decide_false, cond_false]
    have e := p_shiftR (x := x) (i := (P.length : Int) + 1 + i) (R.take i) P (R.drop i ++ S) a ha (by simp; omega) (by simp; omega) LOOPS (by unfold LOOPS; simp; omega)
    refine ⟨R.take i ++ x :: R.drop i, ?_, ins_sorted hs (lastLt tr hs h1) (headLt tr hs h2), ins_perm⟩
    rw [show P ++ x :: (R ++ S) = P ++ x :: (R.take i ++ (R.drop i ++ S)) from by rw [← List.append_assoc (R.take i), List.take_append_drop]]
    refine Eq.trans e ?_
    simp
/-- a run, and one behind it -/
theorem p_oneR (tr : ∀ x y z, lt x y → lt y z → lt x z) {y a m b : Int} {L P S : List Int} (hs : L.Pairwise lt) (hc : ∀ x, x ∈ L → Cmp K lt x y) (hP : P.length + L.length ≤ 400) (ha : a = P.length) (hm : m = P.length + L.length) :
    SortedAs lt P S (y :: L) (LN LOOPS (fun (s23 : ((Unit × (Int × (Int × Unit))) × ((List Int) × Unit))) nx24 => l189_3 (@LN LOOPS) f125 (((), a, m, b, ((K, ()), ()), ()), (P ++ L ++ y :: S, ())) nx24 s23.1.2.1 s23.1.2.2.1 s23.2.1) (((), a, m, ()), (P ++ L ++ y :: S, ()))) := by
  refine loop_ex (I := fun s => ∃ i j : Nat, s = (((), (P.length : Int) + i, (P.length : Int) + j, ()), (P ++ L ++ y :: S, ())) ∧ i ≤ j ∧ j ≤ L.length ∧ (i = 0 ∨ ∃ w, L[i - 1]? = some w ∧ lt w y) ∧ (j = L.length ∨ ∃ w, L[j]? = some w ∧ lt y w)) (m := fun s => (s.1.2.2.1 - s.1.2.1).toNat) (Q := SortedAs lt P S (y :: L)) ?_ ⟨0, L.length, by rw [ha, hm]; simp, by omega, by omega, .inl rfl, .inl rfl⟩ (by show (m - a).toNat < LOOPS; unfold LOOPS; omega)
  rintro s next ⟨i, j, rfl, hij, hj, h1, h2⟩ hn
  simp only [l189_3]
  by_cases h : i < j
  · have hh := half (i := (P.length : Int) + i) (j := (P.length : Int) + j) (by omega) (by omega) (by omega)
    have hk : ((P.length : Int) + i + ((P.length : Int) + j)) / 2 = (P.length : Int) + ((i + j) / 2 : Nat) := by omega
    rw [hk] at hh
    have hlt : (i + j) / 2 < L.length := by omega
    generalize hk2 : (i + j) / 2 = k at hh hlt
    have p1 : ((P.length : Int) + (k : Int)).toNat = P.length + k := by omega
    have g1 : (P ++ L ++ y :: S)[P.length + k]? = some L[k] := get_in rfl hlt
    have l1 : P.length + k < (P ++ L ++ y :: S).length := lt_in rfl hlt
    have p2 : m.toNat = (P ++ L).length := by simp; omega
    have g2 : (P ++ L ++ y :: S)[(P ++ L).length]? = some y := get_mid rfl
    have l2 : (P ++ L).length < (P ++ L ++ y :: S).length := by simp
    have w : IntKind.wrap .i64 ((P.length : Int) + (k : Int) + 1) = (P.length : Int) + ((k + 1 : Nat) : Int) := by rw [wi (by omega) (by omega)]; omega
    obtain ⟨c, hc1, hc2⟩ := hc L[k] (List.getElem_mem hlt)
    simp only [show (P.length : Int) + (i : Int) < (P.length : Int) + (j : Int) by omega, hh, show (0 : Int) ≤ (P.length : Int) + (k : Int) by omega, p1, g1, l1, show (0 : Int) ≤ m by omega, p2, g2, l2, hc1, decide_true, cond_true, Option.bind_some, w]
    rcases hc2 with ⟨hc2, hc3⟩ | ⟨hc2, hc3⟩
    · simp only [hc2, decide_true, Bool.not_true, cond_false]
      exact hn _ ⟨i, k, rfl, by omega, by omega, h1, .inr ⟨L[k], by simp [hlt], hc3⟩⟩ (by simp only; omega)
    · simp only [hc2, decide_false, Bool.not_false, cond_true]
      exact hn _ ⟨k + 1, j, rfl, by omega, hj, .inr ⟨L[k], by simp [hlt], hc3⟩, h2⟩ (by simp only; omega)
  · obtain rfl : i = j := by omega
    simp only [show ¬ (P.length : Int) + (i : Int) < (P.length : Int) + (i : Int) by omega, decide_false, cond_false]
    have e := p_shiftL (y := y) (i := (P.length : Int) + i) (L.drop i).length (L.drop i) (P ++ L.take i) S m rfl (by simp; omega) (by simp; omega) (by simp; omega) LOOPS (by unfold LOOPS; simp; omega)
    refine ⟨L.take i ++ y :: L.drop i, ?_, ins_sorted hs (lastLt tr hs h1) (headLt tr hs h2), ins_perm⟩
    rw [show P ++ L ++ y :: S = P ++ L.take i ++ L.drop i ++ y :: S from by rw [List.append_assoc P (L.take i), List.take_append_drop]]
    refine Eq.trans e ?_
    simp

def MergedAs (lt : Int → Int → Prop) (P S l : List Int) (r : Option (Unit × ((List Int) × Unit))) : Prop := ∃ M, r = some ((), (P ++ M ++ S, ())) ∧ M.Pairwise lt ∧ M.Perm l
def MergeOk (lt : Int → Int → Prop) (K : List (Int × (Int × Int))) (g : Int → Int → Int → (List (Int × (Int × Int))) → (List Int) → Option (Unit × ((List Int) × Unit))) (n : Nat) : Prop :=
  ∀ (L R P S : List Int) (a m b : Int), L.length + R.length < n → 0 < L.length → 0 < R.length → P.length + L.length + R.length ≤ 100 → L.Pairwise lt → R.Pairwise lt → (∀ x, x ∈ L → ∀ y, y ∈ R → Cmp K lt x y) →
    a = P.length → m = P.length + L.length → b = P.length + L.length + R.length → MergedAs lt P S (L ++ R) (g a m b K (P ++ L ++ R ++ S))
/-- two of the four parts are merged, if both are there -/
theorem merge_if {g : Int → Int → Int → (List (Int × (Int × Int))) → (List Int) → Option (Unit × ((List Int) × Unit))} {n : Nat} (hg : MergeOk lt K g n) (L R P S : List Int) (a m b : Int) (hn : L.length + R.length < n) (hP : P.length + L.length + R.length ≤ 100) (hL : L.Pairwise lt) (hR : R.Pairwise lt) (hc : ∀ x, x ∈ L → ∀ y, y ∈ R → Cmp K lt x y)
    (ha : a = P.length) (hm : m = P.length + L.length) (hb : b = P.length + L.length + R.length) {ω : Type} (k : List Int → Option ω) :
    ∃ M, M.Pairwise lt ∧ M.Perm (L ++ R) ∧ (cond (decide (a < m)) (cond (decide (m < b)) (Option.bind (g a m b K (P ++ L ++ R ++ S)) fun r => cond ((decide (r.2.1.length = (P ++ L ++ R ++ S).length)) && true) (k r.2.1) none) (k (P ++ L ++ R ++ S))) (k (P ++ L ++ R ++ S))) = k (P ++ M ++ S) := by
  by_cases h1 : 0 < L.length
  · by_cases h2 : 0 < R.length
    · obtain ⟨M, e, h3, h4⟩ := hg L R P S a m b hn h1 h2 hP hL hR hc ha hm hb
      have hl : (P ++ M ++ S).length = (P ++ L ++ R ++ S).length := by
        have := h4.length_eq
        simp only [List.length_append] at this ⊢
        omega
      refine ⟨M, h3, h4, ?_⟩
      simp only [show a < m by omega, show m < b by omega, decide_true, cond_true, e, Option.bind_some, hl, Bool.and_self]
    · obtain rfl : R = [] := by cases R with | nil => rfl | cons _ _ => simp at h2
      refine ⟨L, hL, by simp, ?_⟩
      simp only [List.length_nil] at hb
      simp only [show ¬ m < b by omega, decide_false, cond_false, List.append_nil]
      cases decide (a < m) <;> rfl
  · obtain rfl : L = [] := by cases L with | nil => rfl | cons _ _ => simp at h1
    refine ⟨R, hR, by simp, ?_⟩
    simp only [List.length_nil] at hm
    simp only [show ¬ a < m by omega, decide_false, cond_false, List.append_nil]
theorem p_symMerge (tr : ∀ x y z, lt x y → lt y z → lt x z) : ∀ n, MergeOk lt K (r189 n) n := by
  intro n
  induction n with
  | zero => intro L R P S a m b h; omega
  | succ n ih =>
    intro L R P S a m b hn hL0 hR0 hP hL hR hc ha hm hb
    have hr : r189 (n + 1) = F189 (@LN LOOPS) f125 f206 (r189 n) := rfl
    rw [hr]
    generalize r189 n = g at ih
    clear hr
    unfold F189
    have w1 : IntKind.wrap .i64 (m - a) = (L.length : Int) := by rw [wi (by omega) (by omega)]; omega
    have w2 : IntKind.wrap .i64 (b - m) = (R.length : Int) := by rw [wi (by omega) (by omega)]; omega
    rw [w1]
    by_cases c1 : L.length = 1
    · obtain ⟨x, rfl⟩ := List.length_eq_one_iff.1 c1
      obtain ⟨M, e, h1, h2⟩ := p_oneL tr (x := x) (a := a) (b := b) (S := S) hR (fun y hy => hc x (by simp) y hy) (by omega) ha (by simp at hb; omega)
      refine ⟨M, ?_, h1, by simpa using h2⟩
      simp only [List.length_singleton] at hm
      have hm' : m = a + 1 := by omega
      subst hm'
      simp only [List.length_singleton, show ((1 : Nat) : Int) = 1 from rfl, decide_true, cond_true]
      rw [show P ++ [x] ++ R ++ S = P ++ x :: (R ++ S) from by simp, e]
      rfl
    · simp only [show ¬ (L.length : Int) = 1 by omega, decide_false, cond_false, Option.bind_some, Sum.elim_inl, w2]
      by_cases c2 : R.length = 1
      · obtain ⟨y, rfl⟩ := List.length_eq_one_iff.1 c2
        obtain ⟨M, e, h1, h2⟩ := p_oneR tr (y := y) (a := a) (m := m) (b := b) (P := P) (S := S) hL (fun x hx => hc x hx y (by simp)) (by omega) ha hm
        refine ⟨M, ?_, h1, h2.trans (by simpa using (List.perm_append_comm (l₁ := [y]) (l₂ := L)))⟩
        simp only [List.length_singleton, show ((1 : Nat) : Int) = 1 from rfl, decide_true, cond_true]
        rw [show P ++ L ++ [y] ++ S = P ++ L ++ y :: S from by simp, e]
        rfl
      · simp only [show ¬ (R.length : Int) = 1 by omega, decide_false, cond_false, Option.bind_some, Sum.elim_inl]
        have hmid := half (i := a) (j := b) (by omega) (by omega) (by omega)
        generalize hv41 : Int.fdiv (IntKind.wrap .u64 (IntKind.wrap .i64 (a + b))) (2 ^ (min (Int.toNat 1) 64)) = v41 at hmid ⊢
        simp only [hmid]
        generalize hmd : (a + b) / 2 = mid at hmid ⊢
        have w3 : IntKind.wrap .i64 (mid + m) = mid + m := wi (by omega) (by omega)
        have w4 : IntKind.wrap .i64 (mid + m - b) = mid + m - b := wi (by omega) (by omega)
        have w5 : IntKind.wrap .i64 (mid + m - 1) = mid + m - 1 := wi (by omega) (by omega)
        simp only [w3, w4, w5]
        have key : ∀ lo hi : Int, a ≤ lo → lo ≤ hi → hi ≤ m → (∀ c, lo ≤ c → c < hi → m ≤ mid + m - 1 - c ∧ mid + m - 1 - c < b) → (mid + m - hi ≤ b ∧ m ≤ mid + m - hi) → mid + m - lo ≤ b → (lo = a ∨ mid + m - lo = b) → (hi = m ∨ mid + m - hi = m) →
            MergedAs lt P S (L ++ R) (LN LOOPS (fun (s45 : ((Unit × (Int × (Int × Unit))) × ((List Int) × Unit))) nx46 => l189_4 f125 f206 g (((), a, m, b, ((K, ()), ()), ()), (P ++ L ++ R ++ S, ())) v41 (mid + m - 1) nx46 s45.1.2.1 s45.1.2.2.1 s45.2.1) (((), lo, hi, ()), (P ++ L ++ R ++ S, ()))) := by
          intro lo hi hlo hlh hhi hrng hhi2 hlo2 hloe hhie
          -- elements by their places
          have gL : ∀ c : Int, a ≤ c → c < m → ∃ h : (c - a).toNat < L.length, (P ++ L ++ R ++ S)[c.toNat]? = some L[(c - a).toNat] := fun c h1 h2 => ⟨by omega, by
            rw [show P ++ L ++ R ++ S = P ++ L ++ (R ++ S) from by simp]
            exact get_in (by omega) (by omega)⟩
          have gR : ∀ c : Int, m ≤ c → c < b → ∃ h : (c - m).toNat < R.length, (P ++ L ++ R ++ S)[c.toNat]? = some R[(c - m).toNat] := fun c h1 h2 => ⟨by omega, get_in (A := P ++ L) (by simp; omega) (by omega)⟩
          have hlen : (P ++ L ++ R ++ S).length = P.length + L.length + R.length + S.length := by simp; omega
          refine loop_ex (I := fun s => ∃ i j : Int, s = (((), i, j, ()), (P ++ L ++ R ++ S, ())) ∧ lo ≤ i ∧ i ≤ j ∧ j ≤ hi ∧
              (i = lo ∨ ∃ (h1 : (i - 1 - a).toNat < L.length) (h2 : (mid + m - i - m).toNat < R.length), lt L[(i - 1 - a).toNat] R[(mid + m - i - m).toNat]) ∧
              (j = hi ∨ ∃ (h1 : (j - a).toNat < L.length) (h2 : (mid + m - 1 - j - m).toNat < R.length), lt R[(mid + m - 1 - j - m).toNat] L[(j - a).toNat])) (m := fun s => (s.1.2.2.1 - s.1.2.1).toNat) (Q := MergedAs lt P S (L ++ R)) ?_ ⟨lo, hi, rfl, by omega, hlh, by omega, .inl rfl, .inl rfl⟩ (by show (hi - lo).toNat < LOOPS; unfold LOOPS; omega)
          rintro s next ⟨i, j, rfl, hi1, hij, hj1, hb1, hb2⟩ hnx
          simp only [l189_4]
          by_cases h : i < j
          · have hh := half (i := i) (j := j) (by omega) (by omega) (by omega)
            generalize hk : (i + j) / 2 = k at hh
            have hk1 : i ≤ k := by omega
            have hk2 : k < j := by omega
            obtain ⟨r1, r2⟩ := hrng k (by omega) (by omega)
            obtain ⟨q1, e1⟩ := gL k (by omega) (by omega)
            obtain ⟨q2, e2⟩ := gR (mid + m - 1 - k) r1 r2
            have w6 : IntKind.wrap .i64 (mid + m - 1 - k) = mid + m - 1 - k := wi (by omega) (by omega)
            have w7 : IntKind.wrap .i64 (k + 1) = k + 1 := wi (by omega) (by omega)
            obtain ⟨c, hc1, hc2⟩ := hc _ (List.getElem_mem q1) _ (List.getElem_mem q2)
            simp only [h, hh, w6, w7, e1, e2, hc1, show (0 : Int) ≤ k by omega, show (0 : Int) ≤ mid + m - 1 - k by omega, show k.toNat < (P ++ L ++ R ++ S).length by omega, show (mid + m - 1 - k).toNat < (P ++ L ++ R ++ S).length by omega, decide_true, cond_true, Option.bind_some]
            rcases hc2 with ⟨hc2, hc3⟩ | ⟨hc2, hc3⟩
            · simp only [hc2, decide_true, Bool.not_true, cond_false]
              exact hnx _ ⟨i, k, rfl, hi1, hk1, by omega, hb1, .inr ⟨q1, q2, hc3⟩⟩ (by simp only; omega)
            · simp only [hc2, decide_false, Bool.not_false, cond_true]
              refine hnx _ ⟨k + 1, j, rfl, by omega, by omega, hj1, .inr ⟨by omega, by omega, ?_⟩, hb2⟩ (by simp only; omega)
              have t1 : (k + 1 - 1 - a).toNat = (k - a).toNat := by omega
              have t2 : (mid + m - (k + 1) - m).toNat = (mid + m - 1 - k - m).toNat := by omega
              simp only [t1, t2]
              exact hc3
          · obtain rfl : i = j := by omega
            have w8 : IntKind.wrap .i64 (mid + m - i) = mid + m - i := wi (by omega) (by omega)
            simp only [h, decide_false, cond_false, hmid, w3, w8]
            -- the four parts
            have hL12 : L = L.take (i - a).toNat ++ L.drop (i - a).toNat := (List.take_append_drop _ _).symm
            have hR12 : R = R.take (mid - i).toNat ++ R.drop (mid - i).toNat := (List.take_append_drop _ _).symm
            have hendb : mid + m - i ≤ b := by omega
            have hendm : m ≤ mid + m - i := by omega
            have x12 : ∀ x, x ∈ L.take (i - a).toNat → ∀ y, y ∈ R.drop (mid - i).toNat → lt x y := by
              intro x hx y hy
              rcases hb1 with rfl | ⟨k1, k2, k3⟩
              · rcases hloe with rfl | hloe
                · simp at hx
                · rw [List.drop_of_length_le (by omega)] at hy
                  simp at hy
              · have k1' : L[(i - a).toNat - 1]? = some L[(i - 1 - a).toNat] := by
                  rw [show (i - a).toNat - 1 = (i - 1 - a).toNat by omega]; exact List.getElem?_eq_getElem k1
                have k2' : R[(mid - i).toNat]? = some R[(mid + m - i - m).toNat] := by
                  rw [show (mid - i).toNat = (mid + m - i - m).toNat by omega]; exact List.getElem?_eq_getElem k2
                rcases Nat.eq_zero_or_pos (i - a).toNat with h0 | h0
                · rw [h0] at hx; simp at hx
                · have s1 := lastLt tr hL (k := (i - a).toNat) (.inr ⟨_, k1', k3⟩) x hx
                  exact headLt tr hR (x := x) (.inr ⟨_, k2', s1⟩) y hy
            have x21 : ∀ x, x ∈ L.drop (i - a).toNat → ∀ y, y ∈ R.take (mid - i).toNat → lt y x := by
              intro x hx y hy
              rcases hb2 with rfl | ⟨k1, k2, k3⟩
              · rcases hhie with rfl | hhie
                · rw [List.drop_of_length_le (by omega)] at hx
                  simp at hx
                · rw [show (mid - i).toNat = 0 by omega] at hy
                  simp at hy
              · have k1' : L[(i - a).toNat]? = some L[(i - a).toNat] := List.getElem?_eq_getElem k1
                rcases Nat.eq_zero_or_pos (mid - i).toNat with h0 | h0
                · rw [h0] at hy; simp at hy
                · have k2' : R[(mid - i).toNat - 1]? = some R[(mid + m - 1 - i - m).toNat] := by
                    rw [show (mid - i).toNat - 1 = (mid + m - 1 - i - m).toNat by omega]; exact List.getElem?_eq_getElem k2
                  have s1 := headLt tr hL (x := R[(mid + m - 1 - i - m).toNat]) (.inr ⟨_, k1', k3⟩) x hx
                  exact lastLt tr hR (x := x) (.inr ⟨_, k2', s1⟩) y hy
            have lL1 : (L.take (i - a).toNat).length = (i - a).toNat := by rw [List.length_take]; omega
            have lR1 : (R.take (mid - i).toNat).length = (mid + m - i - m).toNat := by rw [List.length_take]; omega
            generalize L.take (i - a).toNat = L1 at hL12 x12 lL1
            generalize L.drop (i - a).toNat = L2 at hL12 x21
            generalize R.take (mid - i).toNat = R1 at hR12 x21 lR1
            generalize R.drop (mid - i).toNat = R2 at hR12 x12
            subst hL12
            subst hR12
            clear gL gR hrng
            rw [List.pairwise_append] at hL hR
            simp only [List.length_append] at hm hb hn hP hlen hL0 hR0 c1 c2
            -- the rotation
            have hrot : ∀ k : ((Unit × Unit) × ((List Int) × Unit)) → Option (Unit × ((List Int) × Unit)), (Option.bind (α := ((Unit × Unit) × ((List Int) × Unit)))
                (cond (decide (i < m)) (cond (decide (m < mid + m - i))
                  (Option.bind (f206 i m (mid + m - i) K (P ++ (L1 ++ L2) ++ (R1 ++ R2) ++ S)) fun r55 => cond ((decide ((List.length r55.2.1) = (List.length (P ++ (L1 ++ L2) ++ (R1 ++ R2) ++ S)))) && true) (some (((), ()), (r55.2.1, ()))) (none))
                  (some (((), ()), (P ++ (L1 ++ L2) ++ (R1 ++ R2) ++ S, ())))) (some (((), ()), (P ++ (L1 ++ L2) ++ (R1 ++ R2) ++ S, ())))) k) = k (((), ()), (P ++ L1 ++ R1 ++ (L2 ++ R2 ++ S), ())) := by
              intro k
              by_cases z1 : L2 = []
              · subst z1
                simp only [show ¬ i < m by simp at hm; omega, decide_false, cond_false, Option.bind_some]
                simp
              · have z1' := List.length_pos_iff.2 z1
                by_cases z2 : R1 = []
                · subst z2
                  simp only [List.length_nil] at lR1
                  simp only [show ¬ m < mid + m - i by omega, decide_false, cond_false]
                  cases decide (i < m) <;> simp
                · have z2' := List.length_pos_iff.2 z2
                  have e := p_rotate (K := K) (a := i) (m := m) (b := mid + m - i) L2 R1 (P ++ L1) (R2 ++ S) z1' z2' (by omega) (by simp; omega) (by simp; omega) (by simp; omega) (by simp; omega)
                  have hz : P ++ (L1 ++ L2) ++ (R1 ++ R2) ++ S = P ++ L1 ++ L2 ++ R1 ++ (R2 ++ S) := by simp
                  have hl2 : (P ++ L1 ++ R1 ++ L2 ++ (R2 ++ S)).length = (P ++ L1 ++ L2 ++ R1 ++ (R2 ++ S)).length := by simp; omega
                  rw [hz, e]
                  simp only [show i < m by omega, show m < mid + m - i by omega, decide_true, cond_true, Option.bind_some, hl2, Bool.and_self]
                  simp
            refine cast (congrArg (MergedAs lt P S (L1 ++ L2 ++ (R1 ++ R2))) (hrot _).symm) ?_
            simp only
            have hcL : ∀ x, x ∈ L1 ++ L2 → ∀ y, y ∈ R1 ++ R2 → Cmp K lt x y := hc
            -- the second merge, whatever the first gave
            have hsec : ∀ M1 : List Int, M1.Pairwise lt → M1.Perm (L1 ++ R1) → MergedAs lt P S (L1 ++ L2 ++ (R1 ++ R2)) (cond (decide (mid < mid + m - i)) (cond (decide (mid + m - i < b)) (Option.bind (g mid (mid + m - i) b K (P ++ M1 ++ (L2 ++ R2 ++ S))) fun r => cond ((decide (r.2.1.length = (P ++ M1 ++ (L2 ++ R2 ++ S)).length)) && true) (some ((), (r.2.1, ()))) none) (some ((), (P ++ M1 ++ (L2 ++ R2 ++ S), ())))) (some ((), (P ++ M1 ++ (L2 ++ R2 ++ S), ())))) := by
              intro M1 s1 p1
              have hlM := p1.length_eq
              simp only [List.length_append] at hlM
              obtain ⟨M2, s2, p2, e2⟩ := merge_if ih L2 R2 (P ++ M1) S mid (mid + m - i) b (by omega) (by simp; omega) hL.2.1 hR.2.1 (fun x hx y hy => hcL x (by simp [hx]) y (by simp [hy])) (by simp; omega) (by simp; omega) (by simp; omega) (fun z => some ((), (z, ())))
              have hz : P ++ M1 ++ (L2 ++ R2 ++ S) = P ++ M1 ++ L2 ++ R2 ++ S := by simp
              rw [hz]
              refine ⟨M1 ++ M2, ?_, ?_, ?_⟩
              · refine e2.trans ?_
                simp
              · rw [List.pairwise_append]
                refine ⟨s1, s2, fun x hx y hy => ?_⟩
                rcases List.mem_append.1 (p1.mem_iff.1 hx) with hx | hx
                · rcases List.mem_append.1 (p2.mem_iff.1 hy) with hy | hy
                  · exact hL.2.2 x hx y hy
                  · exact x12 x hx y hy
                · rcases List.mem_append.1 (p2.mem_iff.1 hy) with hy | hy
                  · exact x21 y hy x hx
                  · exact hR.2.2 x hx y hy
              · refine (p1.append p2).trans ?_
                rw [List.append_assoc L1 R1, List.append_assoc L1 L2]
                refine List.Perm.append_left L1 ?_
                rw [← List.append_assoc, ← List.append_assoc]
                exact List.Perm.append_right R2 List.perm_append_comm
            obtain ⟨M1, s1, p1, e1⟩ := merge_if ih L1 R1 P (L2 ++ R2 ++ S) a i mid (by omega) (by omega) hL.1 hR.1 (fun x hx y hy => hcL x (by simp [hx]) y (by simp [hy])) ha (by omega) (by omega) (fun z => cond (decide (mid < mid + m - i)) (cond (decide (mid + m - i < b)) (Option.bind (g mid (mid + m - i) b K z) fun r => cond ((decide (r.2.1.length = z.length)) && true) (some ((), (r.2.1, ()))) none) (some ((), (z, ())))) (some ((), (z, ()))))
            exact cast (congrArg (MergedAs lt P S (L1 ++ L2 ++ (R1 ++ R2))) e1.symm) (hsec M1 s1 p1)
        by_cases c3 : mid < m
        · simp only [c3, decide_true, cond_true, Option.bind_some]
          exact key (mid + m - b) mid (by omega) (by omega) (by omega) (fun c h1 h2 => by omega) (by omega) (by omega) (.inr (by omega)) (.inr (by omega))
        · simp only [c3, decide_false, cond_false, Option.bind_some]
          exact key a m (by omega) (by omega) (by omega) (fun c h1 h2 => by omega) (by omega) (by omega) (.inl rfl) (.inl rfl)

theorem LN_one {σ ω : Type} (f : σ → (σ → Option ω) → Option ω) (s : σ) : LN LOOPS f s = f s (loopN f (LOOPS - 1)) := by
  show loopN f LOOPS s = _
  have e : LOOPS = (LOOPS - 1) + 1 := by unfold LOOPS; omega
  conv => lhs; rw [e]
  rfl
theorem LN_four {σ ω : Type} (f : σ → (σ → Option ω) → Option ω) (s : σ) : LN LOOPS f s = f s fun s => f s fun s => f s fun s => f s (loopN f (LOOPS - 4)) := by
  show loopN f LOOPS s = _
  have e : LOOPS = (LOOPS - 4) + 4 := by unfold LOOPS; omega
  conv => lhs; rw [e]
  rfl
/-- blocks are sorted by insertion -/
theorem p_insertion (tr : ∀ x y z, lt x y → lt y z → lt x z) (B P S : List Int) (a b : Int) (hB : B.Pairwise (Cmp K lt)) (hP : P.length + B.length ≤ 400) (ha : a = P.length) (hb : b = P.length + B.length) :
    MergedAs lt P S B (f188 a b K (P ++ B ++ S)) := by
  unfold f188 F188
  rw [wi (by omega) (by omega)]
  cases B with
  | nil =>
    refine ⟨[], ?_, .nil, .refl _⟩
    simp only [List.length_nil] at hb
    rw [LN_one]
    simp only [l188_1, show ¬ a + 1 < b by omega, decide_false, cond_false]
  | cons b0 B =>
    rw [List.pairwise_cons] at hB
    simp only [List.length_cons] at hb hP
    refine loop_ex (I := fun s => ∃ Q R : List Int, s = (((), (P.length : Int) + Q.length, ()), (P ++ Q ++ R ++ S, ())) ∧ Q.Pairwise lt ∧ (Q ++ R).Perm (b0 :: B) ∧ (∀ x, x ∈ Q → ∀ y, y ∈ R → Cmp K lt x y) ∧ R.Pairwise (Cmp K lt)) (m := fun s => (b - s.1.2.1).toNat) (Q := MergedAs lt P S (b0 :: B)) ?_
      ⟨[b0], B, by simp; omega, List.pairwise_singleton _ _, .refl _, fun x hx y hy => by rw [List.mem_singleton] at hx; subst hx; exact hB.1 y hy, hB.2⟩ (by show (b - (a + 1)).toNat < LOOPS; unfold LOOPS; omega)
    rintro s nx5 ⟨Q, R, rfl, hs, hp, hc, hr⟩ hn
    have hlen := hp.length_eq
    simp only [List.length_append, List.length_cons] at hlen
    simp only [l188_1]
    cases R with
    | nil =>
      simp only [List.length_nil] at hlen
      simp only [show ¬ (P.length : Int) + (Q.length : Int) < b by omega, decide_false, cond_false]
      exact ⟨Q, by simp, hs, by simpa using hp⟩
    | cons y R =>
      rw [List.pairwise_cons] at hr
      simp only [List.length_cons] at hlen
      simp only [show (P.length : Int) + (Q.length : Int) < b by omega, decide_true, cond_true]
      have w1 : IntKind.wrap .i64 ((P.length : Int) + (Q.length : Int) + 1) = (P.length : Int) + (Q.length : Int) + 1 := wi (by omega) (by omega)
      refine loop_ex (I := fun s => ∃ A C : List Int, s = (((), (P.length : Int) + A.length, ()), (P ++ A ++ y :: (C ++ R ++ S), ())) ∧ A ++ C = Q ∧ (∀ c, c ∈ C → lt y c)) (m := fun s => (s.1.2.1).toNat) (Q := MergedAs lt P S (b0 :: B)) ?_ ⟨Q, [], by simp, by simp, by simp⟩ (by show ((P.length : Int) + (Q.length : Int)).toNat < LOOPS; unfold LOOPS; omega)
      rintro s nx9 ⟨A, C, rfl, rfl, hC⟩ hn2
      simp only [l188_0, w1]
      -- the end of one insertion
      have fin : (∀ x, x ∈ A → lt x y) → MergedAs lt P S (b0 :: B) (nx5 (((), (P.length : Int) + ((A ++ C).length : Int) + 1, ()), (P ++ A ++ y :: (C ++ R ++ S), ()))) := fun hA => by
        refine hn _ ⟨A ++ y :: C, R, by simp; omega, ?_, ?_, ?_, hr.2⟩ (by simp only; omega)
        · rw [List.pairwise_append] at hs ⊢
          refine ⟨hs.1, List.pairwise_cons.2 ⟨hC, hs.2.1⟩, fun x hx c hc => ?_⟩
          rcases List.mem_cons.1 hc with rfl | hc
          · exact hA x hx
          · exact hs.2.2 x hx c hc
        · refine List.Perm.trans ?_ hp
          have : (A ++ y :: C ++ R).Perm (A ++ C ++ y :: R) := by
            rw [List.append_assoc, List.append_assoc]
            refine List.Perm.append_left A ?_
            exact (List.perm_middle (a := y) (l₁ := C) (l₂ := R)).symm
          exact this
        · intro x hx z hz
          rcases List.mem_append.1 hx with hx | hx
          · exact hc x (by simp [hx]) z (by simp [hz])
          · rcases List.mem_cons.1 hx with rfl | hx
            · exact hr.1 z hz
            · exact hc x (by simp [hx]) z (by simp [hz])
      by_cases hA : A = []
      · subst hA
        simp only [show ¬ a < (P.length : Int) + (([] : List Int).length : Int) by simp; omega, decide_false, cond_false]
        exact fin (fun x hx => by simp at hx)
      · obtain ⟨A, w, rfl⟩ : ∃ A' w, A = A' ++ [w] := ⟨A.dropLast, A.getLast hA, (List.dropLast_concat_getLast hA).symm⟩
        obtain ⟨c, hc1, hc2⟩ := hc w (by simp) y (by simp)
        simp only [List.length_append, List.length_singleton] at hlen
        have hz : P ++ (A ++ [w]) ++ y :: (C ++ R ++ S) = (P ++ A) ++ w :: ([] ++ y :: (C ++ R ++ S)) := by simp
        have p1 : ((P.length : Int) + ((A ++ [w]).length : Int)).toNat = (P ++ A).length + 1 + ([] : List Int).length := by simp; omega
        have w2 : IntKind.wrap .i64 ((P.length : Int) + ((A ++ [w]).length : Int) - 1) = (P.length : Int) + (A.length : Int) := by
          have lA : (A ++ [w]).length = A.length + 1 := by simp
          rw [wi (by omega) (by omega)]; omega
        have p2 : ((P.length : Int) + (A.length : Int)).toNat = (P ++ A).length := by simp; omega
        have e1 : ((P ++ A) ++ w :: ([] ++ y :: (C ++ R ++ S)))[(P ++ A).length]? = some w := get_mid rfl
        have e2 : ((P ++ A) ++ w :: ([] ++ y :: (C ++ R ++ S)))[(P ++ A).length + 1 + ([] : List Int).length]? = some y := get_far rfl
        have e3 : ((P ++ A) ++ w :: ([] ++ y :: (C ++ R ++ S))).set ((P ++ A).length + 1 + ([] : List Int).length) w = (P ++ A) ++ w :: ([] ++ w :: (C ++ R ++ S)) := set_far rfl
        have e4 : ((P ++ A) ++ w :: ([] ++ w :: (C ++ R ++ S)))[(P ++ A).length]? = some w := get_mid rfl
        have e5 : ((P ++ A) ++ w :: ([] ++ w :: (C ++ R ++ S))).set (P ++ A).length y = (P ++ A) ++ y :: ([] ++ w :: (C ++ R ++ S)) := set_mid rfl
        have l1 : (P ++ A).length < ((P ++ A) ++ w :: ([] ++ y :: (C ++ R ++ S))).length := by rw [len_far]; omega
        have l2 : (P ++ A).length + 1 + ([] : List Int).length < ((P ++ A) ++ w :: ([] ++ y :: (C ++ R ++ S))).length := by rw [len_far]; omega
        have l3 : (P ++ A).length < ((P ++ A) ++ w :: ([] ++ w :: (C ++ R ++ S))).length := by rw [len_far]; omega
        rw [hz] at fin ⊢
        simp only [show a < (P.length : Int) + ((A ++ [w]).length : Int) by simp; omega, show (0 : Int) ≤ (P.length : Int) + ((A ++ [w]).length : Int) by omega, w2, show (0 : Int) ≤ (P.length : Int) + (A.length : Int) by omega, p1, p2, e1, e2, l1, l2, hc1, decide_true, cond_true, Option.bind_some]
        rcases hc2 with ⟨hc2, hc3⟩ | ⟨hc2, hc3⟩
        · simp only [hc2, decide_true, cond_true, e3, e4, e5, l3, Option.bind_some]
          refine hn2 _ ⟨A, w :: C, by simp, by simp, fun c hc => ?_⟩ (by simp; omega)
          rcases List.mem_cons.1 hc with rfl | hc
          · exact hc3
          · exact hC c hc
        · simp only [hc2, decide_false, cond_false]
          have := fin (fun x hx => by
            rw [List.pairwise_append, List.pairwise_append] at hs
            rcases List.mem_append.1 hx with hx | hx
            · exact tr _ _ _ (hs.1.2.2 x hx w (by simp)) hc3
            · rw [List.mem_singleton] at hx; subst hx; exact hc3)
          exact this
theorem p_stable (tr : ∀ x y z, lt x y → lt y z → lt x z) (B : List Int) (hB : B.Pairwise (Cmp K lt)) (hn : B.length ≤ 30) :
    ∃ M, f160 (B.length : Int) K B = some ((), (M, ())) ∧ M.Pairwise lt ∧ M.Perm B := by
  unfold f160 F160
  have w0 : IntKind.wrap .i64 ((20 : Int) + 20) = 40 := wi (by omega) (by omega)
  have w1 : IntKind.wrap .i64 ((2 : Int) * 20) = 40 := wi (by omega) (by omega)
  have w2 : IntKind.wrap .i64 ((20 : Int) * 2) = 40 := wi (by omega) (by omega)
  have w3 : IntKind.wrap .i64 ((0 : Int) + 20) = 20 := wi (by omega) (by omega)
  rw [LN_four]
  by_cases h : B.length < 20
  · obtain ⟨M, e, h1, h2⟩ := p_insertion (K := K) tr B [] [] 0 (B.length : Int) hB (by simp; omega) rfl (by simp)
    simp only [List.nil_append, List.append_nil] at e
    refine ⟨M, ?_, h1, h2⟩
    simp only [l160_2, show ¬ (20 : Int) ≤ (B.length : Int) by omega, decide_false, cond_false, e, Option.bind_some, h2.length_eq, decide_true, Bool.and_self, cond_true]
    rw [LN_one]
    simp only [l160_1, show ¬ (20 : Int) < (B.length : Int) by omega, decide_false, cond_false]
  · have hB12 : B = B.take 20 ++ B.drop 20 := (List.take_append_drop _ _).symm
    have l1 : (B.take 20).length = 20 := by rw [List.length_take]; omega
    have l2 : (B.drop 20).length = B.length - 20 := by simp
    generalize B.take 20 = B1 at hB12 l1
    generalize B.drop 20 = B2 at hB12 l2
    subst hB12
    rw [List.pairwise_append] at hB
    obtain ⟨M1, e1, s1, p1⟩ := p_insertion (K := K) tr B1 [] B2 0 20 hB.1 (by simp; omega) rfl (by simp; omega)
    simp only [List.nil_append] at e1
    have lM1 := p1.length_eq
    obtain ⟨M2, e2, s2, p2⟩ := p_insertion (K := K) tr B2 M1 [] 20 ((B1 ++ B2).length : Int) hB.2.1 (by simp only [List.length_append] at hn; omega) (by omega) (by simp only [List.length_append]; omega)
    simp only [List.append_nil] at e2
    have lM2 := p2.length_eq
    have q1 : (M1 ++ B2).length = (B1 ++ B2).length := by simp; omega
    have q2 : (M1 ++ M2).length = (M1 ++ B2).length := by simp; omega
    simp only [List.length_append] at hn h l2
    simp only [l160_2, show (20 : Int) ≤ ((B1 ++ B2).length : Int) by simp; omega, decide_true, cond_true, e1, Option.bind_some, q1, Bool.and_self, w0, show ¬ (40 : Int) ≤ ((B1 ++ B2).length : Int) by simp; omega, decide_false, cond_false, e2, q2]
    rw [LN_four]
    simp only [l160_1]
    by_cases h2 : B2 = []
    · subst h2
      obtain rfl : M2 = [] := by cases M2 with | nil => rfl | cons _ _ => simp at lM2
      refine ⟨M1, ?_, s1, by simpa using p1⟩
      simp only [List.append_nil, show ¬ (20 : Int) < (B1.length : Int) by omega, decide_false, cond_false]
    · have h2' := List.length_pos_iff.2 h2
      simp only [show (20 : Int) < ((B1 ++ B2).length : Int) by simp; omega, decide_true, cond_true]
      rw [LN_one]
      simp only [l160_0, w1, w2, w3, show ¬ (40 : Int) ≤ ((B1 ++ B2).length : Int) by simp; omega, show (20 : Int) < ((B1 ++ B2).length : Int) by simp; omega, decide_true, decide_false, cond_true, cond_false]
      obtain ⟨M, e, s, p⟩ := p_symMerge (K := K) tr RDEEP M1 M2 [] [] 0 20 ((B1 ++ B2).length : Int) (by unfold RDEEP; omega) (by omega) (by omega) (by simp; omega) s1 s2 (fun x hx y hy => hB.2.2 x (p1.mem_iff.1 hx) y (p2.mem_iff.1 hy)) rfl (by simp; omega) (by simp; omega)
      simp only [List.nil_append, List.append_nil] at e
      have e' : f189 0 20 ((B1 ++ B2).length : Int) K (M1 ++ M2) = some ((), (M, ())) := e
      have q3 : M.length = (M1 ++ M2).length := p.length_eq
      refine ⟨M, ?_, s, p.trans (p1.append p2)⟩
      simp only [e', Option.bind_some, q3, decide_true, Bool.and_self, cond_true]
      simp only [show ¬ (40 : Int) < ((B1 ++ B2).length : Int) by simp; omega, decide_false, cond_false]
theorem p_SortStable (tr : ∀ x y z, lt x y → lt y z → lt x z) (B : List Int) (hB : B.Pairwise (Cmp K lt)) (hn : B.length ≤ 30) :
    ∃ M, f124 K B = some ((), (M, ())) ∧ M.Pairwise lt ∧ M.Perm B := by
  obtain ⟨M, e, h1, h2⟩ := p_stable (K := K) tr B hB hn
  refine ⟨M, ?_, h1, h2⟩
  unfold f124 F124
  simp only [e, Option.bind_some, h2.length_eq, decide_true, Bool.and_self, cond_true]
end
end NM
end Go.Proofs.Ytacaeonoogkkaaa
