/-
  Lengths of time as text, about plain data.
-/
import Derived.Test.YtbhnojlcbgkcbaaDoorSpanM
import Derived.KernelRfl
set_option linter.unusedVariables false
set_option linter.unusedSimpArgs false
namespace Go.Proofs.YtbhnojlcbgkcbaaDoor
namespace NM
open AM

theorem LN_succ {σ ω : Type} (f : σ → (σ → Option ω) → Option ω) (s : σ) : LN LOOPS f s = f s (loopN f (LOOPS - 1)) := by
  show loopN f LOOPS s = _
  rw [show LOOPS = (LOOPS - 1) + 1 by unfold LOOPS; omega]
  rfl
theorem loop_one {σ ω : Type} (f : σ → (σ → Option ω) → Option ω) (s : σ) : loopN f (LOOPS - 1) s = f s (loopN f (LOOPS - 2)) := by
  rw [show LOOPS - 1 = (LOOPS - 2) + 1 by unfold LOOPS; omega]
  rfl
theorem loop_two {σ ω : Type} (f : σ → (σ → Option ω) → Option ω) (s : σ) : loopN f (LOOPS - 2) s = f s (loopN f (LOOPS - 3)) := by
  rw [show LOOPS - 2 = (LOOPS - 3) + 1 by unfold LOOPS; omega]
  rfl
def dd (k : Nat) : List UInt8 := [UInt8.ofNat (48 + k / 10), UInt8.ofNat (48 + k % 10)]
def hd (h : Nat) : List UInt8 := if h < 10 then [UInt8.ofNat (48 + h)] else dd h
/-- a length as text -/
def txt (n : Nat) : List UInt8 := hd (n / 3600) ++ 58 :: (dd (n % 3600 / 60) ++ 58 :: dd (n % 60))
def toI (l : List UInt8) : List Int := l.map fun c => (c.toNat : Int)

theorem app_h : ∀ h : Fin 19, f21 (h.val : Int) 10 = some ((), (toI (hd h.val), ())) := by decide +kernel
theorem pair_fin : ∀ k : Fin 60, ([58, IntKind.wrap .u8 (48 + (IntKind.wrap .u8 (IntKind.wrap .i64 (Int.tdiv (k.val : Int) 10)))), IntKind.wrap .u8 (48 + (IntKind.wrap .u8 (Int.tmod (k.val : Int) 10)))] : List Int) = toI (58 :: dd k.val) := by decide +kernel
theorem bytes_toI : ∀ l : List UInt8, nbytes (toI l) = some l
  | [] => rfl
  | c :: l => by
    have ih := bytes_toI l
    unfold nbytes toI at *
    have hc := UInt8.toNat_lt c
    have h1 : nbyte (c.toNat : Int) = some c := by
      unfold nbyte
      rw [if_pos ⟨by omega, by omega⟩]
      simp
    simp only [List.map_cons, allOf, h1, ih]
theorem hd_len (h : Nat) : 1 ≤ (hd h).length ∧ (hd h).length ≤ 2 := by unfold hd dd; split <;> simp
theorem p_Parts (n : Nat) (h : n ≤ 65536) : f8 (n : Int) = some (((n / 3600 : Nat) : Int), ((n % 3600 / 60 : Nat) : Int), ((n % 60 : Nat) : Int), ()) := by
  unfold f8 F8
  have e1 : IntKind.wrap .i64 (Int.tdiv (n : Int) 3600) = ((n / 3600 : Nat) : Int) := by
    rw [Int.tdiv_eq_ediv_of_nonneg (by omega), wi (by omega) (by omega)]; omega
  have e2 : IntKind.wrap .i64 (Int.tdiv (Int.tmod (n : Int) 3600) 60) = ((n % 3600 / 60 : Nat) : Int) := by
    rw [Int.tmod_eq_emod_of_nonneg (by omega), Int.tdiv_eq_ediv_of_nonneg (by omega), wi (by omega) (by omega)]; omega
  have e3 : Int.tmod (n : Int) 60 = ((n % 60 : Nat) : Int) := by
    rw [Int.tmod_eq_emod_of_nonneg (by omega)]; omega
  rw [e1, e2, e3, decide_eq_false (by omega)]
  rfl
theorem p_pairs (m r : Nat) (hm : m < 60) (hr : r < 60) (a : List UInt8) (ha : a.length ≤ 2) : f20 (m : Int) (r : Int) (toI a) = some ((), ((), (toI (a ++ 58 :: (dd m ++ 58 :: dd r)), ()))) := by
  have e1 := pair_fin ⟨m, hm⟩
  have e2 := pair_fin ⟨r, hr⟩
  simp only at e1 e2
  unfold f20 F20
  simp only
  rw [e1, e2]
  have hl : (toI a).length = a.length := by simp [toI]
  have s1 : smallB ((toI a).length + 3) 1 = true := by rw [hl]; simp [smallB]; omega
  have s2 : smallB ((toI a ++ toI (58 :: dd m)).length + 3) 1 = true := by
    have : (toI (58 :: dd m)).length = 3 := rfl
    rw [List.length_append, this, hl]; simp [smallB]; omega
  rw [s1, s2]
  simp [toI, dd]
/-- the text -/
theorem p_Text (n : Nat) (h : n ≤ 65536) : f10 (n : Int) = some (txt n, 0, ()) := by
  unfold f10 F10
  rw [decide_eq_false (show ¬ (n : Int) < 0 by omega), decide_eq_false (show ¬ (65536 : Int) < (n : Int) by omega)]
  have h1 := app_h ⟨n / 3600, by omega⟩
  simp only at h1
  simp only [cond_false, p_Parts n h, Option.bind_some, h1, p_pairs (n % 3600 / 60) (n % 60) (by omega) (by omega) (hd (n / 3600)) (hd_len _).2, bytes_toI]
  rfl
theorem p_Text_no (n : Int) (h : n < 0 ∨ 65536 < n) : f10 n = some ([], 2, ()) := by
  unfold f10 F10
  rcases h with h | h
  · rw [decide_eq_true h]; rfl
  · rw [decide_eq_false (show ¬ n < 0 by omega), decide_eq_true h]; rfl

/- reading -/
def cutL (c : UInt8) : List UInt8 → List UInt8 × (List UInt8 × Bool)
  | [] => ([], ([], false))
  | x :: l => if x = c then ([], (l, true)) else (x :: (cutL c l).1, (cutL c l).2)
theorem cut_idx (c : UInt8) : ∀ s : List UInt8, ((cutL c s).2.2 = true ∧ Lib.indexByte s c = ((cutL c s).1.length : Int) ∧ s = (cutL c s).1 ++ c :: (cutL c s).2.1) ∨ ((cutL c s).2.2 = false ∧ Lib.indexByte s c = -1 ∧ (cutL c s).1 = s ∧ (cutL c s).2.1 = [])
  | [] => .inr ⟨rfl, rfl, rfl, rfl⟩
  | x :: l => by
    by_cases h : x = c
    · refine .inl ?_
      simp [cutL, h, Lib.indexByte]
    · have hb : (x == c) = false := by simp [h]
      rcases cut_idx c l with ⟨h1, h2, h3⟩ | ⟨h1, h2, h3, h4⟩
      · refine .inl ⟨by simp [cutL, h, h1], ?_, by simp only [cutL, h, if_false, List.cons_append]; rw [← h3]⟩
        simp only [cutL, h, if_false, Lib.indexByte, hb, Bool.false_eq_true]
        rw [h2, if_neg (by simp)]
        simp
      · refine .inr ⟨by simp [cutL, h, h1], ?_, by simp [cutL, h, h3], by simp [cutL, h, h4]⟩
        simp only [Lib.indexByte, hb, Bool.false_eq_true, if_false]
        rw [h2]
        try rfl
theorem cut_len (c : UInt8) (s : List UInt8) : (cutL c s).2.1.length ≤ s.length := by
  rcases cut_idx c s with ⟨_, _, h⟩ | ⟨_, _, _, h⟩
  · have := congrArg List.length h; simp at this; omega
  · rw [h]; simp
theorem p_Cut (s : List UInt8) (c : UInt8) (hs : s.length ≤ maxLen) : f22 s [c] = some ((cutL c s).1, (cutL c s).2.1, (cutL c s).2.2, ()) := by
  have hml : maxLen = 9223372036854775807 := rfl
  unfold f22 F22 f35 F35 f43
  simp only [strIdx, Option.bind_some, List.length_singleton]
  rcases cut_idx c s with ⟨h1, h2, h3⟩ | ⟨h1, h2, h3, h4⟩
  · have hl : s.length = (cutL c s).1.length + 1 + (cutL c s).2.1.length := by
      have := congrArg List.length h3; simp at this; omega
    have ew : IntKind.wrap .i64 (((cutL c s).1.length : Int) + ((1 : Nat) : Int)) = ((cutL c s).1.length : Int) + ((1 : Nat) : Int) := wi (by omega) (by omega)
    have e1 : Int.toNat ((cutL c s).1.length : Int) = (cutL c s).1.length := by omega
    have e2 : Int.toNat (((cutL c s).1.length : Int) + ((1 : Nat) : Int)) = (cutL c s).1.length + 1 := by omega
    have d1 : (0 : Int) ≤ ((cutL c s).1.length : Int) := by omega
    have d2 : (cutL c s).1.length ≤ s.length := by omega
    have d3 : (0 : Int) ≤ ((cutL c s).1.length : Int) + ((1 : Nat) : Int) := by omega
    have d4 : (cutL c s).1.length + 1 ≤ s.length := by omega
    simp only [h2, ew, e1, e2, d1, d2, d3, d4, decide_true, cond_true, Option.bind_some, h1]
    clear ew e1 e2 d1 d2 d3 d4 h1 h2 hl
    generalize cutL c s = p at *
    obtain ⟨a, b, e⟩ := p
    simp only at h3 ⊢
    subst h3
    simp
  · rw [h2, decide_eq_false (by omega)]
    simp only [cond_false, Option.bind_some, h1, h3, h4]

/-- the number of at most two bytes -/
def numI : List UInt8 → Int
  | [] => 0
  | [a] => (a.toNat : Int) - 48
  | [a, b] => 10 * ((a.toNat : Int) - 48) + ((b.toNat : Int) - 48)
  | _ => 0
theorem numI_le (l : List UInt8) : -10000 ≤ numI l ∧ numI l ≤ 10000 := by
  unfold numI
  split
  · omega
  · rename_i a; have := UInt8.toNat_lt a; omega
  · rename_i a b; have := UInt8.toNat_lt a; have := UInt8.toNat_lt b; omega
  · omega
theorem p_number (l : List UInt8) (h : l.length ≤ 2) : f23 l = some (numI l) := by
  unfold f23 F23
  match l, h with
  | [], _ => rw [LN_succ]; rfl
  | [a], _ =>
    have := UInt8.toNat_lt a
    have w1 : IntKind.wrap .i64 (0 + 1) = 1 := rfl
    have w2 : IntKind.wrap .i64 (IntKind.wrap .i64 (IntKind.wrap .i64 (10 * 0) + IntKind.wrap .i64 (a.toNat : Int)) - 48) = (a.toNat : Int) - 48 := by
      rw [wi (x := 10 * 0) (by omega) (by omega), wi (x := (a.toNat : Int)) (by omega) (by omega), wi (x := 10 * 0 + (a.toNat : Int)) (by omega) (by omega), wi (by omega) (by omega)]; omega
    have c0 : (decide ((0 : Int) < ((1 : Nat) : Int))) = true := rfl
    have c1 : (decide ((1 : Int) < ((1 : Nat) : Int))) = false := rfl
    have c2 : (decide ((0 : Int) ≤ 0)) = true := rfl
    rw [LN_succ]
    simp only [l23_0, List.length_singleton, c0, c2, cond_true, show Int.toNat 0 = 0 from rfl, List.getElem?_cons_zero, Option.bind_some, w1, w2]
    rw [loop_one]
    simp only [l23_0, List.length_singleton, c1, cond_false, numI]
  | [a, b], _ =>
    have := UInt8.toNat_lt a
    have := UInt8.toNat_lt b
    have w1 : IntKind.wrap .i64 (0 + 1) = 1 := rfl
    have w2 : IntKind.wrap .i64 (IntKind.wrap .i64 (IntKind.wrap .i64 (10 * 0) + IntKind.wrap .i64 (a.toNat : Int)) - 48) = (a.toNat : Int) - 48 := by
      rw [wi (x := 10 * 0) (by omega) (by omega), wi (x := (a.toNat : Int)) (by omega) (by omega), wi (x := 10 * 0 + (a.toNat : Int)) (by omega) (by omega), wi (by omega) (by omega)]; omega
    have w3 : IntKind.wrap .i64 (1 + 1) = 2 := rfl
    have w4 : IntKind.wrap .i64 (IntKind.wrap .i64 (IntKind.wrap .i64 (10 * ((a.toNat : Int) - 48)) + IntKind.wrap .i64 (b.toNat : Int)) - 48) = 10 * ((a.toNat : Int) - 48) + ((b.toNat : Int) - 48) := by
      rw [wi (x := 10 * ((a.toNat : Int) - 48)) (by omega) (by omega), wi (x := (b.toNat : Int)) (by omega) (by omega), wi (x := 10 * ((a.toNat : Int) - 48) + (b.toNat : Int)) (by omega) (by omega), wi (by omega) (by omega)]; omega
    have hl : ([a, b].length : Int) = 2 := rfl
    have c0 : (decide ((0 : Int) < 2)) = true := rfl
    have c1 : (decide ((1 : Int) < 2)) = true := rfl
    have c3 : (decide ((2 : Int) < 2)) = false := rfl
    have c2 : (decide ((0 : Int) ≤ 0)) = true := rfl
    have c4 : (decide ((0 : Int) ≤ 1)) = true := rfl
    rw [LN_succ]
    simp only [l23_0, hl, c0, c2, cond_true, show Int.toNat 0 = 0 from rfl, List.getElem?_cons_zero, Option.bind_some, w1, w2]
    rw [loop_one]
    simp only [l23_0, hl, c1, c4, cond_true, show Int.toNat 1 = 1 from rfl, List.getElem?_cons_succ, List.getElem?_cons_zero, Option.bind_some, w3, w4]
    rw [loop_two]
    simp only [l23_0, hl, c3, cond_false, numI]
def formI (s : List UInt8) : Prop := (cutL 58 s).1.length ≤ 2 ∧ (cutL 58 (cutL 58 s).2.1).1.length = 2 ∧ (cutL 58 (cutL 58 s).2.1).2.1.length = 2
def candI (s : List UInt8) : Int := numI (cutL 58 s).1 * 3600 + numI (cutL 58 (cutL 58 s).2.1).1 * 60 + numI (cutL 58 (cutL 58 s).2.1).2.1
theorem p_Read (s : List UInt8) (hs : s.length ≤ maxLen) :
    (formI s ∧ 0 ≤ candI s ∧ candI s ≤ 65536 ∧ txt (candI s).toNat = s ∧ f11 s = some (candI s, 0, ())) ∨ (¬ (formI s ∧ 0 ≤ candI s ∧ candI s ≤ 65536 ∧ txt (candI s).toNat = s) ∧ f11 s = some (0, 11, ())) := by
  have hl := cut_len 58 s
  unfold f11 F11
  simp only [p_Cut s 58 hs, p_Cut (cutL 58 s).2.1 58 (by omega), Option.bind_some]
  by_cases h1 : (cutL 58 s).1.length ≤ 2
  · rw [decide_eq_false (show ¬ (2 : Int) < ((cutL 58 s).1.length : Int) by omega)]
    by_cases h2 : (cutL 58 (cutL 58 s).2.1).1.length = 2
    · rw [decide_eq_true (show ((cutL 58 (cutL 58 s).2.1).1.length : Int) = 2 by omega)]
      by_cases h3 : (cutL 58 (cutL 58 s).2.1).2.1.length = 2
      · rw [decide_eq_true (show ((cutL 58 (cutL 58 s).2.1).2.1.length : Int) = 2 by omega)]
        simp only [cond_false, Bool.not_true, p_number _ h1, p_number _ (Nat.le_of_eq h2), p_number _ (Nat.le_of_eq h3), Option.bind_some]
        have n1 := numI_le (cutL 58 s).1
        have n2 := numI_le (cutL 58 (cutL 58 s).2.1).1
        have n3 := numI_le (cutL 58 (cutL 58 s).2.1).2.1
        have hw : IntKind.wrap .i64 (IntKind.wrap .i64 (IntKind.wrap .i64 (numI (cutL 58 s).1 * 3600) + IntKind.wrap .i64 (numI (cutL 58 (cutL 58 s).2.1).1 * 60)) + numI (cutL 58 (cutL 58 s).2.1).2.1) = candI s := by
          unfold candI
          rw [wi (x := numI (cutL 58 s).1 * 3600) (by omega) (by omega), wi (x := numI (cutL 58 (cutL 58 s).2.1).1 * 60) (by omega) (by omega), wi (x := numI (cutL 58 s).1 * 3600 + _) (by omega) (by omega), wi (by omega) (by omega)]
        rw [hw]
        by_cases h4 : 0 ≤ candI s ∧ candI s ≤ 65536
        · obtain ⟨k, hk⟩ : ∃ k : Nat, candI s = (k : Int) := ⟨(candI s).toNat, by omega⟩
          rw [hk] at h4
          rw [hk, p_Text k (by omega)]
          simp only [Option.bind_some, decide_true, Bool.not_true, cond_false]
          by_cases h5 : txt k = s
          · refine .inl ⟨⟨h1, h2, h3⟩, h4.1, h4.2, by simpa using h5, ?_⟩
            simp [h5]
          · refine .inr ⟨fun h => h5 (by simpa using h.2.2.2), ?_⟩
            simp [h5]
        · refine .inr ⟨fun h => h4 ⟨h.2.1, h.2.2.1⟩, ?_⟩
          rw [p_Text_no _ (by omega)]
          rfl
      · rw [decide_eq_false (show ¬ ((cutL 58 (cutL 58 s).2.1).2.1.length : Int) = 2 by omega)]
        exact .inr ⟨fun h => h3 h.1.2.2, rfl⟩
    · rw [decide_eq_false (show ¬ ((cutL 58 (cutL 58 s).2.1).1.length : Int) = 2 by omega)]
      exact .inr ⟨fun h => h2 h.1.2.1, rfl⟩
  · rw [decide_eq_true (show (2 : Int) < ((cutL 58 s).1.length : Int) by omega)]
    exact .inr ⟨fun h => h1 h.1.1, rfl⟩

theorem cut_at (c : UInt8) : ∀ (a b : List UInt8), c ∉ a → cutL c (a ++ c :: b) = (a, (b, true))
  | [], b, _ => by simp [cutL]
  | x :: a, b, h => by
    have hx : ¬ x = c := fun e => h (by simp [e])
    have := cut_at c a b (fun hm => h (by simp [hm]))
    simp [cutL, hx, this]
theorem hd_fin : ∀ h : Fin 19, (58 : UInt8) ∉ hd h.val ∧ numI (hd h.val) = (h.val : Int) := by decide +kernel
theorem dd_fin : ∀ k : Fin 60, (58 : UInt8) ∉ dd k.val ∧ numI (dd k.val) = (k.val : Int) := by decide +kernel
/-- a length's text is read as the length -/
theorem cand_txt (n : Nat) (h : n ≤ 65536) : formI (txt n) ∧ candI (txt n) = (n : Int) := by
  have e1 := hd_fin ⟨n / 3600, by omega⟩
  have e2 := dd_fin ⟨n % 3600 / 60, by omega⟩
  have e3 := dd_fin ⟨n % 60, by omega⟩
  simp only at e1 e2 e3
  have hc : cutL 58 (txt n) = (hd (n / 3600), (dd (n % 3600 / 60) ++ 58 :: dd (n % 60), true)) := cut_at _ _ _ e1.1
  unfold formI candI
  rw [hc]
  simp only
  rw [cut_at _ _ _ e2.1]
  simp only
  refine ⟨⟨(hd_len _).2, rfl, rfl⟩, ?_⟩
  rw [e1.2, e2.2, e3.2]
  omega
theorem p_Read_txt (n : Nat) (h : n ≤ 65536) : f11 (txt n) = some ((n : Int), 0, ()) := by
  obtain ⟨h1, h2⟩ := cand_txt n h
  have hl : (txt n).length ≤ maxLen := by
    have := hd_len (n / 3600)
    have hml : maxLen = 9223372036854775807 := rfl
    simp only [txt, List.length_append, List.length_cons]
    have : (dd (n % 3600 / 60)).length = 2 := rfl
    have : (dd (n % 60)).length = 2 := rfl
    omega
  rcases p_Read (txt n) hl with ⟨_, _, _, _, h3⟩ | ⟨h3, _⟩
  · rw [h3, h2]
  · exact absurd ⟨h1, by omega, by omega, by rw [h2]; rfl⟩ h3

/- the document's side -/
theorem r_Parts (n : Nat) (h : n ≤ 65536) : f9 (n : Int) = some (((n / 3600 : Nat) : Int), ((n % 3600 / 60 : Nat) : Int), ((n % 60 : Nat) : Int), ()) := by
  unfold f9 F9
  have e1 : IntKind.wrap .i64 (Int.tdiv (n : Int) 3600) = ((n / 3600 : Nat) : Int) := by
    rw [Int.tdiv_eq_ediv_of_nonneg (by omega), wi (by omega) (by omega)]; omega
  have e0 : Int.tmod (n : Int) 3600 = ((n % 3600 : Nat) : Int) := by
    rw [Int.tmod_eq_emod_of_nonneg (by omega)]; omega
  have e2 : IntKind.wrap .i64 (Int.tdiv ((n % 3600 : Nat) : Int) 60) = ((n % 3600 / 60 : Nat) : Int) := by
    rw [Int.tdiv_eq_ediv_of_nonneg (by omega), wi (by omega) (by omega)]; omega
  have e3 : IntKind.wrap .i64 (((n % 3600 : Nat) : Int) - IntKind.wrap .i64 (60 * ((n % 3600 / 60 : Nat) : Int))) = ((n % 60 : Nat) : Int) := by
    rw [wi (x := 60 * ((n % 3600 / 60 : Nat) : Int)) (by omega) (by omega), wi (by omega) (by omega)]; omega
  simp only [e0, e1, e2, e3, decide_eq_false (show ¬ (n : Int) < 0 by omega), cond_false]
theorem parts_same (n : Int) : f8 n = f9 n ∨ 65536 < n ∧ ∃ a b c, f8 n = some (a, b, c, ()) ∧ f9 n = some (a, b, c, ()) := by
  by_cases h0 : n < 0
  · left
    unfold f8 F8 f9 F9
    simp [h0]
  · by_cases h1 : n ≤ 65536
    · left
      obtain ⟨k, rfl⟩ : ∃ k : Nat, n = (k : Int) := ⟨n.toNat, by omega⟩
      rw [p_Parts k (by omega), r_Parts k (by omega)]
    · refine .inr ⟨by omega, ?_⟩
      unfold f8 F8 f9 F9
      have e3 : IntKind.wrap .i64 (Int.tmod n 3600 - IntKind.wrap .i64 (60 * IntKind.wrap .i64 (Int.tdiv (Int.tmod n 3600) 60))) = Int.tmod n 60 := by
        rw [Int.tmod_eq_emod_of_nonneg (by omega), Int.tmod_eq_emod_of_nonneg (by omega), Int.tdiv_eq_ediv_of_nonneg (by omega)]
        rw [wi (x := n % 3600 / 60) (by omega) (by omega), wi (x := 60 * (n % 3600 / 60)) (by omega) (by omega), wi (by omega) (by omega)]
        omega
      simp only [decide_eq_false h0, cond_false, e3]
      exact ⟨_, _, _, rfl, rfl⟩
theorem dig_h : ∀ h : Fin 19, f24 (h.val : Int) = some (hd h.val) := by decide +kernel
theorem two_k : ∀ k : Fin 60, f25 (k.val : Int) = some (dd k.val) := by decide +kernel
theorem r_Text (n : Nat) (h : n ≤ 65536) : f12 (n : Int) = some (txt n) := by
  have e1 := dig_h ⟨n / 3600, by omega⟩
  have e2 := two_k ⟨n % 3600 / 60, by omega⟩
  have e3 := two_k ⟨n % 60, by omega⟩
  simp only at e1 e2 e3
  have l1 := hd_len (n / 3600)
  have l2 : (dd (n % 3600 / 60)).length = 2 := rfl
  have l3 : (dd (n % 60)).length = 2 := rfl
  unfold f12 F12
  simp only [r_Parts n h, Option.bind_some, e1, e2, e3]
  simp only [List.length_append, List.length_cons, List.length_nil, l2, l3]
  rw [decide_eq_true (by omega), decide_eq_true (by omega), decide_eq_true (by omega), decide_eq_true (by omega)]
  simp [txt]
theorem r_Text_neg (n : Int) (h : n < 0) : f12 n = some (txt 0) := by
  have h0 : f9 n = f9 ((0 : Nat) : Int) := by
    rw [r_Parts 0 (by omega)]
    unfold f9 F9
    simp [h]
  have h1 := r_Text 0 (by omega)
  unfold f12 F12 at h1 ⊢
  rw [h0]
  exact h1
/-- a byte that is read -/
def gR (b : Int × Int) (c : UInt8) : Int × Int :=
  if c = 58 then (IntKind.wrap .i64 ((IntKind.wrap .i64 (b.1 + b.2)) * 60), 0)
  else (b.1, IntKind.wrap .i64 ((IntKind.wrap .i64 (10 * b.2)) + (Int.tmod (Int.tmod (IntKind.wrap .i64 ((c.toNat : Int))) 48) 10)))
def candR (s : List UInt8) : Int := IntKind.wrap .i64 (((s.take 9).foldl gR (0, 0)).1 + ((s.take 9).foldl gR (0, 0)).2)
theorem r_Read (s : List UInt8) (hs : s.length ≤ maxLen) : f13 s = cond (decide (65536 < candR s)) (some (0, 11, ())) (Option.bind (f12 (candR s)) fun r => cond (!decide (r = s)) (some (0, 11, ())) (some (candR s, 0, ()))) := by
  have hml : maxLen = 9223372036854775807 := rfl
  unfold f13 F13
  have hlen : (s.take 9).length = min 9 s.length := List.length_take
  have := list_loop (ω := Int × (Int × Unit)) (f := fun (s1 : ((Int × (Int × (Int × Unit))) × Unit)) nx2 => l13_0 f12 s nx2 s1.1.1 s1.1.2.1 s1.1.2.2.1) (s.take 9) (fun (b : Int × Int) i => ((b.1, b.2, i, ()), ())) (fun b c => .inl (gR b c))
    (fun b => cond (decide (65536 < (IntKind.wrap .i64 (b.1 + b.2)))) (some (0, 11, ())) (Option.bind (f12 (IntKind.wrap .i64 (b.1 + b.2))) fun r => cond (!decide (r = s)) (some (0, 11, ())) (some (IntKind.wrap .i64 (b.1 + b.2), 0, ())))) (by omega)
    (fun b next => by
      simp only [l13_0]
      by_cases h9 : s.length ≤ 9
      · rw [decide_eq_false (show ¬ ((s.take 9).length : Int) < (s.length : Int) by omega)]
        rfl
      · rw [decide_eq_true (show ((s.take 9).length : Int) < (s.length : Int) by omega), decide_eq_false (show ¬ ((s.take 9).length : Int) < 9 by omega)]
        rfl)
    (fun b z x next h0 h1 h2 h3 => by
      have h9 : z < 9 := by omega
      have hx : s[z.toNat]? = some x := by rw [List.getElem?_take] at h2; split at h2; exact h2; cases h2
      simp only [l13_0]
      rw [decide_eq_true (show z < (s.length : Int) by omega), decide_eq_true h9, decide_eq_true h0]
      simp only [cond_true, hx, Option.bind_some, h3]
      unfold gR
      by_cases hc : x = 58
      · subst hc; rfl
      · have : ¬ (x.toNat : Int) = 58 := fun e => hc (by
          have : x.toNat = 58 := by omega
          exact UInt8.toNat_inj.1 this)
        rw [decide_eq_false this, if_neg hc]
        rfl) (0, 0)
  rw [this, runL_fold]
  rfl
def gp (p : Int) (c : UInt8) : Int := IntKind.wrap .i64 ((IntKind.wrap .i64 (10 * p)) + (Int.tmod (Int.tmod (IntKind.wrap .i64 ((c.toNat : Int))) 48) 10))
theorem fold_digits : ∀ (l : List UInt8) (n p : Int), (58 : UInt8) ∉ l → l.foldl gR (n, p) = (n, l.foldl gp p)
  | [], n, p, _ => rfl
  | c :: l, n, p, h => by
    have hc : ¬ c = 58 := fun e => h (by simp [e])
    rw [List.foldl_cons, List.foldl_cons, ← fold_digits l n _ (fun hm => h (by simp [hm]))]
    simp only [gR, if_neg hc, gp]
theorem hd_gp : ∀ h : Fin 19, (hd h.val).foldl gp 0 = (h.val : Int) := by decide +kernel
theorem dd_gp : ∀ k : Fin 60, (dd k.val).foldl gp 0 = (k.val : Int) := by decide +kernel
theorem candR_txt (n : Nat) (h : n ≤ 65536) : candR (txt n) = (n : Int) := by
  have e1 := hd_fin ⟨n / 3600, by omega⟩
  have e2 := dd_fin ⟨n % 3600 / 60, by omega⟩
  have e3 := dd_fin ⟨n % 60, by omega⟩
  have g1 := hd_gp ⟨n / 3600, by omega⟩
  have g2 := dd_gp ⟨n % 3600 / 60, by omega⟩
  have g3 := dd_gp ⟨n % 60, by omega⟩
  simp only at e1 e2 e3 g1 g2 g3
  have ht : (txt n).take 9 = txt n := by
    refine List.take_of_length_le ?_
    have := hd_len (n / 3600)
    have l2 : (dd (n % 3600 / 60)).length = 2 := rfl
    have l3 : (dd (n % 60)).length = 2 := rfl
    simp only [txt, List.length_append, List.length_cons, l2, l3]
    omega
  unfold candR
  rw [ht]
  unfold txt
  rw [List.foldl_append, List.foldl_cons, List.foldl_append, List.foldl_cons, fold_digits _ _ _ e1.1, g1]
  have c1 : gR (0, ((n / 3600 : Nat) : Int)) 58 = (((n / 3600 * 60 : Nat) : Int), 0) := by
    simp only [gR, if_true]
    rw [wi (x := 0 + _) (by omega) (by omega), wi (by omega) (by omega)]
    congr 1 <;> omega
  rw [c1, fold_digits _ _ _ e2.1, g2]
  have c2 : gR (((n / 3600 * 60 : Nat) : Int), ((n % 3600 / 60 : Nat) : Int)) 58 = ((((n / 3600 * 60 + n % 3600 / 60) * 60 : Nat) : Int), 0) := by
    simp only [gR, if_true]
    rw [wi (x := ((n / 3600 * 60 : Nat) : Int) + _) (by omega) (by omega), wi (by omega) (by omega)]
    congr 1 <;> omega
  rw [c2, fold_digits _ _ _ e3.1, g3]
  simp only
  rw [wi (by omega) (by omega)]
  omega
theorem awake04 : f7 = some true := by kernel_rfl
theorem law_SpanText (n : Int) : f3 n = some true := by
  unfold f3 F3
  obtain ⟨a, b, c, h1, h2⟩ : ∃ a b c, f8 n = some (a, b, c, ()) ∧ f9 n = some (a, b, c, ()) := by
    rcases parts_same n with h | ⟨_, h⟩
    · rw [h]
      unfold f9 F9
      cases decide (n < 0) <;> exact ⟨_, _, _, rfl, rfl⟩
    · exact h
  simp only [awake04, h1, h2, Option.bind_some, decide_true, Bool.not_true, cond_false]
  by_cases h : n < 0 ∨ 65536 < n
  · rw [p_Text_no n h]
    simp only [Option.bind_some, decide_true, cond_true]
    by_cases h3 : n < 0
    · simp [h3]
    · simp [h3, show 65536 < n by omega]
  · obtain ⟨k, rfl⟩ : ∃ k : Nat, n = (k : Int) := ⟨n.toNat, by omega⟩
    have hk : k ≤ 65536 := by omega
    rw [p_Text k hk, decide_eq_false (show ¬ (k : Int) < 0 by omega), decide_eq_false (show ¬ (65536 : Int) < (k : Int) by omega)]
    simp only [Option.bind_some, cond_false, p_Read_txt k hk, r_Text k hk, decide_true, cond_true]
theorem law_SpanRead (s : List UInt8) (hs : s.length ≤ maxLen) : f4 s = some true := by
  unfold f4 F4
  simp only [awake04, Option.bind_some, Bool.not_true, cond_false]
  have key : (∃ k : Nat, k ≤ 65536 ∧ txt k = s) ∨ (¬ (∃ k : Nat, k ≤ 65536 ∧ txt k = s) ∧ f11 s = some (0, 11, ()) ∧ f13 s = some (0, 11, ())) := by
    by_cases hk : ∃ k : Nat, k ≤ 65536 ∧ txt k = s
    · exact .inl hk
    · refine .inr ⟨hk, ?_, ?_⟩
      · rcases p_Read s hs with ⟨_, h0, h1, h2, _⟩ | ⟨_, h⟩
        · exact absurd ⟨(candI s).toNat, by omega, h2⟩ hk
        · exact h
      · rw [r_Read s hs]
        by_cases h1 : 65536 < candR s
        · rw [decide_eq_true h1]; rfl
        · rw [decide_eq_false h1]
          obtain ⟨m, hm, ht⟩ : ∃ m : Nat, m ≤ 65536 ∧ f12 (candR s) = some (txt m) := by
            by_cases h2 : candR s < 0
            · exact ⟨0, by omega, r_Text_neg _ h2⟩
            · refine ⟨(candR s).toNat, by omega, ?_⟩
              have := r_Text (candR s).toNat (by omega)
              rwa [show (((candR s).toNat : Nat) : Int) = candR s by omega] at this
          rw [ht]
          have : ¬ txt m = s := fun e => hk ⟨m, hm, e⟩
          simp [this]
  rcases key with ⟨k, hk, rfl⟩ | ⟨_, h1, h2⟩
  · rw [p_Read_txt k hk, r_Read _ hs, candR_txt k hk, decide_eq_false (show ¬ (65536 : Int) < (k : Int) by omega), r_Text k hk]
    simp only [Option.bind_some, cond_false, decide_true, Bool.not_true, p_Text k hk, cond_true]
  · rw [h1, h2]
    rfl
end NM
end Go.Proofs.YtbhnojlcbgkcbaaDoor
