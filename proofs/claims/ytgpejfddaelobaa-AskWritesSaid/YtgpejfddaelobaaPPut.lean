/-
  What the codec puts, in plain form.
-/
import Derived.Test.YtgpejfddaelobaaAskWritesM
import Derived.Test.YtgpejfddaelobaaPBytes
set_option linter.unusedVariables false
set_option linter.unusedSimpArgs false
namespace Go.Proofs.Ytgpejfddaelobaa
namespace NM
open AM

theorem u8_id {x : Int} (h0 : 0 ≤ x) (h1 : x ≤ 255) : IntKind.wrap .u8 x = x := by
  simp only [IntKind.wrap, IntKind.signed, IntKind.bits]
  exact Int.emod_eq_of_lt h0 (by omega)
theorem tdiv_pos {x y : Int} (h : 0 ≤ x) : Int.tdiv x y = x / y := Int.tdiv_eq_ediv_of_nonneg h
theorem tmod_pos {x y : Int} (h : 0 ≤ x) : Int.tmod x y = x % y := Int.tmod_eq_emod_of_nonneg h

theorem p_sClone (l : List Int) (hl : l.length ≤ 4294967295) : f108 l = some ((), (l, ())) := by
  unfold f108 F108
  cases l with
  | nil => rfl
  | cons x l =>
    have hs := small_ok' 1 (by decide) hl
    simp only [cloneF, List.isEmpty_cons, cond_false, Nat.zero_add, hs, cond_true, List.nil_append]
/- what is put -/
theorem p_putDigits (nx : (((Unit × (Int × Unit)) × ((List Int) × Unit)) → Option ((List Int) × (Int × Unit)))) (z : Int) : ∀ (k : Nat) (n : Int) (out : List Int), 0 ≤ n → n.toNat < 128 ^ (k + 1) → k ≤ 8 → out.length + k + 1 ≤ 4294967295 → ∀ m, k < m →
    loopN (fun (s : ((Unit × (Int × Unit)) × ((List Int) × Unit))) nx13 => l67_0 nx z nx13 s.1.2.1 s.2.1) m (((), n, ()), (out, ())) = nx (((), IntKind.wrap .i64 (z + 1), ()), (out ++ vb k n.toNat, ()))
  | 0, n, out, h0, hn, _, ho, m, hm => by
    obtain ⟨m, rfl⟩ : ∃ m', m = m' + 1 := ⟨m - 1, by omega⟩
    simp at hn
    simp only [loopN, l67_0, show ¬ (128 : Int) ≤ n by omega, decide_false, cond_false, small_ok' 1 (by decide) (show out.length + 1 ≤ 4294967295 by omega), cond_true, u8_id h0 (by omega), vb]
    rw [Int.toNat_of_nonneg h0]
  | k + 1, n, out, h0, hn, h8, ho, m, hm => by
    obtain ⟨m, rfl⟩ : ∃ m', m = m' + 1 := ⟨m - 1, by omega⟩
    have hle : (128 : Nat) ^ (k + 1 + 1) ≤ 128 ^ (8 + 1) := Nat.pow_le_pow_right (by omega) (by omega)
    rw [pow8] at hle
    by_cases h : 128 ≤ n
    · have hq : IntKind.wrap .i64 (Int.tdiv n 128) = n / 128 := by rw [tdiv_pos h0]; exact wi (by omega) (by omega)
      have hd : IntKind.wrap .u8 (IntKind.wrap .i64 (Int.tmod n 128 + 128)) = ((n.toNat % 128 + 128 : Nat) : Int) := by
        rw [tmod_pos h0, wi (by omega) (by omega), u8_id (by omega) (by omega)]
        omega
      have ih := p_putDigits nx z k (n / 128) (out ++ [((n.toNat % 128 + 128 : Nat) : Int)]) (by omega) (by rw [Nat.pow_succ] at hn; omega) (by omega) (by simp; omega) m (by omega)
      simp only [loopN, l67_0, h, decide_true, small_ok' 1 (by decide) (show out.length + 1 ≤ 4294967295 by omega), cond_true, hq, hd, vb, if_neg (show ¬ n.toNat < 128 by omega)]
      refine ih.trans ?_
      rw [show (n / 128).toNat = n.toNat / 128 by omega, List.append_assoc, List.singleton_append]
    · simp only [loopN, l67_0, h, decide_false, cond_false, small_ok' 1 (by decide) (show out.length + 1 ≤ 4294967295 by omega), cond_true, u8_id h0 (by omega), vb, if_pos (show n.toNat < 128 by omega)]
      rw [Int.toNat_of_nonneg h0]
theorem putsI_len (l : List Int) : (putsI l).length ≤ 9 * l.length := by
  induction l with
  | nil => simp [putsI]
  | cons x l ih =>
    have := bytesI_len x
    simp only [putsI, List.length_append, List.length_cons]; omega
theorem p_putAll (l : List Int) (hin : l.all inN = true) (b : List Int) (hl : b.length + 9 * l.length ≤ 4294967295) :
    LN LOOPS (fun (s : ((Unit × (Int × Unit)) × ((List Int) × Unit))) nx8 => l67_1 (@LN LOOPS) l nx8 s.1.2.1 s.2.1) (((), 0, ()), (b, ())) = some (b ++ putsI l, 0, ()) := by
  rw [List.all_eq_true] at hin
  have key := loop_run' (f := fun (s : ((Unit × (Int × Unit)) × ((List Int) × Unit))) nx8 => l67_1 (@LN LOOPS) l nx8 s.1.2.1 s.2.1) (r := some (b ++ putsI l, 0, ())) l.length (loops_gt _ (by omega)) (fun i => (((), (i : Int), ()), (b ++ putsI (l.take i), ()))) (fun i hi next => ?_) (fun next => ?_)
  · rw [← key]
    simp [putsI]
  · have hx := hin l[i] (List.getElem_mem hi)
    have hx' := hx
    simp only [inN, Bool.and_eq_true, decide_eq_true_eq] at hx'
    have h1 := putsI_len (l.take i)
    have h2 : (l.take i).length ≤ i := List.length_take_le _ _
    have e7 : (128 : Nat) ^ (7 + 1) = 72057594037927936 := by decide
    have hd := p_putDigits next (i : Int) 8 l[i] (b ++ putsI (l.take i)) hx'.1 (by rw [pow8]; omega) (by omega) (by simp; omega) LOOPS (loops_gt _ (by omega))
    simp only [l67_1, show ((i : Int) < (l.length : Int)) by omega, decide_true, cond_true, show (0 : Int) ≤ (i : Int) by omega, Int.toNat_natCast, List.getElem?_eq_getElem hi, Option.bind_some]
    refine hd.trans ?_
    rw [wi (by omega) (by omega), List.take_add_one, List.getElem?_eq_getElem hi, Option.toList_some, putsI_append]
    simp [putsI, bytesI]
  · simp [l67_1]
theorem p_Put (b l : List Int) (hl : b.length + 9 * l.length ≤ 4294967295) : f67 b l = some (if l.all inN = true then (b ++ putsI l, 0, ()) else ([], 2, ())) := by
  unfold f67 F67
  have hml : maxLen = 9223372036854775807 := rfl
  rw [list_loopI l (fun (_ : Unit) z => ((z, ()), ())) (fun _ z => ∀ i : Nat, (i : Int) < z → ∀ x, l[i]? = some x → inN x = true) (fun _ x => cond (inN x) (.inl ()) (.inr (some ([], 2, ())))) (fun _ => some (b ++ putsI l, 0, ())) (by omega) ?_ ?_ () (fun i hi => by omega)]
  · have : ∀ (xs : List Int) (r r' : List Int × (Int × Unit)), runL (fun (_ : Unit) x => cond (inN x) (.inl ()) (.inr (some r'))) (fun _ => some r) xs () = some (if xs.all inN = true then r else r') := by
      intro xs r r'
      induction xs with
      | nil => simp [runL]
      | cons x xs ih =>
        simp only [runL, List.all_cons]
        by_cases hx : inN x = true
        · simp only [hx, cond_true, Bool.true_and]; exact ih
        · simp [hx]
    exact this l _ _
  · intro u next hI
    have hin : l.all inN = true := by
      rw [List.all_eq_true]
      intro x hx
      obtain ⟨i, hi⟩ := List.getElem?_of_mem hx
      exact hI i (by have := (List.getElem?_eq_some_iff.1 hi).1; omega) x hi
    simp only [l67_2, Int.lt_irrefl, decide_false, cond_false, p_sClone b (by omega), Option.bind_some]
    exact p_putAll l hin b hl
  · intro u z x next hI h0 h1 h2 h3
    simp only [l67_2, h1, decide_true, cond_true, h0, h2, Option.bind_some, h3]
    cases hin : inN x with
    | true =>
      have hin' := hin
      simp only [inN, Bool.and_eq_true, decide_eq_true_eq] at hin'
      simp only [cond_true, show ¬ x < 0 by omega, show ¬ 281474976710656 < x by omega, decide_false, cond_false]
      refine ⟨fun i hi y hy => ?_, trivial⟩
      by_cases hlt : (i : Int) < z
      · exact hI i hlt y hy
      · have : i = z.toNat := by omega
        subst this
        rw [h2] at hy
        cases hy
        exact hin
    | false =>
      simp only [cond_false]
      by_cases g1 : x < 0
      · simp [g1]
      · have g2 : 281474976710656 < x := by simp [inN] at hin; omega
        simp [g1, g2]
end NM
end Go.Proofs.Ytgpejfddaelobaa
