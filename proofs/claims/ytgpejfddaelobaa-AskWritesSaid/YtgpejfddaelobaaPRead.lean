/-
  Readers in plain form: the codec's, and the document's.
-/
import Derived.Test.YtgpejfddaelobaaPCodec
set_option linter.unusedVariables false
set_option linter.unusedSimpArgs false
namespace Go.Proofs.Ytgpejfddaelobaa
namespace NM
open AM

/-- what is left, and what is wrong -/
abbrev RS' := List Int × Int
def nextN (s : RS') : Int × RS' := if s.2 = 0 then numI s.1 else (0, s)
def nextW (lo hi : Int) (s : RS') : Int × RS' := if s.2 = 0 then withinI lo hi s.1 else (0, s)
def SOk (M : Nat) (s : RS') : Prop := Bytes8 s.1 ∧ s.1.length ≤ M
theorem withinI_rest {lo hi : Int} {bs : List Int} (hb : Bytes8 bs) : Bytes8 (withinI lo hi bs).2.1 ∧ (withinI lo hi bs).2.1.length ≤ bs.length := by
  unfold withinI
  split
  · split
    · exact ⟨nomem, by simp⟩
    · exact ⟨numI_rest hb, numI_less hb⟩
  · exact ⟨nomem, by simp⟩
theorem nextN_ok {M : Nat} {s : RS'} (h : SOk M s) : SOk M (nextN s).2 := by
  unfold nextN
  split
  · exact ⟨numI_rest h.1, Nat.le_trans (numI_less h.1) h.2⟩
  · exact h
theorem nextW_ok {M : Nat} {lo hi : Int} {s : RS'} (h : SOk M s) : SOk M (nextW lo hi s).2 := by
  unfold nextW
  split
  · exact ⟨(withinI_rest h.1).1, Nat.le_trans (withinI_rest h.1).2 h.2⟩
  · exact h
theorem nextN_range {M : Nat} {s : RS'} (h : SOk M s) : 0 ≤ (nextN s).1 ∧ (nextN s).1 ≤ 281474976710656 := by
  unfold nextN
  split
  · exact numI_range h.1
  · exact ⟨by simp, by simp⟩
theorem nextW_range {M : Nat} {lo hi : Int} {s : RS'} (h0 : lo ≤ 0) (h1 : 0 ≤ hi) (h : SOk M s) : lo ≤ (nextW lo hi s).1 ∧ (nextW lo hi s).1 ≤ hi := by
  unfold nextW
  split
  · unfold withinI
    split
    · split
      · exact ⟨h0, h1⟩
      · rename_i h; omega
    · exact ⟨h0, h1⟩
  · exact ⟨h0, h1⟩
theorem nextN_end {M : Nat} {s : RS'} (h : SOk M s) (he : (nextN s).2.2 = 0) : s.2 = 0 ∧ s.1 = bytesI (nextN s).1 ++ (nextN s).2.1 ∧ inN (nextN s).1 = true := by
  unfold nextN at he ⊢
  split at he
  · rename_i h0
    rw [if_pos h0]
    have := numI_ok h.1 he
    exact ⟨h0, this.1, this.2⟩
  · rename_i h0; exact absurd he h0
theorem nextW_end {M : Nat} {lo hi : Int} {s : RS'} (h : SOk M s) (he : (nextW lo hi s).2.2 = 0) : s.2 = 0 ∧ s.1 = bytesI (nextW lo hi s).1 ++ (nextW lo hi s).2.1 ∧ inN (nextW lo hi s).1 = true ∧ lo ≤ (nextW lo hi s).1 ∧ (nextW lo hi s).1 ≤ hi := by
  unfold nextW at he ⊢
  split at he
  · rename_i h0
    rw [if_pos h0]
    unfold withinI at he ⊢
    split at he
    · rename_i h1
      split at he
      · cases he
      · rename_i h2
        rw [if_pos h1, if_neg h2]
        have := numI_ok h.1 h1
        exact ⟨h0, this.1, this.2, by omega, by omega⟩
    · rename_i h1; exact absurd he h1
  · rename_i h0; exact absurd he h0
theorem nextW_all {M : Nat} {s : RS'} (h : SOk M s) : nextW 0 281474976710656 s = nextN s := by
  unfold nextW nextN
  split
  · unfold withinI
    have hr := numI_range h.1
    split
    · rw [if_neg (by omega)]
    · rename_i h1
      obtain ⟨e1, e2, _⟩ := numI_bad h.1 h1
      exact Prod.ext e2.symm (Prod.ext e1.symm rfl)
  · rfl
/-- what is read is read again, from its bytes -/
theorem nextN_bytes {z : Int} (h : inN z = true) (rest : List Int) : nextN (bytesI z ++ rest, 0) = (z, rest, 0) := by
  unfold nextN
  rw [if_pos rfl, numI_bytes h]
theorem nextW_bytes {z lo hi : Int} (h : inN z = true) (h0 : lo ≤ z) (h1 : z ≤ hi) (rest : List Int) : nextW lo hi (bytesI z ++ rest, 0) = (z, rest, 0) := by
  unfold nextW withinI
  rw [if_pos rfl, numI_bytes h]
  simp only [if_true]
  rw [if_neg (by omega)]

/- the codec's -/
theorem p_Number {M : Nat} {s : RS'} (h : SOk M s) (hM : M ≤ 4294967295) : f72 s = some ((nextN s).1, ((nextN s).2, ())) := by
  obtain ⟨l, e⟩ := s
  unfold nextN
  by_cases h0 : e = 0
  · subst h0
    rw [p_rNumber l h.1 (Nat.le_trans h.2 (by omega)), if_pos rfl]
  · rw [p_rNumber_bad h0, if_neg h0]
theorem p_Within {M : Nat} {s : RS'} (lo hi : Int) (h : SOk M s) (hM : M ≤ 4294967295) : f71 lo hi s = some ((nextW lo hi s).1, ((nextW lo hi s).2, ())) := by
  obtain ⟨l, e⟩ := s
  unfold nextW
  by_cases h0 : e = 0
  · subst h0
    rw [p_rWithin lo hi l h.1 (Nat.le_trans h.2 (by omega)), if_pos rfl]
  · rw [p_rWithin_bad lo hi h0, if_neg h0]
def endI (s : RS') : Int := if s.2 = 0 then (if s.1.length = 0 then 0 else 11) else s.2
theorem p_End (s : RS') : f73 s = some (endI s, (s, ())) := p_rEnd s

/- so many numbers -/
def stN (s : RS') : Nat → RS'
  | 0 => s
  | i + 1 => (nextN (stN s i)).2
def lsN (s : RS') (n : Nat) : List Int := (List.range n).map fun j => (nextN (stN s j)).1
theorem lsN_succ (s : RS') (n : Nat) : lsN s (n + 1) = lsN s n ++ [(nextN (stN s n)).1] := by simp [lsN, List.range_succ]
theorem lsN_len (s : RS') (n : Nat) : (lsN s n).length = n := by simp [lsN]
theorem stN_ok {M : Nat} {s : RS'} (h : SOk M s) : ∀ n, SOk M (stN s n)
  | 0 => h
  | n + 1 => nextN_ok (stN_ok h n)
theorem stN_end {M : Nat} {s : RS'} (h : SOk M s) : ∀ n, (stN s n).2 = 0 → s.2 = 0 ∧ s.1 = putsI (lsN s n) ++ (stN s n).1 ∧ (lsN s n).all inN = true
  | 0, h0 => ⟨h0, by simp [lsN, putsI, stN], by simp [lsN]⟩
  | n + 1, h0 => by
    obtain ⟨e1, e2, e3⟩ := nextN_end (stN_ok h n) h0
    obtain ⟨g1, g2, g3⟩ := stN_end h n e1
    refine ⟨g1, ?_, ?_⟩
    · rw [lsN_succ, putsI_append]
      conv => lhs; rw [g2, e2]
      simp [putsI, stN]
    · rw [lsN_succ, List.all_append, g3]
      simp [e3]
theorem u8_all {l : List UInt8} : Bytes8 (l.map fun x => (x.toNat : Int)) := fun x hx => by
  obtain ⟨y, _, rfl⟩ := List.mem_map.1 hx
  have := UInt8.toNat_lt y
  omega
/- two lists held against each other, element by element -/
theorem r_Bytes1 (a : List Int) (hl : a.length ≤ 4294967295) : f17 a a = some true := by
  unfold f17 F17
  simp only [decide_true, Bool.not_true, cond_false]
  have hml : maxLen = 9223372036854775807 := rfl
  rw [all_loop a (fun z => ((z, ()), ())) (fun _ => true) true (by omega)]
  · simp
  · intro next
    simp [l17_0]
  · intro z x next h0 h1 h2 h3
    simp only [l17_0, h0, h1, h2, h3, decide_true, cond_true, Option.bind_some, Bool.not_true, cond_false]
end NM
end Go.Proofs.Ytgpejfddaelobaa
