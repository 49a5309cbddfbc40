/-
  Vectors as text, about plain data: the document's reading of a text.
-/
import Derived.Test.YtbhnojlcbgkcbaaDoorPUnitsC
set_option linter.unusedVariables false
set_option linter.unusedSimpArgs false
namespace Go.Proofs.YtbhnojlcbgkcbaaDoor
namespace NM
open AM

/-- the number that digits say -/
def goD : Nat → Bool → Int → List UInt8 → Int
  | 0, f, acc, _ => if f = true then -1 else acc
  | b + 1, f, acc, [] => if f = true then -1 else acc
  | b + 1, f, acc, c :: l => if 48 ≤ (c.toNat : Int) ∧ (c.toNat : Int) ≤ 57 then goD b false (IntKind.wrap .i64 (IntKind.wrap .i64 ((IntKind.wrap .i64 (10 * acc)) + (IntKind.wrap .i64 ((c.toNat : Int)))) - 48)) l else if f = true then -1 else acc
theorem drop_at {s : List UInt8} {i : Nat} (h : i < s.length) : ∃ c, s[i]? = some c ∧ s.drop i = c :: s.drop (i + 1) :=
  ⟨s[i], List.getElem?_eq_getElem h, List.drop_eq_getElem_cons h⟩
theorem r_number (s : List UInt8) (hs : s.length ≤ 200) (a : Nat) (ha : a ≤ s.length) : ∃ j, f33 s (a : Int) = some (goD 8 true 0 (s.drop a), j, ()) := by
  unfold f33 F33
  have key : ∀ n d acc, d ≤ 8 → 8 - d < n → ∃ j, loopN (fun (s2 : ((Int × (Int × Unit)) × Unit)) nx3 => l33_0 s (a : Int) nx3 s2.1.1 s2.1.2.1) n ((acc, ((a + d : Nat) : Int), ()), ()) = some (goD (8 - d) (decide (d = 0)) acc (s.drop (a + d)), j, ()) := by
    intro n
    induction n with
    | zero => intro d acc _ h; omega
    | succ n ih =>
      intro d acc hd hn
      have hend : ∀ x : Int, x = (if decide (d = 0) = true then -1 else acc) → ∃ j, (cond (decide (((a + d : Nat) : Int) = (a : Int))) (some ((-1 : Int), ((a + d : Nat) : Int), ())) (some (acc, ((a + d : Nat) : Int), ()))) = some (x, j, ()) := by
        intro x hx
        subst hx
        by_cases h0 : d = 0
        · subst h0
          exact ⟨(a : Int), by simp⟩
        · refine ⟨((a + d : Nat) : Int), ?_⟩
          rw [decide_eq_false (by omega), decide_eq_false h0]
          rfl
      have w8 : IntKind.wrap .i64 ((a : Int) + 8) = (a : Int) + 8 := wi (by omega) (by omega)
      have w1 : IntKind.wrap .i64 (((a + d : Nat) : Int) + 1) = ((a + (d + 1) : Nat) : Int) := by rw [wi (by omega) (by omega)]; omega
      have t : Int.toNat ((a + d : Nat) : Int) = a + d := by omega
      show ∃ j, l33_0 s (a : Int) (loopN (fun (s2 : ((Int × (Int × Unit)) × Unit)) nx3 => l33_0 s (a : Int) nx3 s2.1.1 s2.1.2.1) n) acc ((a + d : Nat) : Int) = _
      generalize (loopN (fun (s2 : ((Int × (Int × Unit)) × Unit)) nx3 => l33_0 s (a : Int) nx3 s2.1.1 s2.1.2.1) n) = nxt at ih
      simp only [l33_0, w8, w1, t]
      rcases Nat.lt_or_ge (a + d) s.length with hl | hl
      · obtain ⟨c, h1, h2⟩ := drop_at hl
        rw [decide_eq_true (show ((a + d : Nat) : Int) < (s.length : Int) by omega), decide_eq_true (show (0 : Int) ≤ ((a + d : Nat) : Int) by omega), h1, h2]
        simp only [cond_true, Option.bind_some]
        by_cases c1 : 48 ≤ (c.toNat : Int)
        · rw [decide_eq_true c1]
          simp only [cond_true]
          by_cases c2 : (c.toNat : Int) ≤ 57
          · rw [decide_eq_true c2]
            simp only [cond_true]
            by_cases c3 : d < 8
            · rw [decide_eq_true (show ((a + d : Nat) : Int) < (a : Int) + 8 by omega)]
              simp only [cond_true]
              obtain ⟨j, hj⟩ := ih (d + 1) _ (by omega) (by omega)
              refine ⟨j, hj.trans ?_⟩
              rw [show 8 - d = (8 - (d + 1)) + 1 by omega]
              simp only [goD]
              rw [if_pos ⟨c1, c2⟩, decide_eq_false (show ¬ d + 1 = 0 by omega), show a + d + 1 = a + (d + 1) by omega]
            · rw [decide_eq_false (show ¬ ((a + d : Nat) : Int) < (a : Int) + 8 by omega)]
              simp only [cond_false]
              have : 8 - d = 0 := by omega
              rw [this]
              exact hend _ rfl
          · rw [decide_eq_false c2]
            simp only [cond_false]
            refine hend _ ?_
            match 8 - d with
            | 0 => rfl
            | b + 1 => simp only [goD]; rw [if_neg (fun h => c2 h.2)]
        · rw [decide_eq_false c1]
          simp only [cond_false]
          refine hend _ ?_
          match 8 - d with
          | 0 => rfl
          | b + 1 => simp only [goD]; rw [if_neg (fun h => c1 h.1)]
      · rw [decide_eq_false (show ¬ ((a + d : Nat) : Int) < (s.length : Int) by omega), List.drop_of_length_le hl]
        simp only [cond_false]
        refine hend _ ?_
        match 8 - d with
        | 0 => rfl
        | b + 1 => rfl
  have := key LOOPS 0 0 (by omega) (by unfold LOOPS; omega)
  rw [show 8 - 0 = 8 from rfl, Nat.add_zero, decide_eq_true rfl] at this
  exact this

def W4 (k : Nat) : List UInt8 := wd k ++ [61]
def oneL (x : List UInt8) (k : Nat) (l : List Int) : List Int := if x.take 4 = W4 k then l.set k (goD 8 true 0 (x.drop 4)) else l
def stepL (x : List UInt8) (l : List Int) : List Int := oneL x 3 (oneL x 2 (oneL x 1 (oneL x 0 l)))
def scanL : List UInt8 → List Int → List Int
  | [], l => l
  | c :: t, l => if 4 ≤ (c :: t).length then scanL t (stepL (c :: t) l) else l
theorem one_len (x : List UInt8) (k : Nat) (l : List Int) : (oneL x k l).length = l.length := by
  unfold oneL
  split
  · simp
  · rfl
theorem step_len (x : List UInt8) (l : List Int) : (stepL x l).length = l.length := by
  simp only [stepL, one_len]
def finL (s : List UInt8) (l : List Int) : Option (Res × (Int × Unit)) :=
  cond (decide (0 < (List.length l)))
  (Option.bind (l[0]?) fun y17 =>
  cond (decide (1 < (List.length l)))
  (Option.bind (l[1]?) fun y18 =>
  cond (decide (2 < (List.length l)))
  (Option.bind (l[2]?) fun y19 =>
  cond (decide (3 < (List.length l)))
  (Option.bind (l[3]?) fun y20 =>
  Option.bind (f16 (Res.mk y17 y18 y19 y20)) fun r21 =>
  cond (!r21)
  (some (Res.mk 0 0 0 0, 11, ()))
  (Option.bind (f18 (Res.mk y17 y18 y19 y20)) fun r22 =>
  cond (!decide (r22 = s))
  (some (Res.mk 0 0 0 0, 11, ()))
  (some (Res.mk y17 y18 y19 y20, 0, ()))))
  (none))
  (none))
  (none))
  (none)
def words5 : List (List UInt8) := [([99, 112, 117, 61] : List UInt8), ([109, 101, 109, 61] : List UInt8), ([103, 112, 117, 61] : List UInt8), ([108, 105, 99, 61] : List UInt8)]
theorem words5_at (k : Nat) (hk : k < 4) : words5[k]? = some (W4 k) := by
  rcases (show k = 0 ∨ k = 1 ∨ k = 2 ∨ k = 3 by omega) with rfl | rfl | rfl | rfl <;> rfl
abbrev StR := ((Unit × (Unit × (Unit × (Int × Unit)))) × (Res × ((List (List UInt8)) × ((List Int) × Unit))))
def stR (i : Nat) (l : List Int) : StR := (((), (), (), (i : Int), ()), (Res.mk 0 0 0 0, words5, l, ()))
def outM (m : Nat) (s : List UInt8) : StR → (StR → Option (Res × (Int × Unit))) → Option (Res × (Int × Unit)) := fun s1 nx2 => l19_1 (@LN m) f33 f16 f18 s nx2 s1.1.2.2.2.1 s1.2.1 s1.2.2.1 s1.2.2.2.1
def outR (s : List UInt8) : StR → (StR → Option (Res × (Int × Unit))) → Option (Res × (Int × Unit)) := outM LOOPS s
def inR (s : List UInt8) (i : Nat) (next : StR → Option (Res × (Int × Unit))) : StR → (StR → Option (Res × (Int × Unit))) → Option (Res × (Int × Unit)) := fun s7 nx8 => l19_0 f33 s next (i : Int) nx8 s7.1.2.2.2.1 s7.2.1 s7.2.2.1 s7.2.2.2.1
theorem outM_in (m : Nat) (s : List UInt8) (i : Nat) (l : List Int) (next) (h : IntKind.wrap .i64 ((i : Int) + 4) ≤ (s.length : Int)) : outM m s (stR i l) next = LN m (inR s i next) (stR 0 l) := by
  show cond (decide (IntKind.wrap .i64 ((i : Int) + 4) ≤ (s.length : Int))) _ _ = _
  rw [decide_eq_true h]
  rfl
theorem outM_out (m : Nat) (s : List UInt8) (i : Nat) (l : List Int) (next) (h : ¬ IntKind.wrap .i64 ((i : Int) + 4) ≤ (s.length : Int)) : outM m s (stR i l) next = finL s l := by
  show cond (decide (IntKind.wrap .i64 ((i : Int) + 4) ≤ (s.length : Int))) _ _ = _
  rw [decide_eq_false h]
  rfl
def foldK (x : List UInt8) (l : List Int) : Nat → List Int
  | 0 => l
  | k + 1 => oneL x k (foldK x l k)
theorem foldK_len (x : List UInt8) (l : List Int) : ∀ k, (foldK x l k).length = l.length
  | 0 => rfl
  | k + 1 => by simp only [foldK, one_len, foldK_len x l k]
theorem r_in (s : List UInt8) (hs : s.length ≤ 200) (i : Nat) (hi : i + 4 ≤ s.length) (l : List Int) (hl : l.length = 4) (next) :
    outR s (stR i l) next = next (stR (i + 1) (stepL (s.drop i) l)) := by
  have w4 : IntKind.wrap .i64 ((i : Int) + 4) = ((i + 4 : Nat) : Int) := by rw [wi (by omega) (by omega)]; omega
  have w1 : IntKind.wrap .i64 ((i : Int) + 1) = ((i + 1 : Nat) : Int) := by rw [wi (by omega) (by omega)]; omega
  unfold outR
  rw [outM_in _ _ _ _ _ (by rw [w4]; omega)]
  refine loop_run (f := inR s i next) 4 four_lt (fun k => stR k (foldK (s.drop i) l k)) (fun k hk nx => ?_) (fun nx => ?_)
  · have wk : IntKind.wrap .i64 ((k : Int) + 1) = ((k + 1 : Nat) : Int) := by rw [wi (by omega) (by omega)]; omega
    have hlen := foldK_len (s.drop i) l k
    have t1 : Int.toNat (i : Int) = i := by omega
    have t2 : Int.toNat ((i + 4 : Nat) : Int) = i + 4 := by omega
    have t3 : Int.toNat (k : Int) = k := by omega
    have h5 : words5.length = 4 := rfl
    obtain ⟨j, hj⟩ := r_number s hs (i + 4) hi
    show l19_0 f33 s next (i : Int) nx (k : Int) (Res.mk 0 0 0 0) words5 (foldK (s.drop i) l k) = nx (stR (k + 1) (oneL (s.drop i) k (foldK (s.drop i) l k)))
    generalize foldK (s.drop i) l k = lk at hlen ⊢
    unfold l19_0 stR
    simp only [w4, wk, t1, t2, t3, h5, hlen, hl, words5_at k hk]
    rw [decide_eq_true (show (k : Int) < 4 by omega), decide_eq_true (show (0 : Int) ≤ (i : Int) by omega), decide_eq_true (show (0 : Int) ≤ ((i + 4 : Nat) : Int) by omega), decide_eq_true (show i ≤ i + 4 by omega), decide_eq_true hi, decide_eq_true (show (0 : Int) ≤ (k : Int) by omega), decide_eq_true hk]
    simp only [cond_true, Bool.and_self, Option.bind_some, hj]
    have hdt : List.drop i (List.take (i + 4) s) = (s.drop i).take 4 := by
      rw [List.drop_take]
      congr 1
      omega
    have hd4 : (s.drop i).drop 4 = s.drop (i + 4) := by rw [List.drop_drop]
    rw [hdt]
    unfold oneL
    rw [hd4]
    by_cases hw : (s.drop i).take 4 = W4 k
    · have : lk[k]? = some (lk[k]'(by omega)) := List.getElem?_eq_getElem (by omega)
      rw [decide_eq_true hw, if_pos hw, this]
      rfl
    · rw [decide_eq_false hw, if_neg hw]
      rfl
  · show l19_0 f33 s next (i : Int) nx ((4 : Nat) : Int) (Res.mk 0 0 0 0) words5 (stepL (s.drop i) l) = _
    unfold l19_0
    rw [decide_eq_false (show ¬ ((4 : Nat) : Int) < 4 by omega), w1]
    rfl
theorem r_out (s : List UInt8) (hs : s.length ≤ 200) (i : Nat) (hi : ¬ i + 4 ≤ s.length) (hi2 : i ≤ s.length) (l : List Int) (next) : outR s (stR i l) next = finL s l := by
  have w4 : IntKind.wrap .i64 ((i : Int) + 4) = ((i + 4 : Nat) : Int) := by rw [wi (by omega) (by omega)]; omega
  unfold outR
  exact outM_out _ _ _ _ _ (by rw [w4]; omega)
theorem r_Read (s : List UInt8) (hs : s.length ≤ 200) : f19 s = finL s (scanL s [0, 0, 0, 0]) ∧ (scanL s [0, 0, 0, 0]).length = 4 := by
  have key : ∀ n i l, l.length = 4 → i ≤ s.length → s.length - i < n → loopN (outR s) n (stR i l) = finL s (scanL (s.drop i) l) ∧ (scanL (s.drop i) l).length = 4 := by
    intro n
    induction n with
    | zero => intro i l _ _ h; omega
    | succ n ih =>
      intro i l hl hi hn
      rcases Nat.lt_or_ge i s.length with h | h
      · obtain ⟨c, h1, h2⟩ := drop_at h
        have hlen : (c :: s.drop (i + 1)).length = s.length - i := by rw [← h2, List.length_drop]
        rw [h2]
        simp only [scanL]
        rw [hlen]
        by_cases h4 : i + 4 ≤ s.length
        · rw [if_pos (by omega)]
          have hr := r_in s hs i h4 l hl (loopN (outR s) n)
          have := ih (i + 1) (stepL (s.drop i) l) (by rw [step_len, hl]) (by omega) (by omega)
          rw [← h2]
          refine ⟨?_, this.2⟩
          show outR s (stR i l) (loopN (outR s) n) = _
          rw [hr]
          exact this.1
        · rw [if_neg (by omega)]
          exact ⟨r_out s hs i h4 hi l _, hl⟩
      · rw [List.drop_of_length_le h]
        exact ⟨r_out s hs i (by omega) hi l _, hl⟩
  have h := key LOOPS 0 [0, 0, 0, 0] rfl (by omega) (by unfold LOOPS; omega)
  refine ⟨Eq.trans ?_ h.1, h.2⟩
  unfold f19 F19
  unfold outR outM
  generalize LOOPS = m
  rfl

theorem scan_short (x : List UInt8) (l : List Int) (h : x.length < 4) : scanL x l = l := by
  match x with
  | [] => rfl
  | c :: t => simp only [scanL]; rw [if_neg (by omega)]
theorem scan_skip (c : UInt8) (t : List UInt8) (l : List Int) (h : ∀ k, k < 4 → (c :: t).take 4 ≠ W4 k) : scanL (c :: t) l = scanL t l := by
  simp only [scanL]
  split
  · have : stepL (c :: t) l = l := by
      unfold stepL oneL
      rw [if_neg (h 3 (by omega)), if_neg (h 2 (by omega)), if_neg (h 1 (by omega)), if_neg (h 0 (by omega))]
    rw [this]
  · rename_i h4
    rw [scan_short t l (by simp only [List.length_cons] at h4; omega)]
def wordC (c : UInt8) : Prop := c = 99 ∨ c = 109 ∨ c = 103 ∨ c = 108
theorem scan_char (c : UInt8) (t : List UInt8) (l : List Int) (h : ¬ wordC c) : scanL (c :: t) l = scanL t l := by
  refine scan_skip c t l fun k hk e => h ?_
  unfold wordC
  rcases (show k = 0 ∨ k = 1 ∨ k = 2 ∨ k = 3 by omega) with rfl | rfl | rfl | rfl <;> simp [W4, wd] at e <;> simp [e]
theorem scan_chars (t : List UInt8) (l : List Int) : ∀ x : List UInt8, (∀ c ∈ x, ¬ wordC c) → scanL (x ++ t) l = scanL t l
  | [], _ => rfl
  | c :: x, h => by
    rw [List.cons_append, scan_char c _ l (h c (by simp))]
    exact scan_chars t l x fun d hd => h d (by simp [hd])
theorem dig_word {c : UInt8} (h : digB c) : ¬ wordC c := by
  rintro (rfl | rfl | rfl | rfl) <;> exact absurd h.2 (by decide)
theorem go_fwd (n : Nat) : 1 ≤ n → n ≤ 1048576 → ∀ b t, (Lib.decDigits n).length ≤ b → goD b true 0 (Lib.decDigits n ++ t) = goD (b - (Lib.decDigits n).length) false (n : Int) t := by
  induction n using Nat.strongRecOn with
  | _ n ih =>
    intro h1 h2 b t hb
    by_cases h : n < 10
    · rw [dec_small h] at hb ⊢
      obtain ⟨h3, h4⟩ := dig_of h
      match b, hb with
      | b + 1, _ =>
        simp only [List.cons_append, List.nil_append, goD, h4]
        rw [if_pos ⟨by omega, by omega⟩, wi (show (-9223372036854775808 : Int) ≤ 10 * 0 by omega) (by omega), wi (show (-9223372036854775808 : Int) ≤ ((48 + n : Nat) : Int) by omega) (by omega), wi (show (-9223372036854775808 : Int) ≤ 10 * 0 + ((48 + n : Nat) : Int) by omega) (by omega), wi (by omega) (by omega)]
        simp only [List.length_singleton, Nat.add_sub_cancel]
        congr 1
        omega
    · obtain ⟨h3, h4⟩ := dig_of (d := n % 10) (by omega)
      rw [dec_big h, List.length_append, List.length_singleton] at hb
      rw [dec_big h, List.append_assoc, List.length_append, List.length_singleton, ih (n / 10) (by omega) (by omega) (by omega) b _ (by omega)]
      have e : b - (Lib.decDigits (n / 10)).length = (b - ((Lib.decDigits (n / 10)).length + 1)) + 1 := by omega
      rw [e]
      simp only [List.cons_append, List.nil_append, goD, h4]
      rw [if_pos ⟨by omega, by omega⟩, wi (show (-9223372036854775808 : Int) ≤ 10 * ((n / 10 : Nat) : Int) by omega) (by omega), wi (show (-9223372036854775808 : Int) ≤ ((48 + n % 10 : Nat) : Int) by omega) (by omega), wi (show (-9223372036854775808 : Int) ≤ 10 * ((n / 10 : Nat) : Int) + ((48 + n % 10 : Nat) : Int) by omega) (by omega), wi (by omega) (by omega)]
      congr 1
      omega
def stops (t : List UInt8) : Prop := t = [] ∨ ∃ x, t = 44 :: x
theorem go_stop (b : Nat) (acc : Int) (t : List UInt8) (h : stops t) : goD b false acc t = acc := by
  rcases h with rfl | ⟨x, rfl⟩
  · match b with
    | 0 => rfl
    | b + 1 => rfl
  · match b with
    | 0 => rfl
    | b + 1 => simp only [goD]; rw [if_neg (by decide)]; rfl
theorem scan_item (k n : Nat) (hk : k < 4) (h1 : 1 ≤ n) (h2 : n ≤ 1048576) (t : List UInt8) (ht : stops t) (l : List Int) : scanL (item k n ++ t) l = scanL t (l.set k (n : Int)) := by
  have hgo : goD 8 true 0 (Lib.decDigits n ++ t) = (n : Int) := by
    rw [go_fwd n h1 h2 8 t (by have := (item_len k n h2).2; omega), go_stop _ _ _ ht]
  have hd : ∀ l', scanL (Lib.decDigits n ++ t) l' = scanL t l' := fun l' => scan_chars t l' _ fun c hc => dig_word (dec_dig n c hc)
  have hx : ∀ l', scanL (61 :: (Lib.decDigits n ++ t)) l' = scanL t l' := fun l' => by
    rw [scan_char _ _ _ (by rintro (h | h | h | h) <;> exact absurd h (by decide))]
    exact hd l'
  have e : item k n ++ t = wd k ++ (61 :: (Lib.decDigits n ++ t)) := by simp [item]
  rw [e]
  have hne : ∀ y : List UInt8, 4 ≤ (([0, 0, 0] : List UInt8) ++ 61 :: y).length := fun y => by simp
  generalize Lib.decDigits n ++ t = y at hgo hx
  rcases (show k = 0 ∨ k = 1 ∨ k = 2 ∨ k = 3 by omega) with rfl | rfl | rfl | rfl
  all_goals
    rw [← hx]
    simp only [wd, List.cons_append, List.nil_append]
    rw [scanL, if_pos (by simp)]
    simp only [stepL, oneL, W4, wd, List.take_succ_cons, List.take_zero, List.cons_append, List.nil_append, List.drop_succ_cons, List.drop_zero, hgo]
    simp
    rw [scan_skip _ _ _ (fun k hk e => ?_)]
    rw [scan_skip _ _ _ (fun k hk e => ?_)]
    all_goals (rcases (show k = 0 ∨ k = 1 ∨ k = 2 ∨ k = 3 by omega) with rfl | rfl | rfl | rfl <;> simp [W4, wd] at e)
def setsF (r : Nat → Nat) : Nat → List Int → List Int
  | 0, l => l
  | m + 1, l => setsF r m (if r (3 - m) = 0 then l else l.set (3 - m) (r (3 - m) : Int))
theorem scan_items (r : Nat → Nat) (hr : Small4 r) : ∀ m l, m ≤ 4 → scanL (Lib.join (itemsF r m) [44]) l = setsF r m l
  | 0, l, _ => rfl
  | m + 1, l, hm => by
    simp only [itemsF, setsF]
    by_cases h0 : r (3 - m) = 0
    · rw [if_pos h0, if_pos h0]
      exact scan_items r hr m l (by omega)
    · rw [if_neg h0, if_neg h0]
      have ih := scan_items r hr m (l.set (3 - m) (r (3 - m) : Int)) (by omega)
      by_cases he : itemsF r m = []
      · rw [he] at ih ⊢
        rw [Lib.join_one]
        have := scan_item (3 - m) (r (3 - m)) (by omega) (by omega) (hr _ (by omega)) [] (.inl rfl) l
        rw [List.append_nil] at this
        rw [this]
        exact ih
      · rw [join_two _ _ he, scan_item (3 - m) (r (3 - m)) (by omega) (by omega) (hr _ (by omega)) _ (.inr ⟨_, rfl⟩) l]
        rw [scan_char _ _ _ (by rintro (h | h | h | h) <;> exact absurd h (by decide))]
        exact ih
theorem scan_txt (r : Nat → Nat) (hr : Small4 r) : scanL (txtU r) [0, 0, 0, 0] = [(r 0 : Int), (r 1 : Int), (r 2 : Int), (r 3 : Int)] := by
  have hsets : setsF r 4 [0, 0, 0, 0] = [(r 0 : Int), (r 1 : Int), (r 2 : Int), (r 3 : Int)] := by
    simp only [setsF, Nat.sub_self, show 3 - 0 = 3 from rfl, show 3 - 1 = 2 from rfl, show 3 - 2 = 1 from rfl]
    by_cases h0 : r 0 = 0 <;> by_cases h1 : r 1 = 0 <;> by_cases h2 : r 2 = 0 <;> by_cases h3 : r 3 = 0 <;> simp [h0, h1, h2, h3]
  unfold txtU
  by_cases h : itemsF r 4 = []
  · rw [if_pos h]
    have hz := zero_items r 4 (Nat.le_refl _) h
    rw [hz 0 (by omega) (by omega), hz 1 (by omega) (by omega), hz 2 (by omega) (by omega), hz 3 (by omega) (by omega)]
    decide
  · rw [if_neg h, scan_items r hr 4 _ (Nat.le_refl _), hsets]
theorem r_Read_txt (r : Nat → Nat) (hr : Small4 r) : f19 (txtU r) = some (resF r, 0, ()) := by
  rw [(r_Read (txtU r) (by have := txt_len r hr; omega)).1, scan_txt r hr]
  have h1 : f16 (Res.mk (r 0) (r 1) (r 2) (r 3)) = some true := (r_Right _).trans (congrArg some (decide_eq_true (right_of r hr)))
  have h2 : f18 (Res.mk (r 0) (r 1) (r 2) (r 3)) = some (txtU r) := r_Text r hr
  simp [finL, h1, h2, resF]
theorem r_Read_no (s : List UInt8) (hs : s.length ≤ 200) (h : ∀ r, Small4 r → s ≠ txtU r) : f19 s = badU := by
  obtain ⟨h1, h2⟩ := r_Read s hs
  rw [h1]
  generalize scanL s [0, 0, 0, 0] = l at h2
  match l, h2 with
  | [a, b, c, d], _ =>
    have hlen : ([a, b, c, d] : List Int).length = 4 := rfl
    simp only [finL, hlen]
    show Option.bind (f16 (Res.mk a b c d)) _ = _
    rw [r_Right]
    by_cases hr : rightP (Res.mk a b c d)
    · rw [decide_eq_true hr]
      obtain ⟨r, e, h4⟩ := res_of _ hr
      show Option.bind (f18 (Res.mk a b c d)) _ = _
      rw [e, r_Text r h4]
      simp only [Option.bind_some]
      rw [decide_eq_false (fun e => h r h4 e.symm)]
      rfl
    · rw [decide_eq_false hr]
      rfl
end NM
end Go.Proofs.YtbhnojlcbgkcbaaDoor
