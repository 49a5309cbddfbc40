/-
  Vectors as text, about plain data: a text read as a vector.
-/
import Derived.Test.YtbhnojlcbgkcbaaDoorPUnitsB
set_option linter.unusedVariables false
set_option linter.unusedSimpArgs false
namespace Go.Proofs.YtbhnojlcbgkcbaaDoor
namespace NM
open AM

theorem cut_none (c : UInt8) : ∀ a : List UInt8, c ∉ a → cutL c a = (a, ([], false))
  | [], _ => rfl
  | x :: a, h => by
    have hx : ¬ x = c := fun e => h (by simp [e])
    have := cut_none c a (fun hm => h (by simp [hm]))
    simp [cutL, hx, this]
theorem cut_len1 (c : UInt8) (s : List UInt8) : (cutL c s).1.length ≤ s.length := by
  rcases cut_idx c s with ⟨_, _, h⟩ | ⟨_, _, h, _⟩
  · have := congrArg List.length h; simp at this; omega
  · rw [h]; exact Nat.le_refl _
theorem wd_inj : ∀ i j : Fin 4, wd i.val = wd j.val → i = j := by decide
theorem wd_no : ∀ i : Fin 4, (61 : UInt8) ∉ wd i.val ∧ (44 : UInt8) ∉ wd i.val := by decide
theorem items_zero (r : Nat → Nat) : ∀ m, m ≤ 4 → (∀ j, 4 - m ≤ j → j < 4 → r j = 0) → itemsF r m = []
  | 0, _, _ => rfl
  | m + 1, hm, h => by
    simp only [itemsF]
    rw [if_pos (h (3 - m) (by omega) (by omega))]
    exact items_zero r m (by omega) fun j h1 h2 => h j (by omega) h2
theorem zero_items (r : Nat → Nat) : ∀ m, m ≤ 4 → itemsF r m = [] → ∀ j, 4 - m ≤ j → j < 4 → r j = 0
  | 0, _, _, j, h1, h2 => by omega
  | m + 1, hm, h, j, h1, h2 => by
    simp only [itemsF] at h
    split at h
    · rename_i hz
      by_cases hj : j = 3 - m
      · rw [hj]; exact hz
      · exact zero_items r m (by omega) h j (by omega) h2
    · cases h
theorem items_at (r : Nat → Nat) (i : Nat) (hi : i < 4) (hr : r i ≠ 0) : ∀ d k, k + d = i → (∀ j, k ≤ j → j < i → r j = 0) → itemsF r (4 - k) = item i (r i) :: itemsF r (3 - i)
  | 0, k, hk, _ => by
    have : k = i := by omega
    subst this
    rw [show 4 - k = (3 - k) + 1 by omega]
    simp only [itemsF]
    rw [show 3 - (3 - k) = k by omega, if_neg hr]
  | d + 1, k, hk, h => by
    rw [show 4 - k = (3 - k) + 1 by omega]
    simp only [itemsF]
    rw [show 3 - (3 - k) = k by omega, if_pos (h k (by omega) (by omega)), show 3 - k = 4 - (k + 1) by omega]
    exact items_at r i hi hr d (k + 1) (by omega) fun j h1 h2 => h j (by omega) h2
theorem join_two (x : List UInt8) (l : List (List UInt8)) (h : l ≠ []) : Lib.join (x :: l) [44] = x ++ 44 :: Lib.join l [44] := by
  match l, h with
  | y :: l, _ =>
    rw [Lib.join_cons, Lib.join_cons]
    simp [Lib.joinTail]

def words4 : List (List UInt8) := [([99, 112, 117] : List UInt8), ([109, 101, 109] : List UInt8), ([103, 112, 117] : List UInt8), ([108, 105, 99] : List UInt8)]
theorem words_at (k : Nat) (hk : k < 4) : words4[k]? = some (wd k) := by
  rcases (show k = 0 ∨ k = 1 ∨ k = 2 ∨ k = 3 by omega) with rfl | rfl | rfl | rfl <;> rfl
theorem p_find (k : Nat) (hk : k ≤ 4) (word : List UInt8) :
    (∃ i, k ≤ i ∧ i < 4 ∧ word = wd i ∧ f31 words4 (k : Int) word = some (i : Int)) ∨ ((∀ i, k ≤ i → i < 4 → word ≠ wd i) ∧ f31 words4 (k : Int) word = some (-1)) := by
  unfold f31 F31
  have key : ∀ n k, k ≤ 4 → 4 - k < n → (∃ i, k ≤ i ∧ i < 4 ∧ word = wd i ∧ loopN (fun (s3 : ((Int × Unit) × Unit)) nx4 => l31_0 words4 word nx4 s3.1.1) n ((((k : Nat) : Int), ()), ()) = some (i : Int)) ∨ ((∀ i, k ≤ i → i < 4 → word ≠ wd i) ∧ loopN (fun (s3 : ((Int × Unit) × Unit)) nx4 => l31_0 words4 word nx4 s3.1.1) n ((((k : Nat) : Int), ()), ()) = some (-1)) := by
    intro n
    induction n with
    | zero => intro k _ h; omega
    | succ n ih =>
      intro k hk h
      simp only [loopN, l31_0]
      have hl : words4.length = 4 := rfl
      rw [hl]
      rcases Nat.lt_or_ge k 4 with h4 | h4
      · rw [decide_eq_true (show ((k : Nat) : Int) < ((4 : Nat) : Int) by omega), decide_eq_true (show (0 : Int) ≤ (k : Int) by omega), show Int.toNat ((k : Nat) : Int) = k by omega, words_at k h4]
        simp only [cond_true, Option.bind_some]
        by_cases hw : wd k = word
        · refine .inl ⟨k, Nat.le_refl _, h4, hw.symm, ?_⟩
          rw [decide_eq_true hw]
          rfl
        · rw [decide_eq_false hw, wi (by omega) (by omega)]
          simp only [cond_false]
          rcases ih (k + 1) (by omega) (by omega) with ⟨i, h1, h2, h3, h5⟩ | ⟨h1, h2⟩
          · exact .inl ⟨i, by omega, h2, h3, h5⟩
          · refine .inr ⟨fun i h3 h5 => ?_, h2⟩
            by_cases e : i = k
            · subst e; exact fun e => hw e.symm
            · exact h1 i (by omega) h5
      · rw [decide_eq_false (show ¬ ((k : Nat) : Int) < ((4 : Nat) : Int) by omega)]
        exact .inr ⟨fun i h1 h2 => by omega, rfl⟩
  exact key LOOPS k hk (by unfold LOOPS; omega)

def tupF (v : Nat → Nat) : Int × (Int × (Int × Int)) := ((v 0 : Int), ((v 1 : Int), ((v 2 : Int), (v 3 : Int))))
def updF (v : Nat → Nat) (i n : Nat) : Nat → Nat := fun j => if j = i then n else v j
abbrev StU := (((List UInt8) × (Unit × (Unit × (Int × (Bool × Unit))))) × (Res × ((Int × (Int × (Int × Int))) × Unit)))
def stU (zs : List UInt8) (k : Nat) (more : Bool) (v : Nat → Nat) : StU := ((zs, (), (), (k : Int), more, ()), (Res.mk 0 0 0 0, (tupF v, ())))
def stepU : StU → (StU → Option (Res × (Int × Unit))) → Option (Res × (Int × Unit)) := fun s2 nx3 => l17_0 f22 f31 f32 words4 nx3 s2.1.1 s2.1.2.2.2.1 s2.1.2.2.2.2.1 s2.2.1 s2.2.2.1
def badU : Option (Res × (Int × Unit)) := some (Res.mk 0 0 0 0, 11, ())
theorem step_end (zs : List UInt8) (k : Nat) (v : Nat → Nat) (next) : stepU (stU zs k false v) next = some (resF v, 0, ()) := rfl
theorem step_u (zs : List UInt8) (hz : zs.length ≤ 4294967296) (k : Nat) (hk : k ≤ 4) (v : Nat → Nat) (next) :
    (∃ i n, k ≤ i ∧ i < 4 ∧ 1 ≤ n ∧ (cutL 61 (cutL 44 zs).1).1 = wd i ∧ numGo (cutL 61 (cutL 44 zs).1).2.1 true 0 = ((n : Nat) : Int) ∧ stepU (stU zs k true v) next = next (stU (cutL 44 zs).2.1 (i + 1) (cutL 44 zs).2.2 (updF v i n))) ∨
    ((∀ i, k ≤ i → i < 4 → (cutL 61 (cutL 44 zs).1).1 = wd i → numGo (cutL 61 (cutL 44 zs).1).2.1 true 0 < 1) ∧ stepU (stU zs k true v) next = badU) := by
  have hm : maxLen = 9223372036854775807 := rfl
  have c1 := p_Cut zs 44 (by omega)
  have c2 := p_Cut (cutL 44 zs).1 61 (by have := cut_len1 44 zs; omega)
  simp only [stepU, stU, l17_0, cond_true, c1, c2, Option.bind_some]
  clear c1 c2
  generalize cutL 44 zs = c
  generalize cutL 61 c.1 = d
  have hn : f32 d.2.1 = some (numGo d.2.1 true 0) := rfl
  rw [hn]
  simp only [Option.bind_some]
  clear hn
  generalize numGo d.2.1 true 0 = m
  rcases p_find k hk d.1 with ⟨i, h1, h2, h3, h4⟩ | ⟨h1, h2⟩
  · rw [h4]
    simp only [Option.bind_some]
    rw [decide_eq_false (show ¬ (i : Int) < 0 by omega), wi (show -9223372036854775808 ≤ (i : Int) + 1 by omega) (by omega)]
    by_cases hm : m < 1
    · refine .inr ⟨fun _ _ _ _ => hm, ?_⟩
      rw [decide_eq_true hm]
      rfl
    · refine .inl ⟨i, m.toNat, h1, h2, by omega, h3, by omega, ?_⟩
      rw [decide_eq_false hm]
      have e : ((m.toNat : Nat) : Int) = m := by omega
      rcases (show i = 0 ∨ i = 1 ∨ i = 2 ∨ i = 3 by omega) with rfl | rfl | rfl | rfl <;> simp [updF, tupF, e]
  · refine .inr ⟨fun i h3 h4 h5 => absurd h5 (h1 i h3 h4), ?_⟩
    rw [h2]
    rfl
theorem first_nz (r : Nat → Nat) : ∀ d k, k + d = 4 → itemsF r (4 - k) ≠ [] → ∃ i, k ≤ i ∧ i < 4 ∧ r i ≠ 0 ∧ ∀ j, k ≤ j → j < i → r j = 0
  | 0, k, hk, h => by
    have : k = 4 := by omega
    subst this
    exact absurd rfl h
  | d + 1, k, hk, h => by
    by_cases h0 : r k = 0
    · have hi : itemsF r (4 - k) = itemsF r (4 - (k + 1)) := by
        rw [show 4 - k = (4 - (k + 1)) + 1 by omega]
        simp only [itemsF]
        rw [show 3 - (4 - (k + 1)) = k by omega, if_pos h0]
      obtain ⟨i, h1, h2, h3, h4⟩ := first_nz r d (k + 1) (by omega) (by rw [← hi]; exact h)
      refine ⟨i, by omega, h2, h3, fun j h5 h6 => ?_⟩
      by_cases e : j = k
      · rw [e]; exact h0
      · exact h4 j (by omega) h6
    · exact ⟨k, Nat.le_refl _, by omega, h0, fun j h1 h2 => by omega⟩
theorem dig_no (n : Nat) : (44 : UInt8) ∉ Lib.decDigits n := fun h => by
  have := dec_dig n _ h
  exact absurd this.1 (by decide)
theorem wd_no' (i : Nat) (hi : i < 4) : (61 : UInt8) ∉ wd i ∧ (44 : UInt8) ∉ wd i := wd_no ⟨i, hi⟩
theorem wd_inj' (i j : Nat) (hi : i < 4) (hj : j < 4) (h : wd i = wd j) : i = j := congrArg Fin.val (wd_inj ⟨i, hi⟩ ⟨j, hj⟩ h)
theorem item_no (i n : Nat) (hi : i < 4) : (44 : UInt8) ∉ item i n := fun h => by
  simp only [item, List.mem_append, List.mem_cons] at h
  rcases h with h | h | h
  · exact (wd_no' i hi).2 h
  · exact absurd h (by decide)
  · exact dig_no n h
theorem item_cut (i n : Nat) (hi : i < 4) : cutL 61 (item i n) = (wd i, (Lib.decDigits n, true)) := cut_at 61 _ _ (wd_no' i hi).1
/-- what is written is read -/
theorem read_fwd (r : Nat → Nat) (hr : Small4 r) : ∀ n k v, k ≤ 4 → 4 - k < n → (∀ j, j < k → v j = r j) → (∀ j, k ≤ j → v j = 0) → itemsF r (4 - k) ≠ [] → (Lib.join (itemsF r (4 - k)) [44]).length ≤ 4294967296 →
    loopN stepU (n + 1) (stU (Lib.join (itemsF r (4 - k)) [44]) k true v) = some (resF r, 0, ())
  | 0, k, v, hk, hn, _, _, _, _ => by omega
  | n + 1, k, v, hk, hn, hv, hz, hne, hlen => by
    obtain ⟨i, h1, h2, h3, h4⟩ := first_nz r (4 - k) k (by omega) hne
    have hit := items_at r i h2 h3 (i - k) k (by omega) h4
    have hsame : ∀ j, j < i + 1 → updF v i (r i) j = r j := fun j hj => by
      unfold updF
      split
      · rename_i e; rw [e]
      · rcases Nat.lt_or_ge j k with h | h
        · exact hv j h
        · rw [hz j h, h4 j h (by omega)]
    have hzero : ∀ j, i + 1 ≤ j → updF v i (r i) j = 0 := fun j hj => by
      unfold updF
      rw [if_neg (by omega)]
      exact hz j (by omega)
    have hgo : ∀ rest more, cutL 44 (Lib.join (itemsF r (4 - k)) [44]) = (item i (r i), (rest, more)) →
        loopN stepU (n + 1 + 1) (stU (Lib.join (itemsF r (4 - k)) [44]) k true v) = loopN stepU (n + 1) (stU rest (i + 1) more (updF v i (r i))) := by
      intro rest more hc
      rcases step_u (Lib.join (itemsF r (4 - k)) [44]) hlen k hk v (loopN stepU (n + 1)) with ⟨i', n', g1, g2, g3, g4, g5, g6⟩ | ⟨g1, g2⟩
      · rw [hc] at g4 g5 g6
        rw [item_cut i _ h2] at g4 g5
        have e := wd_inj' i i' h2 g2 g4
        subst e
        rw [num_dec _ (by omega) (hr i h2)] at g5
        have : n' = r i := by omega
        subst this
        exact g6
      · have := g1 i h1 h2
        rw [hc, item_cut i _ h2] at this
        have := this rfl
        rw [num_dec _ (by omega) (hr i h2)] at this
        omega
    by_cases hrest : itemsF r (3 - i) = []
    · rw [hgo [] false (by rw [hit, hrest, Lib.join_one, cut_none _ _ (item_no i _ h2)])]
      show some (resF _, 0, ()) = _
      have hz2 := zero_items r (3 - i) (by omega) hrest
      have hall : ∀ j, j < 4 → updF v i (r i) j = r j := fun j hj => by
        rcases Nat.lt_or_ge j (i + 1) with h | h
        · exact hsame j h
        · rw [hzero j h, hz2 j (by omega) hj]
      unfold resF
      rw [hall 0 (by omega), hall 1 (by omega), hall 2 (by omega), hall 3 (by omega)]
    · have hj : Lib.join (itemsF r (4 - k)) [44] = item i (r i) ++ 44 :: Lib.join (itemsF r (3 - i)) [44] := by rw [hit, join_two _ _ hrest]
      rw [hgo (Lib.join (itemsF r (3 - i)) [44]) true (by rw [hj, cut_at _ _ _ (item_no i _ h2)])]
      have e : 3 - i = 4 - (i + 1) := by omega
      rw [e] at hrest hj ⊢
      refine read_fwd r hr n (i + 1) _ (by omega) (by omega) hsame hzero hrest ?_
      have := congrArg List.length hj
      simp only [List.length_append, List.length_cons] at this
      omega
theorem num_none : numGo [] true 0 = 0 := rfl
/-- what is read is written so -/
theorem read_bwd : ∀ n k zs v, zs.length ≤ 4294967296 → k ≤ 4 → 4 - k < n → (∀ j, k ≤ j → v j = 0) →
    loopN stepU (n + 1) (stU zs k true v) = badU ∨ ∃ r : Nat → Nat, (∀ j, j < k → r j = v j) ∧ (∀ j, k ≤ j → j < 4 → r j ≤ 1048576) ∧ itemsF r (4 - k) ≠ [] ∧ zs = Lib.join (itemsF r (4 - k)) [44] ∧ loopN stepU (n + 1) (stU zs k true v) = some (resF r, 0, ())
  | 0, k, zs, v, _, hk, hn, _ => by omega
  | n + 1, k, zs, v, hlen, hk, hn, hz => by
    rcases step_u zs hlen k hk v (loopN stepU (n + 1)) with ⟨i, m, g1, g2, g3, g4, g5, g6⟩ | ⟨g1, g2⟩
    · have g6 : loopN stepU (n + 1 + 1) (stU zs k true v) = loopN stepU (n + 1) (stU (cutL 44 zs).2.1 (i + 1) (cutL 44 zs).2.2 (updF v i m)) := g6
      obtain ⟨m', q1, q2, q3, q4⟩ := num_inv _ (show 1 ≤ numGo (cutL 61 (cutL 44 zs).1).2.1 true 0 by omega)
      have : m' = m := by omega
      subst this
      have hitem : (cutL 44 zs).1 = item i m' := by
        rcases cut_idx 61 (cutL 44 zs).1 with ⟨a1, a2, a3⟩ | ⟨a1, a2, a3, a4⟩
        · rw [a3, g4, q4]; rfl
        · rw [a4, num_none] at q1; omega
      have hk' : ∀ j, j < k → updF v i m' j = v j := fun j hj => by unfold updF; rw [if_neg (by omega)]
      have hz' : ∀ j, i + 1 ≤ j → updF v i m' j = 0 := fun j hj => by
        unfold updF
        rw [if_neg (by omega)]
        exact hz j (by omega)
      rcases cut_idx 44 zs with ⟨a1, a2, a3⟩ | ⟨a1, a2, a3, a4⟩
      · rw [a1] at g6
        have hl2 := cut_len 44 zs
        rcases read_bwd n (i + 1) (cutL 44 zs).2.1 (updF v i m') (by omega) (by omega) (by omega) hz' with h | ⟨r, b1, b2, b3, b4, b5⟩
        · exact .inl (g6.trans h)
        · refine .inr ⟨r, fun j hj => (b1 j (by omega)).trans (hk' j hj), fun j h1 h2 => ?_, ?_, ?_, g6.trans b5⟩
          · rcases Nat.lt_or_ge j (i + 1) with h | h
            · rw [b1 j h]
              unfold updF
              split
              · exact q3
              · rw [hz j h1]; omega
            · exact b2 j h h2
          all_goals
            have e1 : r i = m' := by rw [b1 i (by omega)]; unfold updF; rw [if_pos rfl]
            have hit := items_at r i g2 (by omega) (i - k) k (by omega) (fun j h1 h2 => by
              rw [b1 j (by omega)]
              unfold updF
              rw [if_neg (by omega)]
              exact hz j h1)
          · rw [hit]; simp
          · rw [hit, show 3 - i = 4 - (i + 1) by omega, join_two _ _ b3, ← b4, e1, ← hitem]
            exact a3
      · rw [a1] at g6
        refine .inr ⟨updF v i m', hk', fun j h1 h2 => ?_, ?_, ?_, g6⟩
        · unfold updF
          split
          · exact q3
          · rw [hz j h1]; omega
        all_goals
          have e1 : updF v i m' i = m' := by unfold updF; rw [if_pos rfl]
          have hit := items_at (updF v i m') i g2 (by omega) (i - k) k (by omega) (fun j h1 h2 => by
            unfold updF
            rw [if_neg (by omega)]
            exact hz j h1)
          rw [items_zero _ (3 - i) (by omega) (fun j h1 h2 => hz' j (by omega)), e1] at hit
        · rw [hit]; simp
        · rw [hit, Lib.join_one, ← hitem, a3]
    · exact .inl g2
theorem join_none (r : Nat → Nat) (h : itemsF r 4 ≠ []) : Lib.join (itemsF r 4) [44] ≠ noneB := fun e => by
  have h0 : (61 : UInt8) ∈ Lib.join (itemsF r 4) [44] := by
    obtain ⟨i, h1, h2, h3, h4⟩ := first_nz r 4 0 rfl h
    have hit := items_at r i h2 h3 i 0 (by omega) h4
    rw [hit, Lib.join_cons]
    simp [item]
  rw [e] at h0
  exact absurd h0 (by decide)
theorem txt_len (r : Nat → Nat) (hr : Small4 r) : (txtU r).length ≤ 48 := by
  unfold txtU
  split
  · simp [noneB]
  · have := strS_len r hr 4 (Nat.le_refl _)
    rw [(strS_join r 4).1, pre_items] at this
    exact this
theorem loops_one : LOOPS = (LOOPS - 1) + 1 := by unfold LOOPS; omega
theorem LN_one {σ ω : Type} (f : σ → (σ → Option ω) → Option ω) (s : σ) : LN LOOPS f s = loopN f (LOOPS - 1 + 1) s :=
  congrArg (fun n => loopN f n s) loops_one
theorem read_loop (s : List UInt8) (h : s ≠ noneB) : f17 s = loopN stepU (LOOPS - 1 + 1) (stU s 0 true (fun _ => 0)) := by
  unfold f17 F17
  rw [decide_eq_false (show ¬ s = ([110, 111, 110, 101] : List UInt8) from h), ← LN_one]
  have e : f26 = some words4 := rfl
  rw [e]
  simp only [cond_false, Option.bind_some]
  generalize LOOPS = m
  rfl
theorem p_Read_txt (r : Nat → Nat) (hr : Small4 r) : f17 (txtU r) = some (resF r, 0, ()) := by
  have hl := txt_len r hr
  unfold txtU at hl ⊢
  by_cases h : itemsF r 4 = []
  · rw [if_pos h]
    have hz := zero_items r 4 (Nat.le_refl _) h
    unfold resF
    rw [hz 0 (by omega) (by omega), hz 1 (by omega) (by omega), hz 2 (by omega) (by omega), hz 3 (by omega) (by omega)]
    rfl
  · rw [if_neg h] at hl ⊢
    rw [read_loop _ (join_none r h)]
    exact read_fwd r hr (LOOPS - 1) 0 (fun _ => 0) (by omega) (by unfold LOOPS; omega) (fun j hj => by omega) (fun j hj => rfl) h (by rw [show 4 - 0 = 4 from rfl]; omega)
theorem p_Read (s : List UInt8) (hs : s.length ≤ 4294967296) : (∃ r, Small4 r ∧ s = txtU r) ∨ ((∀ r, Small4 r → s ≠ txtU r) ∧ f17 s = badU) := by
  by_cases hn : s = noneB
  · refine .inl ⟨fun _ => 0, fun j hj => Nat.zero_le _, ?_⟩
    rw [hn]
    rfl
  · have hread := read_loop s hn
    rcases read_bwd (LOOPS - 1) 0 s (fun _ => 0) hs (by omega) (by unfold LOOPS; omega) (fun _ _ => rfl) with h | ⟨r, b1, b2, b3, b4, b5⟩
    · refine .inr ⟨fun r hr e => ?_, hread.trans h⟩
      have h2 := hread.trans h
      rw [e, p_Read_txt r hr] at h2
      exact absurd (congrArg (fun o => o.map fun p => p.2.1) h2) (by simp [badU])
    · refine .inl ⟨r, fun j hj => b2 j (by omega) hj, ?_⟩
      unfold txtU
      rw [if_neg b3]
      exact b4
end NM
end Go.Proofs.YtbhnojlcbgkcbaaDoor
