/-
  Vectors as text, about plain data: the text of a vector.
-/
import Derived.Test.YtbhnojlcbgkcbaaDoorPUnitsA
set_option linter.unusedVariables false
set_option linter.unusedSimpArgs false
namespace Go.Proofs.YtbhnojlcbgkcbaaDoor
namespace NM
open AM

theorem loop_run {σ ω : Type} {f : σ → (σ → Option ω) → Option ω} {r : Option ω} (n : Nat) (hn : n < LOOPS) (s : Nat → σ) (hs : ∀ i, i < n → ∀ next, f (s i) next = next (s (i + 1))) (hend : ∀ next, f (s n) next = r) : LN LOOPS f (s 0) = r := by
  have key : ∀ m i, i ≤ n → n - i < m → loopN f m (s i) = r := by
    intro m
    induction m with
    | zero => intro i _ h; omega
    | succ m ih =>
      intro i hi hm
      simp only [loopN]
      rcases Nat.lt_or_ge i n with h | h
      · rw [hs i h]
        exact ih (i + 1) h (by omega)
      · have : i = n := by omega
        subst this
        exact hend _
  exact key LOOPS 0 (Nat.zero_le _) (by omega)
theorem four_lt : 4 < LOOPS := by unfold LOOPS; omega

def wd : Nat → List UInt8
  | 0 => [99, 112, 117]
  | 1 => [109, 101, 109]
  | 2 => [103, 112, 117]
  | _ => [108, 105, 99]
def item (k n : Nat) : List UInt8 := wd k ++ 61 :: Lib.decDigits n
def itemsF (r : Nat → Nat) : Nat → List (List UInt8)
  | 0 => []
  | m + 1 => if r (3 - m) = 0 then itemsF r m else item (3 - m) (r (3 - m)) :: itemsF r m
def resF (r : Nat → Nat) : Res := Res.mk (r 0) (r 1) (r 2) (r 3)
def noneB : List UInt8 := [110, 111, 110, 101]
/-- the text of a vector -/
def txtU (r : Nat → Nat) : List UInt8 := if itemsF r 4 = [] then noneB else Lib.join (itemsF r 4) [44]
def Small4 (r : Nat → Nat) : Prop := ∀ j, j < 4 → r j ≤ 1048576
def preF (r : Nat → Nat) : Nat → List (List UInt8)
  | 0 => []
  | i + 1 => if r i = 0 then preF r i else preF r i ++ [item i (r i)]
theorem pre_len (r : Nat → Nat) : ∀ i, (preF r i).length ≤ i
  | 0 => Nat.le_refl _
  | i + 1 => by
    have := pre_len r i
    simp only [preF]
    split
    · omega
    · simp; omega
theorem pre_items (r : Nat → Nat) : preF r 4 = itemsF r 4 := by
  simp only [preF, itemsF, Nat.sub_self, show 3 - 0 = 3 from rfl, show 3 - 1 = 2 from rfl, show 3 - 2 = 1 from rfl]
  by_cases h0 : r 0 = 0 <;> by_cases h1 : r 1 = 0 <;> by_cases h2 : r 2 = 0 <;> by_cases h3 : r 3 = 0 <;> simp [h0, h1, h2, h3]
theorem item_len (k n : Nat) (hn : n ≤ 1048576) : (item k n).length ≤ 11 ∧ (Lib.decDigits n).length ≤ 7 := by
  have := dec_len 6 n (by have : (10 : Nat) ^ 7 = 10000000 := by decide
                          omega)
  have hw : (wd k).length = 3 := by unfold wd; split <;> rfl
  simp only [item, List.length_append, List.length_cons, hw]
  omega
theorem join_snoc (sep x : List UInt8) : ∀ (l : List (List UInt8)), l ≠ [] → Lib.join (l ++ [x]) sep = Lib.join l sep ++ sep ++ x
  | [], h => absurd rfl h
  | y :: l, _ => by
    rw [List.cons_append, Lib.join_cons, Lib.join_cons]
    simp [Lib.joinTail]
theorem p_right (n : Int) : f30 n = some (decide (0 ≤ n ∧ n ≤ 1048576)) := by
  unfold f30 F30
  by_cases h : 0 ≤ n <;> simp [h]
def rightP (a : Res) : Prop := (0 ≤ a.cpu ∧ a.cpu ≤ 1048576) ∧ (0 ≤ a.mem ∧ a.mem ≤ 1048576) ∧ (0 ≤ a.gpu ∧ a.gpu ≤ 1048576) ∧ (0 ≤ a.lic ∧ a.lic ≤ 1048576)
instance (a : Res) : Decidable (rightP a) := by unfold rightP; infer_instance
theorem r_Right (a : Res) : f16 a = some (decide (rightP a)) := by
  unfold f16 F16 rightP
  simp only [p_right, Option.bind_some]
  by_cases h0 : 0 ≤ a.cpu ∧ a.cpu ≤ 1048576 <;> by_cases h1 : 0 ≤ a.mem ∧ a.mem ≤ 1048576 <;> by_cases h2 : 0 ≤ a.gpu ∧ a.gpu ≤ 1048576 <;> simp [h0, h1, h2]
theorem p_vRight (a : Res) : f27 a = some (decide (rightP a)) := by
  unfold f27 F27 f36 F36
  simp only [Option.bind_some]
  by_cases h0 : a.cpu < 0
  · rw [decide_eq_true h0, decide_eq_false (show ¬ rightP a by unfold rightP; omega)]; rfl
  by_cases h1 : 1048576 < a.cpu
  · rw [decide_eq_false h0, decide_eq_true h1, decide_eq_false (show ¬ rightP a by unfold rightP; omega)]; rfl
  by_cases h2 : a.mem < 0
  · rw [decide_eq_false h0, decide_eq_false h1, decide_eq_true h2, decide_eq_false (show ¬ rightP a by unfold rightP; omega)]; rfl
  by_cases h3 : 1048576 < a.mem
  · rw [decide_eq_false h0, decide_eq_false h1, decide_eq_false h2, decide_eq_true h3, decide_eq_false (show ¬ rightP a by unfold rightP; omega)]; rfl
  by_cases h4 : a.gpu < 0
  · rw [decide_eq_false h0, decide_eq_false h1, decide_eq_false h2, decide_eq_false h3, decide_eq_true h4, decide_eq_false (show ¬ rightP a by unfold rightP; omega)]; rfl
  by_cases h5 : 1048576 < a.gpu
  · rw [decide_eq_false h0, decide_eq_false h1, decide_eq_false h2, decide_eq_false h3, decide_eq_false h4, decide_eq_true h5, decide_eq_false (show ¬ rightP a by unfold rightP; omega)]; rfl
  by_cases h6 : a.lic < 0
  · rw [decide_eq_false h0, decide_eq_false h1, decide_eq_false h2, decide_eq_false h3, decide_eq_false h4, decide_eq_false h5, decide_eq_true h6, decide_eq_false (show ¬ rightP a by unfold rightP; omega)]; rfl
  by_cases h7 : 1048576 < a.lic
  · rw [decide_eq_false h0, decide_eq_false h1, decide_eq_false h2, decide_eq_false h3, decide_eq_false h4, decide_eq_false h5, decide_eq_false h6, decide_eq_true h7, decide_eq_false (show ¬ rightP a by unfold rightP; omega)]; rfl
  rw [decide_eq_false h0, decide_eq_false h1, decide_eq_false h2, decide_eq_false h3, decide_eq_false h4, decide_eq_false h5, decide_eq_false h6, decide_eq_false h7, decide_eq_true (show rightP a by unfold rightP; omega)]; rfl
/-- a right vector is one of naturals -/
theorem res_of (a : Res) (h : rightP a) : ∃ r : Nat → Nat, a = resF r ∧ Small4 r := by
  obtain ⟨⟨h0, h1⟩, ⟨h2, h3⟩, ⟨h4, h5⟩, h6, h7⟩ := h
  obtain ⟨c, m, g, l⟩ := a
  simp only at h0 h1 h2 h3 h4 h5 h6 h7
  refine ⟨fun j => match j with | 0 => c.toNat | 1 => m.toNat | 2 => g.toNat | _ => l.toNat, ?_, fun j hj => ?_⟩
  · simp only [resF]
    rw [Int.toNat_of_nonneg h0, Int.toNat_of_nonneg h2, Int.toNat_of_nonneg h4, Int.toNat_of_nonneg h6]
  · rcases (show j = 0 ∨ j = 1 ∨ j = 2 ∨ j = 3 by omega) with rfl | rfl | rfl | rfl <;> simp only <;> omega
theorem right_of (r : Nat → Nat) (h : Small4 r) : rightP (resF r) := by
  have h0 := h 0 (by omega); have h1 := h 1 (by omega); have h2 := h 2 (by omega); have h3 := h 3 (by omega)
  unfold rightP resF
  simp only
  omega

theorem p_Join (l : List (List UInt8)) (h0 : l ≠ []) (h1 : l.length ≤ 4) (h2 : ∀ x ∈ l, x.length ≤ 11) : f29 l [44] = some (Lib.join l [44]) := by
  unfold f29 joinF
  match l, h0 with
  | x :: l, _ =>
    have hlen := Lib.join_length x l [44]
    have hl : ∀ (l : List (List UInt8)), (∀ x ∈ l, x.length ≤ 11) → Lib.lens l ≤ 11 * l.length := by
      intro l
      induction l with
      | nil => intro _; simp [Lib.lens]
      | cons x l ih =>
        intro h
        have a1 := ih (fun y hy => h y (by simp [hy]))
        have a2 := h x (by simp)
        simp only [Lib.lens, List.map_cons, List.sum_cons, List.length_cons] at a1 ⊢
        omega
    have a3 := hl (x :: l) h2
    simp only [List.length_cons, List.length_singleton, List.length_nil, Nat.zero_add, Nat.one_mul] at hlen h1 a3
    simp only
    rw [decide_eq_true (by simp only [List.length_cons]; omega), decide_eq_true (by rw [hlen]; omega)]
    rfl
theorem items_len (r : Nat → Nat) (hr : Small4 r) : ∀ m, m ≤ 4 → ∀ x ∈ itemsF r m, x.length ≤ 11
  | 0, _, x, hx => by simp [itemsF] at hx
  | m + 1, hm, x, hx => by
    simp only [itemsF] at hx
    split at hx
    · exact items_len r hr m (by omega) x hx
    · rcases List.mem_cons.1 hx with rfl | hx
      · exact (item_len _ _ (hr _ (by omega))).1
      · exact items_len r hr m (by omega) x hx
theorem p_Text (r : Nat → Nat) (hr : Small4 r) : f15 (resF r) = some (txtU r, 0, ()) := by
  unfold f15 F15 f26 F26
  rw [p_vRight, decide_eq_true (right_of r hr)]
  simp only [Option.bind_some, Bool.not_true, cond_false]
  refine loop_run (f := fun (s3 : ((Unit × (Int × Unit)) × ((List (List UInt8)) × Unit))) nx4 => l15_0 f28 f29 (resF r) _ nx4 s3.1.2.1 s3.2.1) 4 four_lt (fun i => (((), (i : Int), ()), (preF r i, ()))) (fun i hi next => ?_) (fun next => ?_)
  · have hl := pre_len r i
    have hs : smallB ((preF r i).length + 1) 16 = true := by simp [smallB]; omega
    have hd := (item_len i (r i) (hr i hi)).2
    have hI := p_Itoa (r i) (hr i hi)
    have w1 : IntKind.wrap .i64 1 = 1 := rfl
    have w2 : IntKind.wrap .i64 2 = 2 := rfl
    have w3 : IntKind.wrap .i64 3 = 3 := rfl
    have w4 : IntKind.wrap .i64 4 = 4 := rfl
    have hd4 : 4 + (Lib.decDigits (r i)).length ≤ 4294967296 := by omega
    have hp : preF r (i + 1) = if r i = 0 then preF r i else preF r i ++ [item i (r i)] := rfl
    rw [hp]
    clear hp
    generalize preF r i = p at hl hs ⊢
    have hs1 : (p.length + 1) * 16 ≤ 1099511627776 := by omega
    have hs2 : p.length ≤ 4294967295 := by omega
    by_cases hz : r i = 0
    · rcases (show i = 0 ∨ i = 1 ∨ i = 2 ∨ i = 3 by omega) with rfl | rfl | rfl | rfl <;> simp [l15_0, resF, hz, w1, w2, w3, w4]
    · rcases (show i = 0 ∨ i = 1 ∨ i = 2 ∨ i = 3 by omega) with rfl | rfl | rfl | rfl <;> simp [l15_0, resF, hz, hs1, hs2, hI, item, wd, w1, w2, w3, w4, hd4]
  · have hl := pre_len r 4
    simp only [l15_0]
    rw [pre_items] at hl ⊢
    unfold txtU
    by_cases h0 : itemsF r 4 = []
    · rw [if_pos h0, h0]; rfl
    · rw [if_neg h0]
      have : ¬ ((itemsF r 4).length : Int) = 0 := fun h => h0 (List.length_eq_zero_iff.1 (by omega))
      rw [decide_eq_false (show ¬ ((4 : Nat) : Int) < 4 by omega), decide_eq_false this, p_Join _ h0 hl (items_len r hr 4 (Nat.le_refl _))]
      rfl

/-- the document's text -/
def strS (r : Nat → Nat) : Nat → List UInt8
  | 0 => []
  | i + 1 => if r i = 0 then strS r i else if strS r i = [] then item i (r i) else strS r i ++ 44 :: item i (r i)
theorem strS_len (r : Nat → Nat) (hr : Small4 r) : ∀ i, i ≤ 4 → (strS r i).length ≤ 12 * i
  | 0, _ => by simp [strS]
  | i + 1, hi => by
    have h1 := strS_len r hr i (by omega)
    have h2 := (item_len i (r i) (hr i (by omega))).1
    simp only [strS]
    split
    · omega
    · split
      · omega
      · simp only [List.length_append, List.length_cons]; omega
theorem strS_join (r : Nat → Nat) : ∀ i, strS r i = Lib.join (preF r i) [44] ∧ (preF r i = [] → strS r i = []) ∧ (preF r i ≠ [] → strS r i ≠ [])
  | 0 => ⟨rfl, fun _ => rfl, fun h => absurd rfl h⟩
  | i + 1 => by
    obtain ⟨h1, h2, h3⟩ := strS_join r i
    have hne : item i (r i) ≠ [] := by simp [item]
    simp only [strS, preF]
    by_cases hz : r i = 0
    · rw [if_pos hz, if_pos hz]; exact ⟨h1, h2, h3⟩
    · rw [if_neg hz, if_neg hz]
      by_cases hp : preF r i = []
      · rw [if_pos (h2 hp), hp]
        exact ⟨by rw [List.nil_append, Lib.join_one], fun h => by simp at h, fun _ => hne⟩
      · rw [if_neg (h3 hp), join_snoc _ _ _ hp, ← h1]
        refine ⟨by simp, fun h => by simp at h, fun _ => by simp⟩
theorem r_Text (r : Nat → Nat) (hr : Small4 r) : f18 (resF r) = some (txtU r) := by
  unfold f18 F18
  refine loop_run (f := fun (s1 : ((Unit × (Unit × ((List UInt8) × (Int × Unit)))) × ((List Int) × ((List (List UInt8)) × Unit)))) nx2 => l18_0 f24 nx2 s1.1.2.2.1 s1.1.2.2.2.1 s1.2.1 s1.2.2.1) 4 four_lt
    (fun i => (((), (), strS r i, (i : Int), ()), ([(r 0 : Int), (r 1 : Int), (r 2 : Int), (r 3 : Int)], [([99, 112, 117] : List UInt8), ([109, 101, 109] : List UInt8), ([103, 112, 117] : List UInt8), ([108, 105, 99] : List UInt8)], ()))) (fun i hi next => ?_) (fun next => ?_)
  · have hl := strS_len r hr i (by omega)
    have hd := (item_len i (r i) (hr i hi)).2
    have hI := r_Digits (r i) (hr i hi)
    have w1 : IntKind.wrap .i64 1 = 1 := rfl
    have w2 : IntKind.wrap .i64 2 = 2 := rfl
    have w3 : IntKind.wrap .i64 3 = 3 := rfl
    have w4 : IntKind.wrap .i64 4 = 4 := rfl
    have hp : strS r (i + 1) = if r i = 0 then strS r i else if strS r i = [] then item i (r i) else strS r i ++ 44 :: item i (r i) := rfl
    rw [hp]
    clear hp
    generalize strS r i = p at hl ⊢
    have b1 : p.length + 1 ≤ 4294967296 := by omega
    have b7 : p.length ≤ 4294967295 := by omega
    have b8 : p.length ≤ 4294967292 := by omega
    have b9 : p.length ≤ 4294967291 := by omega
    have b2 : p.length + 4 ≤ 4294967296 := by omega
    have b3 : p.length + 5 ≤ 4294967296 := by omega
    have b4 : p.length + (5 + (Lib.decDigits (r i)).length) ≤ 4294967296 := by omega
    have b5 : 4 + (Lib.decDigits (r i)).length ≤ 4294967296 := by omega
    have b6 : p.length + 5 + (Lib.decDigits (r i)).length ≤ 4294967296 := by omega
    by_cases hz : r i = 0
    · rcases (show i = 0 ∨ i = 1 ∨ i = 2 ∨ i = 3 by omega) with rfl | rfl | rfl | rfl <;> simp [l18_0, hz, w1, w2, w3, w4]
    · by_cases hp : p = []
      · subst hp
        rcases (show i = 0 ∨ i = 1 ∨ i = 2 ∨ i = 3 by omega) with rfl | rfl | rfl | rfl <;> simp [l18_0, hz, hI, item, wd, w1, w2, w3, w4, b5]
      · rcases (show i = 0 ∨ i = 1 ∨ i = 2 ∨ i = 3 by omega) with rfl | rfl | rfl | rfl <;> simp [l18_0, hz, hp, hI, item, wd, w1, w2, w3, w4, b1, b2, b3, b4, b6, b7, b8, b9]
  · obtain ⟨h1, h2, h3⟩ := strS_join r 4
    rw [pre_items] at h1 h2 h3
    simp only [l18_0]
    rw [decide_eq_false (show ¬ ((4 : Nat) : Int) < 4 by omega)]
    unfold txtU
    by_cases h0 : itemsF r 4 = []
    · rw [if_pos h0, h2 h0]; rfl
    · rw [if_neg h0, decide_eq_false (h3 h0), h1]; rfl
end NM
end Go.Proofs.YtbhnojlcbgkcbaaDoor
