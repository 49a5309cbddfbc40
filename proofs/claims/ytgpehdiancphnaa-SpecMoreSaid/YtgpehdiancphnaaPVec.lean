/-
  How often a vector fits.
-/
import Derived.Test.YtgpehdiancphnaaPSpec
set_option linter.unusedVariables false
set_option linter.unusedSimpArgs false
namespace Go.Proofs.Ytgpehdiancphnaa
namespace NM
open AM

theorem loop_run {σ ω : Type} {f : σ → (σ → Option ω) → Option ω} {r : Option ω} (n : Nat) (hn : n < LOOPS) (s : Nat → σ) (hs : ∀ i, i < n → ∀ next, f (s i) next = next (s (i + 1))) (hend : ∀ next, f (s n) next = r) : LN LOOPS f (s 0) = r := by
  have key : ∀ m i, i ≤ n → n - i < m → loopN f m (s i) = r := by
    intro m
    induction m with
    | zero => intro i _ h; omega
    | succ m ih =>
      intro i hi hm
      simp only [loopN]
      rcases Nat.lt_or_ge i n with h | h
      · rw [hs i h]
        exact ih (i + 1) h (by omega)
      · have : i = n := by omega
        subst this
        exact hend _
  exact key LOOPS 0 (Nat.zero_le _) (by omega)

def zRes (a : Res) : Bool := (decide (a.cpu = 0)) && ((decide (a.mem = 0)) && ((decide (a.gpu = 0)) && ((decide (a.lic = 0)) && true)))
def stepC (x y n : Int) : Int := if 0 < y then min n (x / y) else n
def countI (a b : Res) : Int := if resOk a = true ∧ resOk b = true ∧ zRes b = false then stepC a.lic b.lic (stepC a.gpu b.gpu (stepC a.mem b.mem (stepC a.cpu b.cpu 64))) else 0

theorem div_wrap {x y : Int} (hx : 0 ≤ x) (hx2 : x ≤ 1048576) (hy : 0 < y) : IntKind.wrap .i64 (Int.tdiv x y) = x / y := by
  rw [Int.tdiv_eq_ediv_of_nonneg hx]
  have h1 := Int.ediv_nonneg hx (Int.le_of_lt hy)
  have h2 := Int.ediv_le_self y hx
  exact wi (by omega) (by omega)
theorem min_if (a n : Int) : (if a < n then a else n) = min n a := by
  rw [Int.min_def]
  split <;> split <;> omega

def accC (a b : Res) : Nat → Int
  | 0 => 64
  | 1 => stepC a.cpu b.cpu 64
  | 2 => stepC a.mem b.mem (stepC a.cpu b.cpu 64)
  | 3 => stepC a.gpu b.gpu (stepC a.mem b.mem (stepC a.cpu b.cpu 64))
  | _ => stepC a.lic b.lic (stepC a.gpu b.gpu (stepC a.mem b.mem (stepC a.cpu b.cpu 64)))

theorem p_Count (a b : Res) : f132 a b = some (countI a b) := by
  unfold f132 F132
  simp only [p_vecRight, p_numbers, Option.bind_some]
  unfold countI
  cases ha : resOk a with
  | false => simp
  | true =>
    cases hb : resOk b with
    | false => simp
    | true =>
      change cond (!true) _ (cond (!true) _ (cond (zRes b) _ _)) = _
      cases hz : zRes b with
      | true => simp
      | false =>
        simp only [Bool.not_true, cond_false, true_and, if_true]
        simp only [resOk, decide_eq_true_eq] at ha hb
        refine loop_run 4 (by decide) (fun i => ((accC a b i, (), (), (i : Int), ()), ((a.cpu, a.mem, a.gpu, a.lic), (b.cpu, b.mem, b.gpu, b.lic), ()))) (fun i hi next => ?_) (fun next => ?_)
        · match i, hi with
          | 0, _ =>
            by_cases hy : 0 < b.cpu
            · simp [l132_0, hy, accC, stepC, div_wrap ha.1 ha.2.1 hy, min_if, wi, show b.cpu ≠ 0 by omega]
            · simp [l132_0, hy, accC, stepC, wi]
          | 1, _ =>
            by_cases hy : 0 < b.mem
            · simp [l132_0, hy, accC, div_wrap ha.2.2.1 ha.2.2.2.1 hy, min_if, wi, show b.mem ≠ 0 by omega]
              simp [stepC, hy]
            · simp [l132_0, hy, accC, wi]
              simp [stepC, hy]
          | 2, _ =>
            by_cases hy : 0 < b.gpu
            · simp [l132_0, hy, accC, div_wrap ha.2.2.2.2.1 ha.2.2.2.2.2.1 hy, min_if, wi, show b.gpu ≠ 0 by omega]
              simp [stepC, hy]
            · simp [l132_0, hy, accC, wi]
              simp [stepC, hy]
          | 3, _ =>
            by_cases hy : 0 < b.lic
            · simp [l132_0, hy, accC, div_wrap ha.2.2.2.2.2.2.1 ha.2.2.2.2.2.2.2 hy, min_if, wi, show b.lic ≠ 0 by omega]
              simp [stepC, hy]
            · simp [l132_0, hy, accC, wi]
              simp [stepC, hy]
        · simp [l132_0, accC]

theorem stepC_mono {x y y' n n' : Int} (hx : 0 ≤ x) (hy : 0 ≤ y) (h : y ≤ y') (hn : n' ≤ n) : stepC x y' n' ≤ stepC x y n := by
  unfold stepC
  by_cases h1 : 0 < y
  · have h2 : 0 < y' := by omega
    rw [if_pos h1, if_pos h2]
    have : x / y' ≤ x / y := by
      have h3 := Int.ediv_nonneg hx (Int.le_of_lt h2)
      have h4 := Int.ediv_mul_le x (show y' ≠ 0 by omega)
      have h5 := Int.mul_le_mul_of_nonneg_left h h3
      exact Int.le_ediv_of_mul_le h1 (Int.le_trans h5 h4)
    omega
  · rw [if_neg h1]
    split <;> omega
theorem stepC_nonneg {x y n : Int} (hx : 0 ≤ x) (hn : 0 ≤ n) : 0 ≤ stepC x y n := by
  unfold stepC
  split
  · rename_i h
    have := Int.ediv_nonneg hx (Int.le_of_lt h)
    omega
  · exact hn
theorem stepC_le {x y n : Int} : stepC x y n ≤ n := by
  unfold stepC
  split <;> omega
theorem countI_nonneg (a b : Res) : 0 ≤ countI a b := by
  unfold countI
  split
  · rename_i h
    have h1 := h.1
    simp only [resOk, decide_eq_true_eq] at h1
    exact stepC_nonneg h1.2.2.2.2.2.2.1 (stepC_nonneg h1.2.2.2.2.1 (stepC_nonneg h1.2.2.1 (stepC_nonneg h1.1 (by omega))))
  · omega
theorem countI_le (a b : Res) : countI a b ≤ 64 := by
  unfold countI
  split
  · exact Int.le_trans stepC_le (Int.le_trans stepC_le (Int.le_trans stepC_le stepC_le))
  · omega
/-- less fits at least as often -/
theorem countI_mono {a b c : Res} (hc : resOk c = true) (hz : zRes c = false) (h1 : c.cpu ≤ b.cpu) (h2 : c.mem ≤ b.mem) (h3 : c.gpu ≤ b.gpu) (h4 : c.lic ≤ b.lic) : countI a b ≤ countI a c := by
  by_cases h : resOk a = true ∧ resOk b = true ∧ zRes b = false
  · have e1 : countI a b = stepC a.lic b.lic (stepC a.gpu b.gpu (stepC a.mem b.mem (stepC a.cpu b.cpu 64))) := if_pos h
    have e2 : countI a c = stepC a.lic c.lic (stepC a.gpu c.gpu (stepC a.mem c.mem (stepC a.cpu c.cpu 64))) := if_pos ⟨h.1, hc, hz⟩
    rw [e1, e2]
    have ha := h.1
    simp only [resOk, decide_eq_true_eq] at ha hc
    exact stepC_mono ha.2.2.2.2.2.2.1 hc.2.2.2.2.2.2.1 h4 (stepC_mono ha.2.2.2.2.1 hc.2.2.2.2.1 h3 (stepC_mono ha.2.2.1 hc.2.2.1 h2 (stepC_mono ha.1 hc.1 h1 (Int.le_refl _))))
  · have e1 : countI a b = 0 := if_neg h
    rw [e1]
    exact countI_nonneg a c

theorem asc_mem {e : Int} : ∀ {l : List Int} {a : Int}, asc e a l = true → ∀ x, x ∈ l → a < x ∧ x < e
  | [], _, _, x, hx => by cases hx
  | n :: l, a, h, x, hx => by
    simp only [asc, Bool.and_eq_true, decide_eq_true_eq] at h
    rcases List.mem_cons.1 hx with rfl | hx
    · exact h.1
    · have := asc_mem h.2 x hx
      omega
theorem asc_len {e : Int} : ∀ {l : List Int} {a : Int}, asc e a l = true → l = [] ∨ (l.length : Int) + a < e
  | [], _, _ => .inl rfl
  | n :: l, a, h => by
    simp only [asc, Bool.and_eq_true, decide_eq_true_eq] at h
    right
    rcases asc_len h.2 with rfl | h2
    · simp only [List.length_cons, List.length_nil]; omega
    · simp only [List.length_cons]; omega

def z0 : Res := ⟨0, 0, 0, 0⟩
def roomG (s : Spec) (need : Res) (b x : Int) : Int := IntKind.wrap .i64 (b + countI (s.nodes.getD x.toNat z0) need)
def roomI (s : Spec) (part : Int) (need : Res) : Int := if specOk s = true ∧ 0 ≤ part ∧ part < s.parts.length then (s.parts.getD part.toNat []).foldl (roomG s need) 0 else 0

theorem specOk_part {s : Spec} (h : specOk s = true) {p : List Int} (hp : p ∈ s.parts) : asc s.nodes.length (-1) p = true ∧ s.nodes.length ≤ 16 := by
  simp only [specOk, Bool.and_eq_true] at h
  obtain ⟨h1, h2, _⟩ := h
  simp only [nodesOk, partsOk, Bool.and_eq_true, decide_eq_true_eq, List.all_eq_true] at h1 h2
  exact ⟨(h2.2 p hp).2, h1.1.2⟩

theorem p_Room (s : Spec) (hs : Rng.P s) (part : Int) (need : Res) : f80 s part need = some (roomI s part need) := by
  unfold f80 F80 roomI
  rw [p_Right s hs]
  simp only [Option.bind_some]
  cases hok : specOk s with
  | false => simp
  | true =>
    by_cases h1 : part < 0
    · simp [h1, show ¬ 0 ≤ part by omega]
    · by_cases h2 : (s.parts.length : Int) ≤ part
      · simp [h1, h2, show ¬ part < (s.parts.length : Int) by omega]
      · have h3 : 0 ≤ part := by omega
        have hlt : part.toNat < s.parts.length := by omega
        simp only [h1, h2, h3, show part < (s.parts.length : Int) by omega, decide_true, decide_false, Bool.not_true, cond_true, cond_false, true_and, if_true, List.getElem?_eq_getElem hlt, Option.bind_some, List.getD_eq_getElem?_getD, Option.getD_some]
        have hpm : s.parts[part.toNat] ∈ s.parts := List.getElem_mem hlt
        obtain ⟨hasc, hn⟩ := specOk_part hok hpm
        have hml : maxLen = 9223372036854775807 := rfl
        rw [fold_loop s.parts[part.toNat] (fun b z => (((), (), b, z, ()), (s, need, ()))) (roomG s need) some ?_ ?_ ?_ 0]
        · rcases asc_len hasc with h | h
          · rw [h]; simp
          · omega
        · intro b next
          simp [l80_0]
        · intro b z x next g0 g1 g2 g3
          have hx := asc_mem hasc x (List.mem_of_getElem? g2)
          have hxl : x.toNat < s.nodes.length := by omega
          simp only [l80_0, g0, g1, g2, g3, show 0 ≤ x by omega, decide_true, cond_true, Option.bind_some, p_Count, List.getElem?_eq_getElem hxl, roomG, List.getD_eq_getElem?_getD, Option.getD_some]

theorem room_fold {s : Spec} {b c : Res} (hm : ∀ a, countI a b ≤ countI a c) : ∀ (l : List Int) (x y : Int), 0 ≤ x → x ≤ y → y + 64 * l.length ≤ 1000000 → l.foldl (roomG s b) x ≤ l.foldl (roomG s c) y
  | [], x, y, _, h, _ => h
  | i :: l, x, y, h0, h, hl => by
    simp only [List.foldl_cons, List.length_cons] at hl ⊢
    have a1 := countI_nonneg (s.nodes.getD i.toNat z0) b
    have a2 := countI_le (s.nodes.getD i.toNat z0) c
    have a3 := hm (s.nodes.getD i.toNat z0)
    have e1 : roomG s b x i = x + countI (s.nodes.getD i.toNat z0) b := wi (by omega) (by omega)
    have e2 : roomG s c y i = y + countI (s.nodes.getD i.toNat z0) c := wi (by omega) (by omega)
    rw [e1, e2]
    exact room_fold hm l _ _ (by omega) (by omega) (by omega)
theorem room_mono {s : Spec} {part : Int} {b c : Res} (hm : ∀ a, countI a b ≤ countI a c) : roomI s part b ≤ roomI s part c := by
  unfold roomI
  split
  · rename_i h
    have hlt : part.toNat < s.parts.length := by omega
    have hpm : s.parts[part.toNat] ∈ s.parts := List.getElem_mem hlt
    obtain ⟨hasc, hn⟩ := specOk_part h.1 hpm
    rw [List.getD_eq_getElem?_getD, List.getElem?_eq_getElem hlt, Option.getD_some]
    refine room_fold hm _ 0 0 (Int.le_refl _) (Int.le_refl _) ?_
    rcases asc_len hasc with h | h
    · rw [h]; simp
    · omega
  · exact Int.le_refl _
def fitsB (s : Spec) (q many : Int) (need : Res) : Bool := specOk s && (decide (0 ≤ q) && (decide (q < s.queues.length) && (decide (1 ≤ many) && decide (many ≤ roomI s (s.queues.getD q.toNat ⟨0, [], 0, 0, 0, 0⟩).part need))))
theorem p_Fits (s : Spec) (hs : Rng.P s) (q many : Int) (need : Res) : f18 s q many need = some (fitsB s q many need) := by
  unfold f18 F18 fitsB
  rw [p_Right s hs]
  simp only [Option.bind_some]
  cases hok : specOk s with
  | false => simp
  | true =>
    by_cases h1 : q < 0
    · simp [h1, show ¬ 0 ≤ q by omega]
    · by_cases h2 : (s.queues.length : Int) ≤ q
      · simp [h1, h2, show ¬ q < (s.queues.length : Int) by omega]
      · have h3 : 0 ≤ q := by omega
        have hlt : q.toNat < s.queues.length := by omega
        by_cases h4 : many < 1
        · simp [h1, h2, h4, show ¬ 1 ≤ many by omega]
        · simp [h1, h2, h3, h4, show q < (s.queues.length : Int) by omega, show 1 ≤ many by omega, List.getElem?_eq_getElem hlt, p_Room s hs]
end NM
end Go.Proofs.Ytgpehdiancphnaa
