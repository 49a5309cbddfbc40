/-
  Tables of keys: what is found, stored, looked for, and told.
-/
import Derived.Test.YtnggfgfeghmddaaPKeysA
set_option linter.unusedVariables false
set_option linter.unusedSimpArgs false
namespace Go.Proofs.Ytnggfgfeghmddaa
namespace NM
open AM

theorem lml : maxLen = 9223372036854775807 := rfl
def AscE : List Entry → Prop
  | [] => True
  | x :: l => (∀ y, y ∈ l → x.request.key < y.request.key) ∧ AscE l
def fndE (k : Int) : List Entry → Nat × Bool
  | [] => (0, false)
  | x :: l => if x.request.key < k then ((fndE k l).1 + 1, (fndE k l).2) else (0, decide (x.request.key = k))
theorem fndE_le (k : Int) : ∀ l : List Entry, (fndE k l).1 ≤ l.length
  | [] => by simp [fndE]
  | x :: l => by
    have := fndE_le k l
    simp only [fndE]
    split
    · simp only [List.length_cons]; omega
    · simp
theorem fndE_lt (k : Int) : ∀ l : List Entry, (fndE k l).2 = true → (fndE k l).1 < l.length
  | [], h => by simp [fndE] at h
  | x :: l, h => by
    simp only [fndE] at h ⊢
    split
    · rename_i hx
      rw [if_pos hx] at h
      have := fndE_lt k l h
      simp only [List.length_cons]; omega
    · simp
theorem fndE_end (k : Int) (l : List Entry) (h : (fndE k l).1 = l.length) : (fndE k l).2 = false := by
  cases hb : (fndE k l).2 with
  | false => rfl
  | true => have := fndE_lt k l hb; omega
theorem fndE_is (k : Int) : ∀ (l : List Entry) (y : Entry), l[(fndE k l).1]? = some y → (fndE k l).2 = decide (y.request.key = k)
  | [], y, h => by simp at h
  | x :: l, y, h => by
    simp only [fndE] at h ⊢
    split
    · rename_i hx
      rw [if_pos hx] at h
      exact fndE_is k l y (by simpa using h)
    · rename_i hx
      rw [if_neg hx] at h
      simp at h
      rw [h]
theorem fndE_side (k : Int) : ∀ (l : List Entry), AscE l → ∀ (i : Nat) (y : Entry), l[i]? = some y → (k ≤ y.request.key ↔ (fndE k l).1 ≤ i)
  | [], _, i, y, h => by simp at h
  | x :: l, ha, i, y, h => by
    simp only [fndE]
    cases i with
    | zero =>
      simp at h
      subst h
      split
      · constructor
        · intro; omega
        · intro hh; simp at hh
      · simp; omega
    | succ i =>
      simp at h
      have hxy := ha.1 y (List.mem_of_getElem? h)
      split
      · rename_i hx
        rw [fndE_side k l ha.2 i y h]
        simp
      · simp; omega
/-- what is there is found -/
theorem fndE_mem (k : Int) : ∀ (l : List Entry), AscE l → ∀ e, e ∈ l → e.request.key = k → (fndE k l).2 = true ∧ l[(fndE k l).1]? = some e
  | [], _, e, h, _ => by simp at h
  | x :: l, ha, e, h, hk => by
    simp only [fndE]
    rcases List.mem_cons.1 h with rfl | h
    · rw [if_neg (by omega)]
      simp [hk]
    · have := ha.1 e h
      rw [if_pos (by omega)]
      have := fndE_mem k l ha.2 e h hk
      simpa using this
def insE (k : Nat) (l : List Entry) (e : Entry) : List Entry := insL k l e
theorem ascE_ins {k : Int} {e : Entry} (hk : e.request.key = k) : ∀ {l : List Entry}, AscE l → (fndE k l).2 = false → AscE (insL (fndE k l).1 l e)
  | [], _, _ => ⟨by simp, trivial⟩
  | x :: l, ha, h => by
    simp only [fndE] at h ⊢
    split
    · rename_i hx
      rw [if_pos hx] at h
      have ih := ascE_ins hk ha.2 h
      show AscE (x :: insL (fndE k l).1 l e)
      refine ⟨fun y hy => ?_, ih⟩
      unfold insL at hy
      rcases List.mem_append.1 hy with hy | hy
      · exact ha.1 y (List.mem_of_mem_take hy)
      · rcases List.mem_cons.1 hy with rfl | hy
        · omega
        · exact ha.1 y (List.mem_of_mem_drop hy)
    · rename_i hx
      rw [if_neg hx] at h
      have hne : ¬ x.request.key = k := by simpa using h
      show AscE (e :: x :: l)
      refine ⟨fun y hy => ?_, ha⟩
      rcases List.mem_cons.1 hy with rfl | hy
      · omega
      · have := ha.1 y hy; omega
theorem len_insE {k : Nat} {l : List Entry} {e : Entry} (h : k ≤ l.length) : (insL k l e).length = l.length + 1 := by
  simp only [insL, List.length_append, List.length_take, List.length_cons, List.length_drop]
  omega
theorem mem_insE {k : Nat} {l : List Entry} {e y : Entry} : y ∈ insL k l e ↔ y = e ∨ y ∈ l := by
  unfold insL
  constructor
  · intro h
    rcases List.mem_append.1 h with h | h
    · exact .inr (List.mem_of_mem_take h)
    · rcases List.mem_cons.1 h with h | h
      · exact .inl h
      · exact .inr (List.mem_of_mem_drop h)
  · rintro (h | h)
    · subst h; simp
    · have : y ∈ l.take k ++ l.drop k := by rw [List.take_append_drop]; exact h
      rcases List.mem_append.1 this with h | h
      · exact List.mem_append.2 (.inl h)
      · exact List.mem_append.2 (.inr (List.mem_cons_of_mem _ h))

/- the program's search -/
theorem p_cmp (e : Entry) (k : Int) : f84 e k = some (if e.request.key < k then -1 else if k < e.request.key then 1 else 0) := by
  unfold f84 F84 f85 F85 f96 F96
  simp only [decide_true, Bool.not_true, Option.bind_some, cond_false]
  by_cases h : e.request.key < k
  · simp only [h, decide_true, cond_true, if_true, Option.bind_some]
  · by_cases h2 : k < e.request.key
    · simp only [h, h2, decide_true, decide_false, cond_true, cond_false, if_true, if_false, Option.bind_some]
    · simp only [h, h2, decide_false, cond_false, if_false, Option.bind_some]
theorem p_bsearch (k : Int) (l : List Entry) (ha : AscE l) (hl : l.length ≤ 1000) : f83_1 k l = some ((((fndE k l).1 : Int), ((fndE k l).2, ())), (l, ())) := by
  unfold f83_1 F83_1
  have hf := fndE_le k l
  refine loop_eq (fun s => s.2.1 = l ∧ 0 ≤ s.1.2.1 ∧ s.1.2.1 ≤ ((fndE k l).1 : Int) ∧ ((fndE k l).1 : Int) ≤ s.1.2.2.1 ∧ s.1.2.2.1 ≤ (l.length : Int)) (fun s => (s.1.2.2.1 - s.1.2.1).toNat) (fun _ => some ((((fndE k l).1 : Int), ((fndE k l).2, ())), (l, ()))) ?_
    ⟨rfl, Int.le_refl _, by show (0 : Int) ≤ _; omega, by show _ ≤ (l.length : Int); omega, Int.le_refl _⟩ (by unfold LOOPS; simp only; omega)
  rintro ⟨⟨⟨⟩, i, j, ⟨⟩⟩, z, ⟨⟩⟩ next ⟨hz, h1, h2, h3, h4⟩ ih
  simp only at hz h1 h2 h3 h4
  subst hz
  simp only [l83_1_0]
  by_cases hij : i < j
  · have e1 : IntKind.wrap .i64 (i + j) = i + j := wi (by omega) (by omega)
    have e2 : IntKind.wrap .u64 (i + j) = i + j := by
      show (i + j) % 18446744073709551616 = i + j
      omega
    have e3 : (2 : Int) ^ (min (Int.toNat 1) 64) = 2 := rfl
    obtain ⟨v, hv⟩ : ∃ v, v = Int.fdiv (i + j) 2 := ⟨_, rfl⟩
    have hv2 : v = (i + j) / 2 := by rw [hv, Int.fdiv_eq_ediv_of_nonneg _ (by decide)]
    have e4 : IntKind.wrap .i64 v = v := wi (by omega) (by omega)
    have hvl : v.toNat < z.length := by omega
    obtain ⟨y, hy⟩ : ∃ y, z[v.toNat]? = some y := ⟨z[v.toNat], List.getElem?_eq_getElem _⟩
    have hs := fndE_side k z ha _ _ hy
    have hv0 : 0 ≤ v := by omega
    simp only [decide_eq_true hij, cond_true, e1, e2, e3, ← hv, e4, decide_eq_true hv0, decide_eq_true hvl, hy, p_cmp, Option.bind_some]
    by_cases hd : k ≤ y.request.key
    · have hn : ¬ y.request.key < k := by omega
      have := hs.1 hd
      have hge : ¬ ((if k < y.request.key then (1 : Int) else 0) < 0) := by split <;> omega
      simp only [if_neg hn, decide_eq_false hge, cond_false]
      exact ih _ ⟨rfl, h1, h2, by show ((fndE k z).1 : Int) ≤ v; omega, by show v ≤ _; omega⟩ (by simp only; omega)
    · have : ¬ ((fndE k z).1 ≤ v.toNat) := fun h => hd (hs.2 h)
      have hn : y.request.key < k := by omega
      have e5 : IntKind.wrap .i64 (v + 1) = v + 1 := wi (by omega) (by omega)
      simp only [if_pos hn, show decide ((-1 : Int) < 0) = true from rfl, cond_true, e5]
      exact ih _ ⟨rfl, by show 0 ≤ v + 1; omega, by show v + 1 ≤ _; omega, h3, h4⟩ (by simp only; omega)
  · have hi : i = ((fndE k z).1 : Int) := by omega
    simp only [decide_eq_false hij, cond_false]
    rw [hi]
    by_cases h : (fndE k z).1 < z.length
    · obtain ⟨y, hy⟩ : ∃ y, z[(fndE k z).1]? = some y := ⟨z[(fndE k z).1], List.getElem?_eq_getElem _⟩
      have hc : ((fndE k z).1 : Int) < (z.length : Int) := by omega
      have h0 : (0 : Int) ≤ ((fndE k z).1 : Int) := by omega
      have hs := (fndE_side k z ha _ _ hy).2 (Nat.le_refl _)
      simp only [decide_eq_true hc, decide_eq_true h0, cond_true, Int.toNat_natCast, decide_eq_true h, hy, p_cmp, Option.bind_some]
      have hn : ¬ y.request.key < k := by omega
      rw [fndE_is k z y hy, if_neg hn]
      by_cases hk : k < y.request.key
      · rw [if_pos hk, decide_eq_false (show ¬ y.request.key = k by omega)]
        rfl
      · rw [if_neg hk, decide_eq_true (show y.request.key = k by omega)]
        rfl
    · have hc : ¬ ((fndE k z).1 : Int) < (z.length : Int) := by omega
      simp only [decide_eq_false hc, cond_false]
      rw [fndE_end k z (by omega)]

/- copies -/
theorem p_CloneD (l : List Dep) (hl : l.length ≤ 4294967295) : f72 l = some ((), (l, ())) := by
  unfold f72 cloneF
  cases l with
  | nil => rfl
  | cons x l =>
    unfold F72
    have : smallB (0 + (x :: l).length) 16 = true := by
      simp only [smallB, Bool.and_eq_true, decide_eq_true_eq]
      simp at hl ⊢
      omega
    simp only [List.isEmpty_cons, cond_false, this, cond_true, List.nil_append]
theorem p_CloneI (l : List Int) (hl : l.length ≤ 4294967295) : f86 l = some ((), (l, ())) := by
  unfold f86 cloneF
  cases l with
  | nil => rfl
  | cons x l =>
    unfold F86
    have : smallB (0 + (x :: l).length) 8 = true := by
      simp only [smallB, Bool.and_eq_true, decide_eq_true_eq]
      simp at hl ⊢
      omega
    simp only [List.isEmpty_cons, cond_false, this, cond_true, List.nil_append]
theorem p_copyQ (r : Request) (h : r.after.length ≤ 10) : f56 r = some r := by
  unfold f56 F56
  rw [p_CloneD _ (by omega)]
  rfl
theorem p_copyA (a : Reply) (h : a.nums.length ≤ 100) : f57 a = some a := by
  unfold f57 F57
  rw [p_CloneI _ (by omega)]
  rfl
def FewE (l : List Entry) : Prop := ∀ e, e ∈ l → e.request.after.length ≤ 10 ∧ e.reply.nums.length ≤ 100
theorem small240 {n : Nat} (h : n ≤ 2000) : smallB n 240 = true := by
  simp only [smallB, Bool.and_eq_true, decide_eq_true_eq]
  omega
theorem p_copyE (l : List Entry) (hl : l.length ≤ 1000) (hf : FewE l) : f60 l = some (l, (l, ())) := by
  unfold f60 F60
  have h0 : (0 : Int) ≤ (l.length : Int) := by omega
  have h1 : l.length * 240 ≤ 1099511627776 := by omega
  have h2 : l.length ≤ 4294967296 := by omega
  simp only [decide_eq_true h0, Int.toNat_natCast, decide_eq_true h1, decide_eq_true h2, decide_eq_true (Nat.zero_le l.length), Bool.and_self, cond_true, List.replicate_zero]
  rw [list_loopI l (fun (b : List Entry) z => (((), (), z, ()), (l, b, ()))) (fun b z => 0 ≤ z ∧ b = l.take z.toNat) (fun b x => .inl (b ++ [x])) (fun b => some (b, (l, ()))) (by rw [lml]; omega) ?_ ?_ [] ⟨Int.le_refl _, by simp⟩]
  · have : ∀ (m : List Entry) (b : List Entry), runL (fun (b : List Entry) (x : Entry) => (.inl (b ++ [x]) : List Entry ⊕ Option (List Entry × (List Entry × Unit)))) (fun b => some (b, (l, ()))) m b = some (b ++ m, (l, ())) := by
      intro m
      induction m with
      | nil => intro b; simp [runL]
      | cons x m ih => intro b; simp only [runL]; rw [ih]; simp
    rw [this l []]
    simp
  · rintro b next ⟨_, hb⟩
    simp only [l60_0, Int.lt_irrefl, decide_false, cond_false]
  · rintro b z x next ⟨hz, hb⟩ g0 g1 g2 g3
    have hx := hf x (List.mem_of_getElem? g2)
    have hzl : z.toNat < l.length := by omega
    have hbl : b.length + 1 ≤ 2000 := by rw [hb, List.length_take]; omega
    simp only [l60_0, g0, g1, g2, g3, hzl, decide_true, cond_true, Option.bind_some, p_copyQ _ hx.1, p_copyA _ hx.2, small240 hbl]
    refine ⟨⟨by omega, ?_⟩, trivial⟩
    have e : (z + 1).toNat = z.toNat + 1 := by omega
    rw [hb, e, List.take_add_one, g2]
    rfl
end NM
end Go.Proofs.Ytnggfgfeghmddaa
