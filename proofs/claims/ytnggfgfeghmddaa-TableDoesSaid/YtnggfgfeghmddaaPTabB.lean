/-
  Tables of jobs: where one is found, what is put, set, dropped and told; and the document's lists.
-/
import Derived.Test.YtnggfgfeghmddaaPTabA
import Derived.KernelRfl
set_option linter.unusedVariables false
set_option linter.unusedSimpArgs false
namespace Go.Proofs.Ytnggfgfeghmddaa
namespace NM
open AM

def Asc : List Job → Prop
  | [] => True
  | x :: l => (∀ y, y ∈ l → x.id < y.id) ∧ Asc l
/-- where the job of an id stands, or would stand, and whether it is there -/
def fnd (id : Int) : List Job → Nat × Bool
  | [] => (0, false)
  | x :: l => if x.id < id then ((fnd id l).1 + 1, (fnd id l).2) else (0, decide (x.id = id))
theorem fnd_le (id : Int) : ∀ l : List Job, (fnd id l).1 ≤ l.length
  | [] => by simp [fnd]
  | x :: l => by
    have := fnd_le id l
    simp only [fnd]
    split
    · simp only [List.length_cons]; omega
    · simp
theorem fnd_lt (id : Int) : ∀ l : List Job, (fnd id l).2 = true → (fnd id l).1 < l.length
  | [], h => by simp [fnd] at h
  | x :: l, h => by
    simp only [fnd] at h ⊢
    split
    · rename_i hx
      rw [if_pos hx] at h
      have := fnd_lt id l h
      simp only [List.length_cons]; omega
    · simp
theorem fnd_end (id : Int) (l : List Job) (h : (fnd id l).1 = l.length) : (fnd id l).2 = false := by
  cases hb : (fnd id l).2 with
  | false => rfl
  | true => have := fnd_lt id l hb; omega
theorem fnd_is (id : Int) : ∀ (l : List Job) (y : Job), l[(fnd id l).1]? = some y → (fnd id l).2 = decide (y.id = id)
  | [], y, h => by simp at h
  | x :: l, y, h => by
    simp only [fnd] at h ⊢
    split
    · rename_i hx
      rw [if_pos hx] at h
      exact fnd_is id l y (by simpa using h)
    · rename_i hx
      rw [if_neg hx] at h
      simp at h
      rw [h]
theorem fnd_side (id : Int) : ∀ (l : List Job), Asc l → ∀ (k : Nat) (y : Job), l[k]? = some y → (id ≤ y.id ↔ (fnd id l).1 ≤ k)
  | [], _, k, y, h => by simp at h
  | x :: l, ha, k, y, h => by
    simp only [fnd]
    cases k with
    | zero =>
      simp at h
      subst h
      split
      · constructor
        · intro; omega
        · intro hh; simp at hh
      · simp; omega
    | succ k =>
      simp at h
      have hxy := ha.1 y (List.mem_of_getElem? h)
      split
      · rename_i hx
        rw [fnd_side id l ha.2 k y h]
        simp
      · simp; omega
/-- the search by halves -/
theorem p_search (id p : Int) (l : List Job) (ha : Asc l) (hl : l.length ≤ 1000) : f70 (l.length : Int) p l id = some ((fnd id l).1 : Int) := by
  unfold f70 F70
  have hf := fnd_le id l
  refine loop_eq (fun s => 0 ≤ s.1.1 ∧ s.1.1 ≤ ((fnd id l).1 : Int) ∧ ((fnd id l).1 : Int) ≤ s.1.2.1 ∧ s.1.2.1 ≤ (l.length : Int)) (fun s => (s.1.2.1 - s.1.1).toNat) (fun _ => some ((fnd id l).1 : Int)) ?_ ⟨Int.le_refl _, by show (0 : Int) ≤ _; omega, by show _ ≤ (l.length : Int); omega, Int.le_refl _⟩ (by unfold LOOPS; simp only; omega)
  rintro ⟨⟨i, j, ⟨⟩⟩, ⟨⟩⟩ next ⟨h1, h2, h3, h4⟩ ih
  simp only at h1 h2 h3 h4
  simp only [l70_0]
  by_cases hij : i < j
  · have e1 : IntKind.wrap .i64 (i + j) = i + j := wi (by omega) (by omega)
    have e2 : IntKind.wrap .u64 (i + j) = i + j := by
      show (i + j) % 18446744073709551616 = i + j
      omega
    have e3 : (2 : Int) ^ (min (Int.toNat 1) 64) = 2 := rfl
    obtain ⟨v, hv⟩ : ∃ v, v = Int.fdiv (i + j) 2 := ⟨_, rfl⟩
    have hv2 : v = (i + j) / 2 := by rw [hv, Int.fdiv_eq_ediv_of_nonneg _ (by decide)]
    have e4 : IntKind.wrap .i64 v = v := wi (by omega) (by omega)
    obtain ⟨y, hy⟩ : ∃ y, l[v.toNat]? = some y := ⟨l[v.toNat]'(by omega), List.getElem?_eq_getElem _⟩
    have hs := fnd_side id l ha _ _ hy
    have hp : f71 v p l id = some (decide (id ≤ y.id)) := by
      unfold f71 F71
      simp only [decide_eq_true (show (0 : Int) ≤ v by omega), cond_true, hy, Option.bind_some]
    simp only [decide_eq_true hij, cond_true, e1, e2, e3, ← hv, e4, hp, Option.bind_some]
    by_cases hd : id ≤ y.id
    · have := hs.1 hd
      simp only [decide_eq_true hd, Bool.not_true, cond_false]
      exact ih _ ⟨h1, h2, by show ((fnd id l).1 : Int) ≤ v; omega, by show v ≤ _; omega⟩ (by simp only; omega)
    · have : ¬ ((fnd id l).1 ≤ v.toNat) := fun h => hd (hs.2 h)
      have e5 : IntKind.wrap .i64 (v + 1) = v + 1 := wi (by omega) (by omega)
      simp only [decide_eq_false hd, Bool.not_false, cond_true, e5]
      exact ih _ ⟨by show 0 ≤ v + 1; omega, by show v + 1 ≤ _; omega, h3, h4⟩ (by simp only; omega)
  · simp only [decide_eq_false hij, cond_false]
    congr 1
    omega
theorem p_find (id p : Int) (l : List Job) (ha : Asc l) (hl : l.length ≤ 1000) : f38_1 id p l = some ((((fnd id l).1 : Int), (fnd id l).2, ()), ((p, (), ()), l, ())) := by
  unfold f38_1 F38_1
  have hf := fnd_le id l
  simp only [p_search id p l ha hl, Option.bind_some]
  by_cases h : (fnd id l).1 < l.length
  · obtain ⟨y, hy⟩ : ∃ y, l[(fnd id l).1]? = some y := ⟨l[(fnd id l).1], List.getElem?_eq_getElem _⟩
    have hc : (((fnd id l).1 : Int)) < (l.length : Int) := by omega
    have h0 : (0 : Int) ≤ ((fnd id l).1 : Int) := by omega
    simp only [decide_eq_true hc, decide_eq_true h0, cond_true, Int.toNat_natCast, decide_eq_true h, hy, Option.bind_some]
    rw [fnd_is id l y hy]
  · have hc : ¬ (((fnd id l).1 : Int)) < (l.length : Int) := by omega
    simp only [decide_eq_false hc, cond_false]
    rw [fnd_end id l (by omega)]

/- the document's -/
theorem runFind (id : Int) : ∀ (l : List Job) (b : Int), Asc l → runL (fun (b : Int) (x : Job) => if x.id = id then .inr (some b) else .inl (b + 1)) (fun _ => some (-1)) l b = some (if (fnd id l).2 = true then b + (fnd id l).1 else -1)
  | [], b, _ => by simp [runL, fnd]
  | x :: l, b, ha => by
    simp only [runL, fnd]
    by_cases h1 : x.id < id
    · have h2 : ¬ x.id = id := by omega
      simp only [if_neg h2, if_pos h1]
      rw [runFind id l (b + 1) ha.2]
      congr 1
      split
      · simp only [Int.natCast_add]; omega
      · rfl
    · by_cases h2 : x.id = id
      · simp [h2]
      · simp only [if_neg h1, if_neg h2, decide_eq_false h2]
        have hl : ∀ (m : List Job) (c : Int), (∀ y, y ∈ m → id < y.id) → runL (fun (b : Int) (x : Job) => if x.id = id then .inr (some b) else .inl (b + 1)) (fun _ => some (-1)) m c = some (-1) := by
          intro m
          induction m with
          | nil => intro c _; rfl
          | cons y m ih =>
            intro c hm
            have h3 : ¬ y.id = id := by have := hm y (by simp); omega
            simp only [runL, if_neg h3]
            exact ih _ fun z hz => hm z (by simp [hz])
        rw [hl l _ (fun y hy => by have := ha.1 y hy; omega)]
        rfl
theorem r_Find (id : Int) (l : List Job) (ha : Asc l) (hl : l.length ≤ 1000) : f47 l id = some (if (fnd id l).2 = true then ((fnd id l).1 : Int) else -1) := by
  unfold f47 F47
  rw [list_loopI l (fun (b : Int) z => ((z, ()), ())) (fun b z => b = z) (fun (b : Int) (x : Job) => if x.id = id then .inr (some b) else .inl (b + 1)) (fun _ => some (-1)) (by have : maxLen = 9223372036854775807 := rfl; omega) ?_ ?_ 0 rfl, runFind id l 0 ha]
  · simp
  · intro b next hb
    simp only [l47_0, Int.lt_irrefl, decide_false, cond_false]
  · intro b z x next hb h0 h1 h2 h3
    subst hb
    by_cases hx : x.id = id
    · simp only [l47_0, h0, h1, h2, hx, decide_true, cond_true, Option.bind_some, if_true]
    · simp only [l47_0, h0, h1, h2, h3, hx, decide_true, decide_false, cond_true, cond_false, Option.bind_some, if_false]
      exact ⟨trivial, trivial⟩

/- the invariant of a table -/
structure TGood (p : Int) (l : List Job) : Prop where
  asc : Asc l
  len : (l.length : Int) ≤ p
  top : p ≤ 256
  few : ∀ j, j ∈ l → j.after.length ≤ 4
theorem TGood.small {p : Int} {l : List Job} (h : TGood p l) : l.length ≤ 1000 := by have := h.len; have := h.top; omega
theorem small152 {n : Nat} (h : n ≤ 2000) : smallB n 152 = true := by
  simp only [smallB, Bool.and_eq_true, decide_eq_true_eq]
  omega
theorem asc_ins {id : Int} {j : Job} (hj : j.id = id) : ∀ {l : List Job}, Asc l → (fnd id l).2 = false → Asc (insL (fnd id l).1 l j)
  | [], _, _ => ⟨by simp, trivial⟩
  | x :: l, ha, h => by
    simp only [fnd] at h ⊢
    split
    · rename_i hx
      rw [if_pos hx] at h
      have ih := asc_ins hj ha.2 h
      show Asc (x :: insL (fnd id l).1 l j)
      refine ⟨fun y hy => ?_, ih⟩
      unfold insL at hy
      rcases List.mem_append.1 hy with hy | hy
      · exact ha.1 y (List.mem_of_mem_take hy)
      · rcases List.mem_cons.1 hy with rfl | hy
        · omega
        · exact ha.1 y (List.mem_of_mem_drop hy)
    · rename_i hx
      rw [if_neg hx] at h
      have hne : ¬ x.id = id := by simpa using h
      show Asc (j :: x :: l)
      refine ⟨fun y hy => ?_, ha⟩
      rcases List.mem_cons.1 hy with rfl | hy
      · omega
      · have := ha.1 y hy; omega
theorem asc_set {id : Int} {j : Job} (hj : j.id = id) : ∀ {l : List Job}, Asc l → (fnd id l).2 = true → Asc (l.set (fnd id l).1 j)
  | [], _, h => by simp [fnd] at h
  | x :: l, ha, h => by
    simp only [fnd] at h ⊢
    split
    · rename_i hx
      rw [if_pos hx] at h
      show Asc (x :: l.set (fnd id l).1 j)
      refine ⟨fun y hy => ?_, asc_set hj ha.2 h⟩
      rcases List.mem_or_eq_of_mem_set hy with hy | rfl
      · exact ha.1 y hy
      · omega
    · rename_i hx
      rw [if_neg hx] at h
      have he : x.id = id := by simpa using h
      show Asc (j :: l)
      exact ⟨fun y hy => by have := ha.1 y hy; omega, ha.2⟩
theorem asc_drop : ∀ (k : Nat) (l : List Job), Asc l → Asc (l.drop k)
  | 0, l, h => h
  | k + 1, [], h => h
  | k + 1, x :: l, h => asc_drop k l h.2
theorem asc_del : ∀ {i k : Nat} {l : List Job}, i ≤ k → Asc l → Asc (delL i k l)
  | 0, k, l, _, h => asc_drop k l h
  | i + 1, k, [], _, h => by simp [delL, Asc]
  | i + 1, 0, x :: l, hik, h => by omega
  | i + 1, k + 1, x :: l, hik, h => by
    show Asc (x :: delL i k l)
    refine ⟨fun y hy => ?_, asc_del (by omega) h.2⟩
    unfold delL at hy
    rcases List.mem_append.1 hy with hy | hy
    · exact h.1 y (List.mem_of_mem_take hy)
    · exact h.1 y (List.mem_of_mem_drop hy)
theorem len_ins {k : Nat} {l : List Job} {j : Job} (h : k ≤ l.length) : (insL k l j).length = l.length + 1 := by
  simp only [insL, List.length_append, List.length_take, List.length_cons, List.length_drop]
  omega
theorem mem_ins {k : Nat} {l : List Job} {j y : Job} (h : y ∈ insL k l j) : y = j ∨ y ∈ l := by
  unfold insL at h
  rcases List.mem_append.1 h with h | h
  · exact .inr (List.mem_of_mem_take h)
  · rcases List.mem_cons.1 h with h | h
    · exact .inl h
    · exact .inr (List.mem_of_mem_drop h)
theorem len_del {k : Nat} {l : List Job} (h : k < l.length) : (delL k (k + 1) l).length + 1 = l.length := by
  simp only [delL, List.length_append, List.length_take, List.length_drop]
  omega
theorem mem_del {i k : Nat} {l : List Job} {y : Job} (h : y ∈ delL i k l) : y ∈ l := by
  unfold delL at h
  rcases List.mem_append.1 h with h | h
  · exact List.mem_of_mem_take h
  · exact List.mem_of_mem_drop h
theorem ok_few {j : Job} (h : jobOk j = true) : j.after.length ≤ 4 := by
  simp only [jobOk, Bool.and_eq_true, decide_eq_true_eq] at h
  exact h.2.2.2.2.2.2.2.1.1

/- what a table does -/
theorem p_own (j : Job) (h : j.after.length ≤ 100) : f39 j = some j := by
  unfold f39 F39
  rw [p_Clone _ (by omega)]
  rfl
theorem lml : maxLen = 9223372036854775807 := rfl
/-- the place ahead of which the document lays a job -/
theorem runPlace (j : Job) (res : Int → Option (List Job × (Int × Unit))) : ∀ (l : List Job) (b : Int), runL (fun (b : Int) (x : Job) => if x.id < j.id then .inl (b + 1) else .inr (res b)) res l b = res (b + (fnd j.id l).1)
  | [], b => by simp [runL, fnd]
  | x :: l, b => by
    simp only [runL, fnd]
    by_cases h : x.id < j.id
    · simp only [if_pos h]
      rw [runPlace j res l (b + 1)]
      congr 1
      simp only [Int.natCast_add]
      omega
    · simp [h]
theorem r_Put (p : Int) (l : List Job) (j : Job) (ha : Asc l) (hl : l.length ≤ 1000) (hj : j.after.length ≤ 100) : f44 l p j =
    some (if jobOk j = true then (if (fnd j.id l).2 = true then (l, (31, ())) else if p ≤ (l.length : Int) then (l, (35, ())) else (insL (fnd j.id l).1 l j, (0, ()))) else (l, (2, ()))) := by
  unfold f44 F44
  have hf := fnd_le j.id l
  rw [r_jobRight j (by rw [lml]; omega), r_Find j.id l ha hl]
  simp only [Option.bind_some]
  by_cases h1 : jobOk j = true
  · simp only [h1, Bool.not_true, cond_false, if_true]
    by_cases h2 : (fnd j.id l).2 = true
    · have h0 : (0 : Int) ≤ ((fnd j.id l).1 : Int) := by omega
      simp only [h2, if_true, decide_eq_true h0, cond_true]
    · have h0 : ¬ (0 : Int) ≤ -1 := by omega
      simp only [if_neg h2, decide_eq_false h0, cond_false]
      by_cases h3 : p ≤ (l.length : Int)
      · simp only [h3, decide_true, cond_true, if_true]
      · simp only [h3, decide_false, cond_false, if_false]
        let res : Int → Option (List Job × (Int × Unit)) := fun b => some (insL b.toNat l j, (0, ()))
        have fin : ∀ b : Int, 0 ≤ b → b ≤ (l.length : Int) → (cond (decide (0 ≤ b)) (cond (decide ((Int.toNat b) ≤ (List.length l))) (cond (smallB (List.length (List.take (Int.toNat b) l)) 152) (cond (smallB ((List.length ([] ++ (List.take (Int.toNat b) l))) + 1) 152) (cond (decide (0 ≤ b)) (cond (decide ((Int.toNat b) ≤ (List.length l))) (cond (smallB ((List.length (([] ++ (List.take (Int.toNat b) l)) ++ [j])) + (List.length (List.drop (Int.toNat b) l))) 152) (some ((([] ++ (List.take (Int.toNat b) l)) ++ [j]) ++ (List.drop (Int.toNat b) l), ((0 : Int), ()))) none) none) none) none) none) none) none) = res b := by
          intro b hb0 hb1
          have q1 : Int.toNat b ≤ l.length := by omega
          have q2 : smallB (List.length (List.take (Int.toNat b) l)) 152 = true := small152 (by simp; omega)
          have q3 : smallB ((List.length ([] ++ (List.take (Int.toNat b) l))) + 1) 152 = true := small152 (by simp; omega)
          have q4 : smallB ((List.length (([] ++ (List.take (Int.toNat b) l)) ++ [j])) + (List.length (List.drop (Int.toNat b) l))) 152 = true := small152 (by simp; omega)
          simp only [decide_eq_true hb0, decide_eq_true q1, q2, q3, q4, cond_true]
          show _ = some (insL b.toNat l j, ((0 : Int), ()))
          unfold insL
          simp
        rw [list_loopI l (fun (b : Int) z => (((), z, ()), (j, ()))) (fun b z => b = z ∧ 0 ≤ b) (fun (b : Int) (x : Job) => if x.id < j.id then .inl (b + 1) else .inr (res b)) (fun b => if 0 ≤ b ∧ b ≤ (l.length : Int) then res b else res b) (by rw [lml]; omega) ?_ ?_ 0 ⟨rfl, Int.le_refl _⟩]
        · simp only [ite_self]
          rw [runPlace j res l 0]
          show some (insL (Int.toNat (0 + ((fnd j.id l).1 : Int))) l j, ((0 : Int), ())) = _
          rw [Int.zero_add, Int.toNat_natCast]
        · rintro b next ⟨rfl, hb⟩
          simp only [l44_0, Int.lt_irrefl, decide_false, cond_false, ite_self]
          exact fin _ (by omega) (by omega)
        · rintro b z x next ⟨rfl, hb⟩ h0 h1 h2 h3
          by_cases hx : x.id < j.id
          · simp only [l44_0, h0, h1, h2, h3, hx, decide_true, cond_true, Option.bind_some, if_true]
            exact ⟨⟨trivial, by omega⟩, trivial⟩
          · have := fin b h0 (by omega)
            simp only [l44_0, h0, h1, h2, hx, decide_true, decide_false, cond_true, cond_false, Option.bind_some, if_false] at this ⊢
            exact this
  · have h1' : jobOk j = false := by simpa using h1
    simp only [h1', Bool.not_false, cond_true]
    rfl
end NM
end Go.Proofs.Ytnggfgfeghmddaa
