/-
  Tables of jobs: each thing that is done, of the table and of the document's list at once.
-/
import Derived.Test.YtnggfgfeghmddaaPTabB
set_option linter.unusedVariables false
set_option linter.unusedSimpArgs false
namespace Go.Proofs.Ytnggfgfeghmddaa
namespace NM
open AM

theorem r_Set (l : List Job) (j : Job) (ha : Asc l) (hl : l.length ≤ 1000) (hj : j.after.length ≤ 100) : f45 l j =
    some (if jobOk j = true then (if (fnd j.id l).2 = true then (l.set (fnd j.id l).1 j, (0, ())) else (l, (30, ()))) else (l, (2, ()))) := by
  unfold f45 F45
  rw [r_jobRight j (by rw [lml]; omega), r_Find j.id l ha hl]
  simp only [Option.bind_some]
  by_cases h1 : jobOk j = true
  · simp only [h1, Bool.not_true, cond_false, if_true]
    by_cases h2 : (fnd j.id l).2 = true
    · have hf := fnd_lt j.id l h2
      generalize (fnd j.id l).1 = k at *
      have h0 : ¬ ((k : Int) < 0) := by omega
      have h3 : (0 : Int) ≤ (k : Int) := by omega
      have h4 : k ≤ l.length := by omega
      have e1 : IntKind.wrap .i64 ((k : Int) + 1) = ((k + 1 : Nat) : Int) := by rw [wi (by omega) (by omega)]; omega
      have h5 : (0 : Int) ≤ ((k + 1 : Nat) : Int) := by omega
      have h6 : k + 1 ≤ l.length := hf
      have q2 : smallB (List.length (List.take k l)) 152 = true := small152 (by simp; omega)
      have q3 : smallB ((List.length ([] ++ (List.take k l))) + 1) 152 = true := small152 (by simp; omega)
      have q4 : smallB ((List.length (([] ++ (List.take k l)) ++ [j])) + (List.length (List.drop (k + 1) l))) 152 = true := small152 (by simp; omega)
      simp only [h2, if_true, decide_eq_false h0, cond_false, decide_eq_true h3, cond_true, Int.toNat_natCast, decide_eq_true h4, q2, q3, e1, decide_eq_true h5, decide_eq_true h6, q4]
      rw [List.set_eq_take_append_cons_drop, if_pos hf]
      simp
    · have h0 : (-1 : Int) < 0 := by omega
      simp only [if_neg h2, decide_eq_true h0, cond_true]
  · have h1' : jobOk j = false := by simpa using h1
    simp only [h1', Bool.not_false, cond_true]
    rfl
theorem r_Drop (l : List Job) (id : Int) (ha : Asc l) (hl : l.length ≤ 1000) : f46 l id =
    some (if (fnd id l).2 = true then (delL (fnd id l).1 ((fnd id l).1 + 1) l, (0, ())) else (l, (30, ()))) := by
  unfold f46 F46
  rw [r_Find id l ha hl]
  simp only [Option.bind_some]
  by_cases h2 : (fnd id l).2 = true
  · have hf := fnd_lt id l h2
    generalize (fnd id l).1 = k at *
    have h0 : ¬ ((k : Int) < 0) := by omega
    have h3 : (0 : Int) ≤ (k : Int) := by omega
    have h4 : k ≤ l.length := by omega
    have e1 : IntKind.wrap .i64 ((k : Int) + 1) = ((k + 1 : Nat) : Int) := by rw [wi (by omega) (by omega)]; omega
    have h5 : (0 : Int) ≤ ((k + 1 : Nat) : Int) := by omega
    have h6 : k + 1 ≤ l.length := hf
    have q2 : smallB (List.length (List.take k l)) 152 = true := small152 (by simp; omega)
    have q4 : smallB ((List.length ([] ++ (List.take k l))) + (List.length (List.drop (k + 1) l))) 152 = true := small152 (by simp; omega)
    simp only [h2, if_true, decide_eq_false h0, cond_false, decide_eq_true h3, cond_true, Int.toNat_natCast, decide_eq_true h4, q2, e1, decide_eq_true h5, decide_eq_true h6, q4]
    simp [delL]
  · have h0 : (-1 : Int) < 0 := by omega
    simp only [if_neg h2, decide_eq_true h0, cond_true]
theorem same_upTo : ∀ (l : List Job), (∀ j, j ∈ l → j.after.length ≤ 4) → (l.zip l).all (fun a => sameB a.1 a.2) = true
  | [], _ => rfl
  | x :: l, h => by
    simp only [List.zip_cons_cons, List.all_cons, sameB_refl, same_upTo l (fun j hj => h j (by simp [hj])), Bool.and_self]
theorem r_SameL (l : List Job) (hl : l.length ≤ 1000) (h : ∀ j, j ∈ l → j.after.length ≤ 4) : f48 l l = some true := by
  unfold f48 F48
  simp only [decide_true, Bool.not_true, cond_false]
  rw [list_loop (β := Unit) l (fun _ z => ((z, ()), ())) (fun b x => .inl b) (fun _ => some true) (by rw [lml]; omega) ?_ ?_ ()]
  · rw [runL_fold]
  · intro b next
    simp only [l48_0, Int.lt_irrefl, decide_false, cond_false]
  · intro b z x next h0 h1 h2 h3
    have hx := h x (List.mem_of_getElem? h2)
    simp only [l48_0, h0, h1, h2, h3, decide_true, cond_true, Option.bind_some, r_Same x x (by rw [lml]; omega), sameB_refl, Bool.not_true, cond_false]
theorem p_Clone152 (l : List Job) (hl : l.length ≤ 1000) : f43 l = some ((), (l, (l, ()))) := by
  unfold f43 cloneE
  rw [decide_eq_true (by constructor <;> omega)]
  rfl
theorem p_All (p : Int) (l : List Job) (hl : l.length ≤ 1000) (h : ∀ j, j ∈ l → j.after.length ≤ 4) : f13_1 p l = some (l, ((p, (), ()), l, ())) := by
  unfold f13_1 F13_1
  rw [p_Clone152 l hl]
  simp only [Option.bind_some, decide_true, Bool.and_self, cond_true]
  rw [list_loop (β := Unit) l (fun _ z => (((), (), z, ()), ((p, (), ()), l, l, ()))) (fun b x => .inl b) (fun _ => some (l, ((p, (), ()), l, ()))) (by rw [lml]; omega) ?_ ?_ ()]
  · rw [runL_fold]
  · intro b next
    simp only [l13_1_0, Int.lt_irrefl, decide_false, cond_false]
  · intro b z x next h0 h1 h2 h3
    have hx := h x (List.mem_of_getElem? h2)
    have hz : z.toNat < l.length := by omega
    have hset : l.set z.toNat x = l := by
      apply List.ext_getElem?
      intro i
      rw [List.getElem?_set]
      split
      · rename_i hi
        subst hi
        exact h2.symm
      · rfl
    simp only [l13_1_0, h0, h1, h2, h3, hz, decide_true, cond_true, Option.bind_some, p_own x (by omega), hset]
theorem p_Get {p : Int} {l : List Job} (g : TGood p l) (id : Int) : ∃ y, (∀ z, (fnd id l).2 = true → l[(fnd id l).1]? = some z → y = z) ∧ f8_2 id p l = some ((y, ((fnd id l).2, ())), ((p, (), ()), l, ())) := by
  unfold f8_2 F8_2
  rw [p_find id p l g.asc g.small]
  simp only [Option.bind_some, decide_true, Bool.and_self, cond_true]
  by_cases h2 : (fnd id l).2 = true
  · have hf := fnd_lt id l h2
    obtain ⟨y, hy⟩ : ∃ y, l[(fnd id l).1]? = some y := ⟨l[(fnd id l).1], List.getElem?_eq_getElem _⟩
    have hq := g.few y (List.mem_of_getElem? hy)
    have h3 : (0 : Int) ≤ ((fnd id l).1 : Int) := by omega
    refine ⟨y, fun z _ hz => by rw [hy] at hz; exact Option.some.inj hz, ?_⟩
    simp only [h2, Bool.not_true, cond_false, decide_eq_true h3, cond_true, Int.toNat_natCast, decide_eq_true hf, hy, Option.bind_some, p_own y (by omega)]
  · have h2' : (fnd id l).2 = false := by simpa using h2
    simp only [h2', Bool.not_false, cond_true]
    exact ⟨_, fun _ h => by simp at h, rfl⟩
/-- whatever is asked is told alike -/
theorem p_alike {p : Int} {l : List Job} (g : TGood p l) (id : Int) : f20 l id p l = some (true, ((p, (), ()), l, ())) := by
  unfold f20 F20
  obtain ⟨y, hy, hget⟩ := p_Get g id
  have hlen : f14_1 p l = some ((l.length : Int), ((p, (), ()), l, ())) := rfl
  rw [hget, r_Find id l g.asc g.small]
  simp only [Option.bind_some, decide_true, Bool.and_self, cond_true]
  by_cases h2 : (fnd id l).2 = true
  · have hf := fnd_lt id l h2
    obtain ⟨z, hz⟩ : ∃ y, l[(fnd id l).1]? = some y := ⟨l[(fnd id l).1], List.getElem?_eq_getElem _⟩
    have hq := g.few z (List.mem_of_getElem? hz)
    have h3 : (0 : Int) ≤ ((fnd id l).1 : Int) := by omega
    have hyz := hy z h2 hz
    subst hyz
    simp only [h2, if_true, decide_eq_true h3, BEq.rfl, Bool.not_true, cond_false, cond_true, Int.toNat_natCast, hz, Option.bind_some, r_Same y y (by rw [lml]; omega), sameB_refl, Sum.elim_inl, p_All p l g.small g.few, r_SameL l g.small g.few, hlen, decide_true, Bool.and_self]
  · have h2' : (fnd id l).2 = false := by simpa using h2
    have h0 : ¬ (0 : Int) ≤ -1 := by omega
    simp only [h2', decide_eq_false h0, Bool.false_eq_true, if_false, BEq.rfl, Bool.not_true, cond_false, cond_true, Option.bind_some, Sum.elim_inl, p_All p l g.small g.few, r_SameL l g.small g.few, hlen, decide_true, Bool.and_self]

/- what is done, of both -/
theorem put_both {p : Int} {l : List Job} (g : TGood p l) (j : Job) (hj : j.after.length ≤ 10) :
    (∃ e, f9_2 j p l = some (.inl (e, ((p, (), ()), l, ()))) ∧ f44 l p j = some (l, (e, ()))) ∨
    (∃ l', TGood p l' ∧ f9_2 j p l = some (.inr (0, ((p, (), ()), (), l', ()))) ∧ f44 l p j = some (l', (0, ()))) := by
  rw [r_Put p l j g.asc g.small (by omega)]
  unfold f9_2 F9_2
  rw [p_jobRight j (by rw [lml]; omega), p_find j.id p l g.asc g.small]
  have hlen := g.len
  simp only [Option.bind_some]
  cases h1 : jobOk j with
  | false => exact .inl ⟨2, rfl, rfl⟩
  | true =>
    simp only [Bool.not_true, cond_false, if_true, Option.bind_some, decide_true, Bool.and_self, cond_true]
    cases h2 : (fnd j.id l).2 with
    | true => exact .inl ⟨31, rfl, rfl⟩
    | false =>
      simp only [cond_false, Bool.false_eq_true, if_false]
      by_cases h3 : p ≤ (l.length : Int)
      · have h4 : (l.length : Int) = p := by omega
        simp only [h3, decide_eq_true h4, cond_true, if_true]
        exact .inl ⟨35, rfl, rfl⟩
      · have h4 : ¬ (l.length : Int) = p := by omega
        have hf := fnd_le j.id l
        have hs := g.small
        have hins : f41_1 ((fnd j.id l).1 : Int) l [j] = some ((), ((), ([j], (insL (fnd j.id l).1 l j, ())))) := by
          unfold f41_1 insertG
          have q0 : (0 : Int) ≤ ((fnd j.id l).1 : Int) := by omega
          simp only [decide_eq_true q0, Int.toNat_natCast, decide_eq_true hf, small152 (show l.length + 1 ≤ 2000 by omega), Bool.and_self, cond_true]
        refine .inr ⟨insL (fnd j.id l).1 l j, ⟨asc_ins rfl g.asc h2, by rw [len_ins hf]; omega, g.top, fun y hy => ?_⟩, ?_, ?_⟩
        · rcases mem_ins hy with rfl | hy
          · exact ok_few h1
          · exact g.few y hy
        · simp only [decide_eq_false h4, cond_false, p_own j (by omega), Option.bind_some, hins, List.length_cons, List.length_nil, Nat.zero_add, decide_true, Bool.and_self, cond_true]
        · simp only [if_neg h3]
theorem set_both {p : Int} {l : List Job} (g : TGood p l) (j : Job) (hj : j.after.length ≤ 10) :
    ∃ e l', TGood p l' ∧ l'.length = l.length ∧ f11_2 j p l = some (e, ((p, (), ()), l', ())) ∧ f45 l j = some (l', (e, ())) := by
  rw [r_Set l j g.asc g.small (by omega)]
  unfold f11_2 F11_2
  rw [p_jobRight j (by rw [lml]; omega), p_find j.id p l g.asc g.small]
  simp only [Option.bind_some]
  cases h1 : jobOk j with
  | false => exact ⟨2, l, g, rfl, rfl, rfl⟩
  | true =>
    simp only [Bool.not_true, cond_false, if_true, Option.bind_some, decide_true, Bool.and_self, cond_true]
    cases h2 : (fnd j.id l).2 with
    | false => exact ⟨30, l, g, rfl, rfl, rfl⟩
    | true =>
      have hf := fnd_lt j.id l h2
      obtain ⟨z, hz⟩ : ∃ y, l[(fnd j.id l).1]? = some y := ⟨l[(fnd j.id l).1], List.getElem?_eq_getElem _⟩
      have h3 : (0 : Int) ≤ ((fnd j.id l).1 : Int) := by omega
      refine ⟨0, l.set (fnd j.id l).1 j, ⟨asc_set rfl g.asc h2, by rw [List.length_set]; exact g.len, g.top, fun y hy => ?_⟩, List.length_set .., ?_, ?_⟩
      · rcases List.mem_or_eq_of_mem_set hy with hy | rfl
        · exact g.few y hy
        · exact ok_few h1
      · simp only [Bool.not_true, cond_false, p_own j (by omega), Option.bind_some, decide_eq_true h3, cond_true, Int.toNat_natCast, decide_eq_true hf, hz]
      · simp only [if_true]
theorem drop_both {p : Int} {l : List Job} (g : TGood p l) (id : Int) :
    (f12_2 id p l = some (.inl (30, ((p, (), ()), l, ()))) ∧ f46 l id = some (l, (30, ()))) ∨
    (∃ l', TGood p l' ∧ f12_2 id p l = some (.inr (0, ((p, (), ()), (), l', ()))) ∧ f46 l id = some (l', (0, ()))) := by
  rw [r_Drop l id g.asc g.small]
  unfold f12_2 F12_2
  rw [p_find id p l g.asc g.small]
  simp only [Option.bind_some, decide_true, Bool.and_self, cond_true]
  cases h2 : (fnd id l).2 with
  | false => exact .inl ⟨rfl, rfl⟩
  | true =>
    have hf := fnd_lt id l h2
    have hs := g.small
    have hlen := g.len
    have hdel : f42_1 ((fnd id l).1 : Int) (((fnd id l).1 + 1 : Nat) : Int) l = some ((), ((), (delL (fnd id l).1 ((fnd id l).1 + 1) l, ()))) := by
      unfold f42_1 deleteG
      rw [decide_eq_true (by refine ⟨?_, ?_, ?_, ?_⟩ <;> omega)]
      simp only [cond_true, Int.toNat_natCast]
    have e1 : IntKind.wrap .i64 (((fnd id l).1 : Int) + 1) = (((fnd id l).1 + 1 : Nat) : Int) := by rw [wi (by omega) (by omega)]; omega
    have hd := len_del hf
    refine .inr ⟨delL (fnd id l).1 ((fnd id l).1 + 1) l, ⟨asc_del (by omega) g.asc, by omega, g.top, fun y hy => g.few y (mem_del hy)⟩, ?_, ?_⟩
    · simp only [Bool.not_true, cond_false, e1, hdel, Option.bind_some]
    · simp only [if_true]
end NM
end Go.Proofs.Ytnggfgfeghmddaa
