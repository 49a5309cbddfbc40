/-
  The statement TableApart about plain data (what it needs of jobs and tables is of XPTabA, XPTabB, by mkptab2.py).
-/
import Derived.Test.YtfelhbeiegppgaaTabAM
import Derived.Test.YtfelhbeiegppgaaNmR
import Derived.KernelRfl
set_option linter.unusedVariables false
set_option linter.unusedSimpArgs false
namespace Go.Proofs.Ytfelhbeiegppgaa
namespace NM
open AM

def inB (n lo hi : Int) : Bool := decide (lo ≤ n) && decide (n ≤ hi)
def resOk (a : Res) : Bool := decide (0 ≤ a.cpu ∧ a.cpu ≤ 1048576 ∧ 0 ≤ a.mem ∧ a.mem ≤ 1048576 ∧ 0 ≤ a.gpu ∧ a.gpu ≤ 1048576 ∧ 0 ≤ a.lic ∧ a.lic ≤ 1048576)
theorem p_numbers (a : Res) : f74 a = some (a.cpu, a.mem, a.gpu, a.lic) := rfl
theorem p_vecRight (a : Res) : f45 a = some (resOk a) := by
  unfold f45 F45
  simp only [p_numbers, Option.bind_some, cond_somes]
  congr 1
  rw [Bool.eq_iff_iff]
  simp [resOk]
theorem p_in (n lo hi : Int) : f58 n lo hi = some (inB n lo hi) := by
  unfold f58 F58
  simp only [cond_somes, Bool.cond_false_right, inB]
def afterB (j : Job) : Bool := j.after.all (fun d => inB d.job 1 (IntKind.wrap .i64 (j.id - 1)))
theorem p_afterRight (j : Job) (hj : j.after.length ≤ maxLen) : f59 j = some (decide (j.after.length ≤ 4) && afterB j) := by
  unfold f59 F59
  rw [all_loop j.after (fun z => (((), z, ()), (j, ()))) (fun d => inB d.job 1 (IntKind.wrap .i64 (j.id - 1))) true hj]
  · simp only [cond_somes, afterB, Bool.and_true]
    congr 1
    cases j.after.all _ <;> rw [Bool.eq_iff_iff] <;> simp <;> omega
  · intro next
    simp [l59_0]
  · intro z x next h0 h1 h2 h3
    simp only [l59_0, h0, h1, h2, h3, decide_true, cond_true, Option.bind_some, p_in]
    cases inB x.job 1 (IntKind.wrap .i64 (j.id - 1)) <;> rfl
theorem p_Waits (s : Int) : f84 s = some (decide (s = 1) || decide (s = 2)) := by
  unfold f84 F84
  simp only [cond_somes, Bool.cond_true_left]
theorem p_Over (s : Int) : f85 s = some (decide (s = 5) || decide (s = 6)) := by
  unfold f85 F85
  simp only [cond_somes, Bool.cond_true_left]
def stB (j : Job) : Bool := decide (1 ≤ j.state ∧ j.state ≤ 6 ∧ (j.start = 0 ∨ 3 ≤ j.state) ∧ (j.fin = 0 ∨ 5 ≤ j.state) ∧ (j.ok = false ∨ j.state = 4 ∨ j.state = 5) ∧ (j.kill = false ∨ j.state = 4 ∨ j.state = 6))
theorem name_none (s : Int) : ∃ l, f83 s = some l ∧ (l = [] ↔ ¬ (1 ≤ s ∧ s ≤ 6)) := by
  unfold f83 F83
  simp only [cond_dec]
  repeat' split
  all_goals refine ⟨_, rfl, ?_⟩
  all_goals simp
  all_goals omega
theorem p_stateRight (j : Job) : f60 j = some (stB j) := by
  unfold f60 F60
  obtain ⟨l, h1, h2⟩ := name_none j.state
  simp only [h1, p_Waits, p_Over, Option.bind_some, cond_somes, cond_mk, cond_self]
  congr 1
  unfold stB
  rw [Bool.eq_iff_iff]
  by_cases hs : 1 ≤ j.state ∧ j.state ≤ 6
  · have hl : ¬ (l = []) := fun e => (h2.1 e) hs
    simp only [hl, decide_false, cond_false]
    cases j.ok <;> cases j.kill <;> by_cases g1 : j.start = 0 <;> by_cases g2 : j.fin = 0 <;> simp [g1, g2] <;> omega
  · have hl : l = [] := h2.2 hs
    simp [hl]
    omega
def needB (a : Res) : Bool := !((decide (a.cpu = 0)) && ((decide (a.mem = 0)) && ((decide (a.gpu = 0)) && ((decide (a.lic = 0)) && true))))
def jobOk (j : Job) : Bool := inB j.id 1 1048576 && (inB j.user 0 7 && (inB j.queue 0 7 && (inB j.many 1 64 && (resOk j.need && (needB j.need && (inB j.wall 1 65536 && ((decide (j.after.length ≤ 4) && afterB j) && (inB j.version 1 281474976710656 && (inB j.born 0 1099511627776 && (inB j.start 0 1099511627776 && (inB j.fin 0 1099511627776 && (inB j.array 0 j.id && stB j))))))))))))
theorem p_jobRight (j : Job) (hj : j.after.length ≤ maxLen) : f33 j = some (jobOk j) := by
  unfold f33 F33
  simp only [p_in, p_vecRight, p_afterRight j hj, p_stateRight, Option.bind_some, cond_somes, Bool.cond_false_right]
  rfl
/- the document's -/
theorem r_in (n lo hi : Int) : f31 n lo hi = some (inB n lo hi) := by
  unfold f31 F31
  simp only [cond_somes, Bool.cond_false_right, inB]
theorem r_right1 (n : Int) : f50 n = some (inB n 0 1048576) := by
  unfold f50 F50
  simp only [cond_somes, Bool.cond_false_right, inB]
theorem r_vecRight (a : Res) : f25 a = some (resOk a) := by
  unfold f25 F25
  simp only [r_right1, Option.bind_some, cond_somes, Bool.cond_false_right]
  congr 1
  rw [Bool.eq_iff_iff]
  simp [resOk, inB, and_assoc]
def fitsB (a b : Res) : Bool := decide (a.cpu ≤ b.cpu ∧ a.mem ≤ b.mem ∧ a.gpu ≤ b.gpu ∧ a.lic ≤ b.lic)
theorem r_Fits (a b : Res) : f32 a b = some (fitsB a b) := by
  unfold f32 F32
  simp only [cond_somes, Bool.cond_false_right]
  congr 1
  rw [Bool.eq_iff_iff]
  simp [fitsB]
def tailB (j : Job) : Bool := cond (decide (j.state ≤ 2)) (decide (j.start = 0) && cond (decide (j.state ≤ 4)) (decide (j.fin = 0) && kidB j) (kidB j)) (cond (decide (j.state ≤ 4)) (decide (j.fin = 0) && kidB j) (kidB j))
where
  kidB (j : Job) : Bool := cond (!j.ok) (cond (!j.kill) true (cond (decide (j.state = 4)) true (decide (j.state = 6)))) (cond (decide (j.state = 4)) (cond (!j.kill) true (cond (decide (j.state = 4)) true (decide (j.state = 6)))) (cond (decide (j.state = 5)) (cond (!j.kill) true (cond (decide (j.state = 4)) true (decide (j.state = 6)))) false))
theorem tail_ok (j : Job) : (inB j.state 1 6 && tailB j) = stB j := by
  unfold tailB tailB.kidB stB inB
  by_cases hs : 1 ≤ j.state ∧ j.state ≤ 6
  · have h6 : j.state = 1 ∨ j.state = 2 ∨ j.state = 3 ∨ j.state = 4 ∨ j.state = 5 ∨ j.state = 6 := by omega
    rcases h6 with e | e | e | e | e | e <;> rw [e] <;> cases j.ok <;> cases j.kill <;> by_cases g1 : j.start = 0 <;> by_cases g2 : j.fin = 0 <;> simp [g1, g2]
  · have h1 : (decide (1 ≤ j.state) && decide (j.state ≤ 6)) = false := by
      rw [Bool.eq_false_iff]; simp; omega
    rw [h1]
    simp
    omega
def restB (j : Job) : Bool := !decide (4 < (j.after.length : Int)) && (inB j.id 1 1048576 && (inB j.user 0 7 && (inB j.queue 0 7 && (inB j.many 1 64 && (resOk j.need && (!fitsB j.need ⟨0, 0, 0, 0⟩ && (inB j.wall 1 65536 && (inB j.state 1 6 && (inB j.version 1 281474976710656 && (inB j.array 0 j.id && (inB j.born 0 1099511627776 && (inB j.start 0 1099511627776 && (inB j.fin 0 1099511627776 && tailB j)))))))))))))
theorem need_ok {a : Res} (h : resOk a = true) : (!fitsB a ⟨0, 0, 0, 0⟩) = needB a := by
  simp only [resOk, decide_eq_true_eq] at h
  unfold fitsB needB
  congr 1
  rw [Bool.eq_iff_iff]
  simp
  omega
theorem rest_ok (j : Job) : (afterB j && restB j) = jobOk j := by
  rw [Bool.eq_iff_iff]
  have ht := tail_ok j
  have hl : (!decide (4 < (j.after.length : Int))) = decide (j.after.length ≤ 4) := by
    rw [Bool.eq_iff_iff]; simp; omega
  unfold restB jobOk
  rw [hl, ← ht]
  simp only [Bool.and_eq_true]
  constructor
  · rintro ⟨a, b, c, d, e, f, g, h, i, k, l, m, n, o, p, q⟩
    rw [need_ok g] at h
    exact ⟨c, d, e, f, g, h, i, ⟨b, a⟩, l, n, o, p, m, k, q⟩
  · rintro ⟨c, d, e, f, g, h, i, ⟨b, a⟩, l, n, o, p, m, k, q⟩
    rw [← need_ok g] at h
    exact ⟨a, b, c, d, e, f, g, h, i, k, l, m, n, o, p, q⟩
theorem r_jobRight (j : Job) (hj : j.after.length ≤ maxLen) : f7 j = some (jobOk j) := by
  unfold f7 F7
  rw [all_loop j.after (fun z => (((), z, ()), (j, ()))) (fun d => inB d.job 1 (IntKind.wrap .i64 (j.id - 1))) (restB j) hj]
  · congr 1
    exact rest_ok j
  · intro next
    simp only [l7_0, Int.lt_irrefl, decide_false, cond_false, r_in, r_vecRight, r_Fits, Option.bind_some, cond_somes, elim_cond, Sum.elim_inl, Sum.elim_inr, Bool.cond_false_left, Bool.not_not]
    rfl
  · intro z x next h0 h1 h2 h3
    simp only [l7_0, h0, h1, h2, h3, decide_true, cond_true, Option.bind_some, r_in]
    cases inB x.job 1 (IntKind.wrap .i64 (j.id - 1)) <;> rfl

/- whether two are the same -/
def depB (x y : Dep) : Bool := (decide (x.job = y.job)) && ((x.ok == y.ok) && true)
def depsB (l m : List Dep) : Bool := decide (l.length = m.length) && (l.zip m).all (fun a => depB a.1 a.2)
theorem depB_refl (x : Dep) : depB x x = true := by simp [depB]
theorem depsB_refl (l : List Dep) : depsB l l = true := by
  unfold depsB
  simp only [decide_true, Bool.true_and]
  induction l with
  | nil => rfl
  | cons x l ih => simp only [List.zip_cons_cons, List.all_cons, depB_refl, ih, Bool.and_self]
def needSame (a b : Res) : Bool := (decide (a.cpu = b.cpu)) && ((decide (a.mem = b.mem)) && ((decide (a.gpu = b.gpu)) && ((decide (a.lic = b.lic)) && true)))
def sameB (a b : Job) : Bool := decide (a.id = b.id) && (decide (a.user = b.user) && (decide (a.queue = b.queue) && (decide (a.many = b.many) && (needSame a.need b.need && (decide (a.wall = b.wall) && (depsB a.after b.after && (decide (a.state = b.state) && ((a.ok == b.ok) && ((a.kill == b.kill) && (decide (a.version = b.version) && (decide (a.born = b.born) && (decide (a.start = b.start) && (decide (a.fin = b.fin) && decide (a.array = b.array))))))))))))))
theorem sameB_refl (a : Job) : sameB a a = true := by simp [sameB, needSame, depsB_refl]
def fldB (a b : Job) : Bool := decide (a.id = b.id) && (decide (a.user = b.user) && (decide (a.queue = b.queue) && (decide (a.many = b.many) && (needSame a.need b.need && (decide (a.wall = b.wall) && (decide (a.state = b.state) && ((a.ok == b.ok) && ((a.kill == b.kill) && (decide (a.version = b.version) && (decide (a.born = b.born) && (decide (a.start = b.start) && (decide (a.fin = b.fin) && decide (a.array = b.array)))))))))))))
theorem r_Same (a b : Job) (ha : a.after.length ≤ maxLen) : f12 a b = some (sameB a b) := by
  unfold f12 F12
  have hs : sameB a b = (depsB a.after b.after && fldB a b) := by
    unfold sameB fldB
    rw [Bool.eq_iff_iff]
    simp only [Bool.and_eq_true]
    constructor
    · rintro ⟨h1, h2, h3, h4, h5, h6, h7, h8, h9, h10, h11, h12, h13, h14, h15⟩
      exact ⟨h7, h1, h2, h3, h4, h5, h6, h8, h9, h10, h11, h12, h13, h14, h15⟩
    · rintro ⟨h7, h1, h2, h3, h4, h5, h6, h8, h9, h10, h11, h12, h13, h14, h15⟩
      exact ⟨h1, h2, h3, h4, h5, h6, h7, h8, h9, h10, h11, h12, h13, h14, h15⟩
  rw [hs]
  unfold depsB
  by_cases h : a.after.length = b.after.length
  · rw [zip_loop a.after b.after h (fun z => (((), (), z, ()), (a, b, ()))) depB (fldB a b) ha]
    · simp [h]
    · intro next
      simp only [l12_0, Int.lt_irrefl, decide_false, cond_false, cond_somes, Bool.cond_false_right]
      rfl
    · intro z x y next h0 h1 h2 h3 h4
      simp only [l12_0, h0, h1, h2, h3, h4, decide_true, cond_true, Option.bind_some]
      show cond (!depB x y) _ _ = _
      cases depB x y <;> rfl
  · have h' : ¬ ((a.after.length : Int) = (b.after.length : Int)) := by omega
    simp [h, h']

theorem p_Clone (l : List Dep) (hl : l.length ≤ 4294967296) : f65 l = some ((), (l, ())) := by
  unfold f65 cloneF
  cases l with
  | nil => rfl
  | cons x l =>
    unfold F65
    have : smallB (0 + (x :: l).length) 16 = true := by
      simp only [smallB, Bool.and_eq_true, decide_eq_true_eq]
      simp at hl ⊢
      omega
    simp only [List.isEmpty_cons, cond_false, this, cond_true, List.nil_append]
def Asc : List Job → Prop
  | [] => True
  | x :: l => (∀ y, y ∈ l → x.id < y.id) ∧ Asc l
/-- where the job of an id stands, or would stand, and whether it is there -/
def fnd (id : Int) : List Job → Nat × Bool
  | [] => (0, false)
  | x :: l => if x.id < id then ((fnd id l).1 + 1, (fnd id l).2) else (0, decide (x.id = id))
theorem fnd_le (id : Int) : ∀ l : List Job, (fnd id l).1 ≤ l.length
  | [] => by simp [fnd]
  | x :: l => by
    have := fnd_le id l
    simp only [fnd]
    split
    · simp only [List.length_cons]; omega
    · simp
theorem fnd_lt (id : Int) : ∀ l : List Job, (fnd id l).2 = true → (fnd id l).1 < l.length
  | [], h => by simp [fnd] at h
  | x :: l, h => by
    simp only [fnd] at h ⊢
    split
    · rename_i hx
      rw [if_pos hx] at h
      have := fnd_lt id l h
      simp only [List.length_cons]; omega
    · simp
theorem fnd_end (id : Int) (l : List Job) (h : (fnd id l).1 = l.length) : (fnd id l).2 = false := by
  cases hb : (fnd id l).2 with
  | false => rfl
  | true => have := fnd_lt id l hb; omega
theorem fnd_is (id : Int) : ∀ (l : List Job) (y : Job), l[(fnd id l).1]? = some y → (fnd id l).2 = decide (y.id = id)
  | [], y, h => by simp at h
  | x :: l, y, h => by
    simp only [fnd] at h ⊢
    split
    · rename_i hx
      rw [if_pos hx] at h
      exact fnd_is id l y (by simpa using h)
    · rename_i hx
      rw [if_neg hx] at h
      simp at h
      rw [h]
theorem fnd_side (id : Int) : ∀ (l : List Job), Asc l → ∀ (k : Nat) (y : Job), l[k]? = some y → (id ≤ y.id ↔ (fnd id l).1 ≤ k)
  | [], _, k, y, h => by simp at h
  | x :: l, ha, k, y, h => by
    simp only [fnd]
    cases k with
    | zero =>
      simp at h
      subst h
      split
      · constructor
        · intro; omega
        · intro hh; simp at hh
      · simp; omega
    | succ k =>
      simp at h
      have hxy := ha.1 y (List.mem_of_getElem? h)
      split
      · rename_i hx
        rw [fnd_side id l ha.2 k y h]
        simp
      · simp; omega
/-- the search by halves -/
theorem p_search (id p : Int) (l : List Job) (ha : Asc l) (hl : l.length ≤ 1000) : f61 (l.length : Int) p l id = some ((fnd id l).1 : Int) := by
  unfold f61 F61
  have hf := fnd_le id l
  refine loop_eq (fun s => 0 ≤ s.1.1 ∧ s.1.1 ≤ ((fnd id l).1 : Int) ∧ ((fnd id l).1 : Int) ≤ s.1.2.1 ∧ s.1.2.1 ≤ (l.length : Int)) (fun s => (s.1.2.1 - s.1.1).toNat) (fun _ => some ((fnd id l).1 : Int)) ?_ ⟨Int.le_refl _, by show (0 : Int) ≤ _; omega, by show _ ≤ (l.length : Int); omega, Int.le_refl _⟩ (by unfold LOOPS; simp only; omega)
  rintro ⟨⟨i, j, ⟨⟩⟩, ⟨⟩⟩ next ⟨h1, h2, h3, h4⟩ ih
  simp only at h1 h2 h3 h4
  simp only [l61_0]
  by_cases hij : i < j
  · have e1 : IntKind.wrap .i64 (i + j) = i + j := wi (by omega) (by omega)
    have e2 : IntKind.wrap .u64 (i + j) = i + j := by
      show (i + j) % 18446744073709551616 = i + j
      omega
    have e3 : (2 : Int) ^ (min (Int.toNat 1) 64) = 2 := rfl
    obtain ⟨v, hv⟩ : ∃ v, v = Int.fdiv (i + j) 2 := ⟨_, rfl⟩
    have hv2 : v = (i + j) / 2 := by rw [hv, Int.fdiv_eq_ediv_of_nonneg _ (by decide)]
    have e4 : IntKind.wrap .i64 v = v := wi (by omega) (by omega)
    obtain ⟨y, hy⟩ : ∃ y, l[v.toNat]? = some y := ⟨l[v.toNat]'(by omega), List.getElem?_eq_getElem _⟩
    have hs := fnd_side id l ha _ _ hy
    have hp : f62 v p l id = some (decide (id ≤ y.id)) := by
      unfold f62 F62
      simp only [decide_eq_true (show (0 : Int) ≤ v by omega), cond_true, hy, Option.bind_some]
    simp only [decide_eq_true hij, cond_true, e1, e2, e3, ← hv, e4, hp, Option.bind_some]
    by_cases hd : id ≤ y.id
    · have := hs.1 hd
      simp only [decide_eq_true hd, Bool.not_true, cond_false]
      exact ih _ ⟨h1, h2, by show ((fnd id l).1 : Int) ≤ v; omega, by show v ≤ _; omega⟩ (by simp only; omega)
    · have : ¬ ((fnd id l).1 ≤ v.toNat) := fun h => hd (hs.2 h)
      have e5 : IntKind.wrap .i64 (v + 1) = v + 1 := wi (by omega) (by omega)
      simp only [decide_eq_false hd, Bool.not_false, cond_true, e5]
      exact ih _ ⟨by show 0 ≤ v + 1; omega, by show v + 1 ≤ _; omega, h3, h4⟩ (by simp only; omega)
  · simp only [decide_eq_false hij, cond_false]
    congr 1
    omega
theorem p_find (id p : Int) (l : List Job) (ha : Asc l) (hl : l.length ≤ 1000) : f34_1 id p l = some ((((fnd id l).1 : Int), (fnd id l).2, ()), ((p, (), ()), l, ())) := by
  unfold f34_1 F34_1
  have hf := fnd_le id l
  simp only [p_search id p l ha hl, Option.bind_some]
  by_cases h : (fnd id l).1 < l.length
  · obtain ⟨y, hy⟩ : ∃ y, l[(fnd id l).1]? = some y := ⟨l[(fnd id l).1], List.getElem?_eq_getElem _⟩
    have hc : (((fnd id l).1 : Int)) < (l.length : Int) := by omega
    have h0 : (0 : Int) ≤ ((fnd id l).1 : Int) := by omega
    simp only [decide_eq_true hc, decide_eq_true h0, cond_true, Int.toNat_natCast, decide_eq_true h, hy, Option.bind_some]
    rw [fnd_is id l y hy]
  · have hc : ¬ (((fnd id l).1 : Int)) < (l.length : Int) := by omega
    simp only [decide_eq_false hc, cond_false]
    rw [fnd_end id l (by omega)]

theorem small152 {n : Nat} (h : n ≤ 2000) : smallB n 152 = true := by
  simp only [smallB, Bool.and_eq_true, decide_eq_true_eq]
  omega
theorem ok_few {j : Job} (h : jobOk j = true) : j.after.length ≤ 4 := by
  simp only [jobOk, Bool.and_eq_true, decide_eq_true_eq] at h
  exact h.2.2.2.2.2.2.2.1.1

theorem p_own (j : Job) (h : j.after.length ≤ 100) : f36 j = some j := by
  unfold f36 F36
  rw [p_Clone _ (by omega)]
  rfl
theorem lml : maxLen = 9223372036854775807 := rfl
/-- the place ahead of which the document lays a job -/
theorem awake18 : f6 = some true := by kernel_rfl
theorem p_find0 (id p : Int) : f34 id p = some ((0, false, ()), ((p, (), ()), ())) := by
  unfold f34 F34
  have h := p_search id p [] trivial (by simp)
  have h : f61 0 p [] id = some 0 := h
  rw [h]
  rfl
theorem p_Put1 (j : Job) (hj : jobOk j = true) : f9_1 j 3 = some (.inr (0, ((3, (), ()), [j], ()))) := by
  have h4 := ok_few hj
  have hml := lml
  unfold f9_1 F9_1
  rw [p_jobRight j (by omega), hj]
  simp only [Option.bind_some, Bool.not_true, cond_false, p_find0, p_own j (by omega)]
  rfl
theorem asc1 (j : Job) : Asc [j] := ⟨by simp, trivial⟩
theorem fnd1 (j : Job) : fnd j.id [j] = (0, true) := by simp [fnd]
theorem o_Clone (l : List Dep) (h : l ≠ []) (hl : l.length ≤ 4) : f65_1 l = some ((), (l, ())) := by
  unfold f65_1 F65_1
  cases l with
  | nil => exact absurd rfl h
  | cons x l =>
    have : smallB (0 + (x :: l).length) 16 = true := by
      simp only [smallB, Bool.and_eq_true, decide_eq_true_eq]
      simp at hl ⊢
      omega
    simp only [List.isEmpty_cons, cond_false, this, cond_true, List.nil_append]
theorem o_own (j : Job) (h : j.after ≠ []) (hl : j.after.length ≤ 4) : f36_1 j = some ((j.id, j.user, j.queue, j.many, j.need.cpu, j.need.mem, j.need.gpu, j.need.lic, j.wall, (), j.state, j.ok, j.kill, j.version, j.born, j.start, j.fin, j.array, ()), (j.after, ())) := by
  unfold f36_1 F36_1
  rw [o_Clone _ h hl]
  rfl
theorem o_Get (j : Job) (h : j.after ≠ []) (hl : j.after.length ≤ 4) : f10_3 j.id 3 [j] = some (.inr (((j.id, j.user, j.queue, j.many, j.need.cpu, j.need.mem, j.need.gpu, j.need.lic, j.wall, (), j.state, j.ok, j.kill, j.version, j.born, j.start, j.fin, j.array, ()), true, ()), ((3, (), ()), [j], j.after, ()))) := by
  unfold f10_3 F10_3
  rw [p_find j.id 3 [j] (asc1 j) (by simp), fnd1]
  have e : ([j] : List Job)[Int.toNat ((0 : Nat) : Int)]? = some j := rfl
  simp only [Option.bind_some, e, o_own j h hl]
  rfl
theorem o_All (j : Job) (h : j.after ≠ []) (hl : j.after.length ≤ 4) : f11 3 [j] = some ((), ((3, (), ()), [j], (j.id, j.user, j.queue, j.many, j.need.cpu, j.need.mem, j.need.gpu, j.need.lic, j.wall, (), j.state, j.ok, j.kill, j.version, j.born, j.start, j.fin, j.array, ()), j.after, ())) := by
  have e : f37o [j] = some ((), ([j], ((rowJob j, ()), ()))) := rfl
  unfold f11 F11
  simp only [e, Option.bind_some, rowJob]
  rw [o_own j h hl]
  rfl
theorem law_TableApart (j : Job) (d : Dep) (hj : j.after.length ≤ maxLen) : f3 j d = some true := by
  have n3 : f8 3 = some (.inr (((), 0, ()), ((3, (), ()), ()))) := rfl
  unfold f3 F3
  rw [awake18]
  simp only [Option.bind_some, Bool.not_true, cond_false, r_jobRight j hj]
  cases h : jobOk j with
  | false => rfl
  | true =>
    have h4 := ok_few h
    simp only [Bool.not_true, cond_false]
    by_cases h0 : j.after = []
    · rw [h0]
      rfl
    · have hn : ¬ ((j.after.length : Int) = 0) := by
        intro e
        exact h0 (List.eq_nil_of_length_eq_zero (by omega))
      obtain ⟨x, l, hx⟩ : ∃ x l, j.after = x :: l := by
        cases hl : j.after with
        | nil => exact absurd hl h0
        | cons x l => exact ⟨x, l, rfl⟩
      have e0 : j.after[0]? = some x := by rw [hx]; rfl
      have e1 : 0 < j.after.length := by rw [hx]; simp
      simp only [decide_eq_false hn, cond_false, n3, Option.bind_some, Sum.elim_inr, decide_true, Bool.not_true, p_Put1 j h, o_Get j h0 h4, o_All j h0 h4, Sum.elim_inl, Bool.and_self, cond_true, e0, decide_eq_true e1, List.length_set, r_Same _ _ hj, Bool.true_and, sameB_refl]
theorem len_jb (a : Job) (ha : Rng.P a) : a.after.length ≤ maxLen := ha.2.2.2.2.2.2.1.1
end NM
namespace tableApart
open NM AM
theorem walk (x0 : Job) (x1 : Dep) (v0 v1 : Value) (W : World) (h0 : V W (Lt W.heap.size) x0 v0) (h1 : V W (Lt W.heap.size) x1 v1) :
    Calls Try.prog 3 #[v0, v1] W fun e w' => e = .returned (.bool true) ∧ Go.RowKit.Below W.heap.size W w' :=
  nlaw_walk NM.ok3 (x := (NEnc.f x0, (NEnc.f x1, ()))) (law_TableApart _ _ (len_jb x0 (Rng.ok h0.1))) (arg_cons x0 (arg_cons x1 arg_nil)) rfl (fun j a v ha hv => by
    match j with
    | 0 => simp at ha hv; subst ha; subst hv; exact h0.vr (fun _ h => h) _
    | 1 => simp at ha hv; subst ha; subst hv; exact h1.vr (fun _ h => h) _)
end tableApart
end Go.Proofs.Ytfelhbeiegppgaa
