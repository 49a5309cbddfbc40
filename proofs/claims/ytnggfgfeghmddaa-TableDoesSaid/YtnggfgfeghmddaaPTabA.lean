/-
  Jobs, as the tables' statements reach them (from XPJob, by mkptab.py).
-/
import Derived.Test.YtnggfgfeghmddaaTableM
import Derived.Test.YtnggfgfeghmddaaNmR
set_option linter.unusedVariables false
set_option linter.unusedSimpArgs false
namespace Go.Proofs.Ytnggfgfeghmddaa
namespace NM
open AM

def inB (n lo hi : Int) : Bool := decide (lo ≤ n) && decide (n ≤ hi)
def resOk (a : Res) : Bool := decide (0 ≤ a.cpu ∧ a.cpu ≤ 1048576 ∧ 0 ≤ a.mem ∧ a.mem ≤ 1048576 ∧ 0 ≤ a.gpu ∧ a.gpu ≤ 1048576 ∧ 0 ≤ a.lic ∧ a.lic ≤ 1048576)
theorem p_numbers (a : Res) : f92 a = some (a.cpu, a.mem, a.gpu, a.lic) := rfl
theorem p_vecRight (a : Res) : f74 a = some (resOk a) := by
  unfold f74 F74
  simp only [p_numbers, Option.bind_some, cond_somes]
  congr 1
  rw [Bool.eq_iff_iff]
  simp [resOk]
theorem p_in (n lo hi : Int) : f73 n lo hi = some (inB n lo hi) := by
  unfold f73 F73
  simp only [cond_somes, Bool.cond_false_right, inB]
def afterB (j : Job) : Bool := j.after.all (fun d => inB d.job 1 (IntKind.wrap .i64 (j.id - 1)))
theorem p_afterRight (j : Job) (hj : j.after.length ≤ maxLen) : f75 j = some (decide (j.after.length ≤ 4) && afterB j) := by
  unfold f75 F75
  rw [all_loop j.after (fun z => (((), z, ()), (j, ()))) (fun d => inB d.job 1 (IntKind.wrap .i64 (j.id - 1))) true hj]
  · simp only [cond_somes, afterB, Bool.and_true]
    congr 1
    cases j.after.all _ <;> rw [Bool.eq_iff_iff] <;> simp <;> omega
  · intro next
    simp [l75_0]
  · intro z x next h0 h1 h2 h3
    simp only [l75_0, h0, h1, h2, h3, decide_true, cond_true, Option.bind_some, p_in]
    cases inB x.job 1 (IntKind.wrap .i64 (j.id - 1)) <;> rfl
theorem p_Waits (s : Int) : f94 s = some (decide (s = 1) || decide (s = 2)) := by
  unfold f94 F94
  simp only [cond_somes, Bool.cond_true_left]
theorem p_Over (s : Int) : f69 s = some (decide (s = 5) || decide (s = 6)) := by
  unfold f69 F69
  simp only [cond_somes, Bool.cond_true_left]
def stB (j : Job) : Bool := decide (1 ≤ j.state ∧ j.state ≤ 6 ∧ (j.start = 0 ∨ 3 ≤ j.state) ∧ (j.fin = 0 ∨ 5 ≤ j.state) ∧ (j.ok = false ∨ j.state = 4 ∨ j.state = 5) ∧ (j.kill = false ∨ j.state = 4 ∨ j.state = 6))
theorem name_none (s : Int) : ∃ l, f93 s = some l ∧ (l = [] ↔ ¬ (1 ≤ s ∧ s ≤ 6)) := by
  unfold f93 F93
  simp only [cond_dec]
  repeat' split
  all_goals refine ⟨_, rfl, ?_⟩
  all_goals simp
  all_goals omega
theorem p_stateRight (j : Job) : f76 j = some (stB j) := by
  unfold f76 F76
  obtain ⟨l, h1, h2⟩ := name_none j.state
  simp only [h1, p_Waits, p_Over, Option.bind_some, cond_somes, cond_mk, cond_self]
  congr 1
  unfold stB
  rw [Bool.eq_iff_iff]
  by_cases hs : 1 ≤ j.state ∧ j.state ≤ 6
  · have hl : ¬ (l = []) := fun e => (h2.1 e) hs
    simp only [hl, decide_false, cond_false]
    cases j.ok <;> cases j.kill <;> by_cases g1 : j.start = 0 <;> by_cases g2 : j.fin = 0 <;> simp [g1, g2] <;> omega
  · have hl : l = [] := h2.2 hs
    simp [hl]
    omega
def needB (a : Res) : Bool := !((decide (a.cpu = 0)) && ((decide (a.mem = 0)) && ((decide (a.gpu = 0)) && ((decide (a.lic = 0)) && true))))
def jobOk (j : Job) : Bool := inB j.id 1 1048576 && (inB j.user 0 7 && (inB j.queue 0 7 && (inB j.many 1 64 && (resOk j.need && (needB j.need && (inB j.wall 1 65536 && ((decide (j.after.length ≤ 4) && afterB j) && (inB j.version 1 281474976710656 && (inB j.born 0 1099511627776 && (inB j.start 0 1099511627776 && (inB j.fin 0 1099511627776 && (inB j.array 0 j.id && stB j))))))))))))
theorem p_jobRight (j : Job) (hj : j.after.length ≤ maxLen) : f40 j = some (jobOk j) := by
  unfold f40 F40
  simp only [p_in, p_vecRight, p_afterRight j hj, p_stateRight, Option.bind_some, cond_somes, Bool.cond_false_right]
  rfl
/- the document's -/
theorem r_in (n lo hi : Int) : f49 n lo hi = some (inB n lo hi) := by
  unfold f49 F49
  simp only [cond_somes, Bool.cond_false_right, inB]
theorem r_right1 (n : Int) : f79 n = some (inB n 0 1048576) := by
  unfold f79 F79
  simp only [cond_somes, Bool.cond_false_right, inB]
theorem r_vecRight (a : Res) : f50 a = some (resOk a) := by
  unfold f50 F50
  simp only [r_right1, Option.bind_some, cond_somes, Bool.cond_false_right]
  congr 1
  rw [Bool.eq_iff_iff]
  simp [resOk, inB, and_assoc]
def fitsB (a b : Res) : Bool := decide (a.cpu ≤ b.cpu ∧ a.mem ≤ b.mem ∧ a.gpu ≤ b.gpu ∧ a.lic ≤ b.lic)
theorem r_Fits (a b : Res) : f51 a b = some (fitsB a b) := by
  unfold f51 F51
  simp only [cond_somes, Bool.cond_false_right]
  congr 1
  rw [Bool.eq_iff_iff]
  simp [fitsB]
def tailB (j : Job) : Bool := cond (decide (j.state ≤ 2)) (decide (j.start = 0) && cond (decide (j.state ≤ 4)) (decide (j.fin = 0) && kidB j) (kidB j)) (cond (decide (j.state ≤ 4)) (decide (j.fin = 0) && kidB j) (kidB j))
where
  kidB (j : Job) : Bool := cond (!j.ok) (cond (!j.kill) true (cond (decide (j.state = 4)) true (decide (j.state = 6)))) (cond (decide (j.state = 4)) (cond (!j.kill) true (cond (decide (j.state = 4)) true (decide (j.state = 6)))) (cond (decide (j.state = 5)) (cond (!j.kill) true (cond (decide (j.state = 4)) true (decide (j.state = 6)))) false))
theorem tail_ok (j : Job) : (inB j.state 1 6 && tailB j) = stB j := by
  unfold tailB tailB.kidB stB inB
  by_cases hs : 1 ≤ j.state ∧ j.state ≤ 6
  · have h6 : j.state = 1 ∨ j.state = 2 ∨ j.state = 3 ∨ j.state = 4 ∨ j.state = 5 ∨ j.state = 6 := by omega
    rcases h6 with e | e | e | e | e | e <;> rw [e] <;> cases j.ok <;> cases j.kill <;> by_cases g1 : j.start = 0 <;> by_cases g2 : j.fin = 0 <;> simp [g1, g2]
  · have h1 : (decide (1 ≤ j.state) && decide (j.state ≤ 6)) = false := by
      rw [Bool.eq_false_iff]; simp; omega
    rw [h1]
    simp
    omega
def restB (j : Job) : Bool := !decide (4 < (j.after.length : Int)) && (inB j.id 1 1048576 && (inB j.user 0 7 && (inB j.queue 0 7 && (inB j.many 1 64 && (resOk j.need && (!fitsB j.need ⟨0, 0, 0, 0⟩ && (inB j.wall 1 65536 && (inB j.state 1 6 && (inB j.version 1 281474976710656 && (inB j.array 0 j.id && (inB j.born 0 1099511627776 && (inB j.start 0 1099511627776 && (inB j.fin 0 1099511627776 && tailB j)))))))))))))
theorem need_ok {a : Res} (h : resOk a = true) : (!fitsB a ⟨0, 0, 0, 0⟩) = needB a := by
  simp only [resOk, decide_eq_true_eq] at h
  unfold fitsB needB
  congr 1
  rw [Bool.eq_iff_iff]
  simp
  omega
theorem rest_ok (j : Job) : (afterB j && restB j) = jobOk j := by
  rw [Bool.eq_iff_iff]
  have ht := tail_ok j
  have hl : (!decide (4 < (j.after.length : Int))) = decide (j.after.length ≤ 4) := by
    rw [Bool.eq_iff_iff]; simp; omega
  unfold restB jobOk
  rw [hl, ← ht]
  simp only [Bool.and_eq_true]
  constructor
  · rintro ⟨a, b, c, d, e, f, g, h, i, k, l, m, n, o, p, q⟩
    rw [need_ok g] at h
    exact ⟨c, d, e, f, g, h, i, ⟨b, a⟩, l, n, o, p, m, k, q⟩
  · rintro ⟨c, d, e, f, g, h, i, ⟨b, a⟩, l, n, o, p, m, k, q⟩
    rw [← need_ok g] at h
    exact ⟨a, b, c, d, e, f, g, h, i, k, l, m, n, o, p, q⟩
theorem r_jobRight (j : Job) (hj : j.after.length ≤ maxLen) : f21 j = some (jobOk j) := by
  unfold f21 F21
  rw [all_loop j.after (fun z => (((), z, ()), (j, ()))) (fun d => inB d.job 1 (IntKind.wrap .i64 (j.id - 1))) (restB j) hj]
  · congr 1
    exact rest_ok j
  · intro next
    simp only [l21_0, Int.lt_irrefl, decide_false, cond_false, r_in, r_vecRight, r_Fits, Option.bind_some, cond_somes, elim_cond, Sum.elim_inl, Sum.elim_inr, Bool.cond_false_left, Bool.not_not]
    rfl
  · intro z x next h0 h1 h2 h3
    simp only [l21_0, h0, h1, h2, h3, decide_true, cond_true, Option.bind_some, r_in]
    cases inB x.job 1 (IntKind.wrap .i64 (j.id - 1)) <;> rfl

/- whether two are the same -/
def depB (x y : Dep) : Bool := (decide (x.job = y.job)) && ((x.ok == y.ok) && true)
def depsB (l m : List Dep) : Bool := decide (l.length = m.length) && (l.zip m).all (fun a => depB a.1 a.2)
theorem depB_refl (x : Dep) : depB x x = true := by simp [depB]
theorem depsB_refl (l : List Dep) : depsB l l = true := by
  unfold depsB
  simp only [decide_true, Bool.true_and]
  induction l with
  | nil => rfl
  | cons x l ih => simp only [List.zip_cons_cons, List.all_cons, depB_refl, ih, Bool.and_self]
def needSame (a b : Res) : Bool := (decide (a.cpu = b.cpu)) && ((decide (a.mem = b.mem)) && ((decide (a.gpu = b.gpu)) && ((decide (a.lic = b.lic)) && true)))
def sameB (a b : Job) : Bool := decide (a.id = b.id) && (decide (a.user = b.user) && (decide (a.queue = b.queue) && (decide (a.many = b.many) && (needSame a.need b.need && (decide (a.wall = b.wall) && (depsB a.after b.after && (decide (a.state = b.state) && ((a.ok == b.ok) && ((a.kill == b.kill) && (decide (a.version = b.version) && (decide (a.born = b.born) && (decide (a.start = b.start) && (decide (a.fin = b.fin) && decide (a.array = b.array))))))))))))))
theorem sameB_refl (a : Job) : sameB a a = true := by simp [sameB, needSame, depsB_refl]
def fldB (a b : Job) : Bool := decide (a.id = b.id) && (decide (a.user = b.user) && (decide (a.queue = b.queue) && (decide (a.many = b.many) && (needSame a.need b.need && (decide (a.wall = b.wall) && (decide (a.state = b.state) && ((a.ok == b.ok) && ((a.kill == b.kill) && (decide (a.version = b.version) && (decide (a.born = b.born) && (decide (a.start = b.start) && (decide (a.fin = b.fin) && decide (a.array = b.array)))))))))))))
theorem r_Same (a b : Job) (ha : a.after.length ≤ maxLen) : f22 a b = some (sameB a b) := by
  unfold f22 F22
  have hs : sameB a b = (depsB a.after b.after && fldB a b) := by
    unfold sameB fldB
    rw [Bool.eq_iff_iff]
    simp only [Bool.and_eq_true]
    constructor
    · rintro ⟨h1, h2, h3, h4, h5, h6, h7, h8, h9, h10, h11, h12, h13, h14, h15⟩
      exact ⟨h7, h1, h2, h3, h4, h5, h6, h8, h9, h10, h11, h12, h13, h14, h15⟩
    · rintro ⟨h7, h1, h2, h3, h4, h5, h6, h8, h9, h10, h11, h12, h13, h14, h15⟩
      exact ⟨h1, h2, h3, h4, h5, h6, h7, h8, h9, h10, h11, h12, h13, h14, h15⟩
  rw [hs]
  unfold depsB
  by_cases h : a.after.length = b.after.length
  · rw [zip_loop a.after b.after h (fun z => (((), (), z, ()), (a, b, ()))) depB (fldB a b) ha]
    · simp [h]
    · intro next
      simp only [l22_0, Int.lt_irrefl, decide_false, cond_false, cond_somes, Bool.cond_false_right]
      rfl
    · intro z x y next h0 h1 h2 h3 h4
      simp only [l22_0, h0, h1, h2, h3, h4, decide_true, cond_true, Option.bind_some]
      show cond (!depB x y) _ _ = _
      cases depB x y <;> rfl
  · have h' : ¬ ((a.after.length : Int) = (b.after.length : Int)) := by omega
    simp [h, h']

theorem p_Clone (l : List Dep) (hl : l.length ≤ 4294967296) : f72 l = some ((), (l, ())) := by
  unfold f72 cloneF
  cases l with
  | nil => rfl
  | cons x l =>
    unfold F72
    have : smallB (0 + (x :: l).length) 16 = true := by
      simp only [smallB, Bool.and_eq_true, decide_eq_true_eq]
      simp at hl ⊢
      omega
    simp only [List.isEmpty_cons, cond_false, this, cond_true, List.nil_append]
end NM
end Go.Proofs.Ytnggfgfeghmddaa
