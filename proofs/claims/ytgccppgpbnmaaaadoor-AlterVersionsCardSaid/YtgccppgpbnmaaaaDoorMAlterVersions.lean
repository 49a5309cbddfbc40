/-
  The statement AlterVersions about plain data.
-/
import Derived.Test.YtgccppgpbnmaaaaDoorAlterVM
import Derived.Test.YtgccppgpbnmaaaaDoorNmR
import Derived.KernelRfl
set_option linter.unusedVariables false
set_option linter.unusedSimpArgs false
namespace Go.Proofs.YtgccppgpbnmaaaaDoor
namespace NM
open AM

def resOk (a : Res) : Bool := decide (0 ≤ a.cpu ∧ a.cpu ≤ 1048576 ∧ 0 ≤ a.mem ∧ a.mem ≤ 1048576 ∧ 0 ≤ a.gpu ∧ a.gpu ≤ 1048576 ∧ 0 ≤ a.lic ∧ a.lic ≤ 1048576)
/-- rising, from above a number on, below another -/
def asc (e : Int) : Int → List Int → Bool
  | _, [] => true
  | a, n :: l => decide (a < n) && decide (n < e) && asc e n l
def nodesOk (s : Spec) : Bool := decide (1 ≤ s.nodes.length ∧ s.nodes.length ≤ 16) && s.nodes.all resOk
def partsOk (s : Spec) : Bool := decide (1 ≤ s.parts.length ∧ s.parts.length ≤ 8) && s.parts.all fun p => decide (1 ≤ p.length) && asc s.nodes.length (-1) p
def queueOk (s : Spec) (q : Queue) : Bool := decide (0 ≤ q.part ∧ q.part < s.parts.length) && asc s.users (-1) q.users && decide (1 ≤ q.maxJobs ∧ q.maxJobs ≤ 256 ∧ 1 ≤ q.maxRun ∧ q.maxRun ≤ 256 ∧ 1 ≤ q.maxUser ∧ q.maxUser ≤ 256 ∧ 0 ≤ q.qos ∧ q.qos ≤ 100)
def queuesOk (s : Spec) : Bool := decide (1 ≤ s.queues.length ∧ s.queues.length ≤ 8) && s.queues.all (queueOk s)
def weightsOk (w : Weights) : Bool := decide (0 ≤ w.age ∧ w.age ≤ 1000 ∧ 0 ≤ w.size ∧ w.size ≤ 1000 ∧ 0 ≤ w.qos ∧ w.qos ≤ 1000 ∧ 0 ≤ w.share ∧ w.share ≤ 1000)

theorem p_numbers (a : Res) : f80 a = some (a.cpu, a.mem, a.gpu, a.lic) := rfl
theorem p_vecRight (a : Res) : f59 a = some (resOk a) := by
  unfold f59 F59
  simp only [p_numbers, Option.bind_some, cond_somes]
  congr 1
  rw [Bool.eq_iff_iff]
  simp [resOk]

theorem p_nodesRight (s : Spec) (hs : Rng.P s) : f122 s = some (nodesOk s) := by
  unfold f122 F122
  rw [all_loop s.nodes (fun z => ((z, ()), ())) resOk true hs.1.1]
  · simp only [cond_somes, nodesOk, Bool.and_true]
    congr 1
    cases s.nodes.all resOk <;> rw [Bool.eq_iff_iff] <;> simp <;> omega
  · intro next
    simp [l122_0]
  · intro z x next h0 h1 h2 h3
    simp only [l122_0, h0, h1, h2, h3, decide_true, cond_true, Option.bind_some, p_vecRight]
    cases resOk x <;> rfl

theorem p_ascending (l : List Int) (hl : l.length ≤ maxLen) (e : Int) : f136 l e = some (asc e (-1) l) := by
  unfold f136 F136
  rw [list_loop l (fun b z => ((b, z, ()), ())) (fun b x => cond (decide (x ≤ b) || decide (e ≤ x)) (.inr (some false)) (.inl x)) (fun _ => some true) hl]
  · generalize (-1 : Int) = a
    clear hl
    induction l generalizing a with
    | nil => rfl
    | cons n l ih =>
      simp only [runL, asc]
      by_cases h1 : n ≤ a
      · simp [h1]; omega
      · by_cases h2 : e ≤ n
        · simp [h1, h2]; omega
        · have h3 : a < n := by omega
          have h4 : n < e := by omega
          simp [h1, h2, h3, h4, ih]
  · intro b next
    simp [l136_0]
  · intro b z x next h0 h1 h2 h3
    simp only [l136_0, h0, h1, h2, h3, decide_true, cond_true, Option.bind_some]
    by_cases h4 : x ≤ b <;> by_cases h5 : e ≤ x <;> simp [h4, h5]

theorem p_partsRight (s : Spec) (hs : Rng.P s) : f124 s = some (partsOk s) := by
  unfold f124 F124
  rw [all_loop s.parts (fun z => (((), z, ()), (s, ()))) (fun p => decide (1 ≤ p.length) && asc s.nodes.length (-1) p) true hs.2.1.1]
  · simp only [cond_somes, partsOk, Bool.and_true]
    congr 1
    cases s.parts.all _ <;> rw [Bool.eq_iff_iff] <;> simp <;> omega
  · intro next
    simp [l124_0]
  · intro z x next h0 h1 h2 h3
    have hx := (hs.2.1.2 x (List.mem_of_getElem? h2)).1
    simp only [l124_0, h0, h1, h2, h3, decide_true, cond_true, Option.bind_some, p_ascending x hx]
    by_cases h4 : x.length < 1
    · have : x = [] := List.eq_nil_of_length_eq_zero (by omega)
      simp [this]
    · have h5 : 1 ≤ x.length := by omega
      have h6 : ¬ ((x.length : Int) < 1) := by omega
      simp only [h5, h6, decide_true, decide_false, cond_false, Bool.true_and]
      cases asc s.nodes.length (-1) x <;> rfl

theorem p_queuesRight (s : Spec) (hs : Rng.P s) : f127 s = some (queuesOk s) := by
  unfold f127 F127
  rw [all_loop s.queues (fun z => (((), z, ()), (s, ()))) (queueOk s) true hs.2.2.1.1]
  · simp only [cond_somes, queuesOk, Bool.and_true]
    congr 1
    cases s.queues.all _ <;> rw [Bool.eq_iff_iff] <;> simp <;> omega
  · intro next
    simp [l127_0]
  · intro z x next h0 h1 h2 h3
    have hx : x.users.length ≤ maxLen := (hs.2.2.1.2 x (List.mem_of_getElem? h2)).2.1.1
    simp only [l127_0, h0, h1, h2, h3, decide_true, cond_true, Option.bind_some, p_ascending _ hx, chk0 next, chk1]
    congr 1
    simp only [queueOk]
    cases asc s.users (-1) x.users <;> rw [Bool.eq_iff_iff] <;> simp <;> omega

theorem p_weightsRight (w : Weights) : f129 w = some (weightsOk w) := by
  unfold f129 F129
  simp only [cond_somes]
  congr 1
  rw [Bool.eq_iff_iff]
  simp [weightsOk]

def inB (n lo hi : Int) : Bool := decide (lo ≤ n) && decide (n ≤ hi)
theorem p_c1 (s : Spec) (hs : Rng.P s) : f121 s.nodes s.parts s.queues s.users s.weights.age s.weights.size s.weights.qos s.weights.share s.decay s.mode s.jobs s.ids s.versions s.linger s.keep s.inn s.out s.cache = some (nodesOk s) := (congrArg (fun o => Option.bind o fun r => some r) (p_nodesRight s hs)).trans rfl
theorem p_c2 (s : Spec) (hs : Rng.P s) : f123 s.nodes s.parts s.queues s.users s.weights.age s.weights.size s.weights.qos s.weights.share s.decay s.mode s.jobs s.ids s.versions s.linger s.keep s.inn s.out s.cache = some (partsOk s) := (congrArg (fun o => Option.bind o fun r => some r) (p_partsRight s hs)).trans rfl
theorem p_c3 (s : Spec) (hs : Rng.P s) : f126 s.nodes s.parts s.queues s.users s.weights.age s.weights.size s.weights.qos s.weights.share s.decay s.mode s.jobs s.ids s.versions s.linger s.keep s.inn s.out s.cache = some (queuesOk s) := (congrArg (fun o => Option.bind o fun r => some r) (p_queuesRight s hs)).trans rfl
theorem p_c4 (s : Spec) : f128 s.nodes s.parts s.queues s.users s.weights.age s.weights.size s.weights.qos s.weights.share s.decay s.mode s.jobs s.ids s.versions s.linger s.keep s.inn s.out s.cache = some (weightsOk s.weights) := (congrArg (fun o => Option.bind o fun r => some r) (p_weightsRight s.weights)).trans rfl
theorem p_c5 (s : Spec) : f130 s.nodes s.parts s.queues s.users s.weights.age s.weights.size s.weights.qos s.weights.share s.decay s.mode s.jobs s.ids s.versions s.linger s.keep s.inn s.out s.cache = some (decide (s.mode = 1) || decide (s.mode = 2)) := by
  unfold f130 F130
  simp only [cond_somes, Bool.cond_true_left]
theorem p_within (lo n hi : Int) : f137 lo n hi = some (inB n lo hi) := by
  unfold f137 F137
  simp only [cond_somes, Bool.cond_false_right, inB]
def flaw (s : Spec) : List UInt8 := cond (!(nodesOk s)) [78, 111, 100, 101, 115] (cond (!(partsOk s)) [80, 97, 114, 116, 115] (cond (!(inB s.users 1 8)) [85, 115, 101, 114, 115] (cond (!(queuesOk s)) [81, 117, 101, 117, 101, 115] (cond (!(weightsOk s.weights)) [87, 101, 105, 103, 104, 116, 115] (cond (!(inB s.decay 1 16)) [68, 101, 99, 97, 121] (cond (!(decide (s.mode = 1) || decide (s.mode = 2))) [77, 111, 100, 101] (cond (!(inB s.jobs 1 256)) [74, 111, 98, 115] (cond (!(inB s.ids 1 1048576)) [73, 100, 115] (cond (!(inB s.versions 1 65536)) [86, 101, 114, 115, 105, 111, 110, 115] (cond (!(inB s.linger 0 65536)) [76, 105, 110, 103, 101, 114] (cond (!(inB s.keep 1 16)) [75, 101, 101, 112] (cond (!(inB s.inn 1 8)) [73, 110] (cond (!(inB s.out 1 16)) [79, 117, 116] (cond (!(inB s.cache 0 16)) [67, 97, 99, 104, 101] ([])))))))))))))))
def specOk (s : Spec) : Bool := nodesOk s && (partsOk s && (inB s.users 1 8 && (queuesOk s && (weightsOk s.weights && (inB s.decay 1 16 && ((decide (s.mode = 1) || decide (s.mode = 2)) && (inB s.jobs 1 256 && (inB s.ids 1 1048576 && (inB s.versions 1 65536 && (inB s.linger 0 65536 && (inB s.keep 1 16 && (inB s.inn 1 8 && (inB s.out 1 16 && (inB s.cache 0 16))))))))))))))
theorem p_Flaw (s : Spec) (hs : Rng.P s) : f88 s = some (flaw s) := by
  unfold f88 F88
  rw [show f108 s = some _ from rfl]
  simp only [Option.bind_some, p_c1 s hs, p_c2 s hs, p_c3 s hs, p_c4 s, p_c5 s, p_within, cond_somes]
  rfl
theorem flaw_bits (b0 b1 b2 b3 b4 b5 b6 b7 b8 b9 b10 b11 b12 b13 b14 : Bool) : decide (cond (!b0) [78, 111, 100, 101, 115] (cond (!b1) [80, 97, 114, 116, 115] (cond (!b2) [85, 115, 101, 114, 115] (cond (!b3) [81, 117, 101, 117, 101, 115] (cond (!b4) [87, 101, 105, 103, 104, 116, 115] (cond (!b5) [68, 101, 99, 97, 121] (cond (!b6) [77, 111, 100, 101] (cond (!b7) [74, 111, 98, 115] (cond (!b8) [73, 100, 115] (cond (!b9) [86, 101, 114, 115, 105, 111, 110, 115] (cond (!b10) [76, 105, 110, 103, 101, 114] (cond (!b11) [75, 101, 101, 112] (cond (!b12) [73, 110] (cond (!b13) [79, 117, 116] (cond (!b14) [67, 97, 99, 104, 101] ([]))))))))))))))) = ([] : List UInt8)) = (b0 && (b1 && (b2 && (b3 && (b4 && (b5 && (b6 && (b7 && (b8 && (b9 && (b10 && (b11 && (b12 && (b13 && (b14))))))))))))))) := by
  cases b0; exact rfl
  cases b1; exact rfl
  cases b2; exact rfl
  cases b3; exact rfl
  cases b4; exact rfl
  cases b5; exact rfl
  cases b6; exact rfl
  cases b7; exact rfl
  cases b8; exact rfl
  cases b9; exact rfl
  cases b10; exact rfl
  cases b11; exact rfl
  cases b12; exact rfl
  cases b13; exact rfl
  cases b14; exact rfl
  rfl
theorem p_Right (s : Spec) (hs : Rng.P s) : f76 s = some (specOk s) := by
  unfold f76 F76
  rw [p_Flaw s hs]
  simp only [Option.bind_some, flaw, specOk]
  exact congrArg some (flaw_bits _ _ _ _ _ _ _ _ _ _ _ _ _ _ _)

/- the document's -/
theorem r_in (n lo hi : Int) : f72 n lo hi = some (inB n lo hi) := by
  unfold f72 F72
  simp only [cond_somes, Bool.cond_false_right, inB]
theorem r_right1 (n : Int) : f62 n = some (inB n 0 1048576) := by
  unfold f62 F62
  simp only [cond_somes, Bool.cond_false_right, inB]
theorem r_vecRight (a : Res) : f30 a = some (resOk a) := by
  unfold f30 F30
  simp only [r_right1, Option.bind_some, cond_somes, Bool.cond_false_right]
  congr 1
  rw [Bool.eq_iff_iff]
  simp [resOk, inB, and_assoc]
theorem r_nodes (s : Spec) (hs : Rng.P s) : f73 s = some (nodesOk s) := by
  unfold f73 F73
  rw [all_loop s.nodes (fun z => (((), z, ()), (s, ()))) resOk (inB s.nodes.length 1 16) hs.1.1]
  · congr 1
    rw [nodesOk, Bool.and_comm]
    congr 1
    rw [Bool.eq_iff_iff]
    simp [inB]
    omega
  · intro next
    simp [l73_0, r_in]
  · intro z x next h0 h1 h2 h3
    simp only [l73_0, h0, h1, h2, h3, decide_true, cond_true, Option.bind_some, r_vecRight]
    cases resOk x <;> rfl
theorem r_Rising (l : List Int) (hl : l.length ≤ maxLen) (e : Int) : f87 l e = some (asc e (-1) l) := by
  unfold f87 F87
  have hml : maxLen = 9223372036854775807 := rfl
  rw [list_loopI (β := Int) l (fun b z => ((z, ()), ())) (fun a z => (z = 0 ∧ a = -1) ∨ (0 < z ∧ l[(z - 1).toNat]? = some a ∧ 0 ≤ a)) (fun b x => cond (decide (x ≤ b) || decide (e ≤ x)) (.inr (some false)) (.inl x)) (fun _ => some true) hl ?_ ?_ (-1) (.inl ⟨rfl, rfl⟩)]
  · generalize (-1 : Int) = a
    clear hl
    induction l generalizing a with
    | nil => rfl
    | cons n l ih =>
      simp only [runL, asc]
      by_cases h1 : n ≤ a
      · simp [h1]; omega
      · by_cases h2 : e ≤ n
        · simp [h1, h2]; omega
        · have h3 : a < n := by omega
          have h4 : n < e := by omega
          simp [h1, h2, h3, h4, ih]
  · intro b next _
    simp [l87_0]
  · intro b z x next hI h0 h1 h2 h3
    simp only [l87_0, h0, h1, h2, h3, decide_true, cond_true, Option.bind_some]
    have hw : IntKind.wrap .i64 (z - 1) = z - 1 := wi (by omega) (by omega)
    rw [hw]
    by_cases h5 : e ≤ x
    · simp only [h5, decide_true, Bool.or_true, cond_true]
      by_cases h6 : x < 0 <;> simp [h6]
    · have h5' : decide (e ≤ x) = false := by simp [h5]
      rcases hI with ⟨rfl, rfl⟩ | ⟨hz, ha, hn⟩
      · by_cases h6 : x < 0
        · have h7 : x ≤ -1 := by omega
          simp [h6, h7]
        · have h7 : ¬ (x ≤ -1) := by omega
          simp [h5, h6, h7]
          exact ⟨by simpa using h2, by omega⟩
      · have hz1 : 0 ≤ z - 1 := by omega
        have hzz : z + 1 - 1 = z := by omega
        by_cases h6 : x ≤ b
        · by_cases h7 : x < 0
          · simp [h6, h7]
          · simp only [h6, h7, h5, hz, hz1, ha, decide_true, decide_false, cond_true, cond_false, Option.bind_some, Bool.true_or]
        · have h7 : ¬ (x < 0) := by omega
          simp only [h6, h7, h5, hz, hz1, ha, decide_true, decide_false, cond_true, cond_false, Option.bind_some, Bool.or_false]
          refine ⟨.inr ⟨by omega, ?_, by omega⟩, trivial⟩
          rw [hzz]; exact h2
theorem r_parts (s : Spec) (hs : Rng.P s) : f74 s = some (partsOk s) := by
  unfold f74 F74
  rw [all_loop s.parts (fun z => (((), z, ()), (s, ()))) (fun p => decide (1 ≤ p.length) && asc s.nodes.length (-1) p) (inB s.parts.length 1 8) hs.2.1.1]
  · congr 1
    rw [partsOk, Bool.and_comm]
    congr 1
    rw [Bool.eq_iff_iff]
    simp [inB]
    omega
  · intro next
    simp [l74_0, r_in]
  · intro z x next h0 h1 h2 h3
    have hx : x.length ≤ maxLen := (hs.2.1.2 x (List.mem_of_getElem? h2)).1
    simp only [l74_0, h0, h1, h2, h3, decide_true, cond_true, Option.bind_some, r_Rising x hx, chk0 next, chk1]
    congr 1
    cases asc s.nodes.length (-1) x <;> rw [Bool.eq_iff_iff] <;> simp <;> omega
theorem r_queues (s : Spec) (hs : Rng.P s) : f75 s = some (queuesOk s) := by
  unfold f75 F75
  rw [all_loop s.queues (fun z => (((), z, ()), (s, ()))) (queueOk s) (inB s.queues.length 1 8) hs.2.2.1.1]
  · congr 1
    rw [queuesOk, Bool.and_comm]
    congr 1
    rw [Bool.eq_iff_iff]
    simp [inB]
    omega
  · intro next
    simp [l75_0, r_in]
  · intro z x next h0 h1 h2 h3
    have hx : x.users.length ≤ maxLen := (hs.2.2.1.2 x (List.mem_of_getElem? h2)).2.1.1
    simp only [l75_0, h0, h1, h2, h3, decide_true, cond_true, Option.bind_some, r_Rising _ hx, r_in, chk0 next, chk1]
    congr 1
    simp only [queueOk, inB]
    cases asc s.users (-1) x.users <;> rw [Bool.eq_iff_iff] <;> simp <;> omega
theorem mode_in (n : Int) : inB n 1 2 = (decide (n = 1) || decide (n = 2)) := by
  rw [Bool.eq_iff_iff]; simp [inB]; omega
theorem weights_in (w : Weights) : cond (inB w.age 0 1000) (cond (inB w.size 0 1000) (cond (inB w.qos 0 1000) (inB w.share 0 1000) false) false) false = weightsOk w := by
  rw [Bool.eq_iff_iff]; simp [inB, weightsOk]; omega
theorem r_Flaw (s : Spec) (hs : Rng.P s) : f51 s = some (flaw s) := by
  unfold f51 F51
  simp only [r_in, Option.bind_some, cond_somes, cond_mk, cond_self, weights_in, mode_in, r_nodes s hs, r_parts s hs, r_queues s hs]
  rfl
theorem r_Right (s : Spec) (hs : Rng.P s) : f23 s = some (specOk s) := by
  unfold f23 F23
  rw [r_Flaw s hs]
  simp only [Option.bind_some, flaw, specOk]
  exact congrArg some (flaw_bits _ _ _ _ _ _ _ _ _ _ _ _ _ _ _)
def fewB (s : Spec) : Bool := decide (s.nodes.length ≤ 40 ∧ s.parts.length ≤ 20 ∧ s.queues.length ≤ 20) && (s.parts.all (fun p => decide (p.length ≤ 40)) && s.queues.all (fun q => decide (q.users.length ≤ 40)))
theorem r_Few (s : Spec) (hs : Rng.P s) : f22 s = some (fewB s) := by
  unfold f22 F22
  rw [all_loop s.parts (fun z => (((), z, ()), (s, ()))) (fun p => decide (p.length ≤ 40)) (s.queues.all (fun q => decide (q.users.length ≤ 40))) hs.2.1.1]
  · simp only [cond_somes, fewB]
    congr 1
    cases s.parts.all _ <;> cases s.queues.all _ <;> rw [Bool.eq_iff_iff] <;> simp <;> omega
  · intro next
    simp only [l22_1, Int.lt_irrefl, decide_false, cond_false]
    rw [all_loop s.queues (fun z => ((z, ()), ())) (fun q => decide (q.users.length ≤ 40)) true hs.2.2.1.1]
    · simp
    · intro next
      simp [l22_0]
    · intro z x next h0 h1 h2 h3
      simp only [l22_0, h0, h1, h2, h3, decide_true, cond_true, Option.bind_some, chk0 next]
      congr 1
      rw [Bool.eq_iff_iff]; simp; omega
  · intro z x next h0 h1 h2 h3
    simp only [l22_1, h0, h1, h2, h3, decide_true, cond_true, Option.bind_some, chk0 next]
    congr 1
    rw [Bool.eq_iff_iff]; simp; omega
end NM
end Go.Proofs.YtgccppgpbnmaaaaDoor
set_option linter.unusedVariables false
set_option linter.unusedSimpArgs false
namespace Go.Proofs.YtgccppgpbnmaaaaDoor
namespace NM
open AM

theorem loop_run {σ ω : Type} {f : σ → (σ → Option ω) → Option ω} {r : Option ω} (n : Nat) (hn : n < LOOPS) (s : Nat → σ) (hs : ∀ i, i < n → ∀ next, f (s i) next = next (s (i + 1))) (hend : ∀ next, f (s n) next = r) : LN LOOPS f (s 0) = r := by
  have key : ∀ m i, i ≤ n → n - i < m → loopN f m (s i) = r := by
    intro m
    induction m with
    | zero => intro i _ h; omega
    | succ m ih =>
      intro i hi hm
      simp only [loopN]
      rcases Nat.lt_or_ge i n with h | h
      · rw [hs i h]
        exact ih (i + 1) h (by omega)
      · have : i = n := by omega
        subst this
        exact hend _
  exact key LOOPS 0 (Nat.zero_le _) (by omega)

def zRes (a : Res) : Bool := (decide (a.cpu = 0)) && ((decide (a.mem = 0)) && ((decide (a.gpu = 0)) && ((decide (a.lic = 0)) && true)))
def stepC (x y n : Int) : Int := if 0 < y then min n (x / y) else n
def countI (a b : Res) : Int := if resOk a = true ∧ resOk b = true ∧ zRes b = false then stepC a.lic b.lic (stepC a.gpu b.gpu (stepC a.mem b.mem (stepC a.cpu b.cpu 64))) else 0

theorem div_wrap {x y : Int} (hx : 0 ≤ x) (hx2 : x ≤ 1048576) (hy : 0 < y) : IntKind.wrap .i64 (Int.tdiv x y) = x / y := by
  rw [Int.tdiv_eq_ediv_of_nonneg hx]
  have h1 := Int.ediv_nonneg hx (Int.le_of_lt hy)
  have h2 := Int.ediv_le_self y hx
  exact wi (by omega) (by omega)
theorem min_if (a n : Int) : (if a < n then a else n) = min n a := by
  rw [Int.min_def]
  split <;> split <;> omega

def accC (a b : Res) : Nat → Int
  | 0 => 64
  | 1 => stepC a.cpu b.cpu 64
  | 2 => stepC a.mem b.mem (stepC a.cpu b.cpu 64)
  | 3 => stepC a.gpu b.gpu (stepC a.mem b.mem (stepC a.cpu b.cpu 64))
  | _ => stepC a.lic b.lic (stepC a.gpu b.gpu (stepC a.mem b.mem (stepC a.cpu b.cpu 64)))

theorem p_Count (a b : Res) : f133 a b = some (countI a b) := by
  unfold f133 F133
  simp only [p_vecRight, p_numbers, Option.bind_some]
  unfold countI
  cases ha : resOk a with
  | false => simp
  | true =>
    cases hb : resOk b with
    | false => simp
    | true =>
      change cond (!true) _ (cond (!true) _ (cond (zRes b) _ _)) = _
      cases hz : zRes b with
      | true => simp
      | false =>
        simp only [Bool.not_true, cond_false, true_and, if_true]
        simp only [resOk, decide_eq_true_eq] at ha hb
        refine loop_run 4 (by decide) (fun i => ((accC a b i, (), (), (i : Int), ()), ((a.cpu, a.mem, a.gpu, a.lic), (b.cpu, b.mem, b.gpu, b.lic), ()))) (fun i hi next => ?_) (fun next => ?_)
        · match i, hi with
          | 0, _ =>
            by_cases hy : 0 < b.cpu
            · simp [l133_0, hy, accC, stepC, div_wrap ha.1 ha.2.1 hy, min_if, wi, show b.cpu ≠ 0 by omega]
            · simp [l133_0, hy, accC, stepC, wi]
          | 1, _ =>
            by_cases hy : 0 < b.mem
            · simp [l133_0, hy, accC, div_wrap ha.2.2.1 ha.2.2.2.1 hy, min_if, wi, show b.mem ≠ 0 by omega]
              simp [stepC, hy]
            · simp [l133_0, hy, accC, wi]
              simp [stepC, hy]
          | 2, _ =>
            by_cases hy : 0 < b.gpu
            · simp [l133_0, hy, accC, div_wrap ha.2.2.2.2.1 ha.2.2.2.2.2.1 hy, min_if, wi, show b.gpu ≠ 0 by omega]
              simp [stepC, hy]
            · simp [l133_0, hy, accC, wi]
              simp [stepC, hy]
          | 3, _ =>
            by_cases hy : 0 < b.lic
            · simp [l133_0, hy, accC, div_wrap ha.2.2.2.2.2.2.1 ha.2.2.2.2.2.2.2 hy, min_if, wi, show b.lic ≠ 0 by omega]
              simp [stepC, hy]
            · simp [l133_0, hy, accC, wi]
              simp [stepC, hy]
        · simp [l133_0, accC]

theorem stepC_mono {x y y' n n' : Int} (hx : 0 ≤ x) (hy : 0 ≤ y) (h : y ≤ y') (hn : n' ≤ n) : stepC x y' n' ≤ stepC x y n := by
  unfold stepC
  by_cases h1 : 0 < y
  · have h2 : 0 < y' := by omega
    rw [if_pos h1, if_pos h2]
    have : x / y' ≤ x / y := by
      have h3 := Int.ediv_nonneg hx (Int.le_of_lt h2)
      have h4 := Int.ediv_mul_le x (show y' ≠ 0 by omega)
      have h5 := Int.mul_le_mul_of_nonneg_left h h3
      exact Int.le_ediv_of_mul_le h1 (Int.le_trans h5 h4)
    omega
  · rw [if_neg h1]
    split <;> omega
theorem stepC_nonneg {x y n : Int} (hx : 0 ≤ x) (hn : 0 ≤ n) : 0 ≤ stepC x y n := by
  unfold stepC
  split
  · rename_i h
    have := Int.ediv_nonneg hx (Int.le_of_lt h)
    omega
  · exact hn
theorem stepC_le {x y n : Int} : stepC x y n ≤ n := by
  unfold stepC
  split <;> omega
theorem countI_nonneg (a b : Res) : 0 ≤ countI a b := by
  unfold countI
  split
  · rename_i h
    have h1 := h.1
    simp only [resOk, decide_eq_true_eq] at h1
    exact stepC_nonneg h1.2.2.2.2.2.2.1 (stepC_nonneg h1.2.2.2.2.1 (stepC_nonneg h1.2.2.1 (stepC_nonneg h1.1 (by omega))))
  · omega
theorem countI_le (a b : Res) : countI a b ≤ 64 := by
  unfold countI
  split
  · exact Int.le_trans stepC_le (Int.le_trans stepC_le (Int.le_trans stepC_le stepC_le))
  · omega
/-- less fits at least as often -/
theorem countI_mono {a b c : Res} (hc : resOk c = true) (hz : zRes c = false) (h1 : c.cpu ≤ b.cpu) (h2 : c.mem ≤ b.mem) (h3 : c.gpu ≤ b.gpu) (h4 : c.lic ≤ b.lic) : countI a b ≤ countI a c := by
  by_cases h : resOk a = true ∧ resOk b = true ∧ zRes b = false
  · have e1 : countI a b = stepC a.lic b.lic (stepC a.gpu b.gpu (stepC a.mem b.mem (stepC a.cpu b.cpu 64))) := if_pos h
    have e2 : countI a c = stepC a.lic c.lic (stepC a.gpu c.gpu (stepC a.mem c.mem (stepC a.cpu c.cpu 64))) := if_pos ⟨h.1, hc, hz⟩
    rw [e1, e2]
    have ha := h.1
    simp only [resOk, decide_eq_true_eq] at ha hc
    exact stepC_mono ha.2.2.2.2.2.2.1 hc.2.2.2.2.2.2.1 h4 (stepC_mono ha.2.2.2.2.1 hc.2.2.2.2.1 h3 (stepC_mono ha.2.2.1 hc.2.2.1 h2 (stepC_mono ha.1 hc.1 h1 (Int.le_refl _))))
  · have e1 : countI a b = 0 := if_neg h
    rw [e1]
    exact countI_nonneg a c

theorem asc_mem {e : Int} : ∀ {l : List Int} {a : Int}, asc e a l = true → ∀ x, x ∈ l → a < x ∧ x < e
  | [], _, _, x, hx => by cases hx
  | n :: l, a, h, x, hx => by
    simp only [asc, Bool.and_eq_true, decide_eq_true_eq] at h
    rcases List.mem_cons.1 hx with rfl | hx
    · exact h.1
    · have := asc_mem h.2 x hx
      omega
theorem asc_len {e : Int} : ∀ {l : List Int} {a : Int}, asc e a l = true → l = [] ∨ (l.length : Int) + a < e
  | [], _, _ => .inl rfl
  | n :: l, a, h => by
    simp only [asc, Bool.and_eq_true, decide_eq_true_eq] at h
    right
    rcases asc_len h.2 with rfl | h2
    · simp only [List.length_cons, List.length_nil]; omega
    · simp only [List.length_cons]; omega

def z0 : Res := ⟨0, 0, 0, 0⟩
def roomG (s : Spec) (need : Res) (b x : Int) : Int := IntKind.wrap .i64 (b + countI (s.nodes.getD x.toNat z0) need)
def roomI (s : Spec) (part : Int) (need : Res) : Int := if specOk s = true ∧ 0 ≤ part ∧ part < s.parts.length then (s.parts.getD part.toNat []).foldl (roomG s need) 0 else 0

theorem specOk_part {s : Spec} (h : specOk s = true) {p : List Int} (hp : p ∈ s.parts) : asc s.nodes.length (-1) p = true ∧ s.nodes.length ≤ 16 := by
  simp only [specOk, Bool.and_eq_true] at h
  obtain ⟨h1, h2, _⟩ := h
  simp only [nodesOk, partsOk, Bool.and_eq_true, decide_eq_true_eq, List.all_eq_true] at h1 h2
  exact ⟨(h2.2 p hp).2, h1.1.2⟩

theorem p_Room (s : Spec) (hs : Rng.P s) (part : Int) (need : Res) : f112 s part need = some (roomI s part need) := by
  unfold f112 F112 roomI
  rw [p_Right s hs]
  simp only [Option.bind_some]
  cases hok : specOk s with
  | false => simp
  | true =>
    by_cases h1 : part < 0
    · simp [h1, show ¬ 0 ≤ part by omega]
    · by_cases h2 : (s.parts.length : Int) ≤ part
      · simp [h1, h2, show ¬ part < (s.parts.length : Int) by omega]
      · have h3 : 0 ≤ part := by omega
        have hlt : part.toNat < s.parts.length := by omega
        simp only [h1, h2, h3, show part < (s.parts.length : Int) by omega, decide_true, decide_false, Bool.not_true, cond_true, cond_false, true_and, if_true, List.getElem?_eq_getElem hlt, Option.bind_some, List.getD_eq_getElem?_getD, Option.getD_some]
        have hpm : s.parts[part.toNat] ∈ s.parts := List.getElem_mem hlt
        obtain ⟨hasc, hn⟩ := specOk_part hok hpm
        have hml : maxLen = 9223372036854775807 := rfl
        rw [fold_loop s.parts[part.toNat] (fun b z => (((), (), b, z, ()), (s, need, ()))) (roomG s need) some ?_ ?_ ?_ 0]
        · rcases asc_len hasc with h | h
          · rw [h]; simp
          · omega
        · intro b next
          simp [l112_0]
        · intro b z x next g0 g1 g2 g3
          have hx := asc_mem hasc x (List.mem_of_getElem? g2)
          have hxl : x.toNat < s.nodes.length := by omega
          simp only [l112_0, g0, g1, g2, g3, show 0 ≤ x by omega, decide_true, cond_true, Option.bind_some, p_Count, List.getElem?_eq_getElem hxl, roomG, List.getD_eq_getElem?_getD, Option.getD_some]

theorem room_fold {s : Spec} {b c : Res} (hm : ∀ a, countI a b ≤ countI a c) : ∀ (l : List Int) (x y : Int), 0 ≤ x → x ≤ y → y + 64 * l.length ≤ 1000000 → l.foldl (roomG s b) x ≤ l.foldl (roomG s c) y
  | [], x, y, _, h, _ => h
  | i :: l, x, y, h0, h, hl => by
    simp only [List.foldl_cons, List.length_cons] at hl ⊢
    have a1 := countI_nonneg (s.nodes.getD i.toNat z0) b
    have a2 := countI_le (s.nodes.getD i.toNat z0) c
    have a3 := hm (s.nodes.getD i.toNat z0)
    have e1 : roomG s b x i = x + countI (s.nodes.getD i.toNat z0) b := wi (by omega) (by omega)
    have e2 : roomG s c y i = y + countI (s.nodes.getD i.toNat z0) c := wi (by omega) (by omega)
    rw [e1, e2]
    exact room_fold hm l _ _ (by omega) (by omega) (by omega)
theorem room_mono {s : Spec} {part : Int} {b c : Res} (hm : ∀ a, countI a b ≤ countI a c) : roomI s part b ≤ roomI s part c := by
  unfold roomI
  split
  · rename_i h
    have hlt : part.toNat < s.parts.length := by omega
    have hpm : s.parts[part.toNat] ∈ s.parts := List.getElem_mem hlt
    obtain ⟨hasc, hn⟩ := specOk_part h.1 hpm
    rw [List.getD_eq_getElem?_getD, List.getElem?_eq_getElem hlt, Option.getD_some]
    refine room_fold hm _ 0 0 (Int.le_refl _) (Int.le_refl _) ?_
    rcases asc_len hasc with h | h
    · rw [h]; simp
    · omega
  · exact Int.le_refl _
def fitsB (s : Spec) (q many : Int) (need : Res) : Bool := specOk s && (decide (0 ≤ q) && (decide (q < s.queues.length) && (decide (1 ≤ many) && decide (many ≤ roomI s (s.queues.getD q.toNat ⟨0, [], 0, 0, 0, 0⟩).part need))))
theorem p_Fits (s : Spec) (hs : Rng.P s) (q many : Int) (need : Res) : f95 s q many need = some (fitsB s q many need) := by
  unfold f95 F95 fitsB
  rw [p_Right s hs]
  simp only [Option.bind_some]
  cases hok : specOk s with
  | false => simp
  | true =>
    by_cases h1 : q < 0
    · simp [h1, show ¬ 0 ≤ q by omega]
    · by_cases h2 : (s.queues.length : Int) ≤ q
      · simp [h1, h2, show ¬ q < (s.queues.length : Int) by omega]
      · have h3 : 0 ≤ q := by omega
        have hlt : q.toNat < s.queues.length := by omega
        by_cases h4 : many < 1
        · simp [h1, h2, h4, show ¬ 1 ≤ many by omega]
        · simp [h1, h2, h3, h4, show q < (s.queues.length : Int) by omega, show 1 ≤ many by omega, List.getElem?_eq_getElem hlt, p_Room s hs]
end NM
end Go.Proofs.YtgccppgpbnmaaaaDoor
set_option linter.unusedVariables false
set_option linter.unusedSimpArgs false
set_option maxHeartbeats 4000000
namespace Go.Proofs.YtgccppgpbnmaaaaDoor
namespace NM
open AM
namespace J
def inB (n lo hi : Int) : Bool := decide (lo ≤ n) && decide (n ≤ hi)
def resOk (a : Res) : Bool := decide (0 ≤ a.cpu ∧ a.cpu ≤ 1048576 ∧ 0 ≤ a.mem ∧ a.mem ≤ 1048576 ∧ 0 ≤ a.gpu ∧ a.gpu ≤ 1048576 ∧ 0 ≤ a.lic ∧ a.lic ≤ 1048576)
theorem p_numbers (a : Res) : f80 a = some (a.cpu, a.mem, a.gpu, a.lic) := rfl
theorem p_vecRight (a : Res) : f59 a = some (resOk a) := by
  unfold f59 F59
  simp only [p_numbers, Option.bind_some, cond_somes]
  congr 1
  rw [Bool.eq_iff_iff]
  simp [resOk]
theorem p_in (n lo hi : Int) : f89 n lo hi = some (inB n lo hi) := by
  unfold f89 F89
  simp only [cond_somes, Bool.cond_false_right, inB]
def afterB (j : Job) : Bool := j.after.all (fun d => inB d.job 1 (IntKind.wrap .i64 (j.id - 1)))
theorem p_afterRight (j : Job) (hj : j.after.length ≤ maxLen) : f90 j = some (decide (j.after.length ≤ 4) && afterB j) := by
  unfold f90 F90
  rw [all_loop j.after (fun z => (((), z, ()), (j, ()))) (fun d => inB d.job 1 (IntKind.wrap .i64 (j.id - 1))) true hj]
  · simp only [cond_somes, afterB, Bool.and_true]
    congr 1
    cases j.after.all _ <;> rw [Bool.eq_iff_iff] <;> simp <;> omega
  · intro next
    simp [l90_0]
  · intro z x next h0 h1 h2 h3
    simp only [l90_0, h0, h1, h2, h3, decide_true, cond_true, Option.bind_some, p_in]
    cases inB x.job 1 (IntKind.wrap .i64 (j.id - 1)) <;> rfl
theorem p_Waits (s : Int) : f93 s = some (decide (s = 1) || decide (s = 2)) := by
  unfold f93 F93
  simp only [cond_somes, Bool.cond_true_left]
theorem p_Over (s : Int) : f96 s = some (decide (s = 5) || decide (s = 6)) := by
  unfold f96 F96
  simp only [cond_somes, Bool.cond_true_left]
theorem p_Has (s : Int) : f110 s = some (decide (s = 3) || decide (s = 4)) := by
  unfold f110 F110
  simp only [cond_somes, Bool.cond_true_left]
def stB (j : Job) : Bool := decide (1 ≤ j.state ∧ j.state ≤ 6 ∧ (j.start = 0 ∨ 3 ≤ j.state) ∧ (j.fin = 0 ∨ 5 ≤ j.state) ∧ (j.ok = false ∨ j.state = 4 ∨ j.state = 5) ∧ (j.kill = false ∨ j.state = 4 ∨ j.state = 6))
theorem name_none (s : Int) : ∃ l, f109 s = some l ∧ (l = [] ↔ ¬ (1 ≤ s ∧ s ≤ 6)) := by
  unfold f109 F109
  simp only [cond_dec]
  repeat' split
  all_goals refine ⟨_, rfl, ?_⟩
  all_goals simp
  all_goals omega
theorem p_stateRight (j : Job) : f91 j = some (stB j) := by
  unfold f91 F91
  obtain ⟨l, h1, h2⟩ := name_none j.state
  simp only [h1, p_Waits, p_Over, Option.bind_some, cond_somes, cond_mk, cond_self]
  congr 1
  unfold stB
  rw [Bool.eq_iff_iff]
  by_cases hs : 1 ≤ j.state ∧ j.state ≤ 6
  · have hl : ¬ (l = []) := fun e => (h2.1 e) hs
    simp only [hl, decide_false, cond_false]
    cases j.ok <;> cases j.kill <;> by_cases g1 : j.start = 0 <;> by_cases g2 : j.fin = 0 <;> simp [g1, g2] <;> omega
  · have hl : l = [] := h2.2 hs
    simp [hl]
    omega
def needB (a : Res) : Bool := !((decide (a.cpu = 0)) && ((decide (a.mem = 0)) && ((decide (a.gpu = 0)) && ((decide (a.lic = 0)) && true))))
def jobOk (j : Job) : Bool := inB j.id 1 1048576 && (inB j.user 0 7 && (inB j.queue 0 7 && (inB j.many 1 64 && (resOk j.need && (needB j.need && (inB j.wall 1 65536 && ((decide (j.after.length ≤ 4) && afterB j) && (inB j.version 1 281474976710656 && (inB j.born 0 1099511627776 && (inB j.start 0 1099511627776 && (inB j.fin 0 1099511627776 && (inB j.array 0 j.id && stB j))))))))))))
theorem p_jobRight (j : Job) (hj : j.after.length ≤ maxLen) : f77 j = some (jobOk j) := by
  unfold f77 F77
  simp only [p_in, p_vecRight, p_afterRight j hj, p_stateRight, Option.bind_some, cond_somes, Bool.cond_false_right]
  rfl
/- the document's -/
theorem r_in (n lo hi : Int) : f52 n lo hi = some (inB n lo hi) := by
  unfold f52 F52
  simp only [cond_somes, Bool.cond_false_right, inB]
theorem r_right1 (n : Int) : f62 n = some (inB n 0 1048576) := by
  unfold f62 F62
  simp only [cond_somes, Bool.cond_false_right, inB]
theorem r_vecRight (a : Res) : f30 a = some (resOk a) := by
  unfold f30 F30
  simp only [r_right1, Option.bind_some, cond_somes, Bool.cond_false_right]
  congr 1
  rw [Bool.eq_iff_iff]
  simp [resOk, inB, and_assoc]
def fitsB (a b : Res) : Bool := decide (a.cpu ≤ b.cpu ∧ a.mem ≤ b.mem ∧ a.gpu ≤ b.gpu ∧ a.lic ≤ b.lic)
theorem r_Fits (a b : Res) : f53 a b = some (fitsB a b) := by
  unfold f53 F53
  simp only [cond_somes, Bool.cond_false_right]
  congr 1
  rw [Bool.eq_iff_iff]
  simp [fitsB]
def tailB (j : Job) : Bool := cond (decide (j.state ≤ 2)) (decide (j.start = 0) && cond (decide (j.state ≤ 4)) (decide (j.fin = 0) && kidB j) (kidB j)) (cond (decide (j.state ≤ 4)) (decide (j.fin = 0) && kidB j) (kidB j))
where
  kidB (j : Job) : Bool := cond (!j.ok) (cond (!j.kill) true (cond (decide (j.state = 4)) true (decide (j.state = 6)))) (cond (decide (j.state = 4)) (cond (!j.kill) true (cond (decide (j.state = 4)) true (decide (j.state = 6)))) (cond (decide (j.state = 5)) (cond (!j.kill) true (cond (decide (j.state = 4)) true (decide (j.state = 6)))) false))
theorem tail_ok (j : Job) : (inB j.state 1 6 && tailB j) = stB j := by
  unfold tailB tailB.kidB stB inB
  by_cases hs : 1 ≤ j.state ∧ j.state ≤ 6
  · have h6 : j.state = 1 ∨ j.state = 2 ∨ j.state = 3 ∨ j.state = 4 ∨ j.state = 5 ∨ j.state = 6 := by omega
    rcases h6 with e | e | e | e | e | e <;> rw [e] <;> cases j.ok <;> cases j.kill <;> by_cases g1 : j.start = 0 <;> by_cases g2 : j.fin = 0 <;> simp [g1, g2]
  · have h1 : (decide (1 ≤ j.state) && decide (j.state ≤ 6)) = false := by
      rw [Bool.eq_false_iff]; simp; omega
    rw [h1]
    simp
    omega
def restB (j : Job) : Bool := !decide (4 < (j.after.length : Int)) && (inB j.id 1 1048576 && (inB j.user 0 7 && (inB j.queue 0 7 && (inB j.many 1 64 && (resOk j.need && (!fitsB j.need ⟨0, 0, 0, 0⟩ && (inB j.wall 1 65536 && (inB j.state 1 6 && (inB j.version 1 281474976710656 && (inB j.array 0 j.id && (inB j.born 0 1099511627776 && (inB j.start 0 1099511627776 && (inB j.fin 0 1099511627776 && tailB j)))))))))))))
theorem need_ok {a : Res} (h : resOk a = true) : (!fitsB a ⟨0, 0, 0, 0⟩) = needB a := by
  simp only [resOk, decide_eq_true_eq] at h
  unfold fitsB needB
  congr 1
  rw [Bool.eq_iff_iff]
  simp
  omega
theorem rest_ok (j : Job) : (afterB j && restB j) = jobOk j := by
  rw [Bool.eq_iff_iff]
  have ht := tail_ok j
  have hl : (!decide (4 < (j.after.length : Int))) = decide (j.after.length ≤ 4) := by
    rw [Bool.eq_iff_iff]; simp; omega
  unfold restB jobOk
  rw [hl, ← ht]
  simp only [Bool.and_eq_true]
  constructor
  · rintro ⟨a, b, c, d, e, f, g, h, i, k, l, m, n, o, p, q⟩
    rw [need_ok g] at h
    exact ⟨c, d, e, f, g, h, i, ⟨b, a⟩, l, n, o, p, m, k, q⟩
  · rintro ⟨c, d, e, f, g, h, i, ⟨b, a⟩, l, n, o, p, m, k, q⟩
    rw [← need_ok g] at h
    exact ⟨a, b, c, d, e, f, g, h, i, k, l, m, n, o, p, q⟩
theorem r_jobRight (j : Job) (hj : j.after.length ≤ maxLen) : f24 j = some (jobOk j) := by
  unfold f24 F24
  rw [all_loop j.after (fun z => (((), z, ()), (j, ()))) (fun d => inB d.job 1 (IntKind.wrap .i64 (j.id - 1))) (restB j) hj]
  · congr 1
    exact rest_ok j
  · intro next
    simp only [l24_0, Int.lt_irrefl, decide_false, cond_false, r_in, r_vecRight, r_Fits, Option.bind_some, cond_somes, elim_cond, Sum.elim_inl, Sum.elim_inr, Bool.cond_false_left, Bool.not_not]
    rfl
  · intro z x next h0 h1 h2 h3
    simp only [l24_0, h0, h1, h2, h3, decide_true, cond_true, Option.bind_some, r_in]
    cases inB x.job 1 (IntKind.wrap .i64 (j.id - 1)) <;> rfl

/- whether two are the same -/
def depB (x y : Dep) : Bool := (decide (x.job = y.job)) && ((x.ok == y.ok) && true)
def depsB (l m : List Dep) : Bool := decide (l.length = m.length) && (l.zip m).all (fun a => depB a.1 a.2)
theorem depB_refl (x : Dep) : depB x x = true := by simp [depB]
theorem depsB_refl (l : List Dep) : depsB l l = true := by
  unfold depsB
  simp only [decide_true, Bool.true_and]
  induction l with
  | nil => rfl
  | cons x l ih => simp only [List.zip_cons_cons, List.all_cons, depB_refl, ih, Bool.and_self]
def needSame (a b : Res) : Bool := (decide (a.cpu = b.cpu)) && ((decide (a.mem = b.mem)) && ((decide (a.gpu = b.gpu)) && ((decide (a.lic = b.lic)) && true)))
def sameB (a b : Job) : Bool := decide (a.id = b.id) && (decide (a.user = b.user) && (decide (a.queue = b.queue) && (decide (a.many = b.many) && (needSame a.need b.need && (decide (a.wall = b.wall) && (depsB a.after b.after && (decide (a.state = b.state) && ((a.ok == b.ok) && ((a.kill == b.kill) && (decide (a.version = b.version) && (decide (a.born = b.born) && (decide (a.start = b.start) && (decide (a.fin = b.fin) && decide (a.array = b.array))))))))))))))
theorem sameB_refl (a : Job) : sameB a a = true := by simp [sameB, needSame, depsB_refl]
def fldB (a b : Job) : Bool := decide (a.id = b.id) && (decide (a.user = b.user) && (decide (a.queue = b.queue) && (decide (a.many = b.many) && (needSame a.need b.need && (decide (a.wall = b.wall) && (decide (a.state = b.state) && ((a.ok == b.ok) && ((a.kill == b.kill) && (decide (a.version = b.version) && (decide (a.born = b.born) && (decide (a.start = b.start) && (decide (a.fin = b.fin) && decide (a.array = b.array)))))))))))))
theorem p_Clone (l : List Dep) (hl : l.length ≤ 4294967296) : f54 l = some ((), (l, ())) := by
  unfold f54 cloneF
  cases l with
  | nil => rfl
  | cons x l =>
    unfold F54
    have : smallB (0 + (x :: l).length) 16 = true := by
      simp only [smallB, Bool.and_eq_true, decide_eq_true_eq]
      simp at hl ⊢
      omega
    simp only [List.isEmpty_cons, cond_false, this, cond_true, List.nil_append]
end J
theorem p_Such (k : Int) : f50 k = some (decide (2 ≤ k ∧ k ≤ 5)) := by
  unfold f50 F50
  by_cases h0 : 0 ≤ k
  · by_cases h6 : k < 6
    · rcases (by omega : k = 0 ∨ k = 1 ∨ k = 2 ∨ k = 3 ∨ k = 4 ∨ k = 5) with rfl | rfl | rfl | rfl | rfl | rfl <;> rfl
    · simp [h0, h6]; omega
  · simp [h0]; omega
/-- what comes next; 0: nothing -/
def nextI (s w : Int) : Int × Bool :=
  if w = 1 ∧ s = 1 then (2, true) else if w = 2 ∧ s = 2 then (1, true) else if w = 6 ∧ s = 3 then (4, true) else if w = 6 ∧ (s = 1 ∨ s = 2) then (6, true) else (0, false)
theorem p_Next (s w : Int) (h : w = 1 ∨ w = 2 ∨ w = 6) : f92 s w = some ((nextI s w).1, (nextI s w).2, ()) := by
  unfold f92 F92 nextI
  rcases h with rfl | rfl | rfl
  · by_cases h1 : s = 1
    · simp [h1]
    · simp [h1]
  · by_cases h1 : s = 2
    · simp [h1]
    · simp [h1]
  · by_cases h1 : s = 3
    · simp [h1]
    · by_cases h2 : s = 1
      · simp [h2, J.p_Waits]
      · by_cases h3 : s = 2
        · simp [h3, J.p_Waits]
        · simp [h1, h2, h3, J.p_Waits]
def demandI (r : Request) : Int := if r.many < 1 then 2 else if 64 < r.many then 2 else if resOk r.need = true then (if zRes r.need = true then 2 else if r.wall < 1 then 2 else if 65536 < r.wall then 2 else (timesG r.need r.many).2) else 2
theorem p_Demand (r : Request) : f94 r = some (demandI r) := by
  have ht : f111 r.need r.many = some ((timesG r.need r.many).1, (timesG r.need r.many).2, ()) := rfl
  have hz : ((decide (r.need.cpu = 0)) && ((decide (r.need.mem = 0)) && ((decide (r.need.gpu = 0)) && ((decide (r.need.lic = 0)) && true)))) = zRes r.need := rfl
  unfold f94 F94 demandI
  simp only [p_vecRight, ht, hz, Option.bind_some]
  by_cases h1 : r.many < 1
  · simp [h1]
  · by_cases h2 : 64 < r.many
    · simp [h1, h2]
    · by_cases h3 : r.wall < 1
      · cases resOk r.need <;> cases zRes r.need <;> simp [h1, h2, h3]
      · by_cases h4 : 65536 < r.wall <;> cases resOk r.need <;> cases zRes r.need <;> simp [h1, h2, h3, h4]
def whatI (k : Int) : Int := if k = 3 then 1 else if k = 4 then 2 else 6
def possI (s : Spec) (j : Job) (r : Request) : Int :=
  if r.kind = 2 then (if j.state = 1 ∨ j.state = 2 then (if demandI r = 0 then (if fitsB s j.queue r.many r.need = true then 0 else 37) else demandI r) else 31)
  else if (nextI j.state (whatI r.kind)).2 = true then 0 else 31
theorem p_possible (s : Spec) (hs : Rng.P s) (j : Job) (r : Request) (hk : 2 ≤ r.kind ∧ r.kind ≤ 5) : f78 s j r = some (possI s j r) := by
  unfold f78 F78 possI
  rcases (by omega : r.kind = 2 ∨ r.kind = 3 ∨ r.kind = 4 ∨ r.kind = 5) with h | h | h | h
  · simp only [h, show decide ((2 : Int) = 5) = false from rfl, show decide ((2 : Int) = 4) = false from rfl, show decide ((2 : Int) = 3) = false from rfl, show decide ((2 : Int) = 2) = true from rfl, decide_true, cond_true, cond_false, J.p_Waits, p_Demand, p_Fits s hs, Option.bind_some, if_true]
    by_cases h1 : j.state = 1 ∨ j.state = 2
    · have e : (decide (j.state = 1) || decide (j.state = 2)) = true := by simpa using h1
      rw [e, if_pos h1]
      by_cases h2 : demandI r = 0
      · cases h3 : fitsB s j.queue r.many r.need <;> simp [h2]
      · simp [h2]
    · have e : (decide (j.state = 1) || decide (j.state = 2)) = false := by simpa using h1
      rw [e, if_neg h1]
      rfl
  · simp only [h, show decide ((3 : Int) = 5) = false from rfl, show decide ((3 : Int) = 4) = false from rfl, show decide ((3 : Int) = 3) = true from rfl, cond_true, cond_false, whatI, p_Next j.state 1 (.inl rfl), Option.bind_some]
    have hx := p_Next j.state 1 (.inl rfl)
    cases hq : (nextI j.state 1).2 <;> rw [hq] at hx <;> simp [h, hx, hq]
  · simp only [h, show decide ((4 : Int) = 5) = false from rfl, show decide ((4 : Int) = 4) = true from rfl, cond_true, cond_false, whatI, p_Next j.state 2 (.inr (.inl rfl)), Option.bind_some]
    have hx := p_Next j.state 2 (.inr (.inl rfl))
    cases hq : (nextI j.state 2).2 <;> rw [hq] at hx <;> simp [h, hx, hq]
  · simp only [h, show decide ((5 : Int) = 5) = true from rfl, cond_true, cond_false, whatI, p_Next j.state 6 (.inr (.inr rfl)), Option.bind_some]
    have hx := p_Next j.state 6 (.inr (.inr rfl))
    cases hq : (nextI j.state 6).2 <;> rw [hq] at hx <;> simp [h, hx, hq]
def checkI (s : Spec) (j : Job) (u : Int) (r : Request) : Int :=
  if ¬ (2 ≤ r.kind ∧ r.kind ≤ 5) then 2 else if ¬ specOk s = true then 2 else if ¬ J.jobOk j = true then 2 else if u < 0 then 2 else if s.users ≤ u then 2
  else if u ≠ j.user ∧ u ≠ 0 then 33 else if r.version ≠ 0 ∧ r.version ≠ j.version then 32 else if possI s j r ≠ 0 then possI s j r else if s.versions ≤ j.version then 41 else 0
theorem p_Check (s : Spec) (hs : Rng.P s) (j : Job) (hj : j.after.length ≤ maxLen) (u : Int) (r : Request) : f56 s j u r = some (checkI s j u r) := by
  unfold f56 F56 checkI
  simp only [p_Such, p_Right s hs, J.p_jobRight j hj, Option.bind_some]
  by_cases h1 : 2 ≤ r.kind ∧ r.kind ≤ 5
  · rw [if_neg (fun h => h h1)]
    simp only [h1, and_self, decide_true, Bool.not_true, cond_false]
    cases h2 : specOk s with
    | false => simp
    | true =>
      cases h3 : J.jobOk j with
      | false => simp
      | true =>
        simp only [Bool.not_true, cond_false, not_true, if_false]
        by_cases h4 : u < 0
        · simp [h4]
        · by_cases h5 : s.users ≤ u
          · simp [h4, h5]
          · simp only [h4, h5, decide_false, cond_false, if_false]
            by_cases h6 : u ≠ j.user ∧ u ≠ 0
            · simp [h6]
            · rw [if_neg h6]
              have e6 : (cond (!decide (u = j.user)) (cond (!decide (u = 0)) (some (.inr (33 : Int))) (some (.inl (((), (), (), ()), (s, j, r, ()))))) (some (.inl (((), (), (), ()), (s, j, r, ()))))) = (some (.inl (((), (), (), ()), (s, j, r, ()))) : Option (((Unit × (Unit × (Unit × Unit))) × (Spec × (Job × (Request × Unit)))) ⊕ Int)) := by
                by_cases a : u = j.user
                · simp [a]
                · by_cases b : u = 0
                  · simp [a, b]
                  · exact absurd ⟨a, b⟩ h6
              rw [e6]
              simp only [Option.bind_some, Sum.elim_inl]
              by_cases h7 : r.version ≠ 0 ∧ r.version ≠ j.version
              · simp [h7]
              · rw [if_neg h7]
                have e7 : (cond (!decide (r.version = 0)) (cond (!decide (r.version = j.version)) (some (.inr (32 : Int))) (some (.inl (((), (), (), ()), (s, j, r, ()))))) (some (.inl (((), (), (), ()), (s, j, r, ()))))) = (some (.inl (((), (), (), ()), (s, j, r, ()))) : Option (((Unit × (Unit × (Unit × Unit))) × (Spec × (Job × (Request × Unit)))) ⊕ Int)) := by
                  by_cases a : r.version = 0
                  · simp [a]
                  · by_cases b : r.version = j.version
                    · simp [a, b]
                    · exact absurd ⟨a, b⟩ h7
                rw [e7]
                simp only [Option.bind_some, Sum.elim_inl, p_possible s hs j r h1]
                by_cases h8 : possI s j r = 0
                · by_cases h9 : s.versions ≤ j.version <;> simp [h8, h9]
                · simp [h8]
  · rw [if_pos h1]
    simp [h1]
/-- the job behind a change -/
def stepI (j : Job) (w now : Int) : Job :=
  Job.mk j.id j.user j.queue j.many j.need j.wall j.after (nextI j.state w).1 (if w = 6 then false else j.ok) (if w = 6 then true else j.kill) (j.version + 1) j.born j.start (if (nextI j.state w).1 = 5 ∨ (nextI j.state w).1 = 6 then now else j.fin) j.array
theorem p_Step (j : Job) (hj : j.after.length ≤ 1000) (w now : Int) (hw : w = 1 ∨ w = 2 ∨ w = 6) (hok : J.jobOk j = true) (hn : 0 ≤ now ∧ now ≤ 1099511627776) (hx : (nextI j.state w).2 = true) (hv : 0 ≤ j.version ∧ j.version ≤ 65536) :
    f79 j w now false = some (stepI j w now, 0, ()) := by
  have hml : maxLen = 9223372036854775807 := rfl
  unfold f79 F79 stepI
  have hin : J.inB now 0 1099511627776 = true := by simp only [J.inB, Bool.and_eq_true, decide_eq_true_eq]; exact hn
  have w1 : IntKind.wrap .i64 (j.version + 1) = j.version + 1 := wi (by omega) (by omega)
  simp only [J.p_jobRight j (show j.after.length ≤ maxLen by omega), hok, J.p_in, hin, p_Next j.state w hw, hx, J.p_Clone j.after (by omega), w1, J.p_Over, Option.bind_some, Bool.not_true, cond_false, show ¬ j.version = 281474976710656 by omega, decide_false]
  rcases hw with rfl | rfl | rfl
  · by_cases h1 : (nextI j.state 1).1 = 5 ∨ (nextI j.state 1).1 = 6
    · have e : (decide ((nextI j.state 1).1 = 5) || decide ((nextI j.state 1).1 = 6)) = true := by simpa using h1
      simp [e, h1]
    · have e : (decide ((nextI j.state 1).1 = 5) || decide ((nextI j.state 1).1 = 6)) = false := by simpa using h1
      simp [e, h1]
  · by_cases h1 : (nextI j.state 2).1 = 5 ∨ (nextI j.state 2).1 = 6
    · have e : (decide ((nextI j.state 2).1 = 5) || decide ((nextI j.state 2).1 = 6)) = true := by simpa using h1
      simp [e, h1]
    · have e : (decide ((nextI j.state 2).1 = 5) || decide ((nextI j.state 2).1 = 6)) = false := by simpa using h1
      simp [e, h1]
  · by_cases h1 : (nextI j.state 6).1 = 5 ∨ (nextI j.state 6).1 = 6
    · have e : (decide ((nextI j.state 6).1 = 5) || decide ((nextI j.state 6).1 = 6)) = true := by simpa using h1
      simp [e, h1]
    · have e : (decide ((nextI j.state 6).1 = 5) || decide ((nextI j.state 6).1 = 6)) = false := by simpa using h1
      simp [e, h1]
def applyI (j : Job) (now : Int) (r : Request) : Job :=
  if r.kind = 2 then Job.mk j.id j.user j.queue r.many r.need r.wall j.after j.state j.ok j.kill (j.version + 1) j.born j.start j.fin j.array else stepI j (whatI r.kind) now
theorem specOk_versions {s : Spec} (h : specOk s = true) : s.versions ≤ 65536 := by
  simp only [specOk, Bool.and_eq_true] at h
  obtain ⟨_, _, _, _, _, _, _, _, _, hv, _⟩ := h
  simp only [inB, Bool.and_eq_true, decide_eq_true_eq] at hv
  exact hv.2
theorem jobOk_version {j : Job} (h : J.jobOk j = true) : 1 ≤ j.version := by
  simp only [J.jobOk, Bool.and_eq_true] at h
  obtain ⟨_, _, _, _, _, _, _, _, hv, _⟩ := h
  simp only [J.inB, Bool.and_eq_true, decide_eq_true_eq] at hv
  exact hv.1
/-- what a right request finds -/
structure Found (s : Spec) (j : Job) (u : Int) (r : Request) : Prop where
  kind : 2 ≤ r.kind ∧ r.kind ≤ 5
  spec : specOk s = true
  job : J.jobOk j = true
  user : 0 ≤ u ∧ u < s.users
  mine : u = j.user ∨ u = 0
  version : r.version = 0 ∨ r.version = j.version
  poss : possI s j r = 0
  room : j.version < s.versions
theorem found_of {s : Spec} {j : Job} {u : Int} {r : Request} (h : checkI s j u r = 0) : Found s j u r := by
  unfold checkI at h
  split at h; · cases h
  split at h; · cases h
  split at h; · cases h
  split at h; · cases h
  split at h; · cases h
  split at h; · cases h
  split at h; · cases h
  split at h; · omega
  split at h; · cases h
  refine ⟨by omega, by simp_all, by simp_all, by omega, by omega, by omega, by omega, by omega⟩
theorem p_apply (s : Spec) (j : Job) (hj : j.after.length ≤ 1000) (now : Int) (r : Request) (u : Int) (hn : 0 ≤ now ∧ now ≤ 1099511627776) (h : Found s j u r) : f57 j now r = some (applyI j now r, 0, ()) := by
  have hv1 := jobOk_version h.job
  have hv2 := specOk_versions h.spec
  have hv3 := h.room
  have hk := h.kind
  have hp := h.poss
  unfold f57 F57 applyI
  unfold possI at hp
  rcases (by omega : r.kind = 2 ∨ r.kind = 3 ∨ r.kind = 4 ∨ r.kind = 5) with hk2 | hk2 | hk2 | hk2
  · have w := wi (show (-9223372036854775808 : Int) ≤ j.version + 1 by omega) (by omega)
    simp [hk2, w]
  · simp only [hk2, whatI] at hp ⊢
    have hx : (nextI j.state 1).2 = true := by
      cases hq : (nextI j.state 1).2 with
      | true => rfl
      | false => simp [hq] at hp
    have := p_Step j hj 1 now (.inl rfl) h.job hn hx ⟨by omega, by omega⟩
    simp [hk2, this]
  · simp only [hk2, whatI] at hp ⊢
    have hx : (nextI j.state 2).2 = true := by
      cases hq : (nextI j.state 2).2 with
      | true => rfl
      | false => simp [hq] at hp
    have := p_Step j hj 2 now (.inr (.inl rfl)) h.job hn hx ⟨by omega, by omega⟩
    simp [hk2, this]
  · simp only [hk2, whatI] at hp ⊢
    have hx : (nextI j.state 6).2 = true := by
      cases hq : (nextI j.state 6).2 with
      | true => rfl
      | false => simp [hq] at hp
    have := p_Step j hj 6 now (.inr (.inr rfl)) h.job hn hx ⟨by omega, by omega⟩
    simp [hk2, this]
/-- what is done -/
theorem p_Do (s : Spec) (hs : Rng.P s) (j : Job) (hj : j.after.length ≤ 1000) (now : Int) (c : Call) :
    (∃ e, e ≠ 0 ∧ f26 s j now c = some (j, Reply.mk c.request.key e 0 0 [], ()) ∧ (0 ≤ now ∧ now ≤ 1099511627776 → e = checkI s j c.user c.request)) ∨
    (0 ≤ now ∧ now ≤ 1099511627776 ∧ Found s j c.user c.request ∧ f26 s j now c = some (applyI j now c.request, Reply.mk c.request.key 0 (applyI j now c.request).id (applyI j now c.request).version [], ())) := by
  have hml : maxLen = 9223372036854775807 := rfl
  have hR : ∀ k e : Int, f55 k e = some (Reply.mk k e 0 0 []) := fun k e => rfl
  unfold f26 F26
  simp only [J.p_Clone j.after (by omega), hR, Option.bind_some]
  by_cases h1 : now < 0
  · exact .inl ⟨2, by omega, by simp [h1], fun h => by omega⟩
  · by_cases h2 : 1099511627776 < now
    · exact .inl ⟨2, by omega, by simp [h1, h2], fun h => by omega⟩
    · simp only [h1, h2, decide_false, cond_false, p_Check s hs j (show j.after.length ≤ maxLen by omega), Option.bind_some]
      by_cases h3 : checkI s j c.user c.request = 0
      · right
        have hf := found_of h3
        refine ⟨by omega, by omega, hf, ?_⟩
        simp only [h3, decide_true, Bool.not_true, cond_false, p_apply s j hj now c.request c.user ⟨by omega, by omega⟩ hf, Option.bind_some]
      · left
        exact ⟨checkI s j c.user c.request, h3, by simp [h3], fun _ => rfl⟩
end NM
end Go.Proofs.YtgccppgpbnmaaaaDoor
set_option linter.unusedVariables false
set_option linter.unusedSimpArgs false
set_option maxHeartbeats 4000000
namespace Go.Proofs.YtgccppgpbnmaaaaDoor
namespace NM
open AM
theorem awakeAl : f21 = some true := by kernel_rfl
theorem applyI_id (j : Job) (now : Int) (r : Request) : (applyI j now r).id = j.id := by unfold applyI stepI; split <;> rfl
theorem applyI_version (j : Job) (now : Int) (r : Request) : (applyI j now r).version = j.version + 1 := by unfold applyI stepI; split <;> rfl
theorem applyI_after (j : Job) (now : Int) (r : Request) : (applyI j now r).after = j.after := by unfold applyI stepI; split <;> rfl
theorem r_FewC (l : List Call) (hl : l.length ≤ maxLen) : ∃ b, f25 l = some b := by
  unfold f25 F25
  by_cases h : 12 < (l.length : Int)
  · exact ⟨false, by simp [h]⟩
  · simp only [h, decide_false, cond_false]
    rw [all_loop l (fun z => ((z, ()), ())) (fun c => decide (c.request.after.length ≤ 20)) true hl]
    · exact ⟨_, rfl⟩
    · intro next
      simp [l25_0]
    · intro z j next h0 h1 h2 h3
      simp only [l25_0, h0, h1, h2, h3, decide_true, cond_true, Option.bind_some]
      by_cases c : j.request.after.length ≤ 20
      · simp [c, show ¬ 20 < (j.request.after.length : Int) by omega]
      · simp [c, show 20 < (j.request.after.length : Int) by omega]
theorem law_AlterVersions (s : Spec) (hs : Rng.P s) (j : Job) (hj : Rng.P j) (x : Int × List Call × Int) (hx : Rng.P x) : f6 s j x = some true := by
  have hml : maxLen = 9223372036854775807 := rfl
  have hja : j.after.length ≤ maxLen := hj.2.2.2.2.2.2.1.1
  have hc : x.2.1.length ≤ maxLen := hx.2.1.1
  unfold f6 F6
  simp only [awakeAl, r_Few s hs, r_Right s hs, J.r_jobRight j hja, Option.bind_some, Bool.not_true, cond_false]
  cases fewB s with
  | false => rfl
  | true =>
    cases specOk s with
    | false => rfl
    | true =>
      cases J.jobOk j with
      | false => rfl
      | true =>
        by_cases h20 : 20 < (j.after.length : Int)
        · simp [h20]
        · obtain ⟨b, hb⟩ := r_FewC x.2.1 hc
          simp only [h20, hb, Bool.not_true, decide_false, cond_false, Option.bind_some]
          cases b with
          | false => rfl
          | true =>
            simp only [Bool.not_true, cond_false]
            have key := list_loopI (β := Job) (f := fun (s8 : ((Unit × (Unit × (Unit × (Int × (Int × Unit))))) × (Spec × (Job × ((Int × ((List Call) × Int)) × Unit))))) nx9 => l6_0 f26 x nx9 s8.1.2.2.2.1 s8.1.2.2.2.2.1 s8.2.1 s8.2.2.1 s8.2.2.2.1) x.2.1 (fun k z => (((), (), (), k.version, z, ()), (s, k, x, ()))) (fun k z => k.after.length ≤ 20)
              (fun k c => .inl (if 0 ≤ x.1 ∧ x.1 ≤ 1099511627776 ∧ checkI s k c.user c.request = 0 then applyI k x.1 c.request else k)) (fun _ => some true) hc
              (fun k next _ => by simp [l6_0])
              (fun k z c next hI g0 g1 g2 g3 => by
                rcases p_Do s hs k (by omega) x.1 c with ⟨e, he, h1, h2⟩ | ⟨n1, n2, hf, h1⟩
                · have hno : ¬ (0 ≤ x.1 ∧ x.1 ≤ 1099511627776 ∧ checkI s k c.user c.request = 0) := fun h => he ((h2 ⟨h.1, h.2.1⟩).trans h.2.2)
                  rw [if_neg hno]
                  refine ⟨hI, ?_⟩
                  simp only [l6_0, g0, g1, g2, g3, h1, he, decide_true, decide_false, cond_true, cond_false, Option.bind_some, Bool.not_true, Bool.not_false]
                · have hc0 : checkI s k c.user c.request = 0 := by
                    rcases Classical.em (checkI s k c.user c.request = 0) with h | h
                    · exact h
                    · exfalso
                      have := p_Check s hs k (by omega) c.user c.request
                      unfold checkI at h
                      rw [if_neg (fun g => g hf.kind), if_neg (fun g => g hf.spec), if_neg (fun g => g hf.job), if_neg (by have := hf.user; omega), if_neg (by have := hf.user; omega), if_neg (by have := hf.mine; omega), if_neg (by have := hf.version; omega), if_neg (by have := hf.poss; omega), if_neg (by have := hf.room; omega)] at h
                      exact h rfl
                  rw [if_pos ⟨n1, n2, hc0⟩]
                  refine ⟨by rw [applyI_after]; exact hI, ?_⟩
                  have hv1 := jobOk_version hf.job
                  have hv2 := specOk_versions hf.spec
                  have hv3 := hf.room
                  have w : IntKind.wrap .i64 (k.version + 1) = k.version + 1 := wi (by omega) (by omega)
                  have hroom : ¬ s.versions < k.version + 1 := by omega
                  simp only [l6_0, g0, g1, g2, g3, h1, applyI_version, applyI_id, w, hroom, decide_true, decide_false, cond_true, cond_false, Option.bind_some, Bool.not_true, Bool.not_false]
                  rcases hf.version with hv | hv
                  · simp only [hv, decide_true, Bool.not_true, cond_false, Option.bind_some, applyI_version]
                  · by_cases hz : c.request.version = 0
                    · simp only [hz, decide_true, Bool.not_true, cond_false, Option.bind_some, applyI_version]
                    · have hz' : ¬ k.version = 0 := by omega
                      simp only [hv, hz', decide_true, decide_false, Bool.not_true, Bool.not_false, cond_true, cond_false, Option.bind_some, applyI_version]) j (by omega)
            refine Eq.trans key ?_
            rw [runL_fold]
end NM
namespace alterVersions
open NM AM
theorem walk (x0 : Spec) (x1 : Job) (x2 : Int × List Call × Int) (v0 v1 v2 : Value) (W : World) (hgl : GlobR W (Lt W.heap.size)) (h0 : V W (Lt W.heap.size) x0 v0) (h1 : V W (Lt W.heap.size) x1 v1) (h2 : V W (Lt W.heap.size) x2 v2) :
    Calls Tryd.prog 6 #[v0, v1, v2] W fun e w' => e = .returned (.bool true) ∧ Go.RowKit.Below W.heap.size W w' :=
  nlaw_walk NM.ok6 (x := (NEnc.f x0, NEnc.f x1, NEnc.f x2, ())) (by rw [show (NEnc.f x2 : Int × List Call × Int) = x2 from Prod.ext rfl (Prod.ext (List.map_id' x2.2.1) rfl)]; exact law_AlterVersions x0 (Rng.ok h0.1) x1 (Rng.ok h1.1) x2 (Rng.ok h2.1)) (arg_cons x0 (arg_cons x1 (arg_cons x2 arg_nil))) rfl (fun j a v ha hv => by
    match j with
    | 0 => simp at ha hv; subst ha; subst hv; exact h0.vr (fun _ h => h) _
    | 1 => simp at ha hv; subst ha; subst hv; exact h1.vr (fun _ h => h) _
    | 2 => simp at ha hv; subst ha; subst hv; exact h2.vr (fun _ h => h) _) hgl
end alterVersions
end Go.Proofs.YtgccppgpbnmaaaaDoor
