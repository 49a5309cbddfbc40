/-
  Set-ups: what the functions of package spec and of the document's chapter compute.
-/
import Derived.Test.YtacaeonoogkkaaaRankSomeM
import Derived.Test.YtacaeonoogkkaaaNmR
set_option linter.unusedVariables false
set_option linter.unusedSimpArgs false
namespace Go.Proofs.Ytacaeonoogkkaaa
namespace NM
open AM

def resOk (a : Res) : Bool := decide (0 ≤ a.cpu ∧ a.cpu ≤ 1048576 ∧ 0 ≤ a.mem ∧ a.mem ≤ 1048576 ∧ 0 ≤ a.gpu ∧ a.gpu ≤ 1048576 ∧ 0 ≤ a.lic ∧ a.lic ≤ 1048576)
/-- rising, from above a number on, below another -/
def asc (e : Int) : Int → List Int → Bool
  | _, [] => true
  | a, n :: l => decide (a < n) && decide (n < e) && asc e n l
def nodesOk (s : Spec) : Bool := decide (1 ≤ s.nodes.length ∧ s.nodes.length ≤ 16) && s.nodes.all resOk
def partsOk (s : Spec) : Bool := decide (1 ≤ s.parts.length ∧ s.parts.length ≤ 8) && s.parts.all fun p => decide (1 ≤ p.length) && asc s.nodes.length (-1) p
def queueOk (s : Spec) (q : Queue) : Bool := decide (0 ≤ q.part ∧ q.part < s.parts.length) && asc s.users (-1) q.users && decide (1 ≤ q.maxJobs ∧ q.maxJobs ≤ 256 ∧ 1 ≤ q.maxRun ∧ q.maxRun ≤ 256 ∧ 1 ≤ q.maxUser ∧ q.maxUser ≤ 256 ∧ 0 ≤ q.qos ∧ q.qos ≤ 100)
def queuesOk (s : Spec) : Bool := decide (1 ≤ s.queues.length ∧ s.queues.length ≤ 8) && s.queues.all (queueOk s)
def weightsOk (w : Weights) : Bool := decide (0 ≤ w.age ∧ w.age ≤ 1000 ∧ 0 ≤ w.size ∧ w.size ≤ 1000 ∧ 0 ≤ w.qos ∧ w.qos ≤ 1000 ∧ 0 ≤ w.share ∧ w.share ≤ 1000)

theorem p_numbers (a : Res) : f141 a = some (a.cpu, a.mem, a.gpu, a.lic) := rfl
theorem p_vecRight (a : Res) : f93 a = some (resOk a) := by
  unfold f93 F93
  simp only [p_numbers, Option.bind_some, cond_somes]
  congr 1
  rw [Bool.eq_iff_iff]
  simp [resOk]

theorem p_nodesRight (s : Spec) (hs : Rng.P s) : f176 s = some (nodesOk s) := by
  unfold f176 F176
  rw [all_loop s.nodes (fun z => ((z, ()), ())) resOk true hs.1.1]
  · simp only [cond_somes, nodesOk, Bool.and_true]
    congr 1
    cases s.nodes.all resOk <;> rw [Bool.eq_iff_iff] <;> simp <;> omega
  · intro next
    simp [l176_0]
  · intro z x next h0 h1 h2 h3
    simp only [l176_0, h0, h1, h2, h3, decide_true, cond_true, Option.bind_some, p_vecRight]
    cases resOk x <;> rfl

theorem p_ascending (l : List Int) (hl : l.length ≤ maxLen) (e : Int) : f204 l e = some (asc e (-1) l) := by
  unfold f204 F204
  rw [list_loop l (fun b z => ((b, z, ()), ())) (fun b x => cond (decide (x ≤ b) || decide (e ≤ x)) (.inr (some false)) (.inl x)) (fun _ => some true) hl]
  · generalize (-1 : Int) = a
    clear hl
    induction l generalizing a with
    | nil => rfl
    | cons n l ih =>
      simp only [runL, asc]
      by_cases h1 : n ≤ a
      · simp [h1]; omega
      · by_cases h2 : e ≤ n
        · simp [h1, h2]; omega
        · have h3 : a < n := by omega
          have h4 : n < e := by omega
          simp [h1, h2, h3, h4, ih]
  · intro b next
    simp [l204_0]
  · intro b z x next h0 h1 h2 h3
    simp only [l204_0, h0, h1, h2, h3, decide_true, cond_true, Option.bind_some]
    by_cases h4 : x ≤ b <;> by_cases h5 : e ≤ x <;> simp [h4, h5]

theorem p_partsRight (s : Spec) (hs : Rng.P s) : f178 s = some (partsOk s) := by
  unfold f178 F178
  rw [all_loop s.parts (fun z => (((), z, ()), (s, ()))) (fun p => decide (1 ≤ p.length) && asc s.nodes.length (-1) p) true hs.2.1.1]
  · simp only [cond_somes, partsOk, Bool.and_true]
    congr 1
    cases s.parts.all _ <;> rw [Bool.eq_iff_iff] <;> simp <;> omega
  · intro next
    simp [l178_0]
  · intro z x next h0 h1 h2 h3
    have hx := (hs.2.1.2 x (List.mem_of_getElem? h2)).1
    simp only [l178_0, h0, h1, h2, h3, decide_true, cond_true, Option.bind_some, p_ascending x hx]
    by_cases h4 : x.length < 1
    · have : x = [] := List.eq_nil_of_length_eq_zero (by omega)
      simp [this]
    · have h5 : 1 ≤ x.length := by omega
      have h6 : ¬ ((x.length : Int) < 1) := by omega
      simp only [h5, h6, decide_true, decide_false, cond_false, Bool.true_and]
      cases asc s.nodes.length (-1) x <;> rfl

theorem p_queuesRight (s : Spec) (hs : Rng.P s) : f181 s = some (queuesOk s) := by
  unfold f181 F181
  rw [all_loop s.queues (fun z => (((), z, ()), (s, ()))) (queueOk s) true hs.2.2.1.1]
  · simp only [cond_somes, queuesOk, Bool.and_true]
    congr 1
    cases s.queues.all _ <;> rw [Bool.eq_iff_iff] <;> simp <;> omega
  · intro next
    simp [l181_0]
  · intro z x next h0 h1 h2 h3
    have hx : x.users.length ≤ maxLen := (hs.2.2.1.2 x (List.mem_of_getElem? h2)).2.1.1
    simp only [l181_0, h0, h1, h2, h3, decide_true, cond_true, Option.bind_some, p_ascending _ hx, chk0 next, chk1]
    congr 1
    simp only [queueOk]
    cases asc s.users (-1) x.users <;> rw [Bool.eq_iff_iff] <;> simp <;> omega

theorem p_weightsRight (w : Weights) : f183 w = some (weightsOk w) := by
  unfold f183 F183
  simp only [cond_somes]
  congr 1
  rw [Bool.eq_iff_iff]
  simp [weightsOk]

def inB (n lo hi : Int) : Bool := decide (lo ≤ n) && decide (n ≤ hi)
theorem p_c1 (s : Spec) (hs : Rng.P s) : f175 s.nodes s.parts s.queues s.users s.weights.age s.weights.size s.weights.qos s.weights.share s.decay s.mode s.jobs s.ids s.versions s.linger s.keep s.inn s.out s.cache = some (nodesOk s) := (congrArg (fun o => Option.bind o fun r => some r) (p_nodesRight s hs)).trans rfl
theorem p_c2 (s : Spec) (hs : Rng.P s) : f177 s.nodes s.parts s.queues s.users s.weights.age s.weights.size s.weights.qos s.weights.share s.decay s.mode s.jobs s.ids s.versions s.linger s.keep s.inn s.out s.cache = some (partsOk s) := (congrArg (fun o => Option.bind o fun r => some r) (p_partsRight s hs)).trans rfl
theorem p_c3 (s : Spec) (hs : Rng.P s) : f180 s.nodes s.parts s.queues s.users s.weights.age s.weights.size s.weights.qos s.weights.share s.decay s.mode s.jobs s.ids s.versions s.linger s.keep s.inn s.out s.cache = some (queuesOk s) := (congrArg (fun o => Option.bind o fun r => some r) (p_queuesRight s hs)).trans rfl
theorem p_c4 (s : Spec) : f182 s.nodes s.parts s.queues s.users s.weights.age s.weights.size s.weights.qos s.weights.share s.decay s.mode s.jobs s.ids s.versions s.linger s.keep s.inn s.out s.cache = some (weightsOk s.weights) := (congrArg (fun o => Option.bind o fun r => some r) (p_weightsRight s.weights)).trans rfl
theorem p_c5 (s : Spec) : f184 s.nodes s.parts s.queues s.users s.weights.age s.weights.size s.weights.qos s.weights.share s.decay s.mode s.jobs s.ids s.versions s.linger s.keep s.inn s.out s.cache = some (decide (s.mode = 1) || decide (s.mode = 2)) := by
  unfold f184 F184
  simp only [cond_somes, Bool.cond_true_left]
theorem p_within (lo n hi : Int) : f205 lo n hi = some (inB n lo hi) := by
  unfold f205 F205
  simp only [cond_somes, Bool.cond_false_right, inB]
def flaw (s : Spec) : List UInt8 := cond (!(nodesOk s)) [78, 111, 100, 101, 115] (cond (!(partsOk s)) [80, 97, 114, 116, 115] (cond (!(inB s.users 1 8)) [85, 115, 101, 114, 115] (cond (!(queuesOk s)) [81, 117, 101, 117, 101, 115] (cond (!(weightsOk s.weights)) [87, 101, 105, 103, 104, 116, 115] (cond (!(inB s.decay 1 16)) [68, 101, 99, 97, 121] (cond (!(decide (s.mode = 1) || decide (s.mode = 2))) [77, 111, 100, 101] (cond (!(inB s.jobs 1 256)) [74, 111, 98, 115] (cond (!(inB s.ids 1 1048576)) [73, 100, 115] (cond (!(inB s.versions 1 65536)) [86, 101, 114, 115, 105, 111, 110, 115] (cond (!(inB s.linger 0 65536)) [76, 105, 110, 103, 101, 114] (cond (!(inB s.keep 1 16)) [75, 101, 101, 112] (cond (!(inB s.inn 1 8)) [73, 110] (cond (!(inB s.out 1 16)) [79, 117, 116] (cond (!(inB s.cache 0 16)) [67, 97, 99, 104, 101] ([])))))))))))))))
def specOk (s : Spec) : Bool := nodesOk s && (partsOk s && (inB s.users 1 8 && (queuesOk s && (weightsOk s.weights && (inB s.decay 1 16 && ((decide (s.mode = 1) || decide (s.mode = 2)) && (inB s.jobs 1 256 && (inB s.ids 1 1048576 && (inB s.versions 1 65536 && (inB s.linger 0 65536 && (inB s.keep 1 16 && (inB s.inn 1 8 && (inB s.out 1 16 && (inB s.cache 0 16))))))))))))))
theorem p_Flaw (s : Spec) (hs : Rng.P s) : f122 s = some (flaw s) := by
  unfold f122 F122
  rw [show f158 s = some _ from rfl]
  simp only [Option.bind_some, p_c1 s hs, p_c2 s hs, p_c3 s hs, p_c4 s, p_c5 s, p_within, cond_somes]
  rfl
theorem flaw_bits (b0 b1 b2 b3 b4 b5 b6 b7 b8 b9 b10 b11 b12 b13 b14 : Bool) : decide (cond (!b0) [78, 111, 100, 101, 115] (cond (!b1) [80, 97, 114, 116, 115] (cond (!b2) [85, 115, 101, 114, 115] (cond (!b3) [81, 117, 101, 117, 101, 115] (cond (!b4) [87, 101, 105, 103, 104, 116, 115] (cond (!b5) [68, 101, 99, 97, 121] (cond (!b6) [77, 111, 100, 101] (cond (!b7) [74, 111, 98, 115] (cond (!b8) [73, 100, 115] (cond (!b9) [86, 101, 114, 115, 105, 111, 110, 115] (cond (!b10) [76, 105, 110, 103, 101, 114] (cond (!b11) [75, 101, 101, 112] (cond (!b12) [73, 110] (cond (!b13) [79, 117, 116] (cond (!b14) [67, 97, 99, 104, 101] ([]))))))))))))))) = ([] : List UInt8)) = (b0 && (b1 && (b2 && (b3 && (b4 && (b5 && (b6 && (b7 && (b8 && (b9 && (b10 && (b11 && (b12 && (b13 && (b14))))))))))))))) := by
  cases b0; exact rfl
  cases b1; exact rfl
  cases b2; exact rfl
  cases b3; exact rfl
  cases b4; exact rfl
  cases b5; exact rfl
  cases b6; exact rfl
  cases b7; exact rfl
  cases b8; exact rfl
  cases b9; exact rfl
  cases b10; exact rfl
  cases b11; exact rfl
  cases b12; exact rfl
  cases b13; exact rfl
  cases b14; exact rfl
  rfl
theorem p_Right (s : Spec) (hs : Rng.P s) : f64 s = some (specOk s) := by
  unfold f64 F64
  rw [p_Flaw s hs]
  simp only [Option.bind_some, flaw, specOk]
  exact congrArg some (flaw_bits _ _ _ _ _ _ _ _ _ _ _ _ _ _ _)

/- the document's -/
theorem r_in (n lo hi : Int) : f118 n lo hi = some (inB n lo hi) := by
  unfold f118 F118
  simp only [cond_somes, Bool.cond_false_right, inB]
theorem r_right1 (n : Int) : f98 n = some (inB n 0 1048576) := by
  unfold f98 F98
  simp only [cond_somes, Bool.cond_false_right, inB]
theorem r_vecRight (a : Res) : f46 a = some (resOk a) := by
  unfold f46 F46
  simp only [r_right1, Option.bind_some, cond_somes, Bool.cond_false_right]
  congr 1
  rw [Bool.eq_iff_iff]
  simp [resOk, inB, and_assoc]
theorem r_nodes (s : Spec) (hs : Rng.P s) : f119 s = some (nodesOk s) := by
  unfold f119 F119
  rw [all_loop s.nodes (fun z => (((), z, ()), (s, ()))) resOk (inB s.nodes.length 1 16) hs.1.1]
  · congr 1
    rw [nodesOk, Bool.and_comm]
    congr 1
    rw [Bool.eq_iff_iff]
    simp [inB]
    omega
  · intro next
    simp [l119_0, r_in]
  · intro z x next h0 h1 h2 h3
    simp only [l119_0, h0, h1, h2, h3, decide_true, cond_true, Option.bind_some, r_vecRight]
    cases resOk x <;> rfl
theorem r_Rising (l : List Int) (hl : l.length ≤ maxLen) (e : Int) : f157 l e = some (asc e (-1) l) := by
  unfold f157 F157
  have hml : maxLen = 9223372036854775807 := rfl
  rw [list_loopI (β := Int) l (fun b z => ((z, ()), ())) (fun a z => (z = 0 ∧ a = -1) ∨ (0 < z ∧ l[(z - 1).toNat]? = some a ∧ 0 ≤ a)) (fun b x => cond (decide (x ≤ b) || decide (e ≤ x)) (.inr (some false)) (.inl x)) (fun _ => some true) hl ?_ ?_ (-1) (.inl ⟨rfl, rfl⟩)]
  · generalize (-1 : Int) = a
    clear hl
    induction l generalizing a with
    | nil => rfl
    | cons n l ih =>
      simp only [runL, asc]
      by_cases h1 : n ≤ a
      · simp [h1]; omega
      · by_cases h2 : e ≤ n
        · simp [h1, h2]; omega
        · have h3 : a < n := by omega
          have h4 : n < e := by omega
          simp [h1, h2, h3, h4, ih]
  · intro b next _
    simp [l157_0]
  · intro b z x next hI h0 h1 h2 h3
    simp only [l157_0, h0, h1, h2, h3, decide_true, cond_true, Option.bind_some]
    have hw : IntKind.wrap .i64 (z - 1) = z - 1 := wi (by omega) (by omega)
    rw [hw]
    by_cases h5 : e ≤ x
    · simp only [h5, decide_true, Bool.or_true, cond_true]
      by_cases h6 : x < 0 <;> simp [h6]
    · have h5' : decide (e ≤ x) = false := by simp [h5]
      rcases hI with ⟨rfl, rfl⟩ | ⟨hz, ha, hn⟩
      · by_cases h6 : x < 0
        · have h7 : x ≤ -1 := by omega
          simp [h6, h7]
        · have h7 : ¬ (x ≤ -1) := by omega
          simp [h5, h6, h7]
          exact ⟨by simpa using h2, by omega⟩
      · have hz1 : 0 ≤ z - 1 := by omega
        have hzz : z + 1 - 1 = z := by omega
        by_cases h6 : x ≤ b
        · by_cases h7 : x < 0
          · simp [h6, h7]
          · simp only [h6, h7, h5, hz, hz1, ha, decide_true, decide_false, cond_true, cond_false, Option.bind_some, Bool.true_or]
        · have h7 : ¬ (x < 0) := by omega
          simp only [h6, h7, h5, hz, hz1, ha, decide_true, decide_false, cond_true, cond_false, Option.bind_some, Bool.or_false]
          refine ⟨.inr ⟨by omega, ?_, by omega⟩, trivial⟩
          rw [hzz]; exact h2
theorem r_parts (s : Spec) (hs : Rng.P s) : f120 s = some (partsOk s) := by
  unfold f120 F120
  rw [all_loop s.parts (fun z => (((), z, ()), (s, ()))) (fun p => decide (1 ≤ p.length) && asc s.nodes.length (-1) p) (inB s.parts.length 1 8) hs.2.1.1]
  · congr 1
    rw [partsOk, Bool.and_comm]
    congr 1
    rw [Bool.eq_iff_iff]
    simp [inB]
    omega
  · intro next
    simp [l120_0, r_in]
  · intro z x next h0 h1 h2 h3
    have hx : x.length ≤ maxLen := (hs.2.1.2 x (List.mem_of_getElem? h2)).1
    simp only [l120_0, h0, h1, h2, h3, decide_true, cond_true, Option.bind_some, r_Rising x hx, chk0 next, chk1]
    congr 1
    cases asc s.nodes.length (-1) x <;> rw [Bool.eq_iff_iff] <;> simp <;> omega
theorem r_queues (s : Spec) (hs : Rng.P s) : f121 s = some (queuesOk s) := by
  unfold f121 F121
  rw [all_loop s.queues (fun z => (((), z, ()), (s, ()))) (queueOk s) (inB s.queues.length 1 8) hs.2.2.1.1]
  · congr 1
    rw [queuesOk, Bool.and_comm]
    congr 1
    rw [Bool.eq_iff_iff]
    simp [inB]
    omega
  · intro next
    simp [l121_0, r_in]
  · intro z x next h0 h1 h2 h3
    have hx : x.users.length ≤ maxLen := (hs.2.2.1.2 x (List.mem_of_getElem? h2)).2.1.1
    simp only [l121_0, h0, h1, h2, h3, decide_true, cond_true, Option.bind_some, r_Rising _ hx, r_in, chk0 next, chk1]
    congr 1
    simp only [queueOk, inB]
    cases asc s.users (-1) x.users <;> rw [Bool.eq_iff_iff] <;> simp <;> omega
theorem mode_in (n : Int) : inB n 1 2 = (decide (n = 1) || decide (n = 2)) := by
  rw [Bool.eq_iff_iff]; simp [inB]; omega
theorem weights_in (w : Weights) : cond (inB w.age 0 1000) (cond (inB w.size 0 1000) (cond (inB w.qos 0 1000) (inB w.share 0 1000) false) false) false = weightsOk w := by
  rw [Bool.eq_iff_iff]; simp [inB, weightsOk]; omega
theorem r_Flaw (s : Spec) (hs : Rng.P s) : f63 s = some (flaw s) := by
  unfold f63 F63
  simp only [r_in, Option.bind_some, cond_somes, cond_mk, cond_self, weights_in, mode_in, r_nodes s hs, r_parts s hs, r_queues s hs]
  rfl
theorem r_Right (s : Spec) (hs : Rng.P s) : f16 s = some (specOk s) := by
  unfold f16 F16
  rw [r_Flaw s hs]
  simp only [Option.bind_some, flaw, specOk]
  exact congrArg some (flaw_bits _ _ _ _ _ _ _ _ _ _ _ _ _ _ _)
def fewB (s : Spec) : Bool := decide (s.nodes.length ≤ 40 ∧ s.parts.length ≤ 20 ∧ s.queues.length ≤ 20) && (s.parts.all (fun p => decide (p.length ≤ 40)) && s.queues.all (fun q => decide (q.users.length ≤ 40)))
theorem r_Few (s : Spec) (hs : Rng.P s) : f14 s = some (fewB s) := by
  unfold f14 F14
  rw [all_loop s.parts (fun z => (((), z, ()), (s, ()))) (fun p => decide (p.length ≤ 40)) (s.queues.all (fun q => decide (q.users.length ≤ 40))) hs.2.1.1]
  · simp only [cond_somes, fewB]
    congr 1
    cases s.parts.all _ <;> cases s.queues.all _ <;> rw [Bool.eq_iff_iff] <;> simp <;> omega
  · intro next
    simp only [l14_1, Int.lt_irrefl, decide_false, cond_false]
    rw [all_loop s.queues (fun z => ((z, ()), ())) (fun q => decide (q.users.length ≤ 40)) true hs.2.2.1.1]
    · simp
    · intro next
      simp [l14_0]
    · intro z x next h0 h1 h2 h3
      simp only [l14_0, h0, h1, h2, h3, decide_true, cond_true, Option.bind_some, chk0 next]
      congr 1
      rw [Bool.eq_iff_iff]; simp; omega
  · intro z x next h0 h1 h2 h3
    simp only [l14_1, h0, h1, h2, h3, decide_true, cond_true, Option.bind_some, chk0 next]
    congr 1
    rw [Bool.eq_iff_iff]; simp; omega
end NM
end Go.Proofs.Ytacaeonoogkkaaa
