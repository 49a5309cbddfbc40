/-
  What the proof of PlanLeast leans on, part 24. (Many texts laid together by program.)
-/
import Derived.Test.YtmnhkpekmgobbaaPkLw
set_option linter.unnecessarySimpa false
set_option linter.unusedSimpArgs false
set_option linter.unusedVariables false
section
namespace Go.Proofs.Ytmnhkpekmgobbaa
namespace NM
open AM
def resOk (a : Res) : Bool := decide (0 ≤ a.cpu ∧ a.cpu ≤ 1048576 ∧ 0 ≤ a.mem ∧ a.mem ≤ 1048576 ∧ 0 ≤ a.gpu ∧ a.gpu ≤ 1048576 ∧ 0 ≤ a.lic ∧ a.lic ≤ 1048576)
def asc (e : Int) : Int → List Int → Bool
 | _, [] => true
 | a, n :: l => decide (a < n) && decide (n < e) && asc e n l
def nodesOk (s : Spec) : Bool := decide (1 ≤ s.nodes.length ∧ s.nodes.length ≤ 16) && s.nodes.all resOk
def partsOk (s : Spec) : Bool := decide (1 ≤ s.parts.length ∧ s.parts.length ≤ 8) && s.parts.all fun p => decide (1 ≤ p.length) && asc s.nodes.length (-1) p
def queueOk (s : Spec) (q : Queue) : Bool := decide (0 ≤ q.part ∧ q.part < s.parts.length) && asc s.users (-1) q.users && decide (1 ≤ q.maxJobs ∧ q.maxJobs ≤ 256 ∧ 1 ≤ q.maxRun ∧ q.maxRun ≤ 256 ∧ 1 ≤ q.maxUser ∧ q.maxUser ≤ 256 ∧ 0 ≤ q.qos ∧ q.qos ≤ 100)
def queuesOk (s : Spec) : Bool := decide (1 ≤ s.queues.length ∧ s.queues.length ≤ 8) && s.queues.all (queueOk s)
def weightsOk (w : Weights) : Bool := decide (0 ≤ w.age ∧ w.age ≤ 1000 ∧ 0 ≤ w.size ∧ w.size ≤ 1000 ∧ 0 ≤ w.qos ∧ w.qos ≤ 1000 ∧ 0 ≤ w.share ∧ w.share ≤ 1000)
theorem p_numbers (a : Res) : f160 a = some (a.cpu, a.mem, a.gpu, a.lic) := rfl
theorem p_vecRightS (a : Res) : f108 a = some (resOk a) := by
 unfold f108 F108
 simp only [p_numbers, Option.bind_some, cond_somes]
 congr 1
 rw [Bool.eq_iff_iff]
 simp [resOk]
theorem p_nodesRight (s : Spec) (hs : Rng.P s) : f205 s = some (nodesOk s) := by
 unfold f205 F205
 rw [all_loop s.nodes (fun z => ((z, ()), ())) resOk true hs.1.1]
 · simp only [cond_somes, nodesOk, Bool.and_true]
   congr 1
   cases s.nodes.all resOk <;> rw [Bool.eq_iff_iff] <;> simp <;> omega
 · intro next
   simp [l205_0]
 · intro z x next h0 h1 h2 h3
   simp only [l205_0, h0, h1, h2, h3, decide_true, cond_true, Option.bind_some, p_vecRightS]
   cases resOk x <;> rfl
theorem p_ascending (l : List Int) (hl : l.length ≤ maxLen) (e : Int) : f221 l e = some (asc e (-1) l) := by
 unfold f221 F221
 rw [list_loop l (fun b z => ((b, z, ()), ())) (fun b x => cond (decide (x ≤ b) || decide (e ≤ x)) (.inr (some false)) (.inl x)) (fun _ => some true) hl]
 · generalize (-1 : Int) = a
   clear hl
   induction l generalizing a with
   | nil => rfl
   | cons n l ih =>
     simp only [runL, asc]
     by_cases h1 : n ≤ a
     · simp [h1]; omega
     · by_cases h2 : e ≤ n
       · simp [h1, h2]; omega
       · have h3 : a < n := by omega
         have h4 : n < e := by omega
         simp [h1, h2, h3, h4, ih]
 · intro b next
   simp [l221_0]
 · intro b z x next h0 h1 h2 h3
   simp only [l221_0, h0, h1, h2, h3, decide_true, cond_true, Option.bind_some]
   by_cases h4 : x ≤ b <;> by_cases h5 : e ≤ x <;> simp [h4, h5]
theorem p_partsRight (s : Spec) (hs : Rng.P s) : f207 s = some (partsOk s) := by
 unfold f207 F207
 rw [all_loop s.parts (fun z => (((), z, ()), (s, ()))) (fun p => decide (1 ≤ p.length) && asc s.nodes.length (-1) p) true hs.2.1.1]
 · simp only [cond_somes, partsOk, Bool.and_true]
   congr 1
   cases s.parts.all _ <;> rw [Bool.eq_iff_iff] <;> simp <;> omega
 · intro next
   simp [l207_0]
 · intro z x next h0 h1 h2 h3
   have hx := (hs.2.1.2 x (List.mem_of_getElem? h2)).1
   simp only [l207_0, h0, h1, h2, h3, decide_true, cond_true, Option.bind_some, p_ascending x hx]
   by_cases h4 : x.length < 1
   · have : x = [] := List.eq_nil_of_length_eq_zero (by omega)
     simp [this]
   · have h5 : 1 ≤ x.length := by omega
     have h6 : ¬ ((x.length : Int) < 1) := by omega
     simp only [h5, h6, decide_true, decide_false, cond_false, Bool.true_and]
     cases asc s.nodes.length (-1) x <;> rfl
theorem p_queuesRight (s : Spec) (hs : Rng.P s) : f210 s = some (queuesOk s) := by
 unfold f210 F210
 rw [all_loop s.queues (fun z => (((), z, ()), (s, ()))) (queueOk s) true hs.2.2.1.1]
 · simp only [cond_somes, queuesOk, Bool.and_true]
   congr 1
   cases s.queues.all _ <;> rw [Bool.eq_iff_iff] <;> simp <;> omega
 · intro next
   simp [l210_0]
 · intro z x next h0 h1 h2 h3
   have hx : x.users.length ≤ maxLen := (hs.2.2.1.2 x (List.mem_of_getElem? h2)).2.1.1
   simp only [l210_0, h0, h1, h2, h3, decide_true, cond_true, Option.bind_some, p_ascending _ hx, chk0 next, chk1]
   congr 1
   simp only [queueOk]
   cases asc s.users (-1) x.users <;> rw [Bool.eq_iff_iff] <;> simp <;> omega
theorem p_weightsRight (w : Weights) : f212 w = some (weightsOk w) := by
 unfold f212 F212
 simp only [cond_somes]
 congr 1
 rw [Bool.eq_iff_iff]
 simp [weightsOk]
def inRg (n lo hi : Int) : Bool := decide (lo ≤ n) && decide (n ≤ hi)
theorem p_c1 (s : Spec) (hs : Rng.P s) : f204 s.nodes s.parts s.queues s.users s.weights.age s.weights.size s.weights.qos s.weights.share s.decay s.mode s.jobs s.ids s.versions s.linger s.keep s.inn s.out s.cache = some (nodesOk s) := (congrArg (fun o => Option.bind o fun r => some r) (p_nodesRight s hs)).trans rfl
theorem p_c2 (s : Spec) (hs : Rng.P s) : f206 s.nodes s.parts s.queues s.users s.weights.age s.weights.size s.weights.qos s.weights.share s.decay s.mode s.jobs s.ids s.versions s.linger s.keep s.inn s.out s.cache = some (partsOk s) := (congrArg (fun o => Option.bind o fun r => some r) (p_partsRight s hs)).trans rfl
theorem p_c3 (s : Spec) (hs : Rng.P s) : f209 s.nodes s.parts s.queues s.users s.weights.age s.weights.size s.weights.qos s.weights.share s.decay s.mode s.jobs s.ids s.versions s.linger s.keep s.inn s.out s.cache = some (queuesOk s) := (congrArg (fun o => Option.bind o fun r => some r) (p_queuesRight s hs)).trans rfl
theorem p_c4 (s : Spec) : f211 s.nodes s.parts s.queues s.users s.weights.age s.weights.size s.weights.qos s.weights.share s.decay s.mode s.jobs s.ids s.versions s.linger s.keep s.inn s.out s.cache = some (weightsOk s.weights) := (congrArg (fun o => Option.bind o fun r => some r) (p_weightsRight s.weights)).trans rfl
theorem p_c5 (s : Spec) : f213 s.nodes s.parts s.queues s.users s.weights.age s.weights.size s.weights.qos s.weights.share s.decay s.mode s.jobs s.ids s.versions s.linger s.keep s.inn s.out s.cache = some (decide (s.mode = 1) || decide (s.mode = 2)) := by
 unfold f213 F213
 simp only [cond_somes, Bool.cond_true_left]
theorem p_within (lo n hi : Int) : f222 lo n hi = some (inRg n lo hi) := by
 unfold f222 F222
 simp only [cond_somes, Bool.cond_false_right, inRg]
def flaw (s : Spec) : List UInt8 := cond (!(nodesOk s)) [78, 111, 100, 101, 115] (cond (!(partsOk s)) [80, 97, 114, 116, 115] (cond (!(inRg s.users 1 8)) [85, 115, 101, 114, 115] (cond (!(queuesOk s)) [81, 117, 101, 117, 101, 115] (cond (!(weightsOk s.weights)) [87, 101, 105, 103, 104, 116, 115] (cond (!(inRg s.decay 1 16)) [68, 101, 99, 97, 121] (cond (!(decide (s.mode = 1) || decide (s.mode = 2))) [77, 111, 100, 101] (cond (!(inRg s.jobs 1 256)) [74, 111, 98, 115] (cond (!(inRg s.ids 1 1048576)) [73, 100, 115] (cond (!(inRg s.versions 1 65536)) [86, 101, 114, 115, 105, 111, 110, 115] (cond (!(inRg s.linger 0 65536)) [76, 105, 110, 103, 101, 114] (cond (!(inRg s.keep 1 16)) [75, 101, 101, 112] (cond (!(inRg s.inn 1 8)) [73, 110] (cond (!(inRg s.out 1 16)) [79, 117, 116] (cond (!(inRg s.cache 0 16)) [67, 97, 99, 104, 101] ([])))))))))))))))
def specOk (s : Spec) : Bool := nodesOk s && (partsOk s && (inRg s.users 1 8 && (queuesOk s && (weightsOk s.weights && (inRg s.decay 1 16 && ((decide (s.mode = 1) || decide (s.mode = 2)) && (inRg s.jobs 1 256 && (inRg s.ids 1 1048576 && (inRg s.versions 1 65536 && (inRg s.linger 0 65536 && (inRg s.keep 1 16 && (inRg s.inn 1 8 && (inRg s.out 1 16 && (inRg s.cache 0 16))))))))))))))
theorem p_Flaw (s : Spec) (hs : Rng.P s) : f156 s = some (flaw s) := by
 unfold f156 F156
 rw [show f184 s = some _ from rfl]
 simp only [Option.bind_some, p_c1 s hs, p_c2 s hs, p_c3 s hs, p_c4 s, p_c5 s, p_within, cond_somes]
 rfl
theorem flaw_bits (b0 b1 b2 b3 b4 b5 b6 b7 b8 b9 b10 b11 b12 b13 b14 : Bool) : decide (cond (!b0) [78, 111, 100, 101, 115] (cond (!b1) [80, 97, 114, 116, 115] (cond (!b2) [85, 115, 101, 114, 115] (cond (!b3) [81, 117, 101, 117, 101, 115] (cond (!b4) [87, 101, 105, 103, 104, 116, 115] (cond (!b5) [68, 101, 99, 97, 121] (cond (!b6) [77, 111, 100, 101] (cond (!b7) [74, 111, 98, 115] (cond (!b8) [73, 100, 115] (cond (!b9) [86, 101, 114, 115, 105, 111, 110, 115] (cond (!b10) [76, 105, 110, 103, 101, 114] (cond (!b11) [75, 101, 101, 112] (cond (!b12) [73, 110] (cond (!b13) [79, 117, 116] (cond (!b14) [67, 97, 99, 104, 101] ([]))))))))))))))) = ([] : List UInt8)) = (b0 && (b1 && (b2 && (b3 && (b4 && (b5 && (b6 && (b7 && (b8 && (b9 && (b10 && (b11 && (b12 && (b13 && (b14))))))))))))))) := by
 cases b0; exact rfl
 cases b1; exact rfl
 cases b2; exact rfl
 cases b3; exact rfl
 cases b4; exact rfl
 cases b5; exact rfl
 cases b6; exact rfl
 cases b7; exact rfl
 cases b8; exact rfl
 cases b9; exact rfl
 cases b10; exact rfl
 cases b11; exact rfl
 cases b12; exact rfl
 cases b13; exact rfl
 cases b14; exact rfl
 rfl
theorem p_SpecRight (s : Spec) (hs : Rng.P s) : f103 s = some (specOk s) := by
 unfold f103 F103
 rw [p_Flaw s hs]
 simp only [Option.bind_some, flaw, specOk]
 exact congrArg some (flaw_bits _ _ _ _ _ _ _ _ _ _ _ _ _ _ _)
def fewB (s : Spec) : Bool := decide (s.nodes.length ≤ 40 ∧ s.parts.length ≤ 20 ∧ s.queues.length ≤ 20) && (s.parts.all (fun p => decide (p.length ≤ 40)) && s.queues.all (fun q => decide (q.users.length ≤ 40)))
theorem r_Few (s : Spec) (hs : Rng.P s) : f44 s = some (fewB s) := by
 unfold f44 F44
 rw [all_loop s.parts (fun z => (((), z, ()), (s, ()))) (fun p => decide (p.length ≤ 40)) (s.queues.all (fun q => decide (q.users.length ≤ 40))) hs.2.1.1]
 · simp only [cond_somes, fewB]
   congr 1
   cases s.parts.all _ <;> cases s.queues.all _ <;> rw [Bool.eq_iff_iff] <;> simp <;> omega
 · intro next
   simp only [l44_1, Int.lt_irrefl, decide_false, cond_false]
   rw [all_loop s.queues (fun z => ((z, ()), ())) (fun q => decide (q.users.length ≤ 40)) true hs.2.2.1.1]
   · simp
   · intro next
     simp [l44_0]
   · intro z x next h0 h1 h2 h3
     simp only [l44_0, h0, h1, h2, h3, decide_true, cond_true, Option.bind_some, chk0 next]
     congr 1
     rw [Bool.eq_iff_iff]; simp; omega
 · intro z x next h0 h1 h2 h3
   simp only [l44_1, h0, h1, h2, h3, decide_true, cond_true, Option.bind_some, chk0 next]
   congr 1
   rw [Bool.eq_iff_iff]; simp; omega
theorem loop_run {σ ω : Type} {f : σ → (σ → Option ω) → Option ω} {r : Option ω} (n : Nat) (hn : n < LOOPS) (s : Nat → σ) (hs : ∀ i, i < n → ∀ next, f (s i) next = next (s (i + 1))) (hend : ∀ next, f (s n) next = r) : LN LOOPS f (s 0) = r := by
 have key : ∀ m i, i ≤ n → n - i < m → loopN f m (s i) = r := by
   intro m
   induction m with
   | zero => intro i _ h; omega
   | succ m ih =>
     intro i hi hm
     simp only [loopN]
     rcases Nat.lt_or_ge i n with h | h
     · rw [hs i h]
       exact ih (i + 1) h (by omega)
     · have : i = n := by omega
       subst this
       exact hend _
 exact key LOOPS 0 (Nat.zero_le _) (by omega)
def zRes (a : Res) : Bool := (decide (a.cpu = 0)) && ((decide (a.mem = 0)) && ((decide (a.gpu = 0)) && ((decide (a.lic = 0)) && true)))
def stepC (x y n : Int) : Int := if 0 < y then min n (x / y) else n
def countI (a b : Res) : Int := if resOk a = true ∧ resOk b = true ∧ zRes b = false then stepC a.lic b.lic (stepC a.gpu b.gpu (stepC a.mem b.mem (stepC a.cpu b.cpu 64))) else 0
theorem div_wrap {x y : Int} (hx : 0 ≤ x) (hx2 : x ≤ 1048576) (hy : 0 < y) : IntKind.wrap .i64 (Int.tdiv x y) = x / y := by
 rw [Int.tdiv_eq_ediv_of_nonneg hx]
 have h1 := Int.ediv_nonneg hx (Int.le_of_lt hy)
 have h2 := Int.ediv_le_self y hx
 exact wi (by omega) (by omega)
theorem min_if (a n : Int) : (if a < n then a else n) = min n a := by
 rw [Int.min_def]
 split <;> split <;> omega
def accC (a b : Res) : Nat → Int
 | 0 => 64
 | 1 => stepC a.cpu b.cpu 64
 | 2 => stepC a.mem b.mem (stepC a.cpu b.cpu 64)
 | 3 => stepC a.gpu b.gpu (stepC a.mem b.mem (stepC a.cpu b.cpu 64))
 | _ => stepC a.lic b.lic (stepC a.gpu b.gpu (stepC a.mem b.mem (stepC a.cpu b.cpu 64)))
theorem p_Count (a b : Res) : f190 a b = some (countI a b) := by
 unfold f190 F190
 simp only [p_vecRightS, p_numbers, Option.bind_some]
 unfold countI
 cases ha : resOk a with
 | false => simp
 | true =>
   cases hb : resOk b with
   | false => simp
   | true =>
     change cond (!true) _ (cond (!true) _ (cond (zRes b) _ _)) = _
     cases hz : zRes b with
     | true => simp
     | false =>
       simp only [Bool.not_true, cond_false, true_and, if_true]
       simp only [resOk, decide_eq_true_eq] at ha hb
       refine loop_run 4 (by decide) (fun i => ((accC a b i, (), (), (i : Int), ()), ((a.cpu, a.mem, a.gpu, a.lic), (b.cpu, b.mem, b.gpu, b.lic), ()))) (fun i hi next => ?_) (fun next => ?_)
       · match i, hi with
         | 0, _ =>
           by_cases hy : 0 < b.cpu
           · simp [l190_0, hy, accC, stepC, div_wrap ha.1 ha.2.1 hy, min_if, wi, show b.cpu ≠ 0 by omega]
           · simp [l190_0, hy, accC, stepC, wi]
         | 1, _ =>
           by_cases hy : 0 < b.mem
           · simp [l190_0, hy, accC, div_wrap ha.2.2.1 ha.2.2.2.1 hy, min_if, wi, show b.mem ≠ 0 by omega]
             simp [stepC, hy]
           · simp [l190_0, hy, accC, wi]
             simp [stepC, hy]
         | 2, _ =>
           by_cases hy : 0 < b.gpu
           · simp [l190_0, hy, accC, div_wrap ha.2.2.2.2.1 ha.2.2.2.2.2.1 hy, min_if, wi, show b.gpu ≠ 0 by omega]
             simp [stepC, hy]
           · simp [l190_0, hy, accC, wi]
             simp [stepC, hy]
         | 3, _ =>
           by_cases hy : 0 < b.lic
           · simp [l190_0, hy, accC, div_wrap ha.2.2.2.2.2.2.1 ha.2.2.2.2.2.2.2 hy, min_if, wi, show b.lic ≠ 0 by omega]
             simp [stepC, hy]
           · simp [l190_0, hy, accC, wi]
             simp [stepC, hy]
       · simp [l190_0, accC]
theorem stepC_nonneg {x y n : Int} (hx : 0 ≤ x) (hn : 0 ≤ n) : 0 ≤ stepC x y n := by
 unfold stepC
 split
 · rename_i h
   have := Int.ediv_nonneg hx (Int.le_of_lt h)
   omega
 · exact hn
theorem stepC_le {x y n : Int} : stepC x y n ≤ n := by
 unfold stepC
 split <;> omega
theorem countI_nonneg (a b : Res) : 0 ≤ countI a b := by
 unfold countI
 split
 · rename_i h
   have h1 := h.1
   simp only [resOk, decide_eq_true_eq] at h1
   exact stepC_nonneg h1.2.2.2.2.2.2.1 (stepC_nonneg h1.2.2.2.2.1 (stepC_nonneg h1.2.2.1 (stepC_nonneg h1.1 (by omega))))
 · omega
theorem countI_le (a b : Res) : countI a b ≤ 64 := by
 unfold countI
 split
 · exact Int.le_trans stepC_le (Int.le_trans stepC_le (Int.le_trans stepC_le stepC_le))
 · omega
theorem asc_mem {e : Int} : ∀ {l : List Int} {a : Int}, asc e a l = true → ∀ x, x ∈ l → a < x ∧ x < e
 | [], _, _, x, hx => by cases hx
 | n :: l, a, h, x, hx => by
   simp only [asc, Bool.and_eq_true, decide_eq_true_eq] at h
   rcases List.mem_cons.1 hx with rfl | hx
   · exact h.1
   · have := asc_mem h.2 x hx
     omega
theorem asc_len {e : Int} : ∀ {l : List Int} {a : Int}, asc e a l = true → l = [] ∨ (l.length : Int) + a < e
 | [], _, _ => .inl rfl
 | n :: l, a, h => by
   simp only [asc, Bool.and_eq_true, decide_eq_true_eq] at h
   right
   rcases asc_len h.2 with rfl | h2
   · simp only [List.length_cons, List.length_nil]; omega
   · simp only [List.length_cons]; omega
def z0 : Res := ⟨0, 0, 0, 0⟩
end NM
end Go.Proofs.Ytmnhkpekmgobbaa
end
