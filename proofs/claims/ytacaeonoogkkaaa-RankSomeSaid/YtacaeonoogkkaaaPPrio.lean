/-
  Priorities: what package prio computes; later a job is no less urgent, who used more is no more urgent.
-/
import Derived.Test.YtacaeonoogkkaaaPSpec
set_option linter.unusedVariables false
set_option linter.unusedSimpArgs false
namespace Go.Proofs.Ytacaeonoogkkaaa
namespace NM
open AM

def holdI (n lo hi : Int) : Int := if n < lo then lo else if hi < n then hi else n
theorem p_Hold (n lo hi : Int) : f187 n lo hi = some (holdI n lo hi) := by
  unfold f187 F187 holdI
  simp only [cond_dec]
  repeat' split
  all_goals rfl
def facI (n : Int) : Int := if 4096 < holdI n 0 1099511627776 / 16 then 4096 else holdI n 0 1099511627776 / 16
theorem hold_rng {n lo hi : Int} (h : lo ≤ hi) : lo ≤ holdI n lo hi ∧ holdI n lo hi ≤ hi := by
  unfold holdI; repeat' split
  all_goals omega
theorem hold_mono {n m lo hi : Int} (h : lo ≤ hi) (hn : n ≤ m) : holdI n lo hi ≤ holdI m lo hi := by
  unfold holdI; repeat' split
  all_goals omega
theorem tdiv_nn {a b : Int} (h : 0 ≤ a) : Int.tdiv a b = a / b := Int.tdiv_eq_ediv_of_nonneg h
theorem p_Factor (n : Int) : f185 n = some (facI n) := by
  unfold f185 F185 facI
  have h := hold_rng (n := n) (lo := 0) (hi := 1099511627776) (by decide)
  simp only [p_Hold, Option.bind_some]
  rw [tdiv_nn h.1, wi (by omega) (by omega)]
theorem fac_rng (n : Int) : 0 ≤ facI n ∧ facI n ≤ 4096 := by
  have h := hold_rng (n := n) (lo := 0) (hi := 1099511627776) (by decide)
  unfold facI; split <;> omega
theorem fac_mono {n m : Int} (h : n ≤ m) : facI n ≤ facI m := by
  have h1 := hold_mono (lo := 0) (hi := 1099511627776) (by decide) h
  unfold facI; repeat' split
  all_goals omega
def ageI (now born : Int) : Int := if now ≤ born then 0 else if 4096 < now - born then 4096 else now - born
theorem age_rng (now born : Int) : 0 ≤ ageI now born ∧ ageI now born ≤ 4096 := by
  unfold ageI; repeat' split
  all_goals omega
theorem age_mono {a b c : Int} (h : a ≤ b) : ageI a c ≤ ageI b c := by
  unfold ageI; repeat' split
  all_goals omega
theorem wu (x : Int) : IntKind.wrap .u64 x = x % 18446744073709551616 := by
  simp [IntKind.wrap, IntKind.bits, IntKind.signed]
theorem p_age (now born : Int) (h1 : I64 now) (h2 : I64 born) : f186 now born = some (ageI now born) := by
  unfold f186 F186 ageI
  unfold I64 at h1 h2
  simp only [cond_dec, wu]
  split
  · rfl
  · have e : (now % 18446744073709551616 - born % 18446744073709551616) % 18446744073709551616 = now - born := by omega
    rw [e]
    congr 1
    split
    · rfl
    · exact wi (by omega) (by omega)

/-- the four parts -/
def qosI (s : Spec) (q : Int) : Int := if 0 ≤ q ∧ q < s.queues.length then (s.queues[q.toNat]?.map Queue.qos).getD 0 else 0
def useI (use : List Int) (u : Int) : Int := if 0 ≤ u ∧ u < use.length then facI (use[u.toNat]?.getD 0) else 0
def partsI (s : Spec) (j : Job) (now : Int) (use : List Int) : Int × Int × Int × Int :=
  if specOk s then (s.weights.age * ageI now j.born, s.weights.size * holdI j.many 0 64, s.weights.qos * qosI s j.queue, s.weights.share * useI use j.user) else (0, 0, 0, 0)

theorem specOk_weights {s : Spec} (h : specOk s = true) : weightsOk s.weights = true := by
  simp only [specOk, Bool.and_eq_true] at h
  exact h.2.2.2.2.1
theorem specOk_queues {s : Spec} (h : specOk s = true) : queuesOk s = true := by
  simp only [specOk, Bool.and_eq_true] at h
  exact h.2.2.2.1
theorem qos_rng {s : Spec} (h : specOk s = true) (q : Int) : 0 ≤ qosI s q ∧ qosI s q ≤ 100 := by
  have hq := specOk_queues h
  simp only [queuesOk, Bool.and_eq_true, List.all_eq_true] at hq
  unfold qosI
  split
  · rename_i hc
    have hl : q.toNat < s.queues.length := by omega
    rw [List.getElem?_eq_getElem hl]
    have := hq.2 _ (List.getElem_mem hl)
    simp only [queueOk, Bool.and_eq_true, decide_eq_true_eq] at this
    simp
    omega
  · omega
theorem use_rng (use : List Int) (u : Int) : 0 ≤ useI use u ∧ useI use u ≤ 4096 := by
  unfold useI
  split
  · exact fac_rng _
  · omega
theorem mul_rng {w a n m : Int} (h1 : 0 ≤ w) (h2 : w ≤ n) (h3 : 0 ≤ a) (h4 : a ≤ m) : 0 ≤ w * a ∧ w * a ≤ n * m :=
  ⟨Int.mul_nonneg h1 h3, Int.mul_le_mul h2 h4 h3 (by omega)⟩
theorem parts_rng (s : Spec) (j : Job) (now : Int) (use : List Int) : 0 ≤ (partsI s j now use).1 ∧ (partsI s j now use).1 ≤ 4096000 ∧ 0 ≤ (partsI s j now use).2.1 ∧ (partsI s j now use).2.1 ≤ 64000 ∧ 0 ≤ (partsI s j now use).2.2.1 ∧ (partsI s j now use).2.2.1 ≤ 100000 ∧ 0 ≤ (partsI s j now use).2.2.2 ∧ (partsI s j now use).2.2.2 ≤ 4096000 := by
  unfold partsI
  split
  · rename_i h
    have hw := specOk_weights h
    simp only [weightsOk, decide_eq_true_eq] at hw
    have a1 := age_rng now j.born
    have a2 := hold_rng (n := j.many) (lo := 0) (hi := 64) (by decide)
    have a3 := qos_rng h j.queue
    have a4 := use_rng use j.user
    have b1 := mul_rng hw.1 hw.2.1 a1.1 a1.2
    have b2 := mul_rng hw.2.2.1 hw.2.2.2.1 a2.1 a2.2
    have b3 := mul_rng hw.2.2.2.2.1 hw.2.2.2.2.2.1 a3.1 a3.2
    have b4 := mul_rng hw.2.2.2.2.2.2.1 hw.2.2.2.2.2.2.2 a4.1 a4.2
    simp only
    omega
  · simp
theorem p_Parts (s : Spec) (hs : Rng.P s) (j : Job) (hj : Rng.P j) (now : Int) (hn : I64 now) (use : List Int) : f159 s j now use = some (partsI s j now use) := by
  have hr := parts_rng s j now use
  have hb : I64 j.born := hj.2.2.2.2.2.2.2.2.2.2.2.1
  unfold f159 F159
  simp only [p_Right s hs, Option.bind_some]
  unfold partsI at hr ⊢
  cases h : specOk s with
  | false => simp
  | true =>
    rw [h] at hr
    simp only [Bool.not_true, cond_false, if_true] at hr ⊢
    have e1 : (cond (decide (0 ≤ j.queue)) (cond (decide (j.queue < (s.queues.length : Int))) (cond (decide (0 ≤ j.queue)) (Option.bind (s.queues[Int.toNat j.queue]?) fun y5 => some (((), (), (), y5.qos, ()), (s, j, ((0 : Int), ((0 : Int), ((0 : Int), (0 : Int)))), ()))) none) (some (((), (), (), 0, ()), (s, j, (0, (0, (0, 0))), ())))) (some (((), (), (), 0, ()), (s, j, (0, (0, (0, 0))), ())))) = some (((), (), (), qosI s j.queue, ()), (s, j, (0, (0, (0, 0))), ())) := by
      unfold qosI
      by_cases h1 : 0 ≤ j.queue
      · by_cases h2 : j.queue < (s.queues.length : Int)
        · have hl : j.queue.toNat < s.queues.length := by omega
          simp [h1, h2, List.getElem?_eq_getElem hl]
        · simp [h1, h2]
      · simp [h1]
    have e2 : (cond (decide (0 ≤ j.user)) (cond (decide (j.user < (use.length : Int))) (cond (decide (0 ≤ j.user)) (Option.bind (use[Int.toNat j.user]?) fun y7 => Option.bind (f185 y7) fun r8 => some (((), (), (), r8, ()), (s, j, ((0 : Int), ((0 : Int), ((0 : Int), (0 : Int)))), ()))) none) (some (((), (), (), 0, ()), (s, j, (0, (0, (0, 0))), ())))) (some (((), (), (), 0, ()), (s, j, (0, (0, (0, 0))), ())))) = some (((), (), (), useI use j.user, ()), (s, j, (0, (0, (0, 0))), ())) := by
      unfold useI
      by_cases h1 : 0 ≤ j.user
      · by_cases h2 : j.user < (use.length : Int)
        · have hl : j.user.toNat < use.length := by omega
          simp [h1, h2, List.getElem?_eq_getElem hl, p_Factor]
        · simp [h1, h2]
      · simp [h1]
    simp only [e1, e2, Option.bind_some, p_age now j.born hn hb, p_Hold]
    rw [wi (by omega) (by omega), wi (by omega) (by omega), wi (by omega) (by omega), wi (by omega) (by omega)]
def ofI (s : Spec) (j : Job) (now : Int) (use : List Int) : Int := (partsI s j now use).1 + (partsI s j now use).2.1 + (partsI s j now use).2.2.1 - (partsI s j now use).2.2.2
theorem p_Of (s : Spec) (hs : Rng.P s) (j : Job) (hj : Rng.P j) (now : Int) (hn : I64 now) (use : List Int) : f123 s j now use = some (ofI s j now use) := by
  have hr := parts_rng s j now use
  unfold f123 F123 ofI
  simp only [p_Parts s hs j hj now hn use, Option.bind_some]
  rw [wi (x := (partsI s j now use).1 + (partsI s j now use).2.1) (by omega) (by omega), wi (x := (partsI s j now use).1 + (partsI s j now use).2.1 + (partsI s j now use).2.2.1) (by omega) (by omega), wi (by omega) (by omega)]
end NM
end Go.Proofs.Ytacaeonoogkkaaa
