/-
  The statement SpecTexts is proved here: whatever its arguments, the call gives true; under the conditions that the given statement itself names. (Many texts laid together by program.)
-/
import Derived.Test.YtjngkfdclcgfhaaGreatDoorPkTw
import Derived.KernelRfl
import Derived.Lib.LaidTab
import Derived.SizedLaws
import Derived.ShapedOpen
import Derived.LaidLaws
import Derived.Test.YtjngkfdclcgfhaaGreatDoorRows
import Derived.Test.YtjngkfdclcgfhaaGreatDoorCards
import Derived.Test.YtjngkfdclcgfhaaGreatDoorTie
import Derived.WalkKit
import Derived.ProofKit
import Derived.OpenShut
import Derived.LaidMore
import Derived.Lay
import Derived.SevenTiedAt
import Derived.Stop.Joined
import Derived.Below
import Derived.Carry
import Derived.Stop.LaidErr
set_option linter.unnecessarySimpa false
set_option linter.unusedSimpArgs false
set_option linter.unusedVariables false
section
set_option maxRecDepth 10000
namespace Go.Proofs.YtjngkfdclcgfhaaGreatDoor
namespace NM
open AM
@[reducible] def RdT : Type := ((Unit × (Unit × ((List UInt8) × Unit))) × ((Unit × (Unit × (Unit × (Int × (Int × (Int × (Int × (Int × (Int × (Int × (Int × (Int × (Int × (Int × (Int × (Int × (Int × (Int × Unit)))))))))))))))))) × ((Unit × (Unit × (Unit × (Int × (Int × (Int × (Int × (Int × (Int × (Int × (Int × (Int × (Int × (Int × (Int × (Int × (Int × (Int × Unit)))))))))))))))))) × ((List Res) × ((List (List Int)) × ((List Queue) × Unit))))))
def stepR (text0 : List UInt8) : RdT → (RdT → Option (Spec × (Int × Unit))) → Option (Spec × (Int × Unit)) := (fun (s1 : RdT) nx2 => l8_0 f18 f19_3 f6 text0 nx2 s1.1.2.2.1 s1.2.1.2.2.2.1 s1.2.1.2.2.2.2.1 s1.2.1.2.2.2.2.2.1 s1.2.1.2.2.2.2.2.2.1 s1.2.1.2.2.2.2.2.2.2.1 s1.2.1.2.2.2.2.2.2.2.2.1 s1.2.1.2.2.2.2.2.2.2.2.2.1 s1.2.1.2.2.2.2.2.2.2.2.2.2.1 s1.2.1.2.2.2.2.2.2.2.2.2.2.2.1 s1.2.1.2.2.2.2.2.2.2.2.2.2.2.2.1 s1.2.1.2.2.2.2.2.2.2.2.2.2.2.2.2.1 s1.2.1.2.2.2.2.2.2.2.2.2.2.2.2.2.2.1 s1.2.1.2.2.2.2.2.2.2.2.2.2.2.2.2.2.2.1 s1.2.1.2.2.2.2.2.2.2.2.2.2.2.2.2.2.2.2.1 s1.2.1.2.2.2.2.2.2.2.2.2.2.2.2.2.2.2.2.2.1 s1.2.2.1.2.2.2.1 s1.2.2.1.2.2.2.2.1 s1.2.2.1.2.2.2.2.2.1 s1.2.2.1.2.2.2.2.2.2.1 s1.2.2.1.2.2.2.2.2.2.2.1 s1.2.2.1.2.2.2.2.2.2.2.2.1 s1.2.2.1.2.2.2.2.2.2.2.2.2.1 s1.2.2.1.2.2.2.2.2.2.2.2.2.2.1 s1.2.2.1.2.2.2.2.2.2.2.2.2.2.2.1 s1.2.2.1.2.2.2.2.2.2.2.2.2.2.2.2.1 s1.2.2.1.2.2.2.2.2.2.2.2.2.2.2.2.2.1 s1.2.2.1.2.2.2.2.2.2.2.2.2.2.2.2.2.2.1 s1.2.2.1.2.2.2.2.2.2.2.2.2.2.2.2.2.2.2.1 s1.2.2.1.2.2.2.2.2.2.2.2.2.2.2.2.2.2.2.2.1 s1.2.2.1.2.2.2.2.2.2.2.2.2.2.2.2.2.2.2.2.2.1 s1.2.2.2.1 s1.2.2.2.2.1 s1.2.2.2.2.2.1)
def stR2 (rest : List UInt8) (s : Spec) : RdT := (((), (), rest, ()), (flds zeroS, (flds s, s.nodes, s.parts, s.queues, ())))
def badR : Option (Spec × (Int × Unit)) := some (zeroS, 11, ())
theorem read_loop2 (text : List UInt8) (h : text.length ≤ 4096) : f8 text = LN LOOPS (stepR text) (stR2 text zeroS) := by
 unfold f8 F8
 rw [decide_eq_false (show ¬ 4096 < (text.length : Int) by omega), cond_false]
 rfl
theorem step_done (text : List UInt8) (s : Spec) (next) : stepR text (stR2 [] s) next = Option.bind (f6 s) fun r => cond (!decide (r.2.1 = 0)) badR (cond (!decide (r.1 = text)) badR (some (s, 0, ()))) := rfl
theorem step_line (text rest : List UInt8) (s : Spec) (next) (b : Bool) (s' : Spec) (hne : rest ≠ []) (hl : rest.length ≤ 10000)
   (hnx : Nx s (cutL 32 (cutL 10 rest).1).1 (cutL 32 (cutL 10 rest).1).2.1 b s') :
   stepR text (stR2 rest s) next = cond b (next (stR2 (cutL 10 rest).2.1 s')) badR := by
 have hm : maxLen = 9223372036854775807 := rfl
 have c1 := p_Cut rest 10 (by omega)
 have c2 := p_Cut (cutL 10 rest).1 32 (by have := cut_len1 10 rest; omega)
 simp only [stepR, stR2, l8_0]
 simp only [hne, decide_false, Bool.not_false, cond_true]
 rw [c1]
 simp only [Option.bind_some]
 rw [c2]
 simp only [Option.bind_some]
 unfold Nx callRL at hnx
 simp only [flds]
 rcases hnx with ⟨e, k1, k2, k3⟩ | ⟨e, k1, k2, k3⟩ | ⟨e, k1, k2, k3⟩ | ⟨e, k1, k2, k3⟩
 · rw [e]
   simp only [E0, Option.bind_some, Sum.elim_inl, k1, k2, decide_true, Bool.and_self, cond_true]
   cases b <;> simp [flds, badR, zeroS, k1, k2]
 · rw [e]
   simp only [E1, Option.bind_some, Sum.elim_inl, Sum.elim_inr, k1, k2, k3, decide_true, Bool.and_self, cond_true]
   cases b <;> simp [flds, badR, zeroS, k1, k2, k3]
 · rw [e]
   simp only [E2, Option.bind_some, Sum.elim_inl, Sum.elim_inr, k1, k2, decide_true, Bool.and_self, cond_true]
   cases b <;> simp [flds, badR, zeroS, k1, k2]
 · rw [e]
   simp only [E3, Option.bind_some, Sum.elim_inl, Sum.elim_inr, k1, k2, decide_true, Bool.and_self, cond_true]
   cases b <;> simp [flds, badR, zeroS, k1, k2]
end NM
end Go.Proofs.YtjngkfdclcgfhaaGreatDoor
end
section
set_option maxRecDepth 10000
namespace Go.Proofs.YtjngkfdclcgfhaaGreatDoor
namespace NM
open AM
def finR (text : List UInt8) (s : Spec) : Option (Spec × (Int × Unit)) := Option.bind (f6 s) fun r => cond (!decide (r.2.1 = 0)) badR (cond (!decide (r.1 = text)) badR (some (s, 0, ())))
theorem cut_shorter (c : UInt8) (s : List UInt8) (h : s ≠ []) : (cutL c s).2.1.length < s.length := by
 have hp : 0 < s.length := List.length_pos_iff.2 h
 cases s with
 | nil => exact absurd rfl h
 | cons x l =>
   by_cases hx : x = c
   · subst hx
     have := cut_at x [] l (by simp)
     rw [List.nil_append] at this
     rw [this]
     simp
   · have := cut_len c l
     unfold cutL
     simp [hx]
     omega
theorem Nx_len {s s' : Spec} {w ws : List UInt8} {b : Bool} (h : Nx s w ws b s') : s'.nodes.length ≤ s.nodes.length + 1 ∧ s'.parts.length ≤ s.parts.length + 1 ∧ s'.queues.length ≤ s.queues.length + 1 := by
 rcases h with ⟨_, k1, k2, k3⟩ | ⟨_, k1, k2, k3⟩ | ⟨_, k1, k2, k3⟩ | ⟨_, k1, k2, k3⟩ <;> (first | rw [k1, k2] | skip) <;> (refine ⟨?_, ?_, ?_⟩) <;> first | omega | (rw [k1]; omega) | (rw [k2]; omega) | (rw [k3]; omega)
theorem read_any (text : List UInt8) : ∀ (m : Nat) (rest : List UInt8) (s : Spec), rest.length < m → rest.length ≤ 5000 → Rng.P s → s.nodes.length + rest.length ≤ 9000 → s.parts.length + rest.length ≤ 9000 → s.queues.length + rest.length ≤ 9000 →
   loopN (stepR text) m (stR2 rest s) = badR ∨ ∃ s', Rng.P s' ∧ loopN (stepR text) m (stR2 rest s) = finR text s' := by
 intro m
 induction m with
 | zero => intro rest s h; omega
 | succ m ih =>
   intro rest s h1 h2 hs n1 n2 n3
   simp only [loopN]
   by_cases hr : rest = []
   · subst hr
     exact .inr ⟨s, hs, step_done text s _⟩
   · have hl1 := cut_len1 10 rest
     have hl2 := cut_len 32 (cutL 10 rest).1
     have hl3 := cut_shorter 10 rest hr
     obtain ⟨b, s', hnx, hs'⟩ := rl_any s hs (cutL 32 (cutL 10 rest).1).1 (cutL 32 (cutL 10 rest).1).2.1 (by omega) (by omega) (by omega) (by omega)
     rw [step_line text rest s _ b s' hr (by omega) hnx]
     obtain ⟨q1, q2, q3⟩ := Nx_len hnx
     cases b with
     | false => exact .inl rfl
     | true => exact ih _ s' (by omega) (by omega) hs' (by omega) (by omega) (by omega)
end NM
end Go.Proofs.YtjngkfdclcgfhaaGreatDoor
end
section
set_option maxRecDepth 10000
namespace Go.Proofs.YtjngkfdclcgfhaaGreatDoor
namespace NM
open AM
theorem read_row (text w ws T : List UInt8) (s s' : Spec) (h1 : (32 : UInt8) ∉ w) (h2 : (10 : UInt8) ∉ w) (h3 : (10 : UInt8) ∉ ws) (hl : (w ++ 32 :: ws ++ 10 :: T).length ≤ 10000) (hnx : Nx s w ws true s') (m : Nat) :
   loopN (stepR text) (m + 1) (stR2 (w ++ 32 :: ws ++ 10 :: T) s) = loopN (stepR text) m (stR2 T s') := by
 have hn : (10 : UInt8) ∉ w ++ 32 :: ws := by
   simp only [List.mem_append, List.mem_cons, not_or]
   exact ⟨h2, by decide, h3⟩
 have c1 := cut_at 10 (w ++ 32 :: ws) T hn
 have c2 := cut_at 32 w ws h1
 simp only [loopN]
 have := step_line text (w ++ 32 :: ws ++ 10 :: T) s (loopN (stepR text) m) true s' (by simp) hl (by rw [c1]; simp only [c2]; exact hnx)
 rw [this, c1]
 rfl
theorem nums_no (c : UInt8) (hc : c.toNat < 48) (h32 : c ≠ 32) : ∀ l : List Nat, c ∉ numsS l
 | [], h => by cases h
 | n :: l, h => by
   simp only [numsS, List.mem_cons, List.mem_append] at h
   rcases h with h | h | h
   · exact h32 h
   · exact dec_no n c hc h
   · exact nums_no c hc h32 l h
theorem blank_no (l : List Nat) : (10 : UInt8) ∉ blankS l := by
 cases l with
 | nil => intro h; cases h
 | cons n l =>
   simp only [blankS, List.mem_append, not_or]
   exact ⟨dec_no n 10 (by decide), nums_no 10 (by decide) (by decide) l⟩
theorem line_eq (w : List UInt8) (x : Int) (l : List Int) (T : List UInt8) : lineI w (x :: l) ++ T = w ++ 32 :: blankS (natL (x :: l)) ++ 10 :: T := by
 simp [lineI, natL, numsS, blankS]
theorem nums_of (x : Int) (l : List Int) (hl : (x :: l).length ≤ 1000) (h : ∀ y ∈ x :: l, Sm y) : f35 (blankS (natL (x :: l))) = some (x :: l, true, ()) := by
 rw [p_specNums (natL (x :: l)) (by simp [natL]) (by rw [natL_len]; exact hl) (nat_small h), toZ_nat _ fun y hy => (h y hy).1]
theorem wd10 (k : Nat) : (10 : UInt8) ∉ wd k := by
 match k with
 | 0 => decide
 | 1 => decide
 | 2 => decide
 | k + 3 => show (10 : UInt8) ∉ ([108, 105, 99] : List UInt8); decide
theorem items10 (r : Nat → Nat) : ∀ m, ∀ x ∈ itemsF r m, (10 : UInt8) ∉ x
 | 0, x, hx => by simp [itemsF] at hx
 | m + 1, x, hx => by
   simp only [itemsF] at hx
   split at hx
   · exact items10 r m x hx
   · rcases List.mem_cons.1 hx with rfl | hx
     · simp only [item, List.mem_append, List.mem_cons, not_or]
       exact ⟨wd10 _, by decide, dec_no _ 10 (by decide)⟩
     · exact items10 r m x hx
theorem join10 : ∀ l : List (List UInt8), (∀ x ∈ l, (10 : UInt8) ∉ x) → (10 : UInt8) ∉ Lib.join l [44]
 | [], _ => by rw [Lib.join_nil]; simp
 | [x], h => by rw [Lib.join_one]; exact h x List.mem_cons_self
 | x :: y :: l, h => by
   rw [join_two x (y :: l) (by simp)]
   simp only [List.mem_append, List.mem_cons, not_or]
   exact ⟨h x List.mem_cons_self, by decide, join10 (y :: l) fun z hz => h z (List.mem_cons_of_mem _ hz)⟩
theorem txtR10 (a : Res) : (10 : UInt8) ∉ txtR a := by
 unfold txtR txtU
 split
 · decide
 · exact join10 _ (items10 _ _)
theorem p_unitsRead {a : Res} (h : resOk a = true) : f34 (txtR a) = some (a, 0, ()) := by
 obtain ⟨h1, h2⟩ := resN_of h
 have := p_Read_txt (resN a) h2
 rwa [h1] at this
def low (w : List UInt8) : Bool := w.all fun c => decide (97 ≤ c.toNat)
theorem low_no {w : List UInt8} (h : low w = true) (c : UInt8) (hc : c.toNat < 97) : c ∉ w := fun hm => by
 have := List.all_eq_true.1 h c hm
 simp only [decide_eq_true_eq] at this
 omega
theorem read_line (text w : List UInt8) (x : Int) (l : List Int) (T : List UInt8) (s s' : Spec) (hw : low w = true) (hl : (lineI w (x :: l) ++ T).length ≤ 10000) (hx : (x :: l).length ≤ 1000) (h : ∀ y ∈ x :: l, Sm y)
   (hnx : ∀ ws, f35 ws = some (x :: l, true, ()) → Nx s w ws true s') (m : Nat) :
   loopN (stepR text) (m + 1) (stR2 (lineI w (x :: l) ++ T) s) = loopN (stepR text) m (stR2 T s') := by
 rw [line_eq] at hl ⊢
 exact read_row text w _ T s s' (low_no hw 32 (by decide)) (low_no hw 10 (by decide)) (blank_no _) hl (hnx _ (nums_of x l hx h)) m
theorem read_nodes (text T : List UInt8) : ∀ (l : List Res) (s : Spec) (m : Nat), (∀ a ∈ l, resOk a = true) → (l.flatMap lineN ++ T).length ≤ 10000 → s.nodes.length + l.length ≤ 10000 →
   loopN (stepR text) (m + l.length) (stR2 (l.flatMap lineN ++ T) s) = loopN (stepR text) m (stR2 T { s with nodes := s.nodes ++ l })
 | [], s, m, h1, h2, h3 => by simp
 | a :: l, s, m, h1, h2, h3 => by
   have ha := h1 a List.mem_cons_self
   have e : ((a :: l).flatMap lineN ++ T) = [110, 111, 100, 101] ++ 32 :: txtR a ++ 10 :: (l.flatMap lineN ++ T) := by simp [lineN]
   rw [e] at h2 ⊢
   simp only [List.length_cons] at h3
   have hrl := rl_node s (txtR a) a 0 (p_unitsRead ha) (by omega)
   rw [decide_eq_true rfl] at hrl
   rw [List.length_cons, ← Nat.add_assoc, read_row text [110, 111, 100, 101] (txtR a) _ s { s with nodes := s.nodes ++ [a] } (by decide) (by decide) (txtR10 a) h2 (.inl ⟨hrl, rfl, rfl, by simp⟩)]
   rw [read_nodes text T l _ m (fun b hb => h1 b (List.mem_cons_of_mem _ hb)) (by simp only [List.length_append, List.length_cons] at h2 ⊢; omega) (by simp only [List.length_append, List.length_cons, List.length_nil]; omega)]
   simp
theorem read_parts (text T : List UInt8) : ∀ (l : List (List Int)) (s : Spec) (m : Nat), (∀ p ∈ l, 1 ≤ p.length ∧ p.length ≤ 16 ∧ ∀ x ∈ p, Sm x) → (l.flatMap lineP ++ T).length ≤ 10000 → s.parts.length + l.length ≤ 10000 →
   loopN (stepR text) (m + l.length) (stR2 (l.flatMap lineP ++ T) s) = loopN (stepR text) m (stR2 T { s with parts := s.parts ++ l })
 | [], s, m, h1, h2, h3 => by simp
 | p :: l, s, m, h1, h2, h3 => by
   obtain ⟨p1, p2, p3⟩ := h1 p List.mem_cons_self
   obtain ⟨x, r, rfl⟩ : ∃ x r, p = x :: r := by
     cases p with
     | nil => simp at p1
     | cons x r => exact ⟨x, r, rfl⟩
   have e : (((x :: r) :: l).flatMap lineP ++ T) = lineI [112, 97, 114, 116] (x :: r) ++ (l.flatMap lineP ++ T) := by simp [lineP]
   rw [e] at h2 ⊢
   simp only [List.length_cons] at h3
   rw [List.length_cons, ← Nat.add_assoc, read_line text [112, 97, 114, 116] x r _ s { s with parts := s.parts ++ [x :: r] } (by decide) h2 (by omega) p3 (fun ws hws => .inr (.inr (.inl ⟨rl_part s ws _ (by omega) hws, rfl, rfl, by simp⟩)))]
   rw [read_parts text T l _ m (fun b hb => h1 b (List.mem_cons_of_mem _ hb)) (by simp only [List.length_append, List.length_cons] at h2 ⊢; omega) (by simp only [List.length_append, List.length_cons, List.length_nil]; omega)]
   simp
theorem read_queues (text T : List UInt8) : ∀ (l : List Queue) (s : Spec) (m : Nat), (∀ q ∈ l, q.users.length ≤ 8 ∧ (∀ x ∈ q.users, Sm x) ∧ Sm q.part ∧ Sm q.maxJobs ∧ Sm q.maxRun ∧ Sm q.maxUser ∧ Sm q.qos) → (l.flatMap lineQ ++ T).length ≤ 10000 → s.queues.length + l.length ≤ 10000 →
   loopN (stepR text) (m + l.length) (stR2 (l.flatMap lineQ ++ T) s) = loopN (stepR text) m (stR2 T { s with queues := s.queues ++ l })
 | [], s, m, h1, h2, h3 => by simp
 | q :: l, s, m, h1, h2, h3 => by
   obtain ⟨k1, k2⟩ := qNums_ok (h1 q List.mem_cons_self)
   have e : ((q :: l).flatMap lineQ ++ T) = lineI [113, 117, 101, 117, 101] (q.part :: ([q.maxJobs, q.maxRun, q.maxUser, q.qos] ++ q.users)) ++ (l.flatMap lineQ ++ T) := by simp [lineQ, qNums]
   rw [e] at h2 ⊢
   simp only [List.length_cons] at h3
   rw [List.length_cons, ← Nat.add_assoc, read_line text [113, 117, 101, 117, 101] q.part _ _ s { s with queues := s.queues ++ [q] } (by decide) h2 (by have := k1; unfold qNums at this; exact Nat.le_trans this (by omega)) k2 (fun ws hws => .inr (.inr (.inr ⟨rl_queue s ws _ _ _ _ _ _ (by omega) hws, rfl, rfl, by simp⟩)))]
   rw [read_queues text T l _ m (fun b hb => h1 b (List.mem_cons_of_mem _ hb)) (by simp only [List.length_append, List.length_cons] at h2 ⊢; omega) (by simp only [List.length_append, List.length_cons, List.length_nil]; omega)]
   simp
end NM
end Go.Proofs.YtjngkfdclcgfhaaGreatDoor
end
section
set_option maxRecDepth 10000
namespace Go.Proofs.YtjngkfdclcgfhaaGreatDoor
namespace NM
open AM
theorem tail_len (s : Spec) (h : OkS s) : (tailS s).length ≤ 600 := by
 have k1 := lineI_len [119, 101, 105, 103, 104, 116, 115] [s.weights.age, s.weights.size, s.weights.qos, s.weights.share] (sm4 h.w)
 have k2 := lineI_len [100, 101, 99, 97, 121] [s.decay] (sm1 h.de)
 have k3 := lineI_len ([109, 111, 100, 101, 32] ++ modeT s.mode) [] (fun x hx => by cases hx)
 have k4 := lineI_len [106, 111, 98, 115] [s.jobs] (sm1 h.jo)
 have k5 := lineI_len [105, 100, 115] [s.ids] (sm1 h.id)
 have k6 := lineI_len [118, 101, 114, 115, 105, 111, 110, 115] [s.versions] (sm1 h.ve)
 have k7 := lineI_len [108, 105, 110, 103, 101, 114] [s.linger] (sm1 h.li)
 have k8 := lineI_len [107, 101, 101, 112] [s.keep] (sm1 h.ke)
 have k9 := lineI_len [105, 110] [s.inn] (sm1 h.inn)
 have k10 := lineI_len [111, 117, 116] [s.out] (sm1 h.ou)
 have k11 := lineI_len [99, 97, 99, 104, 101] [s.cache] (sm1 h.ca)
 have km : (modeT s.mode).length ≤ 12 := by unfold modeT; split <;> simp
 simp only [List.length_append, List.length_cons, List.length_nil] at k1 k2 k3 k4 k5 k6 k7 k8 k9 k10 k11
 unfold tailS
 simp only [List.length_append]
 omega
theorem mode_line (n : Int) (T : List UInt8) : lineI ([109, 111, 100, 101, 32] ++ modeT n) [] ++ T = [109, 111, 100, 101] ++ 32 :: modeT n ++ 10 :: T := by
 simp [lineI, natL, numsS]
theorem mode_of {n : Int} (h : n = 1 ∨ n = 2) : (if modeT n = [99, 111, 110, 115, 101, 114, 118, 97, 116, 105, 118, 101] then (2 : Int) else 1) = n ∧ (10 : UInt8) ∉ modeT n := by
 rcases h with rfl | rfl
 · exact ⟨by decide, by decide⟩
 · exact ⟨by decide, by decide⟩
theorem tl_weights (text T : List UInt8) (w : Weights) (s1 : Spec) (hw : Sm w.age ∧ Sm w.size ∧ Sm w.qos ∧ Sm w.share) (hT : T.length ≤ 9000) (m : Nat) : loopN (stepR text) (m + 1) (stR2 (lineI [119, 101, 105, 103, 104, 116, 115] [w.age, w.size, w.qos, w.share] ++ T) s1) = loopN (stepR text) m (stR2 T { s1 with weights := w }) := by
 have k := lineI_len [119, 101, 105, 103, 104, 116, 115] [w.age, w.size, w.qos, w.share] (sm4 hw)
 simp only [List.length_cons, List.length_nil] at k
 exact read_line text _ _ _ T s1 { s1 with weights := w } (by decide) (by rw [List.length_append]; omega) (by simp) (sm4 hw) (fun ws hws => .inr (.inl ⟨rl_weights s1 ws _ _ _ _ hws, rfl, rfl, rfl⟩)) m
theorem tl_decay (text T : List UInt8) (x : Int) (s1 : Spec) (hx : Sm x) (hT : T.length ≤ 9000) (m : Nat) : loopN (stepR text) (m + 1) (stR2 (lineI [100, 101, 99, 97, 121] [x] ++ T) s1) = loopN (stepR text) m (stR2 T { s1 with decay := x }) := by
 have k := lineI_len [100, 101, 99, 97, 121] [x] (sm1 hx)
 simp only [List.length_cons, List.length_nil] at k
 exact read_line text _ _ _ T s1 { s1 with decay := x } (by decide) (by rw [List.length_append]; omega) (by simp) (sm1 hx) (fun ws hws => .inr (.inl ⟨rl_decay s1 ws _ hws, rfl, rfl, rfl⟩)) m
theorem tl_jobs (text T : List UInt8) (x : Int) (s1 : Spec) (hx : Sm x) (hT : T.length ≤ 9000) (m : Nat) : loopN (stepR text) (m + 1) (stR2 (lineI [106, 111, 98, 115] [x] ++ T) s1) = loopN (stepR text) m (stR2 T { s1 with jobs := x }) := by
 have k := lineI_len [106, 111, 98, 115] [x] (sm1 hx)
 simp only [List.length_cons, List.length_nil] at k
 exact read_line text _ _ _ T s1 { s1 with jobs := x } (by decide) (by rw [List.length_append]; omega) (by simp) (sm1 hx) (fun ws hws => .inr (.inl ⟨rl_jobs s1 ws _ hws, rfl, rfl, rfl⟩)) m
theorem tl_ids (text T : List UInt8) (x : Int) (s1 : Spec) (hx : Sm x) (hT : T.length ≤ 9000) (m : Nat) : loopN (stepR text) (m + 1) (stR2 (lineI [105, 100, 115] [x] ++ T) s1) = loopN (stepR text) m (stR2 T { s1 with ids := x }) := by
 have k := lineI_len [105, 100, 115] [x] (sm1 hx)
 simp only [List.length_cons, List.length_nil] at k
 exact read_line text _ _ _ T s1 { s1 with ids := x } (by decide) (by rw [List.length_append]; omega) (by simp) (sm1 hx) (fun ws hws => .inr (.inl ⟨rl_ids s1 ws _ hws, rfl, rfl, rfl⟩)) m
theorem tl_versions (text T : List UInt8) (x : Int) (s1 : Spec) (hx : Sm x) (hT : T.length ≤ 9000) (m : Nat) : loopN (stepR text) (m + 1) (stR2 (lineI [118, 101, 114, 115, 105, 111, 110, 115] [x] ++ T) s1) = loopN (stepR text) m (stR2 T { s1 with versions := x }) := by
 have k := lineI_len [118, 101, 114, 115, 105, 111, 110, 115] [x] (sm1 hx)
 simp only [List.length_cons, List.length_nil] at k
 exact read_line text _ _ _ T s1 { s1 with versions := x } (by decide) (by rw [List.length_append]; omega) (by simp) (sm1 hx) (fun ws hws => .inr (.inl ⟨rl_versions s1 ws _ hws, rfl, rfl, rfl⟩)) m
theorem tl_linger (text T : List UInt8) (x : Int) (s1 : Spec) (hx : Sm x) (hT : T.length ≤ 9000) (m : Nat) : loopN (stepR text) (m + 1) (stR2 (lineI [108, 105, 110, 103, 101, 114] [x] ++ T) s1) = loopN (stepR text) m (stR2 T { s1 with linger := x }) := by
 have k := lineI_len [108, 105, 110, 103, 101, 114] [x] (sm1 hx)
 simp only [List.length_cons, List.length_nil] at k
 exact read_line text _ _ _ T s1 { s1 with linger := x } (by decide) (by rw [List.length_append]; omega) (by simp) (sm1 hx) (fun ws hws => .inr (.inl ⟨rl_linger s1 ws _ hws, rfl, rfl, rfl⟩)) m
theorem tl_keep (text T : List UInt8) (x : Int) (s1 : Spec) (hx : Sm x) (hT : T.length ≤ 9000) (m : Nat) : loopN (stepR text) (m + 1) (stR2 (lineI [107, 101, 101, 112] [x] ++ T) s1) = loopN (stepR text) m (stR2 T { s1 with keep := x }) := by
 have k := lineI_len [107, 101, 101, 112] [x] (sm1 hx)
 simp only [List.length_cons, List.length_nil] at k
 exact read_line text _ _ _ T s1 { s1 with keep := x } (by decide) (by rw [List.length_append]; omega) (by simp) (sm1 hx) (fun ws hws => .inr (.inl ⟨rl_keep s1 ws _ hws, rfl, rfl, rfl⟩)) m
theorem tl_inn (text T : List UInt8) (x : Int) (s1 : Spec) (hx : Sm x) (hT : T.length ≤ 9000) (m : Nat) : loopN (stepR text) (m + 1) (stR2 (lineI [105, 110] [x] ++ T) s1) = loopN (stepR text) m (stR2 T { s1 with inn := x }) := by
 have k := lineI_len [105, 110] [x] (sm1 hx)
 simp only [List.length_cons, List.length_nil] at k
 exact read_line text _ _ _ T s1 { s1 with inn := x } (by decide) (by rw [List.length_append]; omega) (by simp) (sm1 hx) (fun ws hws => .inr (.inl ⟨rl_inn s1 ws _ hws, rfl, rfl, rfl⟩)) m
theorem tl_out (text T : List UInt8) (x : Int) (s1 : Spec) (hx : Sm x) (hT : T.length ≤ 9000) (m : Nat) : loopN (stepR text) (m + 1) (stR2 (lineI [111, 117, 116] [x] ++ T) s1) = loopN (stepR text) m (stR2 T { s1 with out := x }) := by
 have k := lineI_len [111, 117, 116] [x] (sm1 hx)
 simp only [List.length_cons, List.length_nil] at k
 exact read_line text _ _ _ T s1 { s1 with out := x } (by decide) (by rw [List.length_append]; omega) (by simp) (sm1 hx) (fun ws hws => .inr (.inl ⟨rl_out s1 ws _ hws, rfl, rfl, rfl⟩)) m
theorem tl_cache (text T : List UInt8) (x : Int) (s1 : Spec) (hx : Sm x) (hT : T.length ≤ 9000) (m : Nat) : loopN (stepR text) (m + 1) (stR2 (lineI [99, 97, 99, 104, 101] [x] ++ T) s1) = loopN (stepR text) m (stR2 T { s1 with cache := x }) := by
 have k := lineI_len [99, 97, 99, 104, 101] [x] (sm1 hx)
 simp only [List.length_cons, List.length_nil] at k
 exact read_line text _ _ _ T s1 { s1 with cache := x } (by decide) (by rw [List.length_append]; omega) (by simp) (sm1 hx) (fun ws hws => .inr (.inl ⟨rl_cache s1 ws _ hws, rfl, rfl, rfl⟩)) m
theorem tl_mode (text T : List UInt8) (n : Int) (s1 : Spec) (hn : n = 1 ∨ n = 2) (hT : T.length ≤ 9000) (m : Nat) : loopN (stepR text) (m + 1) (stR2 (lineI ([109, 111, 100, 101, 32] ++ modeT n) [] ++ T) s1) = loopN (stepR text) m (stR2 T { s1 with mode := n }) := by
 obtain ⟨m1, m2⟩ := mode_of hn
 have km : (modeT n).length ≤ 12 := by unfold modeT; split <;> simp
 have hr : callRL s1 [109, 111, 100, 101] (modeT n) = some (E1 true { s1 with mode := n }) := by
   rw [rl_mode, m1]
 rw [mode_line]
 exact read_row text [109, 111, 100, 101] (modeT n) T s1 { s1 with mode := n } (by decide) (by decide) m2 (by simp only [List.length_append, List.length_cons, List.length_nil]; omega) (.inr (.inl ⟨hr, rfl, rfl, rfl⟩)) m
theorem read_tail (text : List UInt8) (s s1 : Spec) (h : OkS s) (m : Nat) : loopN (stepR text) (m + 11) (stR2 (tailS s) s1) =
   loopN (stepR text) m (stR2 [] { s1 with weights := s.weights, decay := s.decay, mode := s.mode, jobs := s.jobs, ids := s.ids, versions := s.versions, linger := s.linger, keep := s.keep, inn := s.inn, out := s.out, cache := s.cache }) := by
 have hT := tail_len s h
 have e : tailS s = tailS s ++ [] := by simp
 rw [e] at hT ⊢
 unfold tailS at hT ⊢
 simp only [List.append_assoc] at hT ⊢
 simp only [List.length_append] at hT
 obtain ⟨z1, z2, z3, z4, z5, z6, z7, z8, z9, z10, z11, z12, z13, z14, z15⟩ := s1
 dsimp only
 rw [show m + 11 = m + 10 + 1 from rfl, tl_weights text _ s.weights _ h.w (by simp only [List.length_append, List.length_nil]; omega)]
 dsimp only
 rw [show m + 10 = m + 9 + 1 from rfl, tl_decay text _ s.decay _ h.de (by simp only [List.length_append, List.length_nil]; omega)]
 dsimp only
 rw [show m + 9 = m + 8 + 1 from rfl, tl_mode text _ s.mode _ h.mo (by simp only [List.length_append, List.length_nil]; omega)]
 dsimp only
 rw [show m + 8 = m + 7 + 1 from rfl, tl_jobs text _ s.jobs _ h.jo (by simp only [List.length_append, List.length_nil]; omega)]
 dsimp only
 rw [show m + 7 = m + 6 + 1 from rfl, tl_ids text _ s.ids _ h.id (by simp only [List.length_append, List.length_nil]; omega)]
 dsimp only
 rw [show m + 6 = m + 5 + 1 from rfl, tl_versions text _ s.versions _ h.ve (by simp only [List.length_append, List.length_nil]; omega)]
 dsimp only
 rw [show m + 5 = m + 4 + 1 from rfl, tl_linger text _ s.linger _ h.li (by simp only [List.length_append, List.length_nil]; omega)]
 dsimp only
 rw [show m + 4 = m + 3 + 1 from rfl, tl_keep text _ s.keep _ h.ke (by simp only [List.length_append, List.length_nil]; omega)]
 dsimp only
 rw [show m + 3 = m + 2 + 1 from rfl, tl_inn text _ s.inn _ h.inn (by simp only [List.length_append, List.length_nil]; omega)]
 dsimp only
 rw [show m + 2 = m + 1 + 1 from rfl, tl_out text _ s.out _ h.ou (by simp only [List.length_append, List.length_nil]; omega)]
 dsimp only
 rw [tl_cache text _ s.cache _ h.ca (by simp only [List.length_append, List.length_nil]; omega)]
theorem txt_len4 (s : Spec) (h : OkS s) : (txtS s).length ≤ 4096 := by
 have bN := flat_len lineN 54 s.nodes fun a ha => lineN_len (h.n2 a ha)
 have bP := flat_len lineP 133 s.parts fun a ha => lineP_len (h.p2 a ha)
 have bQ := flat_len lineQ 110 s.queues fun a ha => lineQ_len (h.q2 a ha)
 have n1 := h.n1
 have p1 := h.p1
 have q1 := h.q1
 have bU := lineI_len [117, 115, 101, 114, 115] [s.users] (sm1 h.us)
 have bT := tail_len s h
 simp only [List.length_cons, List.length_nil] at bU
 unfold txtS
 simp only [List.length_append]
 omega
theorem read_txt (s : Spec) (h : OkS s) (hr : f6 s = ansT (txtS s)) : f8 (txtS s) = some (s, 0, ()) := by
 have hl := txt_len4 s h
 have n1 := h.n1
 have p1 := h.p1
 have q1 := h.q1
 rw [read_loop2 _ hl]
 obtain ⟨m, hm⟩ : ∃ m, LOOPS = (((m + 1 + 11) + s.queues.length + 1) + s.parts.length) + s.nodes.length := ⟨LOOPS - (1 + 11 + s.queues.length + 1 + s.parts.length + s.nodes.length), by have := LOOPS_big (n := 1000) (by omega); omega⟩
 have e : LN LOOPS (stepR (txtS s)) (stR2 (txtS s) zeroS) = loopN (stepR (txtS s)) ((((m + 1 + 11) + s.queues.length + 1) + s.parts.length) + s.nodes.length) (stR2 (txtS s) zeroS) := by
   rw [← hm]
   rfl
 rw [e]
 have key : ∀ text, loopN (stepR text) ((((m + 1 + 11) + s.queues.length + 1) + s.parts.length) + s.nodes.length) (stR2 (txtS s) zeroS) = loopN (stepR text) (m + 1) (stR2 [] s) := fun text => by
   unfold txtS at hl ⊢
   rw [read_nodes text _ s.nodes zeroS _ h.n2 (by omega) (by simp only [zeroS, List.length_nil]; omega)]
   simp only [List.length_append] at hl
   rw [read_parts text _ s.parts _ _ h.p2 (by simp only [List.length_append]; omega) (by simp only [zeroS, List.length_nil]; omega)]
   rw [read_line text [117, 115, 101, 114, 115] _ _ _ _ _ (by decide) (by simp only [List.length_append]; omega) (by simp) (sm1 h.us) (fun ws hws => .inr (.inl ⟨rl_users _ ws _ hws, rfl, rfl, rfl⟩))]
   rw [read_queues text _ s.queues _ _ h.q2 (by simp only [List.length_append]; omega) (by simp only [zeroS, List.length_nil]; omega)]
   rw [read_tail text s _ h]
   simp only [zeroS, List.nil_append]
 rw [key]
 simp only [loopN]
 rw [step_done, hr]
 simp [ansT]
end NM
end Go.Proofs.YtjngkfdclcgfhaaGreatDoor
end
section
set_option maxRecDepth 10000
namespace Go.Proofs.YtjngkfdclcgfhaaGreatDoor
namespace specTexts
open NM AM
theorem awake07 : f4 = some true := by kernel_rfl
theorem zero_P : Rng.P zeroS := by
 have z : I64 0 := ⟨by decide, by decide⟩
 exact ⟨⟨Nat.zero_le _, fun x hx => by cases hx⟩, ⟨Nat.zero_le _, fun x hx => by cases hx⟩, ⟨Nat.zero_le _, fun x hx => by cases hx⟩, z, ⟨z, z, z, z⟩, z, z, z, z, z, z, z, z, z, z⟩
theorem read_any2 (text : List UInt8) (hl : text.length ≤ 4000) : f8 text = some (zeroS, 11, ()) ∨ ∃ s', Rng.P s' ∧ specOk s' = true ∧ txtS s' = text ∧ f8 text = some (s', 0, ()) := by
 have e : LN LOOPS (stepR text) (stR2 text zeroS) = loopN (stepR text) LOOPS (stR2 text zeroS) := rfl
 rw [read_loop2 _ (by omega), e]
 have hb := LOOPS_big (n := 5000) (by omega)
 rcases read_any text LOOPS text zeroS (by omega) (by omega) zero_P (by simp only [zeroS, List.length_nil]; omega) (by simp only [zeroS, List.length_nil]; omega) (by simp only [zeroS, List.length_nil]; omega) with h | ⟨s', hs', h⟩
 · exact .inl h
 · rw [h]
   unfold finR
   rw [p_specText s' hs']
   cases hk : specOk s' with
   | false => exact .inl rfl
   | true =>
     rw [if_pos rfl]
     simp only [ansT, Option.bind_some, decide_true, Bool.not_true, cond_false]
     by_cases ht : txtS s' = text
     · rw [decide_eq_true ht]
       exact .inr ⟨s', hs', hk, ht, rfl⟩
     · rw [decide_eq_false ht]
       exact .inl rfl
theorem law_SpecTexts (s : Spec) (hs : Rng.P s) (text : List UInt8) : f3 s text = some true := by
 unfold f3 F3
 simp only [awake07, r_Few s hs, Option.bind_some, Bool.not_true, cond_false]
 cases hf : fewB s with
 | false => rfl
 | true =>
   simp only [Bool.not_true, cond_false]
   by_cases hl : 4000 < (text.length : Int)
   · rw [decide_eq_true hl]
     rfl
   · rw [decide_eq_false hl]
     simp only [cond_false]
     have key : (f8 text = some (zeroS, 11, ())) ∨ ∃ s', Rng.P s' ∧ specOk s' = true ∧ txtS s' = text ∧ f8 text = some (s', 0, ()) := read_any2 text (by omega)
     rw [p_specText s hs, r_specRight s hs]
     cases hk : specOk s with
     | false =>
       rcases key with h | ⟨s', hs', hk', ht, h⟩
       · rw [h]
         simp only [Option.bind_some, r_SameZero]
         rfl
       · rw [h]
         simp only [Option.bind_some, r_specRight s' hs', r_specText s' (okS_of hk'), hk', ht]
         simp
     | true =>
       have ho := okS_of hk
       have hr : f8 (txtS s) = some (s, 0, ()) := read_txt s ho (by rw [p_specText s hs, hk]; rfl)
       rw [if_pos rfl]
       simp only [ansT, Option.bind_some, Bool.not_true, cond_false, hr, r_specText s ho, r_Same s ho, decide_true, cond_true]
       rcases key with h | ⟨s', hs', hk', ht, h⟩
       · rw [h]
         simp only [Option.bind_some, r_SameZero]
         rfl
       · rw [h]
         simp only [Option.bind_some, r_specRight s' hs', r_specText s' (okS_of hk'), hk', ht]
         simp
theorem walk (x0 : Spec) (x1 : ByteArray) (v0 v1 : Value) (W : World) (hgl : GlobR W (Lt W.heap.size)) (h0 : V W (Lt W.heap.size) x0 v0) (h1 : V W (Lt W.heap.size) x1 v1) :
   Calls Tryz.prog 3 #[v0, v1] W fun e w' => e = .returned (.bool true) ∧ Go.RowKit.Below W.heap.size W w' :=
 nlaw_walk NM.ok3 (x := (NEnc.f x0, NEnc.f x1, ())) (law_SpecTexts x0 (Rng.ok h0.1) _) (arg_cons x0 (arg_cons x1 arg_nil)) rfl (fun j a v ha hv => by
   match j with
   | 0 => simp at ha hv; subst ha; subst hv; exact h0.vr (fun _ h => h) _
   | 1 => simp at ha hv; subst ha; subst hv; exact h1.vr (fun _ h => h) _) hgl
end specTexts
end Go.Proofs.YtjngkfdclcgfhaaGreatDoor
end
section
namespace Go.Proofs.YtjngkfdclcgfhaaGreatDoor
open Go Go.RowKit
namespace GlobS
def At (W : World) (g : Nat) (cs : List AM.AVal) : Prop := AM.IR W (Lt W.heap.size) (.iptr cs 0) (.pointer (some ⟨g, 0, none⟩)) ∧ g < W.heap.size ∧ ∃ us t p, W.heap[g]? = some (.cells us t p) ∧ us.size = cs.length
theorem at_of {W : World} {g : Nat} {cs : List AM.AVal} {us : Array Value} {t : TypeId} {p : Nat × Nat} (h : W.heap[g]? = some (.cells us t p)) (hl : us.size = cs.length) (hr : ∀ (j : Nat) (c : AM.AVal) (v : Value), cs[j]? = some c → us[j]? = some v → AM.IR W (Lt W.heap.size) c v) : At W g cs := by
 have hlt : g < W.heap.size := by
   rcases Nat.lt_or_ge g W.heap.size with h' | h'
   · exact h'
   · rw [Array.getElem?_eq_none h'] at h; cases h
 refine ⟨.iptr _ 0 g 0 (fun j => us.getD j undef) hlt (fun j c hj => ?_) (fun j c hj => ?_), hlt, us, t, p, h, hl⟩
 · have hj' := (List.getElem?_eq_some_iff.1 hj).1
   have hju : j < us.size := by omega
   simp only [World.cell?, h, Nat.zero_add]
   simp [Array.getD, hju]
 · have hj' := (List.getElem?_eq_some_iff.1 hj).1
   have hju : j < us.size := by omega
   refine hr j c _ hj ?_
   simp [Array.getD, hju]
theorem var_heap {P : Program} {W : World} {name : String} {g : Nat} {us : Array Value} (hg : P.globalNamed name = some g) (hv : W.var? P name = some us) : ∃ t p, W.heap[g]? = some (.cells us t p) := by
 unfold World.var? at hv
 rw [hg] at hv
 simp only [Option.bind_some] at hv
 split at hv
 · rename_i us' t p hu
   cases hv
   exact ⟨t, p, hu⟩
 · cases hv
theorem at_ints {P : Program} {W : World} {name : String} {g : Nat} {k : IntKind} {zs : List Int} (hg : P.globalNamed name = some g) (hT : Lib.TabIs P W name k zs) : At W g (zs.map (.int k)) := by
 obtain ⟨t, p, h⟩ := var_heap hg hT
 refine at_of h (by simp) fun j c v hc hv => ?_
 rw [List.getElem?_map] at hc
 obtain ⟨z, hz, rfl⟩ := Option.map_eq_some_iff.1 hc
 have : v = .int k z := by simpa [hz] using hv.symm
 subst this
 exact .int k z
theorem globR_of {W : World} (h : ∀ p, p ∈ AM.globs → At W p.1 p.2) (h2 : ∀ b, b ∈ AM.anyInts → ∃ m t p, W.heap[b]? = some (.cells #[.int .i64 m] t p)) (h3 : ∀ b, b ∈ AM.anyIfs → ∃ ev t p, W.heap[b]? = some (.cells #[ev] t p) ∧ AM.IfOk ev) : AM.GlobR W (Lt W.heap.size) := by
 have key : ∀ (l : List (Nat × List AM.AVal)), (∀ p, p ∈ l → At W p.1 p.2) → ∀ b cs, AM.globOf b l = some cs → At W b cs := by
   intro l
   induction l with
   | nil => intro _ b cs hb; cases hb
   | cons p l ih =>
     intro hl b cs hb
     obtain ⟨c, ds⟩ := p
     simp only [AM.globOf] at hb
     split at hb
     · rename_i hcb
       subst hcb
       cases hb
       exact hl _ (List.mem_cons_self ..)
     · exact ih (fun p hp => hl p (List.mem_cons_of_mem _ hp)) b cs hb
 refine ⟨fun b cs hb => key AM.globs h b cs hb, fun b hb => ?_, fun b hb => ?_⟩
 · obtain ⟨m, t, p, h3⟩ := h2 b hb
   refine ⟨?_, m, t, p, h3⟩
   rcases Nat.lt_or_ge b W.heap.size with h' | h'
   · exact h'
   · rw [Array.getElem?_eq_none h'] at h3; cases h3
 · obtain ⟨m, t, p, h4, h5⟩ := h3 b hb
   refine ⟨?_, m, t, p, h4, h5⟩
   rcases Nat.lt_or_ge b W.heap.size with h' | h'
   · exact h'
   · rw [Array.getElem?_eq_none h'] at h4; cases h4
theorem some_int {P : Program} {w : World} {g : Nat} {t : TypeId} {zero : Array Value} {k : IntKind}
   (h : w.ShapedOpen P) (hg : g < P.globals.size)
   (h0 : ((begin P (fun _ _ => 0) default).world.heap[g]?).bind Obj.row? = some (zero, t)) (hz : zero.size = 1)
   (hb : P.buildable t = true) (hc : P.cellTypes P.depth t = some [t]) (hu : P.underlying t = some (.int k)) :
   ∃ m t p, w.heap[g]? = some (.cells #[.int k m] t p) := by
 obtain ⟨cs, hh, hs, hr⟩ := h.1 g zero t hg h0
 obtain ⟨ts, hts, _, hall⟩ := hr hb
 rw [hc] at hts
 cases hts
 have h1 : cs.size = 1 := by omega
 obtain ⟨u, hu', hok⟩ := hall 0 cs[0] (by simp [h1])
 have : u = t := by simpa using hu'.symm
 subst this
 unfold Cell.ok at hok
 rw [hu] at hok
 cases hv : cs[0] <;> rw [hv] at hok <;> simp at hok
 case int k' n =>
   have e : cs = #[.int k n] := by
     apply Array.ext
     · simp [h1]
     · intro i hi1 hi2
       have : i = 0 := by omega
       subst this
       rw [hv, hok.1]
       rfl
   rw [e] at hh
   exact ⟨n, _, _, hh⟩
theorem some_iface {P : Program} {W : World} {name nm : String} {d : DataW Unit} {rest : List (String × DataW Unit)} {g : Nat} {ti : TypeId} {ms : Array (String × TypeId)}
   (hg : P.globalNamed name = some g) (hty : (P.globals[g]?).map (·.type) = some ti) (hi : P.underlying ti = some (.interface ms))
   (h : laidMet P ((name, .iface nm d) :: rest) W) : ∃ ev t p, W.heap[g]? = some (.cells #[ev] t p) ∧ AM.IfOk ev := by
 obtain ⟨ps, ⟨g', t', cs, fuel, p, q, hg', ht', hvar, hd, _, _⟩, _⟩ := h
 obtain rfl := Option.some.inj (hg.symm.trans hg')
 obtain rfl := Option.some.inj (hty.symm.trans ht')
 obtain ⟨f1, u, v, hcs, _⟩ := iface_of_trod hi hd
 obtain ⟨t, p, hh⟩ := var_heap hg hvar
 have e : cs = #[.iface u v] := by
   cases cs
   simpa using hcs
 rw [e] at hh
 exact ⟨_, t, p, hh, .inr ⟨u, v, rfl⟩⟩
theorem wrap_shaped {H : Type} {enc : TypeId × Value → H} {a : Assume} {C : Checked} {os : Os} {f : FuncId} {fn : Func} {s : ChangeSpec} {conds : List PathCond} {apart fresh handsOn again : Bool} {X : World → Array Value → Prop}
   (hX : ∀ (w w' : World) (args : Array Value), w.heap = w'.heap → X w args → X w' args)
   (own : ownKnob C.prog.godebug = none) (started : os.Started) (noInit : C.prog.inits.idxOf? f = none) (hfn : C.prog.funcs[f]? = some fn)
   (witness : ∃ (w : World) (tape : Tape) (i : Input), w.os = os ∧ (w.forCall tape i).Shaped C.prog ∧ i.vars = [] ∧ Input.okWide C.prog (w.forCall tape i) .any w.heap.size f i ∧
     ((s.pre enc C.prog fn conds apart (w.forCall tape i).memory i.args ∧ X (w.forCall tape i).memory i.args) ∧ sizedMet enc C.prog fn (OpenSpec.ofChange s) apart (w.forCall tape i).memory i.args) ∧ a.holds C.prog (lone (Frame.enter C.prog f i.args .normal) [] (w.forCall tape i)))
   (contract : ∀ (W : World) (base : Nat) (args : Array Value) (ds gs : List (DataW H)) (before : List MemPlace),
     (∀ (j : Nat) t v, fn.params[j]? = some t → args[j]? = some v → Value.okWide C.prog W .any base t v) →
     DataW.Whole enc C.prog fn.params.toList s.vars apart W args.toList ds gs before →
     conds.all (PathCond.test C.prog ⟨fn.params.toList, ds, s.plain.varTypes C.prog, gs⟩) = true →
     (DataW.weightsEach C.prog (fn.params.toList ++ s.plain.varTypes C.prog) (ds ++ gs)).all (· ≤ reachBytes) = true → X W args →
     W.ShapedOpen C.prog →
     a.holds C.prog (lone (Frame.enter C.prog f args .normal) [] W) →
     Calls C.prog f args W fun e W' => ∃ v, e = .returned v ∧ s.post enc C.prog fn apart fresh handsOn again W args v W') :
   ReturnsInHanded a C os f .any (fun w args => (s.pre enc C.prog fn conds apart w args ∧ X w args) ∧ sizedMet enc C.prog fn (OpenSpec.ofChange s) apart w args) (s.post enc C.prog fn apart fresh handsOn again) := by
 refine returnsInHanded_of_calls own started noInit witness ?_
 intro w tape i _ hsh _ hok hpre hholds
 obtain ⟨_, _, _, fn', hfn', _, _, _, _, hval⟩ := hok
 have e : fn' = fn := Option.some.inj (hfn'.symm.trans hfn)
 subst e
 obtain ⟨⟨⟨ds, gs, before, hw, hc⟩, hx⟩, hz⟩ := hpre
 have hw' := DataW.Whole.of_heap (w' := w.forCall tape i) (by rfl) hw
 refine (contract (w.forCall tape i) w.heap.size i.args ds gs before hval hw' hc (hz.weights hw) (hX _ _ _ (by rfl) hx) hsh hholds).mono fun e W' ⟨v, he, hp⟩ => ?_
 subst he
 exact ChangeSpec.post_blind hp
end GlobS
end Go.Proofs.YtjngkfdclcgfhaaGreatDoor
end
section
namespace Go.Proofs.YtjngkfdclcgfhaaGreatDoor.specTexts
open Go.ChangeShapes Go.WideShapes Go.ChangeAt Go.RowKit
theorem own : ownKnob Tryz.prog.godebug = none := by kernel_rfl
theorem laidOut : laidOutB Tryz.prog = true := by kernel_rfl
set_option maxRecDepth 100000 in
theorem lifted (os : Os) (started : os.Started) (H : Type) (enc : TypeId × Value → H) :
   ReturnsInHanded {} Tryz.checked os 3 .any (fun w args => (Rows.specTextsSpec.pre enc Tryz.prog Tryz.f3 Rows.specTextsRow.domain false w args ∧ laidMetH Tryz.prog Rows.specTextsRow.laid w) ∧ sizedMet enc Tryz.prog Tryz.f3 (OpenSpec.ofChange Rows.specTextsSpec) false w args)
     (Rows.specTextsSpec.post enc Tryz.prog Tryz.f3 false true false false) := by
 refine GlobS.wrap_shaped (C := Tryz.checked) (X := fun w _ => laidMetH Tryz.prog Rows.specTextsRow.laid w) (fun _ _ _ hh h => h.of_heap hh) own started (by kernel_rfl) Tryz.func3
   (ChangeSpec.witness_shaped (enc := enc) (C := Tryz.checked) (os := os) (X := fun w _ => laidMetH Tryz.prog Rows.specTextsRow.laid w) false (World.laidAll Tryz.prog os Rows.specTextsRow.laid) #[.agg #[.slice none 0 0, .slice none 0 0, .slice none 0 0, .int .i64 0, .int .i64 0, .int .i64 0, .int .i64 0, .int .i64 0, .int .i64 0, .int .i64 0, .int .i64 0, .int .i64 0, .int .i64 0, .int .i64 0, .int .i64 0, .int .i64 0, .int .i64 0, .int .i64 0], .string .empty] 8 (World.laidAll_os _ _ _)
     (World.shaped_of_ZipB (by kernel_rfl) (by kernel_rfl)) (by kernel_rfl) (by kernel_rfl) (by kernel_rfl)
     (by rw [MakeChecks.laidMetH_plain _ _ _ (by kernel_rfl)]; exact laidMet_laidAll _ (by kernel_rfl) (by kernel_rfl))) ?_
 intro W base args ds gs before hval0 hW _ _ hL hsh _
 have hval : ∀ (j : Nat) t v, Tryz.f3.params[j]? = some t → args[j]? = some v → Value.okWide Tryz.prog W .any base t v := hval0
 have hW' := hW
 obtain ⟨p, q, hA0, hV, rfl, hfz, hnd⟩ := hW
 have hA : DataW.TrodAll enc Tryz.prog W 0 (fun _ => true) true Tryz.f3.params.toList args.toList ds p := hA0
 rw [Tryz.params3] at hA hval
 rw [MakeChecks.laidMetH_plain _ _ _ (by kernel_rfl)] at hL
 have hv0 : Lib.TabIs Tryz.prog W "internal/strconv.uint64pow10" .u64 [1, 10, 100, 1000, 10000, 100000, 1000000, 10000000, 100000000, 1000000000, 10000000000, 100000000000, 1000000000000, 10000000000000, 100000000000000, 1000000000000000, 10000000000000000, 100000000000000000, 1000000000000000000, 10000000000000000000] := Lib.tabIs_of_head (g := 1) (t := 127) (e := 106) (n := 20) (by kernel_rfl) (by kernel_rfl) Tryz.underlying127 Tryz.underlying106 (by kernel_rfl) (by kernel_rfl) hL.tail.tail
 have hgl : AM.GlobR W (Lt W.heap.size) := by
   refine GlobS.globR_of (fun p hp => ?_) (fun b hb => ?_) (fun b hb => ?_)
   · simp only [AM.globs, List.mem_cons, List.not_mem_nil, or_false] at hp
     rcases hp with rfl
     · exact GlobS.at_ints (by kernel_rfl) hv0
   · simp only [AM.anyInts, List.mem_cons, List.not_mem_nil, or_false] at hb
     rcases hb with rfl
     · exact GlobS.some_int (zero := #[.int .i64 0]) (t := 3) hsh (of_decide_eq_true (by kernel_rfl)) (by kernel_rfl) rfl (by kernel_rfl) (by kernel_rfl) Tryz.underlying3
   · simp only [AM.anyIfs, List.mem_cons, List.not_mem_nil, or_false] at hb
     rcases hb with rfl | rfl
     · exact GlobS.some_iface (P := Tryz.prog) (name := "strconv.ErrSyntax") (ti := 84) (by kernel_rfl) (by kernel_rfl) Tryz.underlying84 hL.tail.tail.tail.tail.tail
     · exact GlobS.some_iface (P := Tryz.prog) (name := "strconv.ErrRange") (ti := 84) (by kernel_rfl) (by kernel_rfl) Tryz.underlying84 hL.tail.tail.tail.tail
 obtain ⟨v0, vs0, d0, ds0, p0, q0, hargs, rfl, rfl, h0, r0⟩ := trodAll_cons hA
 obtain ⟨v1, vs1, d1, ds1, p1, q1, rfl, rfl, rfl, h1, r1⟩ := trodAll_cons r0
 obtain ⟨rfl, rfl, rfl⟩ := trodAll_nil r1
 obtain rfl : args = #[v0, v1] := by cases args; simp_all
 obtain ⟨rfl, rfl⟩ := trodVars_none hV
 have lt0 : ∀ x ∈ p0, x.block < W.heap.size := by obtain ⟨m, hm⟩ := h0; exact DataW.trod_lt m _ _ _ hm
 obtain ⟨x0, a0⟩ : ∃ x : Spec, V W (Lt W.heap.size) x v0 := arg_of rd_Spec h0 (agg_struct Tryz.underlying28 (hval 0 28 v0 rfl rfl))
 have lt1 : ∀ x ∈ p1, x.block < W.heap.size := by obtain ⟨m, hm⟩ := h1; exact DataW.trod_lt m _ _ _ hm
 obtain ⟨x1, a1⟩ : ∃ x : ByteArray, V W (Lt W.heap.size) x v1 := arg_of (rd_string Tryz.underlying9) h1 (agg_string Tryz.underlying9 (hval 1 9 v1 rfl rfl))
 clear hA0 hval0
 refine (walk x0 x1 v0 v1 W hgl a0 a1).mono fun e W' ⟨he, bel⟩ => ?_
 subst he
 exact ⟨_, rfl, _, _, _, [], _, [], hW', trodAll_mk1 (shut_bool Tryz.underlying4 _), (trodAll_cons_mk (Below.trod laidOut (by kernel_rfl) (of_decide_eq_true (by kernel_rfl)) h0 bel lt0) (trodAll_cons_mk (Below.trod laidOut (by kernel_rfl) (of_decide_eq_true (by kernel_rfl)) h1 bel lt1) trodAll_mk0)), rfl, bel.frame _, fun h => by cases h⟩
theorem over : Rows.specTextsRow.holds Tryz.pinned (OpenSpec.ofChange Rows.specTextsSpec) :=
 OpenClaim.holds_of_wide 3 Tryz.f3 rfl rfl rfl rfl rfl rfl rfl ⟨rfl, rfl, rfl, rfl, rfl⟩ rfl rfl rfl rfl rfl (by kernel_rfl) Tryz.func3 (by kernel_rfl)
   (of_decide_eq_true (by kernel_rfl)) (by unfold Func.isWrapper; first | (rw [if_pos (by decide +kernel)]; kernel_rfl) | (rw [if_neg (by decide +kernel)]; exact ⟨rfl, rfl⟩))
   (fun os started H enc _ => lifted os started H enc)
theorem proved : Rows.SpecTextsCardSaid :=
 Claim7.holds_tied_plain_at .later [] [.data, .data, .data, .data, .sentinel, .sentinel, .pinned] true (true, "afb97738dea03b72f84fe68dab31680dfd8b088cc73f989a6c871af2e1346b10") true
   over (fun _ h => by cases h) (by kernel_rfl) (fun _ h => by cases h) specTexts_row_tie rfl ⟨rfl, rfl⟩ (by kernel_rfl) rfl
   (fun f fn hf hfn => by
     obtain rfl : f = 3 := Option.some.inj ((show Tryz.prog.funcNamed "drayage/drayagelaw07.SpecTexts" = some 3 by kernel_rfl).symm.trans hf) |>.symm
     obtain rfl : fn = Tryz.f3 := (Option.some.inj (Tryz.func3.symm.trans hfn)).symm
     exact ⟨by kernel_rfl, fun j t ht => by
       rw [Tryz.params3] at ht
       have hm : t ∈ [28, 9] := by simpa using Array.mem_of_getElem? ht
       have hall : ([28, 9].all fun u => !Tryz.prog.wantsStandIn u) = true := by kernel_rfl
       exact (show Tryz.prog.wantsStandIn t = false by simpa using List.all_eq_true.1 hall t hm)⟩)
   (by kernel_rfl)
end Go.Proofs.YtjngkfdclcgfhaaGreatDoor.specTexts
end
