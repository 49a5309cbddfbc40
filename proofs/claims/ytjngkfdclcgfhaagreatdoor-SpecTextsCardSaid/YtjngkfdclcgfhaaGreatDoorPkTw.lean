/-
  What the proof of SpecTexts leans on, part 23. (Many texts laid together by program.)
-/
import Derived.Test.YtjngkfdclcgfhaaGreatDoorPkTv
import Derived.KernelRfl
set_option linter.unnecessarySimpa false
set_option linter.unusedSimpArgs false
set_option linter.unusedVariables false
section
namespace Go.Proofs.YtjngkfdclcgfhaaGreatDoor
namespace NM
open AM
theorem asc_mem {e : Int} : ∀ {l : List Int} {a : Int}, asc e a l = true → ∀ x, x ∈ l → a < x ∧ x < e
 | [], _, _, x, hx => by cases hx
 | n :: l, a, h, x, hx => by
   simp only [asc, Bool.and_eq_true, decide_eq_true_eq] at h
   rcases List.mem_cons.1 hx with rfl | hx
   · exact h.1
   · have := asc_mem h.2 x hx
     omega
theorem asc_len {e : Int} : ∀ {l : List Int} {a : Int}, asc e a l = true → l = [] ∨ (l.length : Int) + a < e
 | [], _, _ => .inl rfl
 | n :: l, a, h => by
   simp only [asc, Bool.and_eq_true, decide_eq_true_eq] at h
   right
   rcases asc_len h.2 with rfl | h2
   · simp only [List.length_cons, List.length_nil]; omega
   · simp only [List.length_cons]; omega
def natL (l : List Int) : List Nat := l.map Int.toNat
theorem toZ_nat (l : List Int) (h : ∀ x ∈ l, 0 ≤ x) : toZ (natL l) = l := by
 induction l with
 | nil => rfl
 | cons x l ih =>
   have h1 := ih fun y hy => h y (List.mem_cons_of_mem _ hy)
   have h2 := h x List.mem_cons_self
   simp only [natL, toZ, List.map_cons, List.map_map] at h1 ⊢
   rw [h1]
   congr 1
   omega
def Sm (x : Int) : Prop := 0 ≤ x ∧ x ≤ 1048576
theorem nat_small {l : List Int} (h : ∀ x ∈ l, Sm x) : ∀ n ∈ natL l, n ≤ 1048576 := fun n hn => by
 obtain ⟨x, hx, rfl⟩ := List.mem_map.1 hn
 have := h x hx
 unfold Sm at this
 omega
theorem natL_len (l : List Int) : (natL l).length = l.length := by simp [natL]
def lineI (w : List UInt8) (l : List Int) : List UInt8 := w ++ numsS (natL l) ++ [10]
theorem p_lineI (w : List UInt8) (l : List Int) (hw : w.length ≤ 1000) (hl : l.length ≤ 1000) (h : ∀ x ∈ l, Sm x) : f16 w l = some (lineI w l) := by
 have := p_line w (natL l) hw (by rw [natL_len]; exact hl) (nat_small h)
 rwa [toZ_nat l fun x hx => (h x hx).1] at this
theorem r_numsI (l : List Int) (hl : l.length ≤ 1000) (h : ∀ x ∈ l, Sm x) : f21 l = some (numsS (natL l)) := by
 have := r_nums (natL l) (by rw [natL_len]; exact hl) (nat_small h)
 rwa [toZ_nat l fun x hx => (h x hx).1] at this
theorem numsI_len (l : List Int) (h : ∀ x ∈ l, Sm x) : (numsS (natL l)).length ≤ 8 * l.length := by
 have := numsS_len (natL l) (nat_small h)
 rwa [natL_len] at this
theorem lineI_len (w : List UInt8) (l : List Int) (h : ∀ x ∈ l, Sm x) : (lineI w l).length ≤ w.length + 8 * l.length + 1 := by
 have := numsI_len l h
 simp only [lineI, List.length_append, List.length_cons, List.length_nil]
 omega
theorem sm1 {x : Int} (h : Sm x) : ∀ y ∈ [x], Sm y := fun y hy => by
 rw [List.mem_singleton.1 hy]; exact h
def resN (a : Res) : Nat → Nat
 | 0 => a.cpu.toNat
 | 1 => a.mem.toNat
 | 2 => a.gpu.toNat
 | _ => a.lic.toNat
theorem resN_of {a : Res} (h : resOk a = true) : resF (resN a) = a ∧ Small4 (resN a) := by
 simp only [resOk, decide_eq_true_eq] at h
 obtain ⟨c, m, g, l⟩ := a
 simp only at h
 refine ⟨?_, fun j hj => ?_⟩
 · simp only [resF, resN]
   congr 1 <;> omega
 · match j, hj with
   | 0, _ => simp only [resN]; omega
   | 1, _ => simp only [resN]; omega
   | 2, _ => simp only [resN]; omega
   | 3, _ => simp only [resN]; omega
def txtR (a : Res) : List UInt8 := txtU (resN a)
theorem p_unitsText {a : Res} (h : resOk a = true) : f15 a = some (txtR a, 0, ()) := by
 obtain ⟨h1, h2⟩ := resN_of h
 have := p_Text (resN a) h2
 rwa [h1] at this
theorem r_unitsText {a : Res} (h : resOk a = true) : f20 a = some (txtR a) := by
 obtain ⟨h1, h2⟩ := resN_of h
 have := r_Text (resN a) h2
 rwa [h1] at this
theorem txtR_len {a : Res} (h : resOk a = true) : (txtR a).length ≤ 48 := txt_len _ (resN_of h).2
structure OkS (s : Spec) : Prop where
 n1 : s.nodes.length ≤ 16
 n2 : ∀ a ∈ s.nodes, resOk a = true
 p1 : s.parts.length ≤ 8
 p2 : ∀ p ∈ s.parts, 1 ≤ p.length ∧ p.length ≤ 16 ∧ ∀ x ∈ p, Sm x
 q1 : s.queues.length ≤ 8
 q2 : ∀ q ∈ s.queues, q.users.length ≤ 8 ∧ (∀ x ∈ q.users, Sm x) ∧ Sm q.part ∧ Sm q.maxJobs ∧ Sm q.maxRun ∧ Sm q.maxUser ∧ Sm q.qos
 us : Sm s.users
 w : Sm s.weights.age ∧ Sm s.weights.size ∧ Sm s.weights.qos ∧ Sm s.weights.share
 de : Sm s.decay
 mo : s.mode = 1 ∨ s.mode = 2
 jo : Sm s.jobs
 id : Sm s.ids
 ve : Sm s.versions
 li : Sm s.linger
 ke : Sm s.keep
 inn : Sm s.inn
 ou : Sm s.out
 ca : Sm s.cache
theorem inB_sm {n lo hi : Int} (h : inB n lo hi = true) (h1 : 0 ≤ lo) (h2 : hi ≤ 1048576) : Sm n := by
 simp only [inB, Bool.and_eq_true, decide_eq_true_eq] at h
 unfold Sm
 omega
theorem okS_of {s : Spec} (h : specOk s = true) : OkS s := by
 simp only [specOk, Bool.and_eq_true] at h
 obtain ⟨h1, h2, h3, h4, h5, h6, h7, h8, h9, h10, h11, h12, h13, h14, h15⟩ := h
 simp only [nodesOk, partsOk, queuesOk, weightsOk, Bool.and_eq_true, decide_eq_true_eq, List.all_eq_true] at h1 h2 h4 h5
 have hu := h3
 simp only [inB, Bool.and_eq_true, decide_eq_true_eq] at hu
 refine ⟨h1.1.2, h1.2, h2.1.2, fun p hp => ?_, h4.1.2, fun q hq => ?_, inB_sm h3 (by decide) (by decide), ?_, inB_sm h6 (by decide) (by decide), ?_, inB_sm h8 (by decide) (by decide), inB_sm h9 (by decide) (by decide), inB_sm h10 (by decide) (by decide), inB_sm h11 (by decide) (by decide), inB_sm h12 (by decide) (by decide), inB_sm h13 (by decide) (by decide), inB_sm h14 (by decide) (by decide), inB_sm h15 (by decide) (by decide)⟩
 · obtain ⟨k1, k2⟩ := h2.2 p hp
   refine ⟨k1, ?_, fun x hx => ?_⟩
   · rcases asc_len k2 with rfl | hlt
     · simp
     · have := h1.1.2; omega
   · have := asc_mem k2 x hx
     have := h1.1.2
     unfold Sm
     omega
 · have k := h4.2 q hq
   simp only [queueOk, Bool.and_eq_true, decide_eq_true_eq] at k
   obtain ⟨⟨k1, k2⟩, k3⟩ := k
   have hp := h2.1.2
   refine ⟨?_, fun x hx => ?_, ?_⟩
   · rcases asc_len k2 with e | hlt
     · rw [e]; simp
     · omega
   · have := asc_mem k2 x hx
     unfold Sm
     omega
   · unfold Sm
     omega
 · unfold Sm
   omega
 · simpa using h7
def qNums (q : Queue) : List Int := [q.part, q.maxJobs, q.maxRun, q.maxUser, q.qos] ++ q.users
theorem qNums_ok {q : Queue} (h : q.users.length ≤ 8 ∧ (∀ x ∈ q.users, Sm x) ∧ Sm q.part ∧ Sm q.maxJobs ∧ Sm q.maxRun ∧ Sm q.maxUser ∧ Sm q.qos) : (qNums q).length ≤ 13 ∧ ∀ x ∈ qNums q, Sm x := by
 refine ⟨by simp only [qNums, List.length_append, List.length_cons, List.length_nil]; omega, fun x hx => ?_⟩
 simp only [qNums, List.mem_append, List.mem_cons, List.not_mem_nil, or_false] at hx
 obtain ⟨_, h1, h2, h3, h4, h5, h6⟩ := h
 rcases hx with (rfl | rfl | rfl | rfl | rfl) | hx
 · exact h2
 · exact h3
 · exact h4
 · exact h5
 · exact h6
 · exact h1 x hx
def lineN (a : Res) : List UInt8 := [110, 111, 100, 101, 32] ++ txtR a ++ [10]
def lineP (p : List Int) : List UInt8 := lineI [112, 97, 114, 116] p
def lineQ (q : Queue) : List UInt8 := lineI [113, 117, 101, 117, 101] (qNums q)
def modeT (n : Int) : List UInt8 := if n = 2 then [99, 111, 110, 115, 101, 114, 118, 97, 116, 105, 118, 101] else [101, 97, 115, 121]
def tailS (s : Spec) : List UInt8 :=
 lineI [119, 101, 105, 103, 104, 116, 115] [s.weights.age, s.weights.size, s.weights.qos, s.weights.share] ++ (lineI [100, 101, 99, 97, 121] [s.decay] ++ (lineI ([109, 111, 100, 101, 32] ++ modeT s.mode) [] ++ (lineI [106, 111, 98, 115] [s.jobs] ++ (lineI [105, 100, 115] [s.ids] ++ (lineI [118, 101, 114, 115, 105, 111, 110, 115] [s.versions] ++
   (lineI [108, 105, 110, 103, 101, 114] [s.linger] ++ (lineI [107, 101, 101, 112] [s.keep] ++ (lineI [105, 110] [s.inn] ++ (lineI [111, 117, 116] [s.out] ++ lineI [99, 97, 99, 104, 101] [s.cache])))))))))
def txtS (s : Spec) : List UInt8 := s.nodes.flatMap lineN ++ (s.parts.flatMap lineP ++ (lineI [117, 115, 101, 114, 115] [s.users] ++ (s.queues.flatMap lineQ ++ tailS s)))
theorem flat_take {α β : Type} (f : α → List β) (l : List α) (i : Nat) (hi : i < l.length) : (l.take (i + 1)).flatMap f = (l.take i).flatMap f ++ f l[i] := by
 rw [List.take_succ_eq_append_getElem hi, List.flatMap_append]
 simp
theorem flat_len {α β : Type} (f : α → List β) (c : Nat) (l : List α) (h : ∀ x ∈ l, (f x).length ≤ c) : (l.flatMap f).length ≤ c * l.length := by
 induction l with
 | nil => simp
 | cons x l ih =>
   have h1 := h x List.mem_cons_self
   have h2 := ih fun y hy => h y (List.mem_cons_of_mem _ hy)
   simp only [List.flatMap_cons, List.length_append, List.length_cons, Nat.mul_add]
   omega
theorem flat_takelen {α β : Type} (f : α → List β) (c : Nat) (l : List α) (h : ∀ x ∈ l, (f x).length ≤ c) (i : Nat) : ((l.take i).flatMap f).length ≤ c * l.length := by
 have h1 := flat_len f c (l.take i) fun x hx => h x (List.mem_of_mem_take hx)
 have h2 : (l.take i).length ≤ l.length := by simp; omega
 exact Nat.le_trans h1 (Nat.mul_le_mul_left _ h2)
theorem lineN_len {a : Res} (h : resOk a = true) : (lineN a).length ≤ 54 := by
 have := txtR_len h
 simp only [lineN, List.length_append, List.length_cons, List.length_nil]
 omega
theorem lineP_len {p : List Int} (h : 1 ≤ p.length ∧ p.length ≤ 16 ∧ ∀ x ∈ p, Sm x) : (lineP p).length ≤ 133 := by
 have := lineI_len [112, 97, 114, 116] p h.2.2
 simp only [List.length_cons, List.length_nil] at this
 unfold lineP
 omega
theorem lineQ_len {q : Queue} (h : q.users.length ≤ 8 ∧ (∀ x ∈ q.users, Sm x) ∧ Sm q.part ∧ Sm q.maxJobs ∧ Sm q.maxRun ∧ Sm q.maxUser ∧ Sm q.qos) : (lineQ q).length ≤ 110 := by
 obtain ⟨h1, h2⟩ := qNums_ok h
 have := lineI_len [113, 117, 101, 117, 101] _ h2
 simp only [List.length_cons, List.length_nil] at this
 unfold lineQ
 omega
end NM
end Go.Proofs.YtjngkfdclcgfhaaGreatDoor
end
section
set_option maxRecDepth 10000
namespace Go.Proofs.YtjngkfdclcgfhaaGreatDoor
namespace NM
open AM
theorem at_list {α : Type} (l : List α) (i : Nat) (hi : i < l.length) : l[Int.toNat (i : Int)]? = some l[i] := by simp [hi]
theorem sm4 {a b c d : Int} (h : Sm a ∧ Sm b ∧ Sm c ∧ Sm d) : ∀ y ∈ [a, b, c, d], Sm y := fun y hy => by
 obtain ⟨h1, h2, h3, h4⟩ := h
 simp only [List.mem_cons, List.not_mem_nil, or_false] at hy
 rcases hy with rfl | rfl | rfl | rfl
 · exact h1
 · exact h2
 · exact h3
 · exact h4
def ansT (t : List UInt8) : Option (List UInt8 × (Int × Unit)) := some (t, 0, ())
theorem p_tail (s : Spec) (h : OkS s) (t : List UInt8) (ht : t.length ≤ 1000000) (next) :
   l6_0 f16 s next t (s.queues.length : Int) s = ansT (t ++ tailS s) := by
 have e1 := p_lineI [119, 101, 105, 103, 104, 116, 115] [s.weights.age, s.weights.size, s.weights.qos, s.weights.share] (by simp) (by simp) (sm4 h.w)
 have e2 := p_lineI [100, 101, 99, 97, 121] [s.decay] (by simp) (by simp) (sm1 h.de)
 have e3 := p_lineI ([109, 111, 100, 101, 32] ++ modeT s.mode) [] (by unfold modeT; split <;> simp) (by simp) (fun x hx => by cases hx)
 have e4 := p_lineI [106, 111, 98, 115] [s.jobs] (by simp) (by simp) (sm1 h.jo)
 have e5 := p_lineI [105, 100, 115] [s.ids] (by simp) (by simp) (sm1 h.id)
 have e6 := p_lineI [118, 101, 114, 115, 105, 111, 110, 115] [s.versions] (by simp) (by simp) (sm1 h.ve)
 have e7 := p_lineI [108, 105, 110, 103, 101, 114] [s.linger] (by simp) (by simp) (sm1 h.li)
 have e8 := p_lineI [107, 101, 101, 112] [s.keep] (by simp) (by simp) (sm1 h.ke)
 have e9 := p_lineI [105, 110] [s.inn] (by simp) (by simp) (sm1 h.inn)
 have e10 := p_lineI [111, 117, 116] [s.out] (by simp) (by simp) (sm1 h.ou)
 have e11 := p_lineI [99, 97, 99, 104, 101] [s.cache] (by simp) (by simp) (sm1 h.ca)
 have k1 := lineI_len [119, 101, 105, 103, 104, 116, 115] [s.weights.age, s.weights.size, s.weights.qos, s.weights.share] (sm4 h.w)
 have k2 := lineI_len [100, 101, 99, 97, 121] [s.decay] (sm1 h.de)
 have k3 := lineI_len ([109, 111, 100, 101, 32] ++ modeT s.mode) [] (fun x hx => by cases hx)
 have k4 := lineI_len [106, 111, 98, 115] [s.jobs] (sm1 h.jo)
 have k5 := lineI_len [105, 100, 115] [s.ids] (sm1 h.id)
 have k6 := lineI_len [118, 101, 114, 115, 105, 111, 110, 115] [s.versions] (sm1 h.ve)
 have k7 := lineI_len [108, 105, 110, 103, 101, 114] [s.linger] (sm1 h.li)
 have k8 := lineI_len [107, 101, 101, 112] [s.keep] (sm1 h.ke)
 have k9 := lineI_len [105, 110] [s.inn] (sm1 h.inn)
 have k10 := lineI_len [111, 117, 116] [s.out] (sm1 h.ou)
 have k11 := lineI_len [99, 97, 99, 104, 101] [s.cache] (sm1 h.ca)
 have km : (modeT s.mode).length ≤ 12 := by unfold modeT; split <;> simp
 have hm : (cond (decide (s.mode = 2)) (some (((), ([99, 111, 110, 115, 101, 114, 118, 97, 116, 105, 118, 101] : List UInt8), ()), (s, ()))) (some (((), ([101, 97, 115, 121] : List UInt8), ()), (s, ()))) : Option ((Unit × ((List UInt8) × Unit)) × (Spec × Unit))) = some (((), modeT s.mode, ()), (s, ())) := by
   unfold modeT
   by_cases hz : s.mode = 2
   · simp [hz]
   · simp [hz]
 simp only [l6_0]
 rw [decide_eq_false (show ¬ (s.queues.length : Int) < (s.queues.length : Int) by omega), cond_false, hm]
 simp only [List.length_append, List.length_cons, List.length_nil] at k1 k2 k3 k4 k5 k6 k7 k8 k9 k10 k11
 unfold tailS
 generalize lineI [119, 101, 105, 103, 104, 116, 115] [s.weights.age, s.weights.size, s.weights.qos, s.weights.share] = t1 at *
 generalize lineI [100, 101, 99, 97, 121] [s.decay] = t2 at *
 generalize lineI ([109, 111, 100, 101, 32] ++ modeT s.mode) [] = t3 at *
 generalize lineI [106, 111, 98, 115] [s.jobs] = t4 at *
 generalize lineI [105, 100, 115] [s.ids] = t5 at *
 generalize lineI [118, 101, 114, 115, 105, 111, 110, 115] [s.versions] = t6 at *
 generalize lineI [108, 105, 110, 103, 101, 114] [s.linger] = t7 at *
 generalize lineI [107, 101, 101, 112] [s.keep] = t8 at *
 generalize lineI [105, 110] [s.inn] = t9 at *
 generalize lineI [111, 117, 116] [s.out] = t10 at *
 generalize lineI [99, 97, 99, 104, 101] [s.cache] = t11 at *
 simp only [e1, e2, e3, e4, e5, e6, e7, e8, e9, e10, e11, Option.bind_some]
 repeat rw [cond_le (by (try simp only [List.length_append, List.length_cons, List.length_nil]); omega)]
 simp only [ansT, List.append_assoc]
theorem p_specText (s : Spec) (hs : Rng.P s) : f6 s = if specOk s = true then ansT (txtS s) else some ([], 2, ()) := by
 unfold f6 F6
 rw [p_Right s hs]
 by_cases hok : specOk s = true
 · rw [if_pos hok, hok]
   simp only [Option.bind_some, Bool.not_true, cond_false]
   have h := okS_of hok
   have bN : ∀ i, ((s.nodes.take i).flatMap lineN).length ≤ 54 * s.nodes.length := flat_takelen lineN 54 s.nodes fun a ha => lineN_len (h.n2 a ha)
   have bP : ∀ i, ((s.parts.take i).flatMap lineP).length ≤ 133 * s.parts.length := flat_takelen lineP 133 s.parts fun a ha => lineP_len (h.p2 a ha)
   have bQ : ∀ i, ((s.queues.take i).flatMap lineQ).length ≤ 110 * s.queues.length := flat_takelen lineQ 110 s.queues fun a ha => lineQ_len (h.q2 a ha)
   have n1 := h.n1
   have p1 := h.p1
   have q1 := h.q1
   have bU := lineI_len [117, 115, 101, 114, 115] [s.users] (sm1 h.us)
   have eU := p_lineI [117, 115, 101, 114, 115] [s.users] (by simp) (by simp) (sm1 h.us)
   simp only [List.length_cons, List.length_nil] at bU
   refine loop_run0 (f := fun (s2 : ((Unit × ((List UInt8) × (Int × Unit))) × (Spec × Unit))) nx3 => l6_2 (@LN LOOPS) f15 f16 s nx3 s2.1.2.1 s2.1.2.2.1 s2.2.1) s.nodes.length (LOOPS_big (by omega))
     (fun i => (((), (s.nodes.take i).flatMap lineN, (i : Int), ()), (s, ()))) (by simp) (fun i hi next => ?_) (fun next => ?_)
   · have hr := h.n2 _ (List.getElem_mem hi)
     have hb := bN i
     have hl := txtR_len hr
     simp only [l6_2, at_list s.nodes i hi, Option.bind_some, p_unitsText hr]
     rw [decide_eq_true (show (i : Int) < (s.nodes.length : Int) by omega), decide_eq_true (show (0 : Int) ≤ i by omega), flat_take lineN _ i hi, wrap_succ (by omega)]
     simp only [cond_true, decide_true, Bool.not_true, cond_false]
     repeat rw [cond_le (by (try simp only [List.length_append, List.length_cons, List.length_nil]); omega)]
     rfl
   · simp only [l6_2]
     rw [decide_eq_false (show ¬ (s.nodes.length : Int) < (s.nodes.length : Int) by omega), cond_false, List.take_length]
     have hbN := bN s.nodes.length
     rw [List.take_length] at hbN
     unfold txtS
     generalize s.nodes.flatMap lineN = tN at hbN ⊢
     refine loop_run0 (f := fun (s2 : ((Unit × ((List UInt8) × (Int × Unit))) × (Spec × Unit))) nx3 => l6_1 (@LN LOOPS) f16 s nx3 s2.1.2.1 s2.1.2.2.1 s2.2.1) s.parts.length (LOOPS_big (by omega))
       (fun i => (((), tN ++ (s.parts.take i).flatMap lineP, (i : Int), ()), (s, ()))) (by simp) (fun i hi next => ?_) (fun next => ?_)
     · have hr := h.p2 _ (List.getElem_mem hi)
       have hb := bP i
       have hl := lineP_len hr
       have he := p_lineI [112, 97, 114, 116] _ (by simp) (by omega) hr.2.2
       change _ = some (lineP _) at he
       simp only [l6_1, at_list s.parts i hi, Option.bind_some, he]
       rw [decide_eq_true (show (i : Int) < (s.parts.length : Int) by omega), decide_eq_true (show (0 : Int) ≤ i by omega), flat_take lineP _ i hi, wrap_succ (by omega)]
       simp only [cond_true]
       repeat rw [cond_le (by (try simp only [List.length_append, List.length_cons, List.length_nil]); omega)]
       rw [List.append_assoc]
     · simp only [l6_1]
       rw [decide_eq_false (show ¬ (s.parts.length : Int) < (s.parts.length : Int) by omega), cond_false, List.take_length]
       have hbP := bP s.parts.length
       rw [List.take_length] at hbP
       generalize s.parts.flatMap lineP = tP at hbP ⊢
       generalize lineI [117, 115, 101, 114, 115] [s.users] = tU at bU eU ⊢
       simp only [eU, Option.bind_some]
       rw [cond_le (by simp only [List.length_append]; omega)]
       refine loop_run0 (f := fun (s2 : ((Unit × ((List UInt8) × (Int × Unit))) × (Spec × Unit))) nx3 => l6_0 f16 s nx3 s2.1.2.1 s2.1.2.2.1 s2.2.1) s.queues.length (LOOPS_big (by omega))
         (fun i => (((), ((tN ++ tP) ++ tU) ++ (s.queues.take i).flatMap lineQ, (i : Int), ()), (s, ()))) (by simp) (fun i hi next => ?_) (fun next => ?_)
       · have hr := h.q2 _ (List.getElem_mem hi)
         have hb := bQ i
         have hl := lineQ_len hr
         have he := p_lineI [113, 117, 101, 117, 101] (qNums s.queues[i]) (by simp) (by have := (qNums_ok hr).1; omega) (qNums_ok hr).2
         change _ = some (lineQ _) at he
         unfold qNums at he
         have hsm : smallB (5 + s.queues[i].users.length) 8 = true := by
           have := hr.1
           unfold smallB
           simp only [Bool.and_eq_true, decide_eq_true_eq]
           omega
         simp only [l6_0, at_list s.queues i hi, Option.bind_some, he, hsm]
         rw [decide_eq_true (show (i : Int) < (s.queues.length : Int) by omega), decide_eq_true (show (0 : Int) ≤ i by omega), flat_take lineQ _ i hi, wrap_succ (by omega)]
         simp only [cond_true]
         repeat rw [cond_le (by (try simp only [List.length_append, List.length_cons, List.length_nil]); omega)]
         rw [List.append_assoc]
       · have hbQ := bQ s.queues.length
         rw [p_tail s h _ (by simp only [List.length_append]; omega) next, List.take_length]
         simp only [List.append_assoc]
 · have hf : specOk s = false := by simpa using hok
   rw [if_neg hok, hf]
   rfl
end NM
end Go.Proofs.YtjngkfdclcgfhaaGreatDoor
end
section
set_option maxRecDepth 10000
namespace Go.Proofs.YtjngkfdclcgfhaaGreatDoor
namespace NM
open AM
theorem r_tail (s : Spec) (h : OkS s) (t : List UInt8) (ht : t.length ≤ 1000000) (next) :
   l9_0 f21 next t (s.queues.length : Int) s = some (t ++ tailS s) := by
 have e1 := r_numsI [s.weights.age, s.weights.size, s.weights.qos, s.weights.share] (by simp) (sm4 h.w)
 have e2 := r_numsI [s.decay] (by simp) (sm1 h.de)
 have e4 := r_numsI [s.jobs] (by simp) (sm1 h.jo)
 have e5 := r_numsI [s.ids] (by simp) (sm1 h.id)
 have e6 := r_numsI [s.versions] (by simp) (sm1 h.ve)
 have e7 := r_numsI [s.linger] (by simp) (sm1 h.li)
 have e8 := r_numsI [s.keep] (by simp) (sm1 h.ke)
 have e9 := r_numsI [s.inn] (by simp) (sm1 h.inn)
 have e10 := r_numsI [s.out] (by simp) (sm1 h.ou)
 have e11 := r_numsI [s.cache] (by simp) (sm1 h.ca)
 have k1 := numsI_len [s.weights.age, s.weights.size, s.weights.qos, s.weights.share] (sm4 h.w)
 have k2 := numsI_len [s.decay] (sm1 h.de)
 have k4 := numsI_len [s.jobs] (sm1 h.jo)
 have k5 := numsI_len [s.ids] (sm1 h.id)
 have k6 := numsI_len [s.versions] (sm1 h.ve)
 have k7 := numsI_len [s.linger] (sm1 h.li)
 have k8 := numsI_len [s.keep] (sm1 h.ke)
 have k9 := numsI_len [s.inn] (sm1 h.inn)
 have k10 := numsI_len [s.out] (sm1 h.ou)
 have k11 := numsI_len [s.cache] (sm1 h.ca)
 simp only [l9_0]
 rw [decide_eq_false (show ¬ (s.queues.length : Int) < (s.queues.length : Int) by omega), cond_false]
 simp only [List.length_append, List.length_cons, List.length_nil] at k1 k2 k4 k5 k6 k7 k8 k9 k10 k11
 unfold tailS lineI
 generalize numsS (natL [s.weights.age, s.weights.size, s.weights.qos, s.weights.share]) = t1 at *
 generalize numsS (natL [s.decay]) = t2 at *
 generalize numsS (natL [s.jobs]) = t4 at *
 generalize numsS (natL [s.ids]) = t5 at *
 generalize numsS (natL [s.versions]) = t6 at *
 generalize numsS (natL [s.linger]) = t7 at *
 generalize numsS (natL [s.keep]) = t8 at *
 generalize numsS (natL [s.inn]) = t9 at *
 generalize numsS (natL [s.out]) = t10 at *
 generalize numsS (natL [s.cache]) = t11 at *
 rcases h.mo with hm | hm
 all_goals
   simp only [e1, e2, e4, e5, e6, e7, e8, e9, e10, e11, Option.bind_some, hm, decide_true, cond_true, Int.reduceEq, decide_false, cond_false]
   repeat rw [cond_le (by (try simp only [List.length_append, List.length_cons, List.length_nil]); omega)]
   simp only [Option.bind_some, e1, e2, e4, e5, e6, e7, e8, e9, e10, e11]
   repeat rw [cond_le (by (try simp only [List.length_append, List.length_cons, List.length_nil]); omega)]
   simp [modeT, numsS, natL]
theorem r_specText (s : Spec) (h : OkS s) : f9 s = some (txtS s) := by
 unfold f9 F9
 have bN : ∀ i, ((s.nodes.take i).flatMap lineN).length ≤ 54 * s.nodes.length := flat_takelen lineN 54 s.nodes fun a ha => lineN_len (h.n2 a ha)
 have bP : ∀ i, ((s.parts.take i).flatMap lineP).length ≤ 133 * s.parts.length := flat_takelen lineP 133 s.parts fun a ha => lineP_len (h.p2 a ha)
 have bQ : ∀ i, ((s.queues.take i).flatMap lineQ).length ≤ 110 * s.queues.length := flat_takelen lineQ 110 s.queues fun a ha => lineQ_len (h.q2 a ha)
 have n1 := h.n1
 have p1 := h.p1
 have q1 := h.q1
 have bU := numsI_len [s.users] (sm1 h.us)
 have eU := r_numsI [s.users] (by simp) (sm1 h.us)
 simp only [List.length_cons, List.length_nil] at bU
 refine loop_run0 (f := fun (s1 : ((Unit × ((List UInt8) × (Int × Unit))) × (Spec × Unit))) nx2 => l9_2 (@LN LOOPS) f20 f21 nx2 s1.1.2.1 s1.1.2.2.1 s1.2.1) s.nodes.length (LOOPS_big (by omega))
   (fun i => (((), (s.nodes.take i).flatMap lineN, (i : Int), ()), (s, ()))) (by simp) (fun i hi next => ?_) (fun next => ?_)
 · have hr := h.n2 _ (List.getElem_mem hi)
   have hb := bN i
   have hl := txtR_len hr
   simp only [l9_2, at_list s.nodes i hi, Option.bind_some, r_unitsText hr]
   rw [decide_eq_true (show (i : Int) < (s.nodes.length : Int) by omega), decide_eq_true (show (0 : Int) ≤ i by omega), flat_take lineN _ i hi, wrap_succ (by omega)]
   simp only [cond_true]
   repeat rw [cond_le (by (try simp only [List.length_append, List.length_cons, List.length_nil]); omega)]
   simp only [lineN, List.append_assoc]
 · simp only [l9_2]
   rw [decide_eq_false (show ¬ (s.nodes.length : Int) < (s.nodes.length : Int) by omega), cond_false, List.take_length]
   have hbN := bN s.nodes.length
   rw [List.take_length] at hbN
   unfold txtS
   generalize s.nodes.flatMap lineN = tN at hbN ⊢
   refine loop_run0 (f := fun (s1 : ((Unit × ((List UInt8) × (Int × Unit))) × (Spec × Unit))) nx2 => l9_1 (@LN LOOPS) f21 nx2 s1.1.2.1 s1.1.2.2.1 s1.2.1) s.parts.length (LOOPS_big (by omega))
     (fun i => (((), tN ++ (s.parts.take i).flatMap lineP, (i : Int), ()), (s, ()))) (by simp) (fun i hi next => ?_) (fun next => ?_)
   · have hr := h.p2 _ (List.getElem_mem hi)
     have hb := bP i
     have hl := numsI_len _ hr.2.2
     have he := r_numsI _ (by omega) hr.2.2
     simp only [l9_1, at_list s.parts i hi, Option.bind_some, he]
     rw [decide_eq_true (show (i : Int) < (s.parts.length : Int) by omega), decide_eq_true (show (0 : Int) ≤ i by omega), flat_take lineP _ i hi, wrap_succ (by omega)]
     simp only [cond_true]
     repeat rw [cond_le (by (try simp only [List.length_append, List.length_cons, List.length_nil]); omega)]
     simp only [lineP, lineI, List.append_assoc]
   · simp only [l9_1]
     rw [decide_eq_false (show ¬ (s.parts.length : Int) < (s.parts.length : Int) by omega), cond_false, List.take_length]
     have hbP := bP s.parts.length
     rw [List.take_length] at hbP
     generalize s.parts.flatMap lineP = tP at hbP ⊢
     unfold lineI
     generalize numsS (natL [s.users]) = tU at bU eU ⊢
     simp only [eU, Option.bind_some]
     repeat rw [cond_le (by (try simp only [List.length_append, List.length_cons, List.length_nil]); omega)]
     refine loop_run0 (f := fun (s1 : ((Unit × ((List UInt8) × (Int × Unit))) × (Spec × Unit))) nx2 => l9_0 f21 nx2 s1.1.2.1 s1.1.2.2.1 s1.2.1) s.queues.length (LOOPS_big (by omega))
       (fun i => (((), (((tN ++ tP) ++ [117, 115, 101, 114, 115]) ++ tU) ++ [10] ++ (s.queues.take i).flatMap lineQ, (i : Int), ()), (s, ()))) (by simp) (fun i hi next => ?_) (fun next => ?_)
     · have hr := h.q2 _ (List.getElem_mem hi)
       have hb := bQ i
       obtain ⟨u1, u2, u3, u4, u5, u6, u7⟩ := hr
       have s5 : ∀ x ∈ [s.queues[i].part, s.queues[i].maxJobs, s.queues[i].maxRun, s.queues[i].maxUser, s.queues[i].qos], Sm x := fun x hx => (qNums_ok ⟨u1, u2, u3, u4, u5, u6, u7⟩).2 x (List.mem_append_left _ hx)
       have he1 := r_numsI _ (by simp) s5
       have he2 := r_numsI _ (by omega) u2
       have hl1 := numsI_len _ s5
       have hl2 := numsI_len _ u2
       have hq : lineQ s.queues[i] = [113, 117, 101, 117, 101] ++ (numsS (natL [s.queues[i].part, s.queues[i].maxJobs, s.queues[i].maxRun, s.queues[i].maxUser, s.queues[i].qos]) ++ numsS (natL s.queues[i].users)) ++ [10] := by
         rw [← numsS_app]
         rfl
       simp only [List.length_cons, List.length_nil] at hl1
       simp only [l9_0, at_list s.queues i hi, Option.bind_some]
       rw [decide_eq_true (show (i : Int) < (s.queues.length : Int) by omega), decide_eq_true (show (0 : Int) ≤ i by omega), flat_take lineQ _ i hi, wrap_succ (by omega), hq, he1, he2]
       generalize numsS (natL [s.queues[i].part, s.queues[i].maxJobs, s.queues[i].maxRun, s.queues[i].maxUser, s.queues[i].qos]) = a1 at hl1 ⊢
       generalize numsS (natL s.queues[i].users) = a2 at hl2 ⊢
       simp only [cond_true, Option.bind_some]
       repeat rw [cond_le (by (try simp only [List.length_append, List.length_cons, List.length_nil]); omega)]
       simp only [List.append_assoc]
     · have hbQ := bQ s.queues.length
       rw [r_tail s h _ (by simp only [List.length_append, List.length_cons, List.length_nil]; omega) next, List.take_length]
       simp only [List.append_assoc]
end NM
end Go.Proofs.YtjngkfdclcgfhaaGreatDoor
end
section
set_option maxRecDepth 10000
namespace Go.Proofs.YtjngkfdclcgfhaaGreatDoor
namespace NM
open AM
theorem r_Ints (l : List Int) (hl : l.length ≤ 1000) : f22 l l = some true := by
 unfold f22 F22
 simp only [decide_true, Bool.not_true, cond_false]
 refine loop_run0 (f := fun (s2 : ((Int × Unit) × Unit)) nx3 => l22_0 l l nx3 s2.1.1) l.length (LOOPS_big (by omega)) (fun i => (((i : Int), ()), ())) rfl (fun i hi next => ?_) (fun next => ?_)
 · simp only [l22_0, at_list l i hi, Option.bind_some]
   rw [decide_eq_true (show (i : Int) < (l.length : Int) by omega), decide_eq_true (show (0 : Int) ≤ i by omega), wrap_succ (by omega)]
   simp only [cond_true, decide_true, Bool.not_true, cond_false]
 · simp only [l22_0]
   rw [decide_eq_false (show ¬ (l.length : Int) < (l.length : Int) by omega), cond_false]
theorem r_Same (s : Spec) (h : OkS s) : f10 s s = some true := by
 have n1 := h.n1
 have p1 := h.p1
 have q1 := h.q1
 unfold f10 F10
 simp only [decide_true, Bool.not_true, cond_false]
 refine loop_run0 (f := fun (s2 : ((Unit × (Unit × (Int × Unit))) × (Spec × (Spec × Unit)))) nx3 => l10_2 (@LN LOOPS) f22 nx3 s2.1.2.2.1 s2.2.1 s2.2.2.1) s.nodes.length (LOOPS_big (by omega)) (fun i => (((), (), (i : Int), ()), (s, s, ()))) rfl (fun i hi next => ?_) (fun next => ?_)
 · simp only [l10_2, at_list s.nodes i hi, Option.bind_some]
   rw [decide_eq_true (show (i : Int) < (s.nodes.length : Int) by omega), decide_eq_true (show (0 : Int) ≤ i by omega), wrap_succ (by omega)]
   simp only [cond_true, decide_true, Bool.not_true, cond_false, Bool.and_self]
 · simp only [l10_2]
   rw [decide_eq_false (show ¬ (s.nodes.length : Int) < (s.nodes.length : Int) by omega), cond_false]
   refine loop_run0 (f := fun (s2 : ((Unit × (Unit × (Int × Unit))) × (Spec × (Spec × Unit)))) nx3 => l10_1 (@LN LOOPS) f22 nx3 s2.1.2.2.1 s2.2.1 s2.2.2.1) s.parts.length (LOOPS_big (by omega)) (fun i => (((), (), (i : Int), ()), (s, s, ()))) rfl (fun i hi next => ?_) (fun next => ?_)
   · have hr := h.p2 _ (List.getElem_mem hi)
     simp only [l10_1, at_list s.parts i hi, Option.bind_some, r_Ints _ (show s.parts[i].length ≤ 1000 by omega)]
     rw [decide_eq_true (show (i : Int) < (s.parts.length : Int) by omega), decide_eq_true (show (0 : Int) ≤ i by omega), wrap_succ (by omega)]
     simp only [cond_true, decide_true, Bool.not_true, cond_false, Bool.and_self]
   · simp only [l10_1]
     rw [decide_eq_false (show ¬ (s.parts.length : Int) < (s.parts.length : Int) by omega), cond_false]
     refine loop_run0 (f := fun (s2 : ((Unit × (Unit × (Int × Unit))) × (Spec × (Spec × Unit)))) nx3 => l10_0 f22 nx3 s2.1.2.2.1 s2.2.1 s2.2.2.1) s.queues.length (LOOPS_big (by omega)) (fun i => (((), (), (i : Int), ()), (s, s, ()))) rfl (fun i hi next => ?_) (fun next => ?_)
     · have hr := h.q2 _ (List.getElem_mem hi)
       simp only [l10_0, at_list s.queues i hi, Option.bind_some, r_Ints _ (show s.queues[i].users.length ≤ 1000 by omega)]
       rw [decide_eq_true (show (i : Int) < (s.queues.length : Int) by omega), decide_eq_true (show (0 : Int) ≤ i by omega), wrap_succ (by omega)]
       simp only [cond_true, decide_true, Bool.not_true, cond_false, Bool.and_self]
     · simp only [l10_0]
       rw [decide_eq_false (show ¬ (s.queues.length : Int) < (s.queues.length : Int) by omega), cond_false]
       simp only [cond_true, decide_true, Bool.and_self]
def zeroS : Spec := Spec.mk [] [] [] 0 (Weights.mk 0 0 0 0) 0 0 0 0 0 0 0 0 0 0
theorem r_SameZero : f10 zeroS zeroS = some true := by kernel_rfl
end NM
end Go.Proofs.YtjngkfdclcgfhaaGreatDoor
end
section
set_option maxRecDepth 10000
namespace Go.Proofs.YtjngkfdclcgfhaaGreatDoor
namespace NM
open AM
theorem atoi_i64 {l : List UInt8} {v : Int} (h : Lib.atoiAll l = .ok v) : I64 v := by
 unfold Lib.atoiAll at h
 cases l with
 | nil => cases h
 | cons c r =>
   simp only at h
   split at h
   · cases h
   · cases h
   · rename_i u hu
     split at h
     · cases h
     · split at h
       · cases h
       · rename_i h1 h2
         injection h with h
         unfold I64
         split at h <;> rename_i h3
         · have : ¬ 9223372036854775808 < u := fun h4 => h2 ⟨h3, h4⟩
           omega
         · have : ¬ 9223372036854775808 ≤ u := fun h4 => h1 ⟨h3, h4⟩
           omega
theorem parse_dec : ∀ (k n : Nat), n < 10 ^ (k + 1) → n ≤ 1048576 → ∀ l, Lib.parseUint10 0 (Lib.decDigits n ++ l) = Lib.parseUint10 n l
 | 0, n, h, hn, l => by
   have h : n < 10 := by simpa using h
   obtain ⟨d1, d2⟩ := dig_of h
   rw [dec_small h]
   simp only [List.cons_append, List.nil_append, Lib.parseUint10]
   unfold digB at d1
   rw [if_pos d1, d2, if_neg (by omega), if_neg (by omega)]
   congr 1
   omega
 | k + 1, n, h, hn, l => by
   by_cases hs : n < 10
   · obtain ⟨d1, d2⟩ := dig_of hs
     rw [dec_small hs]
     simp only [List.cons_append, List.nil_append, Lib.parseUint10]
     unfold digB at d1
     rw [if_pos d1, d2, if_neg (by omega), if_neg (by omega)]
     congr 1
     omega
   · obtain ⟨d1, d2⟩ := dig_of (show n % 10 < 10 by omega)
     have hp : n / 10 < 10 ^ (k + 1) := by
       rw [Nat.pow_succ] at h
       exact Nat.div_lt_of_lt_mul (by omega)
     rw [dec_big hs, List.append_assoc, parse_dec k (n / 10) hp (by omega)]
     simp only [List.cons_append, List.nil_append, Lib.parseUint10]
     unfold digB at d1
     rw [if_pos d1, d2, if_neg (by omega), if_neg (by omega)]
     congr 1
     omega
theorem numL_dec {n : Nat} (h : n ≤ 1048576) : numL (Lib.decDigits n) = some (n : Int) := by
 have hp := parse_dec 6 n (by omega) h []
 rw [List.append_nil] at hp
 have hd := dec_dig n
 have hne := dec_ne n
 unfold numL Lib.atoiAll Lib.parseMag
 cases hl : Lib.decDigits n with
 | nil => exact absurd hl hne
 | cons c r =>
   rw [hl] at hp hd
   have hc : digB c := hd c List.mem_cons_self
   unfold digB at hc
   simp only
   rw [if_neg (show ¬ (c.toNat = 43 ∨ c.toNat = 45) by omega), if_neg (by simp), hp]
   simp only [Lib.parseUint10]
   rw [if_neg (by omega), if_neg (by omega), if_neg (by omega)]
theorem idx_at (c : UInt8) (a b : List UInt8) (h : c ∉ a) : Lib.indexByte (a ++ c :: b) c = (a.length : Int) := by
 have h1 := cut_at c a b h
 rcases cut_idx c (a ++ c :: b) with ⟨_, h3, _⟩ | ⟨h2, _⟩
 · rw [h1] at h3; exact h3
 · rw [h1] at h2; cases h2
theorem idx_none (c : UInt8) (a : List UInt8) (h : c ∉ a) : Lib.indexByte a c = -1 := by
 have h1 := cut_none c a h
 rcases cut_idx c a with ⟨h2, _⟩ | ⟨_, h3, _⟩
 · rw [h1] at h2; cases h2
 · exact h3
theorem dec_no (n : Nat) (c : UInt8) (hc : c.toNat < 48) : c ∉ Lib.decDigits n := fun h => by
 have := dec_dig n c h
 unfold digB at this
 omega
theorem parts_nums : ∀ (ns : List Nat) (n k : Nat), (Lib.decDigits n ++ numsS ns).length ≤ k → partsL k (Lib.decDigits n ++ numsS ns) = (n :: ns).map Lib.decDigits
 | [], n, k, h => by
   have hi := idx_none 32 (Lib.decDigits n) (dec_no n 32 (by decide))
   simp only [numsS, List.append_nil, List.map_cons, List.map_nil]
   cases k with
   | zero => rfl
   | succ k =>
     simp only [partsL]
     rw [hi, if_pos (by omega)]
 | m :: ms, n, k, h => by
   have hi := idx_at 32 (Lib.decDigits n) (Lib.decDigits m ++ numsS ms) (dec_no n 32 (by decide))
   simp only [numsS, List.length_append, List.length_cons] at h
   cases k with
   | zero => omega
   | succ k =>
     simp only [numsS, partsL]
     have hneg : ¬ ((Lib.decDigits n).length : Int) < 0 := by omega
     simp only [hi, hneg, if_false, Int.toNat_natCast]
     have ht : (Lib.decDigits n ++ 32 :: (Lib.decDigits m ++ numsS ms)).take (Lib.decDigits n).length = Lib.decDigits n := by simp
     have hd : (Lib.decDigits n ++ 32 :: (Lib.decDigits m ++ numsS ms)).drop ((Lib.decDigits n).length + 1) = Lib.decDigits m ++ numsS ms := by
       rw [List.drop_append]
       simp
     rw [ht, hd, parts_nums ms m k (by simp only [List.length_append]; omega)]
     rfl
theorem numsL_dec : ∀ l : List Nat, (∀ n ∈ l, n ≤ 1048576) → numsL (l.map Lib.decDigits) = some (toZ l)
 | [], _ => rfl
 | n :: l, h => by
   have h1 := numL_dec (h n List.mem_cons_self)
   have h2 := numsL_dec l fun m hm => h m (List.mem_cons_of_mem _ hm)
   simp only [List.map_cons, numsL, h1, h2]
   rfl
def blankS : List Nat → List UInt8
 | [] => []
 | n :: l => Lib.decDigits n ++ numsS l
theorem p_specNums (l : List Nat) (h0 : l ≠ []) (hl : l.length ≤ 1000) (h : ∀ n ∈ l, n ≤ 1048576) : f35 (blankS l) = some (toZ l, true, ()) := by
 cases l with
 | nil => exact absurd rfl h0
 | cons n l =>
   have hlen : (Lib.decDigits n ++ numsS l).length ≤ 10000 := by
     have h1 := dec_len 6 n (by have := h n List.mem_cons_self; omega)
     have h2 := numsS_len l fun m hm => h m (List.mem_cons_of_mem _ hm)
     simp only [List.length_cons] at hl
     simp only [List.length_append]
     omega
   show specNums _ = _
   unfold specNums blankS
   rw [decide_eq_true (show (Lib.decDigits n ++ numsS l).length ≤ 1000000 by omega), parts_nums l n _ (Nat.le_refl _), numsL_dec _ h]
   rfl
theorem numsL_i64 : ∀ (l : List (List UInt8)) (zs : List Int), numsL l = some zs → (∀ z ∈ zs, I64 z) ∧ zs.length = l.length
 | [], zs, h => by cases h; exact ⟨fun z hz => (by cases hz), rfl⟩
 | s :: l, zs, h => by
   simp only [numsL] at h
   cases h1 : numL s <;> cases h2 : numsL l <;> rw [h1, h2] at h <;> simp at h
   rename_i v vs
   subst h
   obtain ⟨k1, k2⟩ := numsL_i64 l vs h2
   refine ⟨fun z hz => ?_, by simp [k2]⟩
   rcases List.mem_cons.1 hz with rfl | hz
   · unfold numL at h1
     cases h3 : Lib.atoiAll s with
     | ok y => rw [h3] at h1; cases h1; exact atoi_i64 h3
     | _ => rw [h3] at h1; cases h1
   · exact k1 z hz
theorem partsL_len : ∀ (k : Nat) (s : List UInt8), (partsL k s).length ≤ k + 1
 | 0, s => by simp [partsL]
 | k + 1, s => by
   simp only [partsL]
   split
   · simp
   · have := partsL_len k (s.drop ((Lib.indexByte s 32).toNat + 1))
     simp only [List.length_cons]; omega
theorem p_numsAny (s : List UInt8) (hs : s.length ≤ 100000) : ∃ zs b, f35 s = some (zs, b, ()) ∧ (∀ z ∈ zs, I64 z) ∧ zs.length ≤ 100001 := by
 have hf : f35 s = some (match numsL (partsL s.length s) with
   | some zs => (zs, (true, ()))
   | none => ([], (false, ()))) := by
   show specNums s = _
   unfold specNums
   rw [decide_eq_true (show s.length ≤ 1000000 by omega)]
   rfl
 rw [hf]
 cases hn : numsL (partsL s.length s) with
 | none => exact ⟨[], false, rfl, (fun z hz => nomatch hz), Nat.zero_le _⟩
 | some zs =>
   obtain ⟨h1, h2⟩ := numsL_i64 _ _ hn
   have := partsL_len s.length s
   exact ⟨zs, true, rfl, h1, by omega⟩
end NM
end Go.Proofs.YtjngkfdclcgfhaaGreatDoor
end
section
set_option maxRecDepth 10000
namespace Go.Proofs.YtjngkfdclcgfhaaGreatDoor
namespace NM
open AM
@[reducible] def FldT : Type := Unit × (Unit × (Unit × (Int × (Int × (Int × (Int × (Int × (Int × (Int × (Int × (Int × (Int × (Int × (Int × (Int × (Int × (Int × Unit)))))))))))))))))
def flds (s : Spec) : FldT := ((), (), (), s.users, s.weights.age, s.weights.size, s.weights.qos, s.weights.share, s.decay, s.mode, s.jobs, s.ids, s.versions, s.linger, s.keep, s.inn, s.out, s.cache, ())
def E0 (b : Bool) (s : Spec) : y19_3 := .inl (b, (flds s, (), s.parts, s.queues, s.nodes, ()))
def E1 (b : Bool) (s : Spec) : y19_3 := .inr (.inl (b, (flds s, s.nodes, s.parts, s.queues, ())))
def E2 (b : Bool) (s : Spec) : y19_3 := .inr (.inr (.inl (b, (flds s, s.nodes, (), s.queues, s.parts, ()))))
def E3 (b : Bool) (s : Spec) : y19_3 := .inr (.inr (.inr (b, (flds s, s.nodes, s.parts, (), s.queues, ()))))
def callRL (s : Spec) (w ws : List UInt8) : Option y19_3 :=
 f19_3 w ws s.users s.weights.age s.weights.size s.weights.qos s.weights.share s.decay s.mode s.jobs s.ids s.versions s.linger s.keep s.inn s.out s.cache s.nodes s.parts s.queues
theorem small_of {n b : Nat} (h : n ≤ 1000000) (hb : b ≤ 1000) : smallB n b = true := by
 unfold smallB
 have : n * b ≤ 1000000 * 1000 := Nat.mul_le_mul h hb
 simp only [Bool.and_eq_true, decide_eq_true_eq]
 omega
theorem rl_node (s : Spec) (ws : List UInt8) (a : Res) (e : Int) (hr : f34 ws = some (a, e, ())) (hl : s.nodes.length ≤ 10000) : callRL s [110, 111, 100, 101] ws = some (E0 (decide (e = 0)) { s with nodes := s.nodes ++ [a] }) := by
 unfold callRL f19_3 F19_3
 rw [decide_eq_true rfl, cond_true, hr]
 simp only [Option.bind_some]
 rw [small_of (by omega) (by omega), cond_true]
 rfl
theorem rl_mode (s : Spec) (ws : List UInt8) : callRL s [109, 111, 100, 101] ws = some (E1 true { s with mode := if ws = [99, 111, 110, 115, 101, 114, 118, 97, 116, 105, 118, 101] then 2 else 1 }) := by
 unfold callRL f19_3 F19_3
 rw [decide_eq_false (show ¬ ([109, 111, 100, 101] : List UInt8) = [110, 111, 100, 101] by decide), decide_eq_true (show ([109, 111, 100, 101] : List UInt8) = [109, 111, 100, 101] from rfl), cond_false, cond_true]
 by_cases h : ws = [99, 111, 110, 115, 101, 114, 118, 97, 116, 105, 118, 101]
 · rw [decide_eq_true h, cond_true, if_pos h]; rfl
 · rw [decide_eq_false h, cond_false, if_neg h]; rfl
theorem rl_bad (s : Spec) (w ws : List UInt8) (zs : List Int) (h1 : w ≠ [110, 111, 100, 101]) (h2 : w ≠ [109, 111, 100, 101]) (hn : f35 ws = some (zs, false, ())) : callRL s w ws = some (E1 false s) := by
 unfold callRL f19_3 F19_3
 rw [decide_eq_false h1, decide_eq_false h2, cond_false, cond_false, hn]
 rfl
theorem rl_part (s : Spec) (ws : List UInt8) (zs : List Int) (hl : s.parts.length ≤ 10000) (hn : f35 ws = some (zs, true, ())) : callRL s [112, 97, 114, 116] ws = some (E2 true { s with parts := s.parts ++ [zs] }) := by
 unfold callRL f19_3 F19_3
 rw [decide_eq_false (show ¬ ([112, 97, 114, 116] : List UInt8) = [110, 111, 100, 101] by decide), decide_eq_false (show ¬ ([112, 97, 114, 116] : List UInt8) = [109, 111, 100, 101] by decide), cond_false, cond_false, hn]
 simp only [Option.bind_some]
 rw [small_of (n := s.parts.length + 1) (b := 24) (by omega) (by omega)]
 rfl
theorem rl_queue (s : Spec) (ws : List UInt8) (a b c d e : Int) (zs : List Int) (hl : s.queues.length ≤ 10000) (hn : f35 ws = some (a :: b :: c :: d :: e :: zs, true, ())) : callRL s [113, 117, 101, 117, 101] ws = some (E3 true { s with queues := s.queues ++ [⟨a, zs, b, c, d, e⟩] }) := by
 unfold callRL f19_3 F19_3
 rw [decide_eq_false (show ¬ ([113, 117, 101, 117, 101] : List UInt8) = [110, 111, 100, 101] by decide), decide_eq_false (show ¬ ([113, 117, 101, 117, 101] : List UInt8) = [109, 111, 100, 101] by decide), cond_false, cond_false, hn]
 simp only [Option.bind_some]
 rw [small_of (n := s.queues.length + 1) (b := 64) (by omega) (by omega)]
 rw [decide_eq_false (show ¬ ((a :: b :: c :: d :: e :: zs).length : Int) < 5 by simp only [List.length_cons]; omega), decide_eq_true (show 5 ≤ (a :: b :: c :: d :: e :: zs).length by simp only [List.length_cons]; omega)]
 rfl
theorem rl_queueBad (s : Spec) (ws : List UInt8) (zs : List Int) (hl : zs.length < 5) (hn : f35 ws = some (zs, true, ())) : callRL s [113, 117, 101, 117, 101] ws = some (E1 false s) := by
 unfold callRL f19_3 F19_3
 rw [decide_eq_false (show ¬ ([113, 117, 101, 117, 101] : List UInt8) = [110, 111, 100, 101] by decide), decide_eq_false (show ¬ ([113, 117, 101, 117, 101] : List UInt8) = [109, 111, 100, 101] by decide), cond_false, cond_false, hn]
 simp only [Option.bind_some]
 rw [decide_eq_true (show (zs.length : Int) < 5 by omega)]
 rfl
theorem rl_weights (s : Spec) (ws : List UInt8) (a b c d : Int) (hn : f35 ws = some ([a, b, c, d], true, ())) : callRL s [119, 101, 105, 103, 104, 116, 115] ws = some (E1 true { s with weights := ⟨a, b, c, d⟩ }) := by
 unfold callRL f19_3 F19_3
 rw [hn]
 rfl
theorem rl_weightsBad (s : Spec) (ws : List UInt8) (zs : List Int) (hl : ¬ zs.length = 4) (hn : f35 ws = some (zs, true, ())) : callRL s [119, 101, 105, 103, 104, 116, 115] ws = some (E1 false s) := by
 have hl' : ¬ (zs.length : Int) = 4 := by omega
 unfold callRL f19_3 F19_3
 rw [hn]
 simp only [Option.bind_some]
 rw [decide_eq_false hl']
 rfl
theorem rl_users (s : Spec) (ws : List UInt8) (x : Int) (hn : f35 ws = some ([x], true, ())) : callRL s [117, 115, 101, 114, 115] ws = some (E1 true { s with users := x }) := by
 unfold callRL f19_3 F19_3
 rw [hn]
 simp [f36_3, F36_3, E1, flds]
theorem rl_usersBad (s : Spec) (ws : List UInt8) (zs : List Int) (hl : ¬ zs.length = 1) (hn : f35 ws = some (zs, true, ())) : callRL s [117, 115, 101, 114, 115] ws = some (E1 false s) := by
 have hl' : ¬ (zs.length : Int) = 1 := by omega
 unfold callRL f19_3 F19_3
 rw [hn]
 simp [f36_3, F36_3, E1, flds, hl']
theorem rl_decay (s : Spec) (ws : List UInt8) (x : Int) (hn : f35 ws = some ([x], true, ())) : callRL s [100, 101, 99, 97, 121] ws = some (E1 true { s with decay := x }) := by
 unfold callRL f19_3 F19_3
 rw [hn]
 simp [f36_3, F36_3, E1, flds]
theorem rl_decayBad (s : Spec) (ws : List UInt8) (zs : List Int) (hl : ¬ zs.length = 1) (hn : f35 ws = some (zs, true, ())) : callRL s [100, 101, 99, 97, 121] ws = some (E1 false s) := by
 have hl' : ¬ (zs.length : Int) = 1 := by omega
 unfold callRL f19_3 F19_3
 rw [hn]
 simp [f36_3, F36_3, E1, flds, hl']
theorem rl_jobs (s : Spec) (ws : List UInt8) (x : Int) (hn : f35 ws = some ([x], true, ())) : callRL s [106, 111, 98, 115] ws = some (E1 true { s with jobs := x }) := by
 unfold callRL f19_3 F19_3
 rw [hn]
 simp [f36_3, F36_3, E1, flds]
theorem rl_jobsBad (s : Spec) (ws : List UInt8) (zs : List Int) (hl : ¬ zs.length = 1) (hn : f35 ws = some (zs, true, ())) : callRL s [106, 111, 98, 115] ws = some (E1 false s) := by
 have hl' : ¬ (zs.length : Int) = 1 := by omega
 unfold callRL f19_3 F19_3
 rw [hn]
 simp [f36_3, F36_3, E1, flds, hl']
theorem rl_ids (s : Spec) (ws : List UInt8) (x : Int) (hn : f35 ws = some ([x], true, ())) : callRL s [105, 100, 115] ws = some (E1 true { s with ids := x }) := by
 unfold callRL f19_3 F19_3
 rw [hn]
 simp [f36_3, F36_3, E1, flds]
theorem rl_idsBad (s : Spec) (ws : List UInt8) (zs : List Int) (hl : ¬ zs.length = 1) (hn : f35 ws = some (zs, true, ())) : callRL s [105, 100, 115] ws = some (E1 false s) := by
 have hl' : ¬ (zs.length : Int) = 1 := by omega
 unfold callRL f19_3 F19_3
 rw [hn]
 simp [f36_3, F36_3, E1, flds, hl']
theorem rl_versions (s : Spec) (ws : List UInt8) (x : Int) (hn : f35 ws = some ([x], true, ())) : callRL s [118, 101, 114, 115, 105, 111, 110, 115] ws = some (E1 true { s with versions := x }) := by
 unfold callRL f19_3 F19_3
 rw [hn]
 simp [f36_3, F36_3, E1, flds]
theorem rl_versionsBad (s : Spec) (ws : List UInt8) (zs : List Int) (hl : ¬ zs.length = 1) (hn : f35 ws = some (zs, true, ())) : callRL s [118, 101, 114, 115, 105, 111, 110, 115] ws = some (E1 false s) := by
 have hl' : ¬ (zs.length : Int) = 1 := by omega
 unfold callRL f19_3 F19_3
 rw [hn]
 simp [f36_3, F36_3, E1, flds, hl']
theorem rl_linger (s : Spec) (ws : List UInt8) (x : Int) (hn : f35 ws = some ([x], true, ())) : callRL s [108, 105, 110, 103, 101, 114] ws = some (E1 true { s with linger := x }) := by
 unfold callRL f19_3 F19_3
 rw [hn]
 simp [f36_3, F36_3, E1, flds]
theorem rl_lingerBad (s : Spec) (ws : List UInt8) (zs : List Int) (hl : ¬ zs.length = 1) (hn : f35 ws = some (zs, true, ())) : callRL s [108, 105, 110, 103, 101, 114] ws = some (E1 false s) := by
 have hl' : ¬ (zs.length : Int) = 1 := by omega
 unfold callRL f19_3 F19_3
 rw [hn]
 simp [f36_3, F36_3, E1, flds, hl']
theorem rl_keep (s : Spec) (ws : List UInt8) (x : Int) (hn : f35 ws = some ([x], true, ())) : callRL s [107, 101, 101, 112] ws = some (E1 true { s with keep := x }) := by
 unfold callRL f19_3 F19_3
 rw [hn]
 simp [f36_3, F36_3, E1, flds]
theorem rl_keepBad (s : Spec) (ws : List UInt8) (zs : List Int) (hl : ¬ zs.length = 1) (hn : f35 ws = some (zs, true, ())) : callRL s [107, 101, 101, 112] ws = some (E1 false s) := by
 have hl' : ¬ (zs.length : Int) = 1 := by omega
 unfold callRL f19_3 F19_3
 rw [hn]
 simp [f36_3, F36_3, E1, flds, hl']
theorem rl_inn (s : Spec) (ws : List UInt8) (x : Int) (hn : f35 ws = some ([x], true, ())) : callRL s [105, 110] ws = some (E1 true { s with inn := x }) := by
 unfold callRL f19_3 F19_3
 rw [hn]
 simp [f36_3, F36_3, E1, flds]
theorem rl_innBad (s : Spec) (ws : List UInt8) (zs : List Int) (hl : ¬ zs.length = 1) (hn : f35 ws = some (zs, true, ())) : callRL s [105, 110] ws = some (E1 false s) := by
 have hl' : ¬ (zs.length : Int) = 1 := by omega
 unfold callRL f19_3 F19_3
 rw [hn]
 simp [f36_3, F36_3, E1, flds, hl']
theorem rl_out (s : Spec) (ws : List UInt8) (x : Int) (hn : f35 ws = some ([x], true, ())) : callRL s [111, 117, 116] ws = some (E1 true { s with out := x }) := by
 unfold callRL f19_3 F19_3
 rw [hn]
 simp [f36_3, F36_3, E1, flds]
theorem rl_outBad (s : Spec) (ws : List UInt8) (zs : List Int) (hl : ¬ zs.length = 1) (hn : f35 ws = some (zs, true, ())) : callRL s [111, 117, 116] ws = some (E1 false s) := by
 have hl' : ¬ (zs.length : Int) = 1 := by omega
 unfold callRL f19_3 F19_3
 rw [hn]
 simp [f36_3, F36_3, E1, flds, hl']
theorem rl_cache (s : Spec) (ws : List UInt8) (x : Int) (hn : f35 ws = some ([x], true, ())) : callRL s [99, 97, 99, 104, 101] ws = some (E1 true { s with cache := x }) := by
 unfold callRL f19_3 F19_3
 rw [hn]
 simp [f36_3, F36_3, E1, flds]
theorem rl_cacheBad (s : Spec) (ws : List UInt8) (zs : List Int) (hl : ¬ zs.length = 1) (hn : f35 ws = some (zs, true, ())) : callRL s [99, 97, 99, 104, 101] ws = some (E1 false s) := by
 have hl' : ¬ (zs.length : Int) = 1 := by omega
 unfold callRL f19_3 F19_3
 rw [hn]
 simp [f36_3, F36_3, E1, flds, hl']
theorem rl_none (s : Spec) (w ws : List UInt8) (zs : List Int) (b : Bool) (h1 : w ≠ [110, 111, 100, 101]) (h2 : w ≠ [109, 111, 100, 101]) (h3 : w ≠ [112, 97, 114, 116]) (h4 : w ≠ [113, 117, 101, 117, 101]) (h5 : w ≠ [119, 101, 105, 103, 104, 116, 115])
   (k0 : w ≠ [117, 115, 101, 114, 115])
   (k1 : w ≠ [100, 101, 99, 97, 121])
   (k2 : w ≠ [106, 111, 98, 115])
   (k3 : w ≠ [105, 100, 115])
   (k4 : w ≠ [118, 101, 114, 115, 105, 111, 110, 115])
   (k5 : w ≠ [108, 105, 110, 103, 101, 114])
   (k6 : w ≠ [107, 101, 101, 112])
   (k7 : w ≠ [105, 110])
   (k8 : w ≠ [111, 117, 116])
   (k9 : w ≠ [99, 97, 99, 104, 101])
   (hn : f35 ws = some (zs, b, ())) : callRL s w ws = some (E1 false s) := by
 cases b with
 | false => exact rl_bad s w ws zs h1 h2 hn
 | true =>
   unfold callRL f19_3 F19_3
   rw [hn]
   simp [f36_3, F36_3, E1, flds, h1, h2, h3, h4, h5, k0, k1, k2, k3, k4, k5, k6, k7, k8, k9]
end NM
end Go.Proofs.YtjngkfdclcgfhaaGreatDoor
end
section
set_option maxRecDepth 10000
namespace Go.Proofs.YtjngkfdclcgfhaaGreatDoor
namespace NM
open AM
theorem rng_users {s : Spec} (hs : Rng.P s) {x : Int} (hx : I64 x) : Rng.P { s with users := x } := by
 obtain ⟨a0, a1, a2, a3, a4, a5, a6, a7, a8, a9, a10, a11, a12, a13, a14⟩ := hs
 exact ⟨a0, a1, a2, hx, a4, a5, a6, a7, a8, a9, a10, a11, a12, a13, a14⟩
theorem rng_decay {s : Spec} (hs : Rng.P s) {x : Int} (hx : I64 x) : Rng.P { s with decay := x } := by
 obtain ⟨a0, a1, a2, a3, a4, a5, a6, a7, a8, a9, a10, a11, a12, a13, a14⟩ := hs
 exact ⟨a0, a1, a2, a3, a4, hx, a6, a7, a8, a9, a10, a11, a12, a13, a14⟩
theorem rng_mode {s : Spec} (hs : Rng.P s) {x : Int} (hx : I64 x) : Rng.P { s with mode := x } := by
 obtain ⟨a0, a1, a2, a3, a4, a5, a6, a7, a8, a9, a10, a11, a12, a13, a14⟩ := hs
 exact ⟨a0, a1, a2, a3, a4, a5, hx, a7, a8, a9, a10, a11, a12, a13, a14⟩
theorem rng_jobs {s : Spec} (hs : Rng.P s) {x : Int} (hx : I64 x) : Rng.P { s with jobs := x } := by
 obtain ⟨a0, a1, a2, a3, a4, a5, a6, a7, a8, a9, a10, a11, a12, a13, a14⟩ := hs
 exact ⟨a0, a1, a2, a3, a4, a5, a6, hx, a8, a9, a10, a11, a12, a13, a14⟩
theorem rng_ids {s : Spec} (hs : Rng.P s) {x : Int} (hx : I64 x) : Rng.P { s with ids := x } := by
 obtain ⟨a0, a1, a2, a3, a4, a5, a6, a7, a8, a9, a10, a11, a12, a13, a14⟩ := hs
 exact ⟨a0, a1, a2, a3, a4, a5, a6, a7, hx, a9, a10, a11, a12, a13, a14⟩
theorem rng_versions {s : Spec} (hs : Rng.P s) {x : Int} (hx : I64 x) : Rng.P { s with versions := x } := by
 obtain ⟨a0, a1, a2, a3, a4, a5, a6, a7, a8, a9, a10, a11, a12, a13, a14⟩ := hs
 exact ⟨a0, a1, a2, a3, a4, a5, a6, a7, a8, hx, a10, a11, a12, a13, a14⟩
theorem rng_linger {s : Spec} (hs : Rng.P s) {x : Int} (hx : I64 x) : Rng.P { s with linger := x } := by
 obtain ⟨a0, a1, a2, a3, a4, a5, a6, a7, a8, a9, a10, a11, a12, a13, a14⟩ := hs
 exact ⟨a0, a1, a2, a3, a4, a5, a6, a7, a8, a9, hx, a11, a12, a13, a14⟩
theorem rng_keep {s : Spec} (hs : Rng.P s) {x : Int} (hx : I64 x) : Rng.P { s with keep := x } := by
 obtain ⟨a0, a1, a2, a3, a4, a5, a6, a7, a8, a9, a10, a11, a12, a13, a14⟩ := hs
 exact ⟨a0, a1, a2, a3, a4, a5, a6, a7, a8, a9, a10, hx, a12, a13, a14⟩
theorem rng_inn {s : Spec} (hs : Rng.P s) {x : Int} (hx : I64 x) : Rng.P { s with inn := x } := by
 obtain ⟨a0, a1, a2, a3, a4, a5, a6, a7, a8, a9, a10, a11, a12, a13, a14⟩ := hs
 exact ⟨a0, a1, a2, a3, a4, a5, a6, a7, a8, a9, a10, a11, hx, a13, a14⟩
theorem rng_out {s : Spec} (hs : Rng.P s) {x : Int} (hx : I64 x) : Rng.P { s with out := x } := by
 obtain ⟨a0, a1, a2, a3, a4, a5, a6, a7, a8, a9, a10, a11, a12, a13, a14⟩ := hs
 exact ⟨a0, a1, a2, a3, a4, a5, a6, a7, a8, a9, a10, a11, a12, hx, a14⟩
theorem rng_cache {s : Spec} (hs : Rng.P s) {x : Int} (hx : I64 x) : Rng.P { s with cache := x } := by
 obtain ⟨a0, a1, a2, a3, a4, a5, a6, a7, a8, a9, a10, a11, a12, a13, a14⟩ := hs
 exact ⟨a0, a1, a2, a3, a4, a5, a6, a7, a8, a9, a10, a11, a12, a13, hx⟩
theorem rng_weights {s : Spec} (hs : Rng.P s) {a b c d : Int} (ha : I64 a) (hb : I64 b) (hc : I64 c) (hd : I64 d) : Rng.P { s with weights := ⟨a, b, c, d⟩ } := by
 obtain ⟨a0, a1, a2, a3, a4, a5, a6, a7, a8, a9, a10, a11, a12, a13, a14⟩ := hs
 exact ⟨a0, a1, a2, a3, ⟨ha, hb, hc, hd⟩, a5, a6, a7, a8, a9, a10, a11, a12, a13, a14⟩
theorem rng_snoc {α : Type} [Lay α] [Rng α] {l : List α} (h : Rng.P l) {x : α} (hx : Rng.P x) (hl : l.length ≤ 10000) : Rng.P (l ++ [x]) := by
 have hm : maxLen = 9223372036854775807 := rfl
 refine And.intro (by simp only [List.length_append, List.length_cons, List.length_nil]; omega) fun y hy => ?_
 rcases List.mem_append.1 hy with hy | hy
 · exact h.2 y hy
 · rw [List.mem_singleton.1 hy]; exact hx
theorem rng_nodes {s : Spec} (hs : Rng.P s) {x : Res} (hx : Rng.P x) (hl : s.nodes.length ≤ 10000) : Rng.P { s with nodes := s.nodes ++ [x] } := by
 obtain ⟨a0, a1, a2, a3, a4, a5, a6, a7, a8, a9, a10, a11, a12, a13, a14⟩ := hs
 exact ⟨rng_snoc a0 hx hl, a1, a2, a3, a4, a5, a6, a7, a8, a9, a10, a11, a12, a13, a14⟩
theorem rng_parts {s : Spec} (hs : Rng.P s) {x : List Int} (hx : Rng.P x) (hl : s.parts.length ≤ 10000) : Rng.P { s with parts := s.parts ++ [x] } := by
 obtain ⟨a0, a1, a2, a3, a4, a5, a6, a7, a8, a9, a10, a11, a12, a13, a14⟩ := hs
 exact ⟨a0, rng_snoc a1 hx hl, a2, a3, a4, a5, a6, a7, a8, a9, a10, a11, a12, a13, a14⟩
theorem rng_queues {s : Spec} (hs : Rng.P s) {x : Queue} (hx : Rng.P x) (hl : s.queues.length ≤ 10000) : Rng.P { s with queues := s.queues ++ [x] } := by
 obtain ⟨a0, a1, a2, a3, a4, a5, a6, a7, a8, a9, a10, a11, a12, a13, a14⟩ := hs
 exact ⟨a0, a1, rng_snoc a2 hx hl, a3, a4, a5, a6, a7, a8, a9, a10, a11, a12, a13, a14⟩
theorem rng_ints {l : List Int} (h : ∀ z ∈ l, I64 z) (hl : l.length ≤ 100001) : Rng.P l := by
 have hm : maxLen = 9223372036854775807 := rfl
 exact And.intro (by omega) h
def Nx (s : Spec) (w ws : List UInt8) (b : Bool) (s' : Spec) : Prop :=
 (callRL s w ws = some (E0 b s') ∧ s'.parts = s.parts ∧ s'.queues = s.queues ∧ s'.nodes.length ≤ s.nodes.length + 1) ∨
 (callRL s w ws = some (E1 b s') ∧ s'.nodes = s.nodes ∧ s'.parts = s.parts ∧ s'.queues = s.queues) ∨
 (callRL s w ws = some (E2 b s') ∧ s'.nodes = s.nodes ∧ s'.queues = s.queues ∧ s'.parts.length ≤ s.parts.length + 1) ∨
 (callRL s w ws = some (E3 b s') ∧ s'.nodes = s.nodes ∧ s'.parts = s.parts ∧ s'.queues.length ≤ s.queues.length + 1)
theorem units_any (ws : List UInt8) (h : ws.length ≤ 100000) : ∃ a e, f34 ws = some (a, e, ()) ∧ Rng.P a := by
 rcases p_Read ws (by omega) with ⟨r, hr, rfl⟩ | ⟨_, hb⟩
 · refine ⟨_, _, p_Read_txt r hr, ?_⟩
   have h0 := hr 0 (by omega)
   have h1 := hr 1 (by omega)
   have h2 := hr 2 (by omega)
   have h3 := hr 3 (by omega)
   show I64 (r 0 : Int) ∧ I64 (r 1 : Int) ∧ I64 (r 2 : Int) ∧ I64 (r 3 : Int)
   unfold I64
   omega
 · exact ⟨_, _, hb, ⟨by decide, by decide⟩, ⟨by decide, by decide⟩, ⟨by decide, by decide⟩, ⟨by decide, by decide⟩⟩
theorem rl_any (s : Spec) (hs : Rng.P s) (w ws : List UInt8) (hw : ws.length ≤ 100000) (n1 : s.nodes.length ≤ 10000) (n2 : s.parts.length ≤ 10000) (n3 : s.queues.length ≤ 10000) : ∃ b s', Nx s w ws b s' ∧ Rng.P s' := by
 by_cases h1 : w = [110, 111, 100, 101]
 · subst h1
   obtain ⟨a, e, hr, ha⟩ := units_any ws hw
   exact ⟨_, _, .inl ⟨rl_node s ws a e hr n1, rfl, rfl, by simp⟩, rng_nodes hs ha n1⟩
 by_cases h2 : w = [109, 111, 100, 101]
 · subst h2
   refine ⟨_, _, .inr (.inl ⟨rl_mode s ws, rfl, rfl, rfl⟩), rng_mode hs ?_⟩
   split <;> exact ⟨by decide, by decide⟩
 obtain ⟨zs, b, hn, hz, hl⟩ := p_numsAny ws hw
 cases b with
 | false => exact ⟨_, _, .inr (.inl ⟨rl_bad s w ws zs h1 h2 hn, rfl, rfl, rfl⟩), hs⟩
 | true =>
   by_cases h3 : w = [112, 97, 114, 116]
   · subst h3
     exact ⟨_, _, .inr (.inr (.inl ⟨rl_part s ws zs n2 hn, rfl, rfl, by simp⟩)), rng_parts hs (rng_ints hz hl) n2⟩
   by_cases h4 : w = [113, 117, 101, 117, 101]
   · subst h4
     rcases zs with _ | ⟨a, _ | ⟨b, _ | ⟨c, _ | ⟨d, _ | ⟨e, zs⟩⟩⟩⟩⟩
     · exact ⟨_, _, .inr (.inl ⟨rl_queueBad s ws _ (by simp) hn, rfl, rfl, rfl⟩), hs⟩
     · exact ⟨_, _, .inr (.inl ⟨rl_queueBad s ws _ (by simp) hn, rfl, rfl, rfl⟩), hs⟩
     · exact ⟨_, _, .inr (.inl ⟨rl_queueBad s ws _ (by simp) hn, rfl, rfl, rfl⟩), hs⟩
     · exact ⟨_, _, .inr (.inl ⟨rl_queueBad s ws _ (by simp) hn, rfl, rfl, rfl⟩), hs⟩
     · exact ⟨_, _, .inr (.inl ⟨rl_queueBad s ws _ (by simp) hn, rfl, rfl, rfl⟩), hs⟩
     · refine ⟨_, _, .inr (.inr (.inr ⟨rl_queue s ws a b c d e zs n3 hn, rfl, rfl, by simp⟩)), rng_queues hs ?_ n3⟩
       refine ⟨hz a (by simp), rng_ints (l := zs) (fun z h => hz z (List.mem_cons_of_mem _ (List.mem_cons_of_mem _ (List.mem_cons_of_mem _ (List.mem_cons_of_mem _ (List.mem_cons_of_mem _ h)))))) (by simp only [List.length_cons] at hl; omega), hz b (by simp), hz c (by simp), hz d (by simp), hz e (by simp)⟩
   by_cases h5 : w = [119, 101, 105, 103, 104, 116, 115]
   · subst h5
     by_cases h4 : zs.length = 4
     · rcases zs with _ | ⟨a, _ | ⟨b, _ | ⟨c, _ | ⟨d, _ | ⟨e, zs⟩⟩⟩⟩⟩ <;> simp only [List.length_cons, List.length_nil] at h4 <;> try omega
       exact ⟨_, _, .inr (.inl ⟨rl_weights s ws a b c d hn, rfl, rfl, rfl⟩), rng_weights hs (hz a (by simp)) (hz b (by simp)) (hz c (by simp)) (hz d (by simp))⟩
     · exact ⟨_, _, .inr (.inl ⟨rl_weightsBad s ws zs h4 hn, rfl, rfl, rfl⟩), hs⟩
   by_cases hone : zs.length = 1
   · obtain ⟨x, rfl⟩ := List.length_eq_one_iff.1 hone
     have hx := hz x (by simp)
     by_cases k0 : w = [117, 115, 101, 114, 115]
     · subst k0
       exact ⟨_, _, .inr (.inl ⟨rl_users s ws x hn, rfl, rfl, rfl⟩), rng_users hs hx⟩
     by_cases k1 : w = [100, 101, 99, 97, 121]
     · subst k1
       exact ⟨_, _, .inr (.inl ⟨rl_decay s ws x hn, rfl, rfl, rfl⟩), rng_decay hs hx⟩
     by_cases k2 : w = [106, 111, 98, 115]
     · subst k2
       exact ⟨_, _, .inr (.inl ⟨rl_jobs s ws x hn, rfl, rfl, rfl⟩), rng_jobs hs hx⟩
     by_cases k3 : w = [105, 100, 115]
     · subst k3
       exact ⟨_, _, .inr (.inl ⟨rl_ids s ws x hn, rfl, rfl, rfl⟩), rng_ids hs hx⟩
     by_cases k4 : w = [118, 101, 114, 115, 105, 111, 110, 115]
     · subst k4
       exact ⟨_, _, .inr (.inl ⟨rl_versions s ws x hn, rfl, rfl, rfl⟩), rng_versions hs hx⟩
     by_cases k5 : w = [108, 105, 110, 103, 101, 114]
     · subst k5
       exact ⟨_, _, .inr (.inl ⟨rl_linger s ws x hn, rfl, rfl, rfl⟩), rng_linger hs hx⟩
     by_cases k6 : w = [107, 101, 101, 112]
     · subst k6
       exact ⟨_, _, .inr (.inl ⟨rl_keep s ws x hn, rfl, rfl, rfl⟩), rng_keep hs hx⟩
     by_cases k7 : w = [105, 110]
     · subst k7
       exact ⟨_, _, .inr (.inl ⟨rl_inn s ws x hn, rfl, rfl, rfl⟩), rng_inn hs hx⟩
     by_cases k8 : w = [111, 117, 116]
     · subst k8
       exact ⟨_, _, .inr (.inl ⟨rl_out s ws x hn, rfl, rfl, rfl⟩), rng_out hs hx⟩
     by_cases k9 : w = [99, 97, 99, 104, 101]
     · subst k9
       exact ⟨_, _, .inr (.inl ⟨rl_cache s ws x hn, rfl, rfl, rfl⟩), rng_cache hs hx⟩
     exact ⟨_, _, .inr (.inl ⟨rl_none s w ws _ _ h1 h2 h3 h4 h5 k0 k1 k2 k3 k4 k5 k6 k7 k8 k9 hn, rfl, rfl, rfl⟩), hs⟩
   · by_cases k0 : w = [117, 115, 101, 114, 115]
     · subst k0
       exact ⟨_, _, .inr (.inl ⟨rl_usersBad s ws zs hone hn, rfl, rfl, rfl⟩), hs⟩
     by_cases k1 : w = [100, 101, 99, 97, 121]
     · subst k1
       exact ⟨_, _, .inr (.inl ⟨rl_decayBad s ws zs hone hn, rfl, rfl, rfl⟩), hs⟩
     by_cases k2 : w = [106, 111, 98, 115]
     · subst k2
       exact ⟨_, _, .inr (.inl ⟨rl_jobsBad s ws zs hone hn, rfl, rfl, rfl⟩), hs⟩
     by_cases k3 : w = [105, 100, 115]
     · subst k3
       exact ⟨_, _, .inr (.inl ⟨rl_idsBad s ws zs hone hn, rfl, rfl, rfl⟩), hs⟩
     by_cases k4 : w = [118, 101, 114, 115, 105, 111, 110, 115]
     · subst k4
       exact ⟨_, _, .inr (.inl ⟨rl_versionsBad s ws zs hone hn, rfl, rfl, rfl⟩), hs⟩
     by_cases k5 : w = [108, 105, 110, 103, 101, 114]
     · subst k5
       exact ⟨_, _, .inr (.inl ⟨rl_lingerBad s ws zs hone hn, rfl, rfl, rfl⟩), hs⟩
     by_cases k6 : w = [107, 101, 101, 112]
     · subst k6
       exact ⟨_, _, .inr (.inl ⟨rl_keepBad s ws zs hone hn, rfl, rfl, rfl⟩), hs⟩
     by_cases k7 : w = [105, 110]
     · subst k7
       exact ⟨_, _, .inr (.inl ⟨rl_innBad s ws zs hone hn, rfl, rfl, rfl⟩), hs⟩
     by_cases k8 : w = [111, 117, 116]
     · subst k8
       exact ⟨_, _, .inr (.inl ⟨rl_outBad s ws zs hone hn, rfl, rfl, rfl⟩), hs⟩
     by_cases k9 : w = [99, 97, 99, 104, 101]
     · subst k9
       exact ⟨_, _, .inr (.inl ⟨rl_cacheBad s ws zs hone hn, rfl, rfl, rfl⟩), hs⟩
     exact ⟨_, _, .inr (.inl ⟨rl_none s w ws _ _ h1 h2 h3 h4 h5 k0 k1 k2 k3 k4 k5 k6 k7 k8 k9 hn, rfl, rfl, rfl⟩), hs⟩
end NM
end Go.Proofs.YtjngkfdclcgfhaaGreatDoor
end
