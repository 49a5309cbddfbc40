/-
  The statement ReplyReads about plain data.
-/
import Derived.Test.YtgpejfddaelobaaPRead
import Derived.KernelRfl
set_option linter.unusedVariables false
set_option linter.unusedSimpArgs false
namespace Go.Proofs.Ytgpejfddaelobaa
namespace NM
open AM
theorem awake09 : f18 = some true := by kernel_rfl
theorem p_greatest : f70 = some (1073741824, (99, (281474976710656, 281474976710656))) := rfl
def A1 (b : List Int) : Int × RS' := nextW 0 1073741824 (b, 0)
def A2' (b : List Int) : Int × RS' := nextW 0 99 (A1 b).2
def A3 (b : List Int) : Int × RS' := nextN (A2' b).2
def A4 (b : List Int) : Int × RS' := nextN (A3 b).2
def A5 (b : List Int) : Int × RS' := nextW 0 64 (A4 b).2
def An (b : List Int) : Nat := (A5 b).1.toNat
def As (b : List Int) : RS' := stN (A5 b).2 (An b)
def Ae (b : List Int) : Int := endI (As b)
def repI (b : List Int) : Reply := if Ae b = 0 then Reply.mk (A1 b).1 (A2' b).1 (A3 b).1 (A4 b).1 (lsN (A5 b).2 (An b)) else Reply.mk 0 0 0 0 []
section
variable {b : List Int} (hb : Bytes8 b) (hl : b.length ≤ 400)
include hb hl
theorem a0 : SOk 400 (b, 0) := ⟨hb, hl⟩
theorem a1 : SOk 400 (A1 b).2 := nextW_ok (a0 hb hl)
theorem a2 : SOk 400 (A2' b).2 := nextW_ok (a1 hb hl)
theorem a3 : SOk 400 (A3 b).2 := nextN_ok (a2 hb hl)
theorem a4 : SOk 400 (A4 b).2 := nextN_ok (a3 hb hl)
theorem a5 : SOk 400 (A5 b).2 := nextW_ok (a4 hb hl)
theorem an : (A5 b).1 = (An b : Int) ∧ An b ≤ 64 := by
  have : 0 ≤ (A5 b).1 ∧ (A5 b).1 ≤ 64 := nextW_range (lo := 0) (hi := 64) (by omega) (by omega) (a4 hb hl)
  unfold An
  omega
theorem p_readReply : f19 b = some (repI b, (Ae b, ())) := by
  unfold f19 F19
  obtain ⟨hn, hn64⟩ := an hb hl
  simp only [p_rNew b (by omega), p_greatest, Option.bind_some, p_Within 0 1073741824 (a0 hb hl) (by decide)]
  rw [show nextW 0 1073741824 (b, 0) = A1 b from rfl, p_Within 0 99 (a1 hb hl) (by decide)]
  simp only [Option.bind_some]
  rw [show nextW 0 99 (A1 b).2 = A2' b from rfl, p_Within 0 281474976710656 (a2 hb hl) (by decide), nextW_all (a2 hb hl)]
  simp only [Option.bind_some]
  rw [show nextN (A2' b).2 = A3 b from rfl, p_Within 0 281474976710656 (a3 hb hl) (by decide), nextW_all (a3 hb hl)]
  simp only [Option.bind_some]
  rw [show nextN (A3 b).2 = A4 b from rfl, p_Within 0 64 (a4 hb hl) (by decide)]
  simp only [Option.bind_some]
  rw [show nextW 0 64 (A4 b).2 = A5 b from rfl]
  refine loop_run' (An b) (loops_gt _ (by omega)) (fun i => (((), (), (), (i : Int), ()), ((0, 0, 0, 0, (), ()), stN (A5 b).2 i, ((A1 b).1, (A2' b).1, (A3 b).1, (A4 b).1, (), ()), lsN (A5 b).2 i, ()))) (fun i hi next => ?_) (fun next => ?_)
  · have hlen := lsN_len (A5 b).2 i
    simp only [l19_0, hn, show (i : Int) < (An b : Int) by omega, decide_true, cond_true, p_Number (stN_ok (a5 hb hl) i) (by decide), Option.bind_some, small_ok' 8 (by decide) (show (lsN (A5 b).2 i).length + 1 ≤ 4294967295 by omega), lsN_succ, stN, wi (show -9223372036854775808 ≤ (i : Int) + 1 by omega) (by omega)]
    rfl
  · simp only [l19_0, hn, Int.lt_irrefl, decide_false, cond_false, p_End, Option.bind_some]
    unfold repI
    rw [show endI (stN (A5 b).2 (An b)) = Ae b from rfl]
    by_cases h : Ae b = 0
    · simp [h]
    · simp [h]
theorem r_readReply : f20 b = some (repI b, (Ae b, ())) := by
  unfold f20 F20
  obtain ⟨hn, hn64⟩ := an hb hl
  have hl' : b.length ≤ 4294967295 := by omega
  obtain ⟨y1, h1, g1⟩ := r_rdWithin 0 1073741824 hb hl' (RdIs.start b)
  obtain ⟨y2, h2, g2⟩ := r_rdWithin 0 99 hb hl' g1
  obtain ⟨y3, h3, g3⟩ := r_rdNumber hb hl' g2
  obtain ⟨y4, h4, g4⟩ := r_rdNumber hb hl' g3
  obtain ⟨y5, h5, g5⟩ := r_rdWithin 0 64 hb hl' g4
  simp only [h1, h2, h3, h4, h5, Option.bind_some]
  have g5 : RdIs b y5 (A5 b).2 := g5
  change LN LOOPS _ (((), (), (), 0, ()), ((0, 0, 0, 0, (), ()), y5, ((A1 b).1, (A2' b).1, (A3 b).1, (A4 b).1, (), ()), [], ())) = _
  change LN LOOPS (fun s next => l20_0 _ _ ((A5 b).1, (y5, ())) next _ _ _ _ _ _ _ _ _ _ _) _ = _
  refine loop_run' (An b) (loops_gt _ (by omega)) (fun i => (((), (), (), (i : Int), ()), ((0, 0, 0, 0, (), ()), rdN y5 i, ((A1 b).1, (A2' b).1, (A3 b).1, (A4 b).1, (), ()), lsN (A5 b).2 i, ()))) (fun i hi next => ?_) (fun next => ?_)
  · have hlen := lsN_len (A5 b).2 i
    obtain ⟨_, hr⟩ := rdN_is hb hl' g5 i
    simp only [l20_0, hn, show (i : Int) < (An b : Int) by omega, decide_true, cond_true, hr, Option.bind_some, small_ok' 8 (by decide) (show (lsN (A5 b).2 i).length + 1 ≤ 4294967295 by omega), lsN_succ, wi (show -9223372036854775808 ≤ (i : Int) + 1 by omega) (by omega)]
    rfl
  · obtain ⟨hs, _⟩ := rdN_is hb hl' g5 (An b)
    simp only [l20_0, hn, Int.lt_irrefl, decide_false, cond_false]
    have he := r_rdErr hs
    unfold repI Ae
    rw [show stN (A5 b).2 (An b) = As b from rfl] at *
    unfold endI
    by_cases h0 : (As b).2 = 0
    · simp only [he, h0, decide_true, cond_true, r_rdLeft hl' hs h0, Option.bind_some, if_true]
      by_cases hz : (As b).1.length = 0
      · simp [hz, he, h0]
      · have h1 : (0 : Int) < ((As b).1.length : Int) := by omega
        simp only [h1, hz, decide_true, cond_true, Option.bind_some, if_false]
        rfl
    · simp [he, h0]
theorem reply_ends (h : Ae b = 0) : b = putsI [(A1 b).1, (A2' b).1, (A3 b).1, (A4 b).1] ++ putsI [((lsN (A5 b).2 (An b)).length : Int)] ++ putsI (lsN (A5 b).2 (An b)) ∧
    0 ≤ (A1 b).1 ∧ (A1 b).1 ≤ 1073741824 ∧ 0 ≤ (A2' b).1 ∧ (A2' b).1 ≤ 99 ∧ inN (A3 b).1 = true ∧ inN (A4 b).1 = true ∧ (lsN (A5 b).2 (An b)).all inN = true := by
  obtain ⟨hn, hn64⟩ := an hb hl
  unfold Ae endI at h
  split at h
  · rename_i h0
    split at h
    · rename_i hz
      obtain ⟨e5, f5, g5⟩ := stN_end (a5 hb hl) (An b) h0
      obtain ⟨e4, f4, g4, _⟩ := nextW_end (a4 hb hl) e5
      obtain ⟨e3, f3, g3⟩ := nextN_end (a3 hb hl) e4
      obtain ⟨e2, f2, g2⟩ := nextN_end (a2 hb hl) e3
      obtain ⟨e1, f1, g1, i1, j1⟩ := nextW_end (a1 hb hl) e2
      obtain ⟨_, f0, g0, i0, j0⟩ := nextW_end (a0 hb hl) e1
      refine ⟨?_, i0, j0, i1, j1, g2, g3, g5⟩
      have fz : (As b).1 = [] := List.eq_nil_of_length_eq_zero hz
      rw [show (stN (A5 b).2 (An b)) = As b from rfl, fz, List.append_nil] at f5
      rw [lsN_len, ← hn]
      have f0 : b = bytesI (A1 b).1 ++ (A1 b).2.1 := f0
      have f1 : (A1 b).2.1 = bytesI (A2' b).1 ++ (A2' b).2.1 := f1
      have f2 : (A2' b).2.1 = bytesI (A3 b).1 ++ (A3 b).2.1 := f2
      have f3 : (A3 b).2.1 = bytesI (A4 b).1 ++ (A4 b).2.1 := f3
      have f4 : (A4 b).2.1 = bytesI (A5 b).1 ++ (A5 b).2.1 := f4
      conv => lhs; rw [f0, f1, f2, f3, f4, f5]
      simp [putsI]
    · cases h
  · rename_i h0; exact absurd h h0
end
theorem r_Ints1 (a : List Int) (hl : a.length ≤ 4294967295) : f77 a a = some true := by
  unfold f77 F77
  simp only [decide_true, Bool.not_true, cond_false]
  have hml : maxLen = 9223372036854775807 := rfl
  rw [all_loop a (fun z => ((z, ()), ())) (fun _ => true) true (by omega)]
  · simp
  · intro next
    simp [l77_0]
  · intro z x next h0 h1 h2 h3
    simp only [l77_0, h0, h1, h2, h3, decide_true, cond_true, Option.bind_some, Bool.not_true, cond_false]
theorem r_sameReply (a : Reply) (hl : a.nums.length ≤ 4294967295) : f21 a a = some true := by
  unfold f21 F21
  simp [r_Ints1 a.nums hl]
theorem p_rightReply (a : Reply) (h1 : 0 ≤ a.key) (h2 : a.key ≤ 1073741824) (h3 : 0 ≤ a.err) (h4 : a.err ≤ 99) (h5 : inN a.job = true) (h6 : inN a.version = true) (h7 : a.nums.all inN = true) (h8 : a.nums.length ≤ 64) : f23 a = some true := by
  unfold f23 F23
  have hml : maxLen = 9223372036854775807 := rfl
  simp only [inN, Bool.and_eq_true, decide_eq_true_eq] at h5 h6
  have hf : f78 a = some (a.key, (a.err, (a.job, a.version))) := rfl
  simp only [p_greatest, hf, Option.bind_some, show ¬ a.key < 0 by omega, show ¬ 1073741824 < a.key by omega, show ¬ a.err < 0 by omega, show ¬ 99 < a.err by omega, show ¬ a.job < 0 by omega, show ¬ 281474976710656 < a.job by omega, show ¬ a.version < 0 by omega, show ¬ 281474976710656 < a.version by omega, show ¬ (64 : Int) < (a.nums.length : Int) by omega, decide_false, cond_false]
  rw [all_loop a.nums (fun z => ((z, ()), ())) inN true (by omega), h7]
  · rfl
  · intro next
    simp [l23_0]
  · intro z x next h0 h1 h2 h3
    simp only [l23_0, h0, h1, h2, h3, decide_true, cond_true, Option.bind_some]
    unfold inN
    by_cases g1 : x < 0
    · simp [g1, show ¬ 0 ≤ x by omega]
    · by_cases g2 : 281474976710656 < x
      · simp [g1, g2, show ¬ x ≤ 281474976710656 by omega]
      · simp [g1, g2, show 0 ≤ x by omega, show x ≤ 281474976710656 by omega]
theorem p_writeReply (a : Reply) (h1 : 0 ≤ a.key) (h2 : a.key ≤ 1073741824) (h3 : 0 ≤ a.err) (h4 : a.err ≤ 99) (h5 : inN a.job = true) (h6 : inN a.version = true) (h7 : a.nums.all inN = true) (h8 : a.nums.length ≤ 64) :
    f22 a = some (putsI [a.key, a.err, a.job, a.version] ++ putsI [(a.nums.length : Int)] ++ putsI a.nums, 0, ()) := by
  unfold f22 F22
  have hf : f78 a = some (a.key, (a.err, (a.job, a.version))) := rfl
  have k1 : inN a.key = true := by simp [inN]; omega
  have k2 : inN a.err = true := by simp [inN]; omega
  have e1 : ([a.key, a.err, a.job, a.version]).all inN = true := by simp [k1, k2, h5, h6]
  have e2 : ([(a.nums.length : Int)]).all inN = true := by simp [inN]; omega
  have l1 := putsI_len [a.key, a.err, a.job, a.version]
  have l2 := putsI_len [(a.nums.length : Int)]
  simp at l1 l2
  simp only [p_rightReply a h1 h2 h3 h4 h5 h6 h7 h8, Option.bind_some, Bool.not_true, cond_false, hf, p_Put [] [a.key, a.err, a.job, a.version] (by simp), e1, if_true, List.nil_append, decide_true]
  rw [p_Put _ [(a.nums.length : Int)] (by simp; omega), if_pos e2]
  simp only [Option.bind_some, decide_true, Bool.not_true, cond_false]
  rw [p_Put _ a.nums (by simp; omega), if_pos h7]
  rfl
theorem _root_.Go.Proofs.Ytgpejfddaelobaa.replyReads.plain (b : List Int) (hb : Bytes8 b) (hlen : b.length ≤ maxLen) : f4 b = some true := by
  unfold f4 F4
  simp only [awake09, Option.bind_some, Bool.not_true, cond_false]
  by_cases h400 : (400 : Int) < (b.length : Int)
  · simp [h400]
  · have hl : b.length ≤ 400 := by omega
    have hn : (repI b).nums.length ≤ 64 := by
      obtain ⟨hn, hn64⟩ := an hb hl
      unfold repI
      split
      · rw [lsN_len]; exact hn64
      · simp
    simp only [h400, decide_false, cond_false, p_readReply hb hl, r_readReply hb hl, Option.bind_some, decide_true, Bool.not_true, r_sameReply (repI b) (by omega)]
    by_cases h : Ae b = 0
    · obtain ⟨g0, g1, g2, g3, g4, g5, g6, g7⟩ := reply_ends hb hl h
      have er : repI b = Reply.mk (A1 b).1 (A2' b).1 (A3 b).1 (A4 b).1 (lsN (A5 b).2 (An b)) := by unfold repI; rw [if_pos h]
      rw [er] at hn ⊢
      have hw := p_writeReply (Reply.mk (A1 b).1 (A2' b).1 (A3 b).1 (A4 b).1 (lsN (A5 b).2 (An b))) g1 g2 g3 g4 g5 g6 g7 hn
      have hr := p_rightReply (Reply.mk (A1 b).1 (A2' b).1 (A3 b).1 (A4 b).1 (lsN (A5 b).2 (An b))) g1 g2 g3 g4 g5 g6 g7 hn
      simp only at hw
      rw [← g0] at hw
      simp only [h, decide_true, Bool.not_true, cond_false, hw, hr, Option.bind_some, cond_true, r_Bytes1 b (by omega)]
    · simp [h]
end NM
namespace replyReads
open NM AM
theorem walk (x0 : List UInt8) (v0 : Value) (W : World) (h0 : V W (Lt W.heap.size) x0 v0) :
    Calls Try.prog 4 #[v0] W fun e w' => e = .returned (.bool true) ∧ Go.RowKit.Below W.heap.size W w' :=
  nlaw_walk NM.ok4 (x := (NEnc.f x0, ())) (plain _ u8_all (by
    have := (Rng.ok h0.1 : Rng.P x0).1
    show (x0.map _).length ≤ maxLen
    simpa using this)) (arg_cons x0 arg_nil) rfl fun j a v ha hv => by
    match j with
    | 0 => simp at ha hv; subst ha; subst hv; exact h0.vr (fun _ h => h) _
end replyReads
end Go.Proofs.Ytgpejfddaelobaa
