/-
  What the proof of LedgerDoes leans on, part 22. (Many texts laid together by program.)
-/
import Derived.Test.YtfelhbeiegppgaaPkBu
set_option linter.unnecessarySimpa false
set_option linter.unusedSimpArgs false
set_option linter.unusedVariables false
section
namespace Go.Proofs.Ytfelhbeiegppgaa
namespace AM
set_option maxRecDepth 100000
set_option maxHeartbeats 4000000
theorem g_add (x y : Res) : g_43 [ints x, ints y] [] = some (resR (sumG x y (addR x y)), []) := by
 have hrx : tab [(45, g_45), (72, g_72), (73, g_73)] 45 [ints x] [] = some (.bool (okR x), []) := by simp [tab, g_right]
 have hry : tab [(45, g_45), (72, g_72), (73, g_73)] 45 [ints y] [] = some (.bool (okR y), []) := by simp [tab, g_right]
 have hsx : tab [(45, g_45), (72, g_72), (73, g_73)] 72 [ints x] [] = some (cxs x, []) := by simp [tab, g_split]
 have hsy : tab [(45, g_45), (72, g_72), (73, g_73)] 72 [ints y] [] = some (cxs y, []) := by simp [tab, g_split]
 have hw : okR x = true → okR y = true → tab [(45, g_45), (72, g_72), (73, g_73)] 73 [cxs (addR x y)] [] = some (resR (withinG (addR x y)), []) := fun h1 h2 => by
   obtain ⟨a1, a2, a3, a4⟩ := okR_parts h1
   obtain ⟨b1, b2, b3, b4⟩ := okR_parts h2
   simp [tab, g_within (addR x y) (whole_add a1 b1) (whole_add a2 b2) (whole_add a3 b3) (whole_add a4 b4)]
 unfold g_43
 generalize hK : tab [(45, g_45), (72, g_72), (73, g_73)] = K at hrx hry hsx hsy hw ⊢
 clear hK
 apply body_of
 rw [show [ints x, ints y] ++ List.replicate (a_43.ntmps - [ints x, ints y].length) AVal.undef = [ints x, ints y, .undef, .undef, .undef, .undef, .undef, .undef, .undef, .undef, .undef, .undef, .undef, .undef, .undef, .undef, .undef, .undef, .undef, .undef, .undef, .undef, .undef, .undef, .undef, .undef, .undef, .undef, .undef, .undef, .undef, .undef, .undef, .undef, .undef] from rfl]
 by_cases ho : okR x = true
 · by_cases hp : okR y = true
   · have he : sumG x y (addR x y) = withinG (addR x y) := by unfold sumG; rw [if_pos ho, if_pos hp]
     rw [he]
     replace hw := hw ho hp
     obtain ⟨a1, a2, a3, a4⟩ := okR_parts ho
     obtain ⟨b1, b2, b3, b4⟩ := okR_parts hp
     rw [ho] at hrx
     rw [hp] at hry
     generalize withinG (addR x y) = z at hw ⊢
     obtain ⟨z, n⟩ := z
     unfold ints a_43
     repeat (first
       | ((with_reducible apply ops_eff); (with_reducible refine eff_ints x ?_ hrx ?_); (· rfl); (· rfl); (· dsimp only [setTmp, List.set]; try rfl))
       | ((with_reducible apply ops_eff); (with_reducible refine eff_ints y ?_ hry ?_); (· rfl); (· rfl); (· dsimp only [setTmp, List.set]; try rfl))
       | ((with_reducible apply ops_eff); (with_reducible refine eff_ints x ?_ hsx ?_); (· rfl); (· rfl); (· dsimp only [setTmp, List.set]; try rfl))
       | ((with_reducible apply ops_eff); (with_reducible refine eff_ints y ?_ hsy ?_); (· rfl); (· rfl); (· dsimp only [setTmp, List.set]; try rfl))
       | ((with_reducible apply ops_eff); (with_reducible refine eff_cxs (addR x y) ?_ hw ?_); (· rfl); (· rfl); (· dsimp only [setTmp, List.set]; try rfl))
       | ((with_reducible apply ops_on); (· first | rfl | (simp; done)); (with_reducible refine eff_ints x ?_ hrx ?_); (· rfl); (· rfl); (· dsimp only [setTmp, List.set]; try rfl))
       | ((with_reducible apply ops_on); (· first | rfl | (simp; done)); (with_reducible refine eff_ints y ?_ hry ?_); (· rfl); (· rfl); (· dsimp only [setTmp, List.set]; try rfl))
       | ((with_reducible apply ops_on); (· first | rfl | (simp; done)); (with_reducible refine eff_ints x ?_ hsx ?_); (· rfl); (· rfl); (· dsimp only [setTmp, List.set]; try rfl))
       | ((with_reducible apply ops_on); (· first | rfl | (simp; done)); (with_reducible refine eff_ints y ?_ hsy ?_); (· rfl); (· rfl); (· dsimp only [setTmp, List.set]; try rfl))
       | ((with_reducible apply ops_on); (· first | rfl | (simp; done)); (with_reducible refine eff_cxs (addR x y) ?_ hw ?_); (· rfl); (· rfl); (· dsimp only [setTmp, List.set]; try rfl))
       | with_reducible refine goes_seq ?_
       | with_reducible refine then_normal ?_
       | with_reducible refine then_exit ?_
       | with_reducible refine then_ret ?_
       | with_reducible refine goes_region0 ?_
       | ((with_reducible refine goes_region ?_); dsimp only [List.cons_append, List.nil_append, List.replicate, List.length])
       | with_reducible refine goes_skip ?_
       | with_reducible refine goes_exit ?_
       | with_reducible refine goes_ret ?_
       | with_reducible refine goes_block ?_
       | with_reducible refine blk_normal ?_
       | with_reducible refine blk_out ?_
       | with_reducible refine blk_ret ?_
       | ((with_reducible refine blk_far ?_ ?_); (· rfl))
       | with_reducible refine ops_nil ?_
       | ((with_reducible refine goes_true ?_ ?_); (· simp [fop, a1, a2, a3, a4, b1, b2, b3, b4]; done))
       | ((with_reducible refine goes_false ?_ ?_); (· simp [fop, a1, a2, a3, a4, b1, b2, b3, b4]; done))
       | ((with_reducible apply ops_pure); (· rfl); (· simp [fop, a1, a2, a3, a4, b1, b2, b3, b4]; rfl); (· dsimp only [List.set]; try rfl))
       | ((with_reducible apply ops_off); (· simp; rfl); (· simp [fop, a1, a2, a3, a4, b1, b2, b3, b4]; done); (· dsimp only [setTmp, List.set]; try rfl))
       | ((with_reducible apply ops_dead); (· simp; done); (· dsimp only [setTmp, List.set]; try rfl))
       | ((with_reducible apply ops_on); (· simp [fop, a1, a2, a3, a4, b1, b2, b3, b4]; done); (· simp [fop, a1, a2, a3, a4, b1, b2, b3, b4]; exact ⟨rfl, rfl⟩); (· dsimp only [setTmp, List.set]; try rfl))
       | ((with_reducible apply ops_eff); (· simp [fop, a1, a2, a3, a4, b1, b2, b3, b4]; exact ⟨rfl, rfl⟩); (· dsimp only [setTmp, List.set]; try rfl)))
     refine ⟨.inr rfl, ?_⟩; kernel_rfl
   · have he : sumG x y (addR x y) = (zeroR, 2) := by unfold sumG; rw [if_pos ho, if_neg hp]
     rw [he]
     rw [ho] at hrx
     have hp : okR y = false := by simpa using hp
     rw [hp] at hry
     unfold ints a_43
     repeat (first
       | ((with_reducible apply ops_eff); (with_reducible refine eff_ints x ?_ hrx ?_); (· rfl); (· rfl); (· dsimp only [setTmp, List.set]; try rfl))
       | ((with_reducible apply ops_eff); (with_reducible refine eff_ints y ?_ hry ?_); (· rfl); (· rfl); (· dsimp only [setTmp, List.set]; try rfl))
       | ((with_reducible apply ops_on); (· first | rfl | (simp; done)); (with_reducible refine eff_ints x ?_ hrx ?_); (· rfl); (· rfl); (· dsimp only [setTmp, List.set]; try rfl))
       | ((with_reducible apply ops_on); (· first | rfl | (simp; done)); (with_reducible refine eff_ints y ?_ hry ?_); (· rfl); (· rfl); (· dsimp only [setTmp, List.set]; try rfl))
       | with_reducible refine goes_seq ?_
       | with_reducible refine then_normal ?_
       | with_reducible refine then_exit ?_
       | with_reducible refine then_ret ?_
       | with_reducible refine goes_region0 ?_
       | ((with_reducible refine goes_region ?_); dsimp only [List.cons_append, List.nil_append, List.replicate, List.length])
       | with_reducible refine goes_skip ?_
       | with_reducible refine goes_exit ?_
       | with_reducible refine goes_ret ?_
       | with_reducible refine goes_block ?_
       | with_reducible refine blk_normal ?_
       | with_reducible refine blk_out ?_
       | with_reducible refine blk_ret ?_
       | ((with_reducible refine blk_far ?_ ?_); (· rfl))
       | with_reducible refine ops_nil ?_
       | ((with_reducible refine goes_true ?_ ?_); (· simp [fop]; done))
       | ((with_reducible refine goes_false ?_ ?_); (· simp [fop]; done))
       | ((with_reducible apply ops_pure); (· rfl); (· simp [fop]; rfl); (· dsimp only [List.set]; try rfl))
       | ((with_reducible apply ops_off); (· simp; rfl); (· simp [fop]; done); (· dsimp only [setTmp, List.set]; try rfl))
       | ((with_reducible apply ops_dead); (· simp; done); (· dsimp only [setTmp, List.set]; try rfl))
       | ((with_reducible apply ops_on); (· simp [fop]; done); (· simp [fop]; exact ⟨rfl, rfl⟩); (· dsimp only [setTmp, List.set]; try rfl))
       | ((with_reducible apply ops_eff); (· simp [fop]; exact ⟨rfl, rfl⟩); (· dsimp only [setTmp, List.set]; try rfl)))
     refine ⟨.inr rfl, ?_⟩; kernel_rfl
 · have he : sumG x y (addR x y) = (zeroR, 2) := by unfold sumG; rw [if_neg ho]
   rw [he]
   have ho : okR x = false := by simpa using ho
   rw [ho] at hrx
   unfold ints a_43
   repeat (first
     | ((with_reducible apply ops_eff); (with_reducible refine eff_ints x ?_ hrx ?_); (· rfl); (· rfl); (· dsimp only [setTmp, List.set]; try rfl))
     | ((with_reducible apply ops_on); (· first | rfl | (simp; done)); (with_reducible refine eff_ints x ?_ hrx ?_); (· rfl); (· rfl); (· dsimp only [setTmp, List.set]; try rfl))
     | with_reducible refine goes_seq ?_
     | with_reducible refine then_normal ?_
     | with_reducible refine then_exit ?_
     | with_reducible refine then_ret ?_
     | with_reducible refine goes_region0 ?_
     | ((with_reducible refine goes_region ?_); dsimp only [List.cons_append, List.nil_append, List.replicate, List.length])
     | with_reducible refine goes_skip ?_
     | with_reducible refine goes_exit ?_
     | with_reducible refine goes_ret ?_
     | with_reducible refine goes_block ?_
     | with_reducible refine blk_normal ?_
     | with_reducible refine blk_out ?_
     | with_reducible refine blk_ret ?_
     | ((with_reducible refine blk_far ?_ ?_); (· rfl))
     | with_reducible refine ops_nil ?_
     | ((with_reducible refine goes_true ?_ ?_); (· simp [fop]; done))
     | ((with_reducible refine goes_false ?_ ?_); (· simp [fop]; done))
     | ((with_reducible apply ops_pure); (· rfl); (· simp [fop]; rfl); (· dsimp only [List.set]; try rfl))
     | ((with_reducible apply ops_off); (· simp; rfl); (· simp [fop]; done); (· dsimp only [setTmp, List.set]; try rfl))
     | ((with_reducible apply ops_dead); (· simp; done); (· dsimp only [setTmp, List.set]; try rfl))
     | ((with_reducible apply ops_on); (· simp [fop]; done); (· simp [fop]; exact ⟨rfl, rfl⟩); (· dsimp only [setTmp, List.set]; try rfl))
     | ((with_reducible apply ops_eff); (· simp [fop]; exact ⟨rfl, rfl⟩); (· dsimp only [setTmp, List.set]; try rfl)))
   refine ⟨.inr rfl, ?_⟩; kernel_rfl
theorem g_sub (x y : Res) : g_46 [ints x, ints y] [] = some (resR (sumG x y (subR x y)), []) := by
 have hrx : tab [(45, g_45), (72, g_72), (73, g_73)] 45 [ints x] [] = some (.bool (okR x), []) := by simp [tab, g_right]
 have hry : tab [(45, g_45), (72, g_72), (73, g_73)] 45 [ints y] [] = some (.bool (okR y), []) := by simp [tab, g_right]
 have hsx : tab [(45, g_45), (72, g_72), (73, g_73)] 72 [ints x] [] = some (cxs x, []) := by simp [tab, g_split]
 have hsy : tab [(45, g_45), (72, g_72), (73, g_73)] 72 [ints y] [] = some (cxs y, []) := by simp [tab, g_split]
 have hw : okR x = true → okR y = true → tab [(45, g_45), (72, g_72), (73, g_73)] 73 [cxs (subR x y)] [] = some (resR (withinG (subR x y)), []) := fun h1 h2 => by
   obtain ⟨a1, a2, a3, a4⟩ := okR_parts h1
   obtain ⟨b1, b2, b3, b4⟩ := okR_parts h2
   simp [tab, g_within (subR x y) (whole_sub a1 b1) (whole_sub a2 b2) (whole_sub a3 b3) (whole_sub a4 b4)]
 unfold g_46
 generalize hK : tab [(45, g_45), (72, g_72), (73, g_73)] = K at hrx hry hsx hsy hw ⊢
 clear hK
 apply body_of
 rw [show [ints x, ints y] ++ List.replicate (a_46.ntmps - [ints x, ints y].length) AVal.undef = [ints x, ints y, .undef, .undef, .undef, .undef, .undef, .undef, .undef, .undef, .undef, .undef, .undef, .undef, .undef, .undef, .undef, .undef, .undef, .undef, .undef, .undef, .undef, .undef, .undef, .undef, .undef, .undef, .undef, .undef, .undef, .undef, .undef, .undef, .undef] from rfl]
 by_cases ho : okR x = true
 · by_cases hp : okR y = true
   · have he : sumG x y (subR x y) = withinG (subR x y) := by unfold sumG; rw [if_pos ho, if_pos hp]
     rw [he]
     replace hw := hw ho hp
     obtain ⟨a1, a2, a3, a4⟩ := okR_parts ho
     obtain ⟨b1, b2, b3, b4⟩ := okR_parts hp
     rw [ho] at hrx
     rw [hp] at hry
     generalize withinG (subR x y) = z at hw ⊢
     obtain ⟨z, n⟩ := z
     unfold ints a_46
     repeat (first
       | ((with_reducible apply ops_eff); (with_reducible refine eff_ints x ?_ hrx ?_); (· rfl); (· rfl); (· dsimp only [setTmp, List.set]; try rfl))
       | ((with_reducible apply ops_eff); (with_reducible refine eff_ints y ?_ hry ?_); (· rfl); (· rfl); (· dsimp only [setTmp, List.set]; try rfl))
       | ((with_reducible apply ops_eff); (with_reducible refine eff_ints x ?_ hsx ?_); (· rfl); (· rfl); (· dsimp only [setTmp, List.set]; try rfl))
       | ((with_reducible apply ops_eff); (with_reducible refine eff_ints y ?_ hsy ?_); (· rfl); (· rfl); (· dsimp only [setTmp, List.set]; try rfl))
       | ((with_reducible apply ops_eff); (with_reducible refine eff_cxs (subR x y) ?_ hw ?_); (· rfl); (· rfl); (· dsimp only [setTmp, List.set]; try rfl))
       | ((with_reducible apply ops_on); (· first | rfl | (simp; done)); (with_reducible refine eff_ints x ?_ hrx ?_); (· rfl); (· rfl); (· dsimp only [setTmp, List.set]; try rfl))
       | ((with_reducible apply ops_on); (· first | rfl | (simp; done)); (with_reducible refine eff_ints y ?_ hry ?_); (· rfl); (· rfl); (· dsimp only [setTmp, List.set]; try rfl))
       | ((with_reducible apply ops_on); (· first | rfl | (simp; done)); (with_reducible refine eff_ints x ?_ hsx ?_); (· rfl); (· rfl); (· dsimp only [setTmp, List.set]; try rfl))
       | ((with_reducible apply ops_on); (· first | rfl | (simp; done)); (with_reducible refine eff_ints y ?_ hsy ?_); (· rfl); (· rfl); (· dsimp only [setTmp, List.set]; try rfl))
       | ((with_reducible apply ops_on); (· first | rfl | (simp; done)); (with_reducible refine eff_cxs (subR x y) ?_ hw ?_); (· rfl); (· rfl); (· dsimp only [setTmp, List.set]; try rfl))
       | with_reducible refine goes_seq ?_
       | with_reducible refine then_normal ?_
       | with_reducible refine then_exit ?_
       | with_reducible refine then_ret ?_
       | with_reducible refine goes_region0 ?_
       | ((with_reducible refine goes_region ?_); dsimp only [List.cons_append, List.nil_append, List.replicate, List.length])
       | with_reducible refine goes_skip ?_
       | with_reducible refine goes_exit ?_
       | with_reducible refine goes_ret ?_
       | with_reducible refine goes_block ?_
       | with_reducible refine blk_normal ?_
       | with_reducible refine blk_out ?_
       | with_reducible refine blk_ret ?_
       | ((with_reducible refine blk_far ?_ ?_); (· rfl))
       | with_reducible refine ops_nil ?_
       | ((with_reducible refine goes_true ?_ ?_); (· simp [fop, a1, a2, a3, a4, b1, b2, b3, b4]; done))
       | ((with_reducible refine goes_false ?_ ?_); (· simp [fop, a1, a2, a3, a4, b1, b2, b3, b4]; done))
       | ((with_reducible apply ops_pure); (· rfl); (· simp [fop, a1, a2, a3, a4, b1, b2, b3, b4]; rfl); (· dsimp only [List.set]; try rfl))
       | ((with_reducible apply ops_off); (· simp; rfl); (· simp [fop, a1, a2, a3, a4, b1, b2, b3, b4]; done); (· dsimp only [setTmp, List.set]; try rfl))
       | ((with_reducible apply ops_dead); (· simp; done); (· dsimp only [setTmp, List.set]; try rfl))
       | ((with_reducible apply ops_on); (· simp [fop, a1, a2, a3, a4, b1, b2, b3, b4]; done); (· simp [fop, a1, a2, a3, a4, b1, b2, b3, b4]; exact ⟨rfl, rfl⟩); (· dsimp only [setTmp, List.set]; try rfl))
       | ((with_reducible apply ops_eff); (· simp [fop, a1, a2, a3, a4, b1, b2, b3, b4]; exact ⟨rfl, rfl⟩); (· dsimp only [setTmp, List.set]; try rfl)))
     refine ⟨.inr rfl, ?_⟩; kernel_rfl
   · have he : sumG x y (subR x y) = (zeroR, 2) := by unfold sumG; rw [if_pos ho, if_neg hp]
     rw [he]
     rw [ho] at hrx
     have hp : okR y = false := by simpa using hp
     rw [hp] at hry
     unfold ints a_46
     repeat (first
       | ((with_reducible apply ops_eff); (with_reducible refine eff_ints x ?_ hrx ?_); (· rfl); (· rfl); (· dsimp only [setTmp, List.set]; try rfl))
       | ((with_reducible apply ops_eff); (with_reducible refine eff_ints y ?_ hry ?_); (· rfl); (· rfl); (· dsimp only [setTmp, List.set]; try rfl))
       | ((with_reducible apply ops_on); (· first | rfl | (simp; done)); (with_reducible refine eff_ints x ?_ hrx ?_); (· rfl); (· rfl); (· dsimp only [setTmp, List.set]; try rfl))
       | ((with_reducible apply ops_on); (· first | rfl | (simp; done)); (with_reducible refine eff_ints y ?_ hry ?_); (· rfl); (· rfl); (· dsimp only [setTmp, List.set]; try rfl))
       | with_reducible refine goes_seq ?_
       | with_reducible refine then_normal ?_
       | with_reducible refine then_exit ?_
       | with_reducible refine then_ret ?_
       | with_reducible refine goes_region0 ?_
       | ((with_reducible refine goes_region ?_); dsimp only [List.cons_append, List.nil_append, List.replicate, List.length])
       | with_reducible refine goes_skip ?_
       | with_reducible refine goes_exit ?_
       | with_reducible refine goes_ret ?_
       | with_reducible refine goes_block ?_
       | with_reducible refine blk_normal ?_
       | with_reducible refine blk_out ?_
       | with_reducible refine blk_ret ?_
       | ((with_reducible refine blk_far ?_ ?_); (· rfl))
       | with_reducible refine ops_nil ?_
       | ((with_reducible refine goes_true ?_ ?_); (· simp [fop]; done))
       | ((with_reducible refine goes_false ?_ ?_); (· simp [fop]; done))
       | ((with_reducible apply ops_pure); (· rfl); (· simp [fop]; rfl); (· dsimp only [List.set]; try rfl))
       | ((with_reducible apply ops_off); (· simp; rfl); (· simp [fop]; done); (· dsimp only [setTmp, List.set]; try rfl))
       | ((with_reducible apply ops_dead); (· simp; done); (· dsimp only [setTmp, List.set]; try rfl))
       | ((with_reducible apply ops_on); (· simp [fop]; done); (· simp [fop]; exact ⟨rfl, rfl⟩); (· dsimp only [setTmp, List.set]; try rfl))
       | ((with_reducible apply ops_eff); (· simp [fop]; exact ⟨rfl, rfl⟩); (· dsimp only [setTmp, List.set]; try rfl)))
     refine ⟨.inr rfl, ?_⟩; kernel_rfl
 · have he : sumG x y (subR x y) = (zeroR, 2) := by unfold sumG; rw [if_neg ho]
   rw [he]
   have ho : okR x = false := by simpa using ho
   rw [ho] at hrx
   unfold ints a_46
   repeat (first
     | ((with_reducible apply ops_eff); (with_reducible refine eff_ints x ?_ hrx ?_); (· rfl); (· rfl); (· dsimp only [setTmp, List.set]; try rfl))
     | ((with_reducible apply ops_on); (· first | rfl | (simp; done)); (with_reducible refine eff_ints x ?_ hrx ?_); (· rfl); (· rfl); (· dsimp only [setTmp, List.set]; try rfl))
     | with_reducible refine goes_seq ?_
     | with_reducible refine then_normal ?_
     | with_reducible refine then_exit ?_
     | with_reducible refine then_ret ?_
     | with_reducible refine goes_region0 ?_
     | ((with_reducible refine goes_region ?_); dsimp only [List.cons_append, List.nil_append, List.replicate, List.length])
     | with_reducible refine goes_skip ?_
     | with_reducible refine goes_exit ?_
     | with_reducible refine goes_ret ?_
     | with_reducible refine goes_block ?_
     | with_reducible refine blk_normal ?_
     | with_reducible refine blk_out ?_
     | with_reducible refine blk_ret ?_
     | ((with_reducible refine blk_far ?_ ?_); (· rfl))
     | with_reducible refine ops_nil ?_
     | ((with_reducible refine goes_true ?_ ?_); (· simp [fop]; done))
     | ((with_reducible refine goes_false ?_ ?_); (· simp [fop]; done))
     | ((with_reducible apply ops_pure); (· rfl); (· simp [fop]; rfl); (· dsimp only [List.set]; try rfl))
     | ((with_reducible apply ops_off); (· simp; rfl); (· simp [fop]; done); (· dsimp only [setTmp, List.set]; try rfl))
     | ((with_reducible apply ops_dead); (· simp; done); (· dsimp only [setTmp, List.set]; try rfl))
     | ((with_reducible apply ops_on); (· simp [fop]; done); (· simp [fop]; exact ⟨rfl, rfl⟩); (· dsimp only [setTmp, List.set]; try rfl))
     | ((with_reducible apply ops_eff); (· simp [fop]; exact ⟨rfl, rfl⟩); (· dsimp only [setTmp, List.set]; try rfl)))
   refine ⟨.inr rfl, ?_⟩; kernel_rfl
end AM
end Go.Proofs.Ytfelhbeiegppgaa
end
section
namespace Go.Proofs.Ytfelhbeiegppgaa
namespace NM
open AM Go.RowKit
@[reducible] def sigVec : Sig := ⟨.cons (.v .res) (.cons (.v .res) .nil), [], (.tup (.cons (.v .res) (.cons (.v (.int .i64)) .nil)), []), []⟩
theorem ri_int {k : IntKind} {n : Int} {a : AVal} (h : RI (.int k n) a) : a = .int k n := by cases h; rfl
theorem rc_int {hp : NHeap} {k : IntKind} {n : Int} {a : AVal} (h : RC hp (.int k n) a) : a = .int k n := (RT.v (RV.c h)).int_inv
theorem a2_ints {R : NVal → AVal → Prop} (hR : ∀ k n a, R (.int k n) a → a = .int k n) {x : Res} {ds : List AVal} (h : A2 R ((ops .res).cells x) ds) : ds = [.int .i64 x.cpu, .int .i64 x.mem, .int .i64 x.gpu, .int .i64 x.lic] := by
 have h : A2 R [.int .i64 x.cpu, .int .i64 x.mem, .int .i64 x.gpu, .int .i64 x.lic] ds := h
 obtain ⟨a, l, rfl, h1, h⟩ := h.cons_inv
 obtain ⟨b, l, rfl, h2, h⟩ := h.cons_inv
 obtain ⟨c, l, rfl, h3, h⟩ := h.cons_inv
 obtain ⟨d, l, rfl, h4, h⟩ := h.cons_inv
 rw [hR _ _ _ h1, hR _ _ _ h2, hR _ _ _ h3, hR _ _ _ h4, h.nil_inv]
theorem acells_res (x : Res) : acells .res x = [.int .i64 x.cpu, .int .i64 x.mem, .int .i64 x.gpu, .int .i64 x.lic] := a2_ints (fun _ _ _ h => ri_int h.ri) (acells_rel .res x)
theorem acells_int (n : Int) : acells (.int .i64) n = [.int .i64 n] := by
 have h : A2 RIc [.int .i64 n] (acells (.int .i64) n) := acells_rel (.int .i64) n
 obtain ⟨a, l, e, h1, h⟩ := h.cons_inv
 rw [e, ri_int h1.ri, h.nil_inv]
theorem NOk.vec {P : Program} {f : Nat} {g : List AVal → Heap → Option (AVal × Heap)} {G : Res → Res → Res × Int} (h : Ok P f g) (hg : ∀ x y, g [ints x, ints y] [] = some (resR (G x y), [])) :
   NOk P ⟨f, sigVec, fun x _ => some ((G x.1 x.2.1).1, ((G x.1 x.2.1).2, ()))⟩ := by
 refine ⟨h.1, rfl, fun x hh y hy args ahp ha hb => ?_⟩
 obtain ⟨x, z, u⟩ := x
 cases hy
 have e0 : ahp = [] := A2.nil_inv hb
 subst e0
 simp only [puts, put, putV, Ty.isAgg] at ha
 obtain ⟨a, as', rfl, h1, ha⟩ := ha.cons_inv
 obtain ⟨b, bs', rfl, h2, ha⟩ := ha.cons_inv
 rw [ha.nil_inv]
 obtain ⟨d1, rfl, k1⟩ := (RT.v h1).agg_inv
 obtain ⟨d2, rfl, k2⟩ := (RT.v h2).agg_inv
 rw [a2_ints (fun _ _ _ h => rc_int h) k1, a2_ints (fun _ _ _ h => rc_int h) k2]
 have hk := h.2 [ints x, ints z] [] _ _ (hg x z)
 generalize G x z = r at hk ⊢
 obtain ⟨r, n⟩ := r
 have e1 : yA sigVec.res sigVec.more (r, (n, ())) = resR (r, n) := by
   simp [yA, outA, can, cans, Ty.isAgg, acells_res, acells_int, resR, ints]
 have e2 : yB sigVec.res sigVec.more (r, (n, ())) = [] := rfl
 show CallOk P f [ints x, ints z] [] (yA sigVec.res sigVec.more (r, (n, ()))) (yB sigVec.res sigVec.more (r, (n, ())))
 rw [e1, e2]
 exact hk
end NM
end Go.Proofs.Ytfelhbeiegppgaa
end
section
namespace Go.Proofs.Ytfelhbeiegppgaa
namespace NM
open AM Go.RowKit
def vecAdd (x y : Res) : Option (Res × (Int × Unit)) := some ((sumG x y (addR x y)).1, ((sumG x y (addR x y)).2, ()))
def vecSub (x y : Res) : Option (Res × (Int × Unit)) := some ((sumG x y (subR x y)).1, ((sumG x y (subR x y)).2, ()))
theorem ext43 : NOk Try.prog ⟨43, sigVec, fun x _ => vecAdd x.1 x.2.1⟩ := NOk.vec (G := fun x y => sumG x y (addR x y)) ok_43 g_add
theorem ext46 : NOk Try.prog ⟨46, sigVec, fun x _ => vecSub x.1 x.2.1⟩ := NOk.vec (G := fun x y => sumG x y (subR x y)) ok_46 g_sub
end NM
end Go.Proofs.Ytfelhbeiegppgaa
end
section
namespace Go.Proofs.Ytfelhbeiegppgaa
namespace AM
set_option maxRecDepth 100000
set_option maxHeartbeats 4000000
def mulR (x : Res) (n : Int) : Res := ⟨x.cpu * n, x.mem * n, x.gpu * n, x.lic * n⟩
def nilR (x : Res) : Bool := decide (x.cpu = 0) && (decide (x.mem = 0) && (decide (x.gpu = 0) && decide (x.lic = 0)))
def timesG (x : Res) (n : Int) : Res × Int := if okR x = true then (if n < 0 then (zeroR, 2) else if nilR x = true then (zeroR, 0) else if 1048576 < n then (zeroR, 20) else withinG (mulR x n)) else (zeroR, 2)
theorem whole_mul {a b : Int} (ha : partB a = true) (hb : partB b = true) : wholeB (a * b) = true := by
 have h1 := partB_le ha; have h2 := partB_le hb
 have h3 : 0 ≤ a * b := Int.mul_nonneg h1.1 h2.1
 have h4 : a * b ≤ 1048576 * 1048576 := Int.mul_le_mul h1.2 h2.2 h2.1 (by omega)
 simp only [wholeB, Bool.and_eq_true, decide_eq_true_eq]; omega
theorem g_times (x : Res) (n : Int) : g_71 [ints x, .int .i64 n] [] = some (resR (timesG x n), []) := by
 have hrx : tab [(45, g_45), (72, g_72), (73, g_73)] 45 [ints x] [] = some (.bool (okR x), []) := by simp [tab, g_right]
 have hsx : tab [(45, g_45), (72, g_72), (73, g_73)] 72 [ints x] [] = some (cxs x, []) := by simp [tab, g_split]
 have hw : okR x = true → partB n = true → tab [(45, g_45), (72, g_72), (73, g_73)] 73 [cxs (mulR x n)] [] = some (resR (withinG (mulR x n)), []) := fun h1 h2 => by
   obtain ⟨a1, a2, a3, a4⟩ := okR_parts h1
   simp [tab, g_within (mulR x n) (whole_mul a1 h2) (whole_mul a2 h2) (whole_mul a3 h2) (whole_mul a4 h2)]
 unfold g_71
 generalize hK : tab [(45, g_45), (72, g_72), (73, g_73)] = K at hrx hsx hw ⊢
 clear hK
 apply body_of
 rw [show [ints x, .int .i64 n] ++ List.replicate (a_71.ntmps - [ints x, .int .i64 n].length) AVal.undef = [ints x, .int .i64 n, .undef, .undef, .undef, .undef, .undef, .undef, .undef, .undef, .undef, .undef, .undef, .undef, .undef, .undef, .undef, .undef, .undef, .undef, .undef, .undef, .undef, .undef, .undef, .undef, .undef, .undef, .undef, .undef, .undef, .undef, .undef, .undef, .undef, .undef, .undef, .undef, .undef, .undef] from rfl]
 by_cases ho : okR x = true
 · rw [ho] at hrx
   by_cases hn : n < 0
   · have he : timesG x n = (zeroR, 2) := by unfold timesG; rw [if_pos ho, if_pos hn]
     rw [he]
     unfold ints a_71
     repeat (first
       | ((with_reducible apply ops_eff); (with_reducible refine eff_ints x ?_ hrx ?_); (· rfl); (· rfl); (· dsimp only [setTmp, List.set]; try rfl))
       | ((with_reducible apply ops_on); (· first | rfl | (simp; done)); (with_reducible refine eff_ints x ?_ hrx ?_); (· rfl); (· rfl); (· dsimp only [setTmp, List.set]; try rfl))
       | with_reducible refine goes_seq ?_
       | with_reducible refine then_normal ?_
       | with_reducible refine then_exit ?_
       | with_reducible refine then_ret ?_
       | with_reducible refine goes_region0 ?_
       | ((with_reducible refine goes_region ?_); dsimp only [List.cons_append, List.nil_append, List.replicate, List.length])
       | with_reducible refine goes_skip ?_
       | with_reducible refine goes_exit ?_
       | with_reducible refine goes_ret ?_
       | with_reducible refine goes_block ?_
       | with_reducible refine blk_normal ?_
       | with_reducible refine blk_out ?_
       | with_reducible refine blk_ret ?_
       | ((with_reducible refine blk_far ?_ ?_); (· rfl))
       | with_reducible refine ops_nil ?_
       | ((with_reducible refine goes_true ?_ ?_); (· simp [fop, hn]; done))
       | ((with_reducible refine goes_false ?_ ?_); (· simp [fop, hn]; done))
       | ((with_reducible apply ops_pure); (· rfl); (· simp [fop, hn]; rfl); (· dsimp only [List.set]; try rfl))
       | ((with_reducible apply ops_off); (· simp; rfl); (· simp [fop, hn]; done); (· dsimp only [setTmp, List.set]; try rfl))
       | ((with_reducible apply ops_dead); (· simp; done); (· dsimp only [setTmp, List.set]; try rfl))
       | ((with_reducible apply ops_on); (· simp [fop, hn]; done); (· simp [fop, hn]; exact ⟨rfl, rfl⟩); (· dsimp only [setTmp, List.set]; try rfl))
       | ((with_reducible apply ops_eff); (· simp [fop, hn]; exact ⟨rfl, rfl⟩); (· dsimp only [setTmp, List.set]; try rfl)))
     refine ⟨.inr rfl, ?_⟩; kernel_rfl
   · by_cases hz : nilR x = true
     · have he : timesG x n = (zeroR, 0) := by unfold timesG; rw [if_pos ho, if_neg hn, if_pos hz]
       rw [he]
       unfold nilR at hz
       simp only [Bool.and_eq_true, decide_eq_true_eq] at hz
       obtain ⟨z1, z2, z3, z4⟩ := hz
       clear he hw hsx
       obtain ⟨x1, x2, x3, x4⟩ := x
       simp only at z1 z2 z3 z4
       subst z1; subst z2; subst z3; subst z4
       unfold ints a_71
       repeat (first
         | ((with_reducible apply ops_eff); (with_reducible refine eff_ints (Res.mk 0 0 0 0) ?_ hrx ?_); (· rfl); (· rfl); (· dsimp only [setTmp, List.set]; try rfl))
         | ((with_reducible apply ops_on); (· first | rfl | (simp; done)); (with_reducible refine eff_ints (Res.mk 0 0 0 0) ?_ hrx ?_); (· rfl); (· rfl); (· dsimp only [setTmp, List.set]; try rfl))
         | with_reducible refine goes_seq ?_
         | with_reducible refine then_normal ?_
         | with_reducible refine then_exit ?_
         | with_reducible refine then_ret ?_
         | with_reducible refine goes_region0 ?_
         | ((with_reducible refine goes_region ?_); dsimp only [List.cons_append, List.nil_append, List.replicate, List.length])
         | with_reducible refine goes_skip ?_
         | with_reducible refine goes_exit ?_
         | with_reducible refine goes_ret ?_
         | with_reducible refine goes_block ?_
         | with_reducible refine blk_normal ?_
         | with_reducible refine blk_out ?_
         | with_reducible refine blk_ret ?_
         | ((with_reducible refine blk_far ?_ ?_); (· rfl))
         | with_reducible refine ops_nil ?_
         | ((with_reducible refine goes_true ?_ ?_); (· simp [fop, hn]; done))
         | ((with_reducible refine goes_false ?_ ?_); (· simp [fop, hn]; done))
         | ((with_reducible apply ops_pure); (· rfl); (· simp [fop, hn]; rfl); (· dsimp only [List.set]; try rfl))
         | ((with_reducible apply ops_off); (· simp; rfl); (· simp [fop, hn]; done); (· dsimp only [setTmp, List.set]; try rfl))
         | ((with_reducible apply ops_dead); (· simp; done); (· dsimp only [setTmp, List.set]; try rfl))
         | ((with_reducible apply ops_on); (· simp [fop, hn]; done); (· simp [fop, hn]; exact ⟨rfl, rfl⟩); (· dsimp only [setTmp, List.set]; try rfl))
         | ((with_reducible apply ops_eff); (· simp [fop, hn]; exact ⟨rfl, rfl⟩); (· dsimp only [setTmp, List.set]; try rfl)))
       refine ⟨.inr rfl, ?_⟩; kernel_rfl
     · have hz' : nilR x = false := by simpa using hz
       by_cases hm : 1048576 < n
       · have he : timesG x n = (zeroR, 20) := by unfold timesG; rw [if_pos ho, if_neg hn, if_neg hz, if_pos hm]
         rw [he]
         unfold nilR at hz'
         unfold ints a_71
         repeat (first
           | ((with_reducible apply ops_eff); (with_reducible refine eff_ints x ?_ hrx ?_); (· rfl); (· rfl); (· dsimp only [setTmp, List.set]; try rfl))
           | ((with_reducible apply ops_on); (· first | rfl | (simp; done)); (with_reducible refine eff_ints x ?_ hrx ?_); (· rfl); (· rfl); (· dsimp only [setTmp, List.set]; try rfl))
           | with_reducible refine goes_seq ?_
           | with_reducible refine then_normal ?_
           | with_reducible refine then_exit ?_
           | with_reducible refine then_ret ?_
           | with_reducible refine goes_region0 ?_
           | ((with_reducible refine goes_region ?_); dsimp only [List.cons_append, List.nil_append, List.replicate, List.length])
           | with_reducible refine goes_skip ?_
           | with_reducible refine goes_exit ?_
           | with_reducible refine goes_ret ?_
           | with_reducible refine goes_block ?_
           | with_reducible refine blk_normal ?_
           | with_reducible refine blk_out ?_
           | with_reducible refine blk_ret ?_
           | ((with_reducible refine blk_far ?_ ?_); (· rfl))
           | with_reducible refine ops_nil ?_
           | ((with_reducible refine goes_true ?_ ?_); (· simp [fop, hn, hz', hm]; done))
           | ((with_reducible refine goes_false ?_ ?_); (· simp [fop, hn, hz', hm]; done))
           | ((with_reducible apply ops_pure); (· rfl); (· simp [fop, hn, hz', hm]; rfl); (· dsimp only [List.set]; try rfl))
           | ((with_reducible apply ops_off); (· simp; rfl); (· simp [fop, hn, hz', hm]; done); (· dsimp only [setTmp, List.set]; try rfl))
           | ((with_reducible apply ops_dead); (· simp; done); (· dsimp only [setTmp, List.set]; try rfl))
           | ((with_reducible apply ops_on); (· simp [fop, hn, hz', hm]; done); (· simp [fop, hn, hz', hm]; exact ⟨rfl, rfl⟩); (· dsimp only [setTmp, List.set]; try rfl))
           | ((with_reducible apply ops_eff); (· simp [fop, hn, hz', hm]; exact ⟨rfl, rfl⟩); (· dsimp only [setTmp, List.set]; try rfl)))
         refine ⟨.inr rfl, ?_⟩; kernel_rfl
       · have he : timesG x n = withinG (mulR x n) := by unfold timesG; rw [if_pos ho, if_neg hn, if_neg hz, if_neg hm]
         rw [he]
         have hp : partB n = true := by simp only [partB, Bool.and_eq_true, decide_eq_true_eq]; omega
         replace hw := hw ho hp
         obtain ⟨a1, a2, a3, a4⟩ := okR_parts ho
         generalize withinG (mulR x n) = z at hw ⊢
         obtain ⟨z, m⟩ := z
         unfold nilR at hz'
         unfold ints a_71
         repeat (first
           | ((with_reducible apply ops_eff); (with_reducible refine eff_ints x ?_ hrx ?_); (· rfl); (· rfl); (· dsimp only [setTmp, List.set]; try rfl))
           | ((with_reducible apply ops_eff); (with_reducible refine eff_ints x ?_ hsx ?_); (· rfl); (· rfl); (· dsimp only [setTmp, List.set]; try rfl))
           | ((with_reducible apply ops_eff); (with_reducible refine eff_cxs (mulR x n) ?_ hw ?_); (· rfl); (· rfl); (· dsimp only [setTmp, List.set]; try rfl))
           | ((with_reducible apply ops_on); (· first | rfl | (simp; done)); (with_reducible refine eff_ints x ?_ hrx ?_); (· rfl); (· rfl); (· dsimp only [setTmp, List.set]; try rfl))
           | ((with_reducible apply ops_on); (· first | rfl | (simp; done)); (with_reducible refine eff_ints x ?_ hsx ?_); (· rfl); (· rfl); (· dsimp only [setTmp, List.set]; try rfl))
           | ((with_reducible apply ops_on); (· first | rfl | (simp; done)); (with_reducible refine eff_cxs (mulR x n) ?_ hw ?_); (· rfl); (· rfl); (· dsimp only [setTmp, List.set]; try rfl))
           | with_reducible refine goes_seq ?_
           | with_reducible refine then_normal ?_
           | with_reducible refine then_exit ?_
           | with_reducible refine then_ret ?_
           | with_reducible refine goes_region0 ?_
           | ((with_reducible refine goes_region ?_); dsimp only [List.cons_append, List.nil_append, List.replicate, List.length])
           | with_reducible refine goes_skip ?_
           | with_reducible refine goes_exit ?_
           | with_reducible refine goes_ret ?_
           | with_reducible refine goes_block ?_
           | with_reducible refine blk_normal ?_
           | with_reducible refine blk_out ?_
           | with_reducible refine blk_ret ?_
           | ((with_reducible refine blk_far ?_ ?_); (· rfl))
           | with_reducible refine ops_nil ?_
           | ((with_reducible refine goes_true ?_ ?_); (· simp [fop, a1, a2, a3, a4, hp, hn, hz', hm]; done))
           | ((with_reducible refine goes_false ?_ ?_); (· simp [fop, a1, a2, a3, a4, hp, hn, hz', hm]; done))
           | ((with_reducible apply ops_pure); (· rfl); (· simp [fop, a1, a2, a3, a4, hp, hn, hz', hm]; rfl); (· dsimp only [List.set]; try rfl))
           | ((with_reducible apply ops_off); (· simp; rfl); (· simp [fop, a1, a2, a3, a4, hp, hn, hz', hm]; done); (· dsimp only [setTmp, List.set]; try rfl))
           | ((with_reducible apply ops_dead); (· simp; done); (· dsimp only [setTmp, List.set]; try rfl))
           | ((with_reducible apply ops_on); (· simp [fop, a1, a2, a3, a4, hp, hn, hz', hm]; done); (· simp [fop, a1, a2, a3, a4, hp, hn, hz', hm]; exact ⟨rfl, rfl⟩); (· dsimp only [setTmp, List.set]; try rfl))
           | ((with_reducible apply ops_eff); (· simp [fop, a1, a2, a3, a4, hp, hn, hz', hm]; exact ⟨rfl, rfl⟩); (· dsimp only [setTmp, List.set]; try rfl)))
         refine ⟨.inr rfl, ?_⟩; kernel_rfl
 · have he : timesG x n = (zeroR, 2) := by unfold timesG; rw [if_neg ho]
   rw [he]
   have ho : okR x = false := by simpa using ho
   rw [ho] at hrx
   unfold ints a_71
   repeat (first
     | ((with_reducible apply ops_eff); (with_reducible refine eff_ints x ?_ hrx ?_); (· rfl); (· rfl); (· dsimp only [setTmp, List.set]; try rfl))
     | ((with_reducible apply ops_on); (· first | rfl | (simp; done)); (with_reducible refine eff_ints x ?_ hrx ?_); (· rfl); (· rfl); (· dsimp only [setTmp, List.set]; try rfl))
     | with_reducible refine goes_seq ?_
     | with_reducible refine then_normal ?_
     | with_reducible refine then_exit ?_
     | with_reducible refine then_ret ?_
     | with_reducible refine goes_region0 ?_
     | ((with_reducible refine goes_region ?_); dsimp only [List.cons_append, List.nil_append, List.replicate, List.length])
     | with_reducible refine goes_skip ?_
     | with_reducible refine goes_exit ?_
     | with_reducible refine goes_ret ?_
     | with_reducible refine goes_block ?_
     | with_reducible refine blk_normal ?_
     | with_reducible refine blk_out ?_
     | with_reducible refine blk_ret ?_
     | ((with_reducible refine blk_far ?_ ?_); (· rfl))
     | with_reducible refine ops_nil ?_
     | ((with_reducible refine goes_true ?_ ?_); (· simp [fop]; done))
     | ((with_reducible refine goes_false ?_ ?_); (· simp [fop]; done))
     | ((with_reducible apply ops_pure); (· rfl); (· simp [fop]; rfl); (· dsimp only [List.set]; try rfl))
     | ((with_reducible apply ops_off); (· simp; rfl); (· simp [fop]; done); (· dsimp only [setTmp, List.set]; try rfl))
     | ((with_reducible apply ops_dead); (· simp; done); (· dsimp only [setTmp, List.set]; try rfl))
     | ((with_reducible apply ops_on); (· simp [fop]; done); (· simp [fop]; exact ⟨rfl, rfl⟩); (· dsimp only [setTmp, List.set]; try rfl))
     | ((with_reducible apply ops_eff); (· simp [fop]; exact ⟨rfl, rfl⟩); (· dsimp only [setTmp, List.set]; try rfl)))
   refine ⟨.inr rfl, ?_⟩; kernel_rfl
end AM
end Go.Proofs.Ytfelhbeiegppgaa
end
section
namespace Go.Proofs.Ytfelhbeiegppgaa
namespace NM
open AM Go.RowKit
@[reducible] def sigTimes : Sig := ⟨.cons (.v .res) (.cons (.v (.int .i64)) .nil), [], (.tup (.cons (.v .res) (.cons (.v (.int .i64)) .nil)), []), []⟩
theorem NOk.times {P : Program} {f : Nat} {g : List AVal → Heap → Option (AVal × Heap)} {G : Res → Int → Res × Int} (h : Ok P f g) (hg : ∀ x n, g [ints x, .int .i64 n] [] = some (resR (G x n), [])) :
   NOk P ⟨f, sigTimes, fun x _ => some ((G x.1 x.2.1).1, ((G x.1 x.2.1).2, ()))⟩ := by
 refine ⟨h.1, rfl, fun x hh y hy args ahp ha hb => ?_⟩
 obtain ⟨x, z, u⟩ := x
 cases hy
 have e0 : ahp = [] := A2.nil_inv hb
 subst e0
 simp only [puts, put, putV, Ty.isAgg] at ha
 obtain ⟨a, as', rfl, h1, ha⟩ := ha.cons_inv
 obtain ⟨b, bs', rfl, h2, ha⟩ := ha.cons_inv
 rw [ha.nil_inv]
 obtain ⟨d1, rfl, k1⟩ := (RT.v h1).agg_inv
 rw [a2_ints (fun _ _ _ h => rc_int h) k1]
 have hb2 : b = .int .i64 z := (RT.v h2).int_inv
 subst hb2
 have hk := h.2 [ints x, .int .i64 z] [] _ _ (hg x z)
 generalize G x z = r at hk ⊢
 obtain ⟨r, n⟩ := r
 have e1 : yA sigTimes.res sigTimes.more (r, (n, ())) = resR (r, n) := by
   simp [yA, outA, can, cans, Ty.isAgg, acells_res, acells_int, resR, ints]
 have e2 : yB sigTimes.res sigTimes.more (r, (n, ())) = [] := rfl
 show CallOk P f [ints x, .int .i64 z] [] (yA sigTimes.res sigTimes.more (r, (n, ()))) (yB sigTimes.res sigTimes.more (r, (n, ())))
 rw [e1, e2]
 exact hk
def vecTimes (x : Res) (n : Int) : Option (Res × (Int × Unit)) := some ((timesG x n).1, ((timesG x n).2, ()))
theorem ext71 : NOk Try.prog ⟨71, sigTimes, fun x _ => vecTimes x.1 x.2.1⟩ := NOk.times (G := timesG) ok_71 g_times
end NM
end Go.Proofs.Ytfelhbeiegppgaa
end
