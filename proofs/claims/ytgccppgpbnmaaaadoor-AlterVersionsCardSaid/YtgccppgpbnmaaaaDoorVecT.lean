/-
  Vectors so many times by the abstract machine.
-/
import Derived.Test.YtgccppgpbnmaaaaDoorVecD
set_option linter.unusedVariables false
set_option linter.unusedSimpArgs false
namespace Go.Proofs.YtgccppgpbnmaaaaDoor
namespace AM
set_option maxRecDepth 100000
set_option maxHeartbeats 4000000
def mulR (x : Res) (n : Int) : Res := ⟨x.cpu * n, x.mem * n, x.gpu * n, x.lic * n⟩
def nilR (x : Res) : Bool := decide (x.cpu = 0) && (decide (x.mem = 0) && (decide (x.gpu = 0) && decide (x.lic = 0)))
def timesG (x : Res) (n : Int) : Res × Int := if okR x = true then (if n < 0 then (zeroR, 2) else if nilR x = true then (zeroR, 0) else if 1048576 < n then (zeroR, 20) else withinG (mulR x n)) else (zeroR, 2)
theorem whole_mul {a b : Int} (ha : partB a = true) (hb : partB b = true) : wholeB (a * b) = true := by
  have h1 := partB_le ha; have h2 := partB_le hb
  have h3 : 0 ≤ a * b := Int.mul_nonneg h1.1 h2.1
  have h4 : a * b ≤ 1048576 * 1048576 := Int.mul_le_mul h1.2 h2.2 h2.1 (by omega)
  simp only [wholeB, Bool.and_eq_true, decide_eq_true_eq]; omega
theorem g_times (x : Res) (n : Int) : g_111 [ints x, .int .i64 n] [] = some (resR (timesG x n), []) := by
  have hrx : tab [(59, g_59), (131, g_131), (132, g_132)] 59 [ints x] [] = some (.bool (okR x), []) := by simp [tab, g_right]
  have hsx : tab [(59, g_59), (131, g_131), (132, g_132)] 131 [ints x] [] = some (cxs x, []) := by simp [tab, g_split]
  have hw : okR x = true → partB n = true → tab [(59, g_59), (131, g_131), (132, g_132)] 132 [cxs (mulR x n)] [] = some (resR (withinG (mulR x n)), []) := fun h1 h2 => by
    obtain ⟨a1, a2, a3, a4⟩ := okR_parts h1
    simp [tab, g_within (mulR x n) (whole_mul a1 h2) (whole_mul a2 h2) (whole_mul a3 h2) (whole_mul a4 h2)]
  unfold g_111
  generalize hK : tab [(59, g_59), (131, g_131), (132, g_132)] = K at hrx hsx hw ⊢
  clear hK
  apply body_of
  rw [show [ints x, .int .i64 n] ++ List.replicate (a_111.ntmps - [ints x, .int .i64 n].length) AVal.undef = [ints x, .int .i64 n, .undef, .undef, .undef, .undef, .undef, .undef, .undef, .undef, .undef, .undef, .undef, .undef, .undef, .undef, .undef, .undef, .undef, .undef, .undef, .undef, .undef, .undef, .undef, .undef, .undef, .undef, .undef, .undef, .undef, .undef, .undef, .undef, .undef, .undef, .undef, .undef, .undef, .undef] from rfl]
  by_cases ho : okR x = true
  · rw [ho] at hrx
    by_cases hn : n < 0
    · have he : timesG x n = (zeroR, 2) := by unfold timesG; rw [if_pos ho, if_pos hn]
      rw [he]
      unfold ints a_111
      repeat (first
        | ((with_reducible apply ops_eff); (with_reducible refine eff_ints x ?_ hrx ?_); (· rfl); (· rfl); (· dsimp only [setTmp, List.set]; try rfl))
        | ((with_reducible apply ops_on); (· first | rfl | (simp; done)); (with_reducible refine eff_ints x ?_ hrx ?_); (· rfl); (· rfl); (· dsimp only [setTmp, List.set]; try rfl))
        | with_reducible refine goes_seq ?_
        | with_reducible refine then_normal ?_
        | with_reducible refine then_exit ?_
        | with_reducible refine then_ret ?_
        | with_reducible refine goes_region0 ?_
        | ((with_reducible refine goes_region ?_); dsimp only [List.cons_append, List.nil_append, List.replicate, List.length])
        | with_reducible refine goes_skip ?_
        | with_reducible refine goes_exit ?_
        | with_reducible refine goes_ret ?_
        | with_reducible refine goes_block ?_
        | with_reducible refine blk_normal ?_
        | with_reducible refine blk_out ?_
        | with_reducible refine blk_ret ?_
        | ((with_reducible refine blk_far ?_ ?_); (· rfl))
        | with_reducible refine ops_nil ?_
        | ((with_reducible refine goes_true ?_ ?_); (· simp [fop, hn]; done))
        | ((with_reducible refine goes_false ?_ ?_); (· simp [fop, hn]; done))
        | ((with_reducible apply ops_pure); (· rfl); (· simp [fop, hn]; rfl); (· dsimp only [List.set]; try rfl))
        | ((with_reducible apply ops_off); (· simp; rfl); (· simp [fop, hn]; done); (· dsimp only [setTmp, List.set]; try rfl))
        | ((with_reducible apply ops_dead); (· simp; done); (· dsimp only [setTmp, List.set]; try rfl))
        | ((with_reducible apply ops_on); (· simp [fop, hn]; done); (· simp [fop, hn]; exact ⟨rfl, rfl⟩); (· dsimp only [setTmp, List.set]; try rfl))
        | ((with_reducible apply ops_eff); (· simp [fop, hn]; exact ⟨rfl, rfl⟩); (· dsimp only [setTmp, List.set]; try rfl)))
      refine ⟨.inr rfl, ?_⟩; kernel_rfl
    · by_cases hz : nilR x = true
      · have he : timesG x n = (zeroR, 0) := by unfold timesG; rw [if_pos ho, if_neg hn, if_pos hz]
        rw [he]
        unfold nilR at hz
        simp only [Bool.and_eq_true, decide_eq_true_eq] at hz
        obtain ⟨z1, z2, z3, z4⟩ := hz
        clear he hw hsx
        obtain ⟨x1, x2, x3, x4⟩ := x
        simp only at z1 z2 z3 z4
        subst z1; subst z2; subst z3; subst z4
        unfold ints a_111
        repeat (first
          | ((with_reducible apply ops_eff); (with_reducible refine eff_ints (Res.mk 0 0 0 0) ?_ hrx ?_); (· rfl); (· rfl); (· dsimp only [setTmp, List.set]; try rfl))
          | ((with_reducible apply ops_on); (· first | rfl | (simp; done)); (with_reducible refine eff_ints (Res.mk 0 0 0 0) ?_ hrx ?_); (· rfl); (· rfl); (· dsimp only [setTmp, List.set]; try rfl))
          | with_reducible refine goes_seq ?_
          | with_reducible refine then_normal ?_
          | with_reducible refine then_exit ?_
          | with_reducible refine then_ret ?_
          | with_reducible refine goes_region0 ?_
          | ((with_reducible refine goes_region ?_); dsimp only [List.cons_append, List.nil_append, List.replicate, List.length])
          | with_reducible refine goes_skip ?_
          | with_reducible refine goes_exit ?_
          | with_reducible refine goes_ret ?_
          | with_reducible refine goes_block ?_
          | with_reducible refine blk_normal ?_
          | with_reducible refine blk_out ?_
          | with_reducible refine blk_ret ?_
          | ((with_reducible refine blk_far ?_ ?_); (· rfl))
          | with_reducible refine ops_nil ?_
          | ((with_reducible refine goes_true ?_ ?_); (· simp [fop, hn]; done))
          | ((with_reducible refine goes_false ?_ ?_); (· simp [fop, hn]; done))
          | ((with_reducible apply ops_pure); (· rfl); (· simp [fop, hn]; rfl); (· dsimp only [List.set]; try rfl))
          | ((with_reducible apply ops_off); (· simp; rfl); (· simp [fop, hn]; done); (· dsimp only [setTmp, List.set]; try rfl))
          | ((with_reducible apply ops_dead); (· simp; done); (· dsimp only [setTmp, List.set]; try rfl))
          | ((with_reducible apply ops_on); (· simp [fop, hn]; done); (· simp [fop, hn]; exact ⟨rfl, rfl⟩); (· dsimp only [setTmp, List.set]; try rfl))
          | ((with_reducible apply ops_eff); (· simp [fop, hn]; exact ⟨rfl, rfl⟩); (· dsimp only [setTmp, List.set]; try rfl)))
        refine ⟨.inr rfl, ?_⟩; kernel_rfl
      · have hz' : nilR x = false := by simpa using hz
        by_cases hm : 1048576 < n
        · have he : timesG x n = (zeroR, 20) := by unfold timesG; rw [if_pos ho, if_neg hn, if_neg hz, if_pos hm]
          rw [he]
          unfold nilR at hz'
          unfold ints a_111
          repeat (first
            | ((with_reducible apply ops_eff); (with_reducible refine eff_ints x ?_ hrx ?_); (· rfl); (· rfl); (· dsimp only [setTmp, List.set]; try rfl))
            | ((with_reducible apply ops_on); (· first | rfl | (simp; done)); (with_reducible refine eff_ints x ?_ hrx ?_); (· rfl); (· rfl); (· dsimp only [setTmp, List.set]; try rfl))
            | with_reducible refine goes_seq ?_
            | with_reducible refine then_normal ?_
            | with_reducible refine then_exit ?_
            | with_reducible refine then_ret ?_
            | with_reducible refine goes_region0 ?_
            | ((with_reducible refine goes_region ?_); dsimp only [List.cons_append, List.nil_append, List.replicate, List.length])
            | with_reducible refine goes_skip ?_
            | with_reducible refine goes_exit ?_
            | with_reducible refine goes_ret ?_
            | with_reducible refine goes_block ?_
            | with_reducible refine blk_normal ?_
            | with_reducible refine blk_out ?_
            | with_reducible refine blk_ret ?_
            | ((with_reducible refine blk_far ?_ ?_); (· rfl))
            | with_reducible refine ops_nil ?_
            | ((with_reducible refine goes_true ?_ ?_); (· simp [fop, hn, hz', hm]; done))
            | ((with_reducible refine goes_false ?_ ?_); (· simp [fop, hn, hz', hm]; done))
            | ((with_reducible apply ops_pure); (· rfl); (· simp [fop, hn, hz', hm]; rfl); (· dsimp only [List.set]; try rfl))
            | ((with_reducible apply ops_off); (· simp; rfl); (· simp [fop, hn, hz', hm]; done); (· dsimp only [setTmp, List.set]; try rfl))
            | ((with_reducible apply ops_dead); (· simp; done); (· dsimp only [setTmp, List.set]; try rfl))
            | ((with_reducible apply ops_on); (· simp [fop, hn, hz', hm]; done); (· simp [fop, hn, hz', hm]; exact ⟨rfl, rfl⟩); (· dsimp only [setTmp, List.set]; try rfl))
            | ((with_reducible apply ops_eff); (· simp [fop, hn, hz', hm]; exact ⟨rfl, rfl⟩); (· dsimp only [setTmp, List.set]; try rfl)))
          refine ⟨.inr rfl, ?_⟩; kernel_rfl
        · have he : timesG x n = withinG (mulR x n) := by unfold timesG; rw [if_pos ho, if_neg hn, if_neg hz, if_neg hm]
          rw [he]
          have hp : partB n = true := by simp only [partB, Bool.and_eq_true, decide_eq_true_eq]; omega
          replace hw := hw ho hp
          obtain ⟨a1, a2, a3, a4⟩ := okR_parts ho
          generalize withinG (mulR x n) = z at hw ⊢
          obtain ⟨z, m⟩ := z
          unfold nilR at hz'
          unfold ints a_111
          repeat (first
            | ((with_reducible apply ops_eff); (with_reducible refine eff_ints x ?_ hrx ?_); (· rfl); (· rfl); (· dsimp only [setTmp, List.set]; try rfl))
            | ((with_reducible apply ops_eff); (with_reducible refine eff_ints x ?_ hsx ?_); (· rfl); (· rfl); (· dsimp only [setTmp, List.set]; try rfl))
            | ((with_reducible apply ops_eff); (with_reducible refine eff_cxs (mulR x n) ?_ hw ?_); (· rfl); (· rfl); (· dsimp only [setTmp, List.set]; try rfl))
            | ((with_reducible apply ops_on); (· first | rfl | (simp; done)); (with_reducible refine eff_ints x ?_ hrx ?_); (· rfl); (· rfl); (· dsimp only [setTmp, List.set]; try rfl))
            | ((with_reducible apply ops_on); (· first | rfl | (simp; done)); (with_reducible refine eff_ints x ?_ hsx ?_); (· rfl); (· rfl); (· dsimp only [setTmp, List.set]; try rfl))
            | ((with_reducible apply ops_on); (· first | rfl | (simp; done)); (with_reducible refine eff_cxs (mulR x n) ?_ hw ?_); (· rfl); (· rfl); (· dsimp only [setTmp, List.set]; try rfl))
            | with_reducible refine goes_seq ?_
            | with_reducible refine then_normal ?_
            | with_reducible refine then_exit ?_
            | with_reducible refine then_ret ?_
            | with_reducible refine goes_region0 ?_
            | ((with_reducible refine goes_region ?_); dsimp only [List.cons_append, List.nil_append, List.replicate, List.length])
            | with_reducible refine goes_skip ?_
            | with_reducible refine goes_exit ?_
            | with_reducible refine goes_ret ?_
            | with_reducible refine goes_block ?_
            | with_reducible refine blk_normal ?_
            | with_reducible refine blk_out ?_
            | with_reducible refine blk_ret ?_
            | ((with_reducible refine blk_far ?_ ?_); (· rfl))
            | with_reducible refine ops_nil ?_
            | ((with_reducible refine goes_true ?_ ?_); (· simp [fop, a1, a2, a3, a4, hp, hn, hz', hm]; done))
            | ((with_reducible refine goes_false ?_ ?_); (· simp [fop, a1, a2, a3, a4, hp, hn, hz', hm]; done))
            | ((with_reducible apply ops_pure); (· rfl); (· simp [fop, a1, a2, a3, a4, hp, hn, hz', hm]; rfl); (· dsimp only [List.set]; try rfl))
            | ((with_reducible apply ops_off); (· simp; rfl); (· simp [fop, a1, a2, a3, a4, hp, hn, hz', hm]; done); (· dsimp only [setTmp, List.set]; try rfl))
            | ((with_reducible apply ops_dead); (· simp; done); (· dsimp only [setTmp, List.set]; try rfl))
            | ((with_reducible apply ops_on); (· simp [fop, a1, a2, a3, a4, hp, hn, hz', hm]; done); (· simp [fop, a1, a2, a3, a4, hp, hn, hz', hm]; exact ⟨rfl, rfl⟩); (· dsimp only [setTmp, List.set]; try rfl))
            | ((with_reducible apply ops_eff); (· simp [fop, a1, a2, a3, a4, hp, hn, hz', hm]; exact ⟨rfl, rfl⟩); (· dsimp only [setTmp, List.set]; try rfl)))
          refine ⟨.inr rfl, ?_⟩; kernel_rfl
  · have he : timesG x n = (zeroR, 2) := by unfold timesG; rw [if_neg ho]
    rw [he]
    have ho : okR x = false := by simpa using ho
    rw [ho] at hrx
    unfold ints a_111
    repeat (first
      | ((with_reducible apply ops_eff); (with_reducible refine eff_ints x ?_ hrx ?_); (· rfl); (· rfl); (· dsimp only [setTmp, List.set]; try rfl))
      | ((with_reducible apply ops_on); (· first | rfl | (simp; done)); (with_reducible refine eff_ints x ?_ hrx ?_); (· rfl); (· rfl); (· dsimp only [setTmp, List.set]; try rfl))
      | with_reducible refine goes_seq ?_
      | with_reducible refine then_normal ?_
      | with_reducible refine then_exit ?_
      | with_reducible refine then_ret ?_
      | with_reducible refine goes_region0 ?_
      | ((with_reducible refine goes_region ?_); dsimp only [List.cons_append, List.nil_append, List.replicate, List.length])
      | with_reducible refine goes_skip ?_
      | with_reducible refine goes_exit ?_
      | with_reducible refine goes_ret ?_
      | with_reducible refine goes_block ?_
      | with_reducible refine blk_normal ?_
      | with_reducible refine blk_out ?_
      | with_reducible refine blk_ret ?_
      | ((with_reducible refine blk_far ?_ ?_); (· rfl))
      | with_reducible refine ops_nil ?_
      | ((with_reducible refine goes_true ?_ ?_); (· simp [fop]; done))
      | ((with_reducible refine goes_false ?_ ?_); (· simp [fop]; done))
      | ((with_reducible apply ops_pure); (· rfl); (· simp [fop]; rfl); (· dsimp only [List.set]; try rfl))
      | ((with_reducible apply ops_off); (· simp; rfl); (· simp [fop]; done); (· dsimp only [setTmp, List.set]; try rfl))
      | ((with_reducible apply ops_dead); (· simp; done); (· dsimp only [setTmp, List.set]; try rfl))
      | ((with_reducible apply ops_on); (· simp [fop]; done); (· simp [fop]; exact ⟨rfl, rfl⟩); (· dsimp only [setTmp, List.set]; try rfl))
      | ((with_reducible apply ops_eff); (· simp [fop]; exact ⟨rfl, rfl⟩); (· dsimp only [setTmp, List.set]; try rfl)))
    refine ⟨.inr rfl, ?_⟩; kernel_rfl
end AM
end Go.Proofs.YtgccppgpbnmaaaaDoor
