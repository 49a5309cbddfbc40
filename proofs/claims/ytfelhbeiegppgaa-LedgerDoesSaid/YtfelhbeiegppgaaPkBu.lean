/-
  What the proof of LedgerDoes leans on, part 21. (Many texts laid together by program.)
-/
import Derived.Test.YtfelhbeiegppgaaPkBt
set_option linter.unnecessarySimpa false
set_option linter.unusedSimpArgs false
set_option linter.unusedVariables false
section
namespace Go.Proofs.Ytfelhbeiegppgaa
namespace AM
set_option maxRecDepth 100000
set_option maxHeartbeats 4000000
def ints (x : Res) : AVal := .agg [.int .i64 x.cpu, .int .i64 x.mem, .int .i64 x.gpu, .int .i64 x.lic]
def cxs (x : Res) : AVal := .agg [.cx x.cpu x.mem, .cx x.gpu x.lic]
theorem g_split (x : Res) : g_72 [ints x] [] = some (cxs x, []) := by
 unfold g_72
 kernel_rfl
theorem g_numbers (x : Res) : g_74 [ints x] [] = some (ints x, []) := by
 unfold g_74
 kernel_rfl
theorem toInt_ok {n : Int} (h : wholeB n = true) (y : AVal) : fop .toInt (.fl n) y = some (.int .i64 n) := by simp only [fop, h, if_true]
theorem g_join (x : Res) (h1 : wholeB x.cpu = true) (h2 : wholeB x.mem = true) (h3 : wholeB x.gpu = true) (h4 : wholeB x.lic = true) : g_89 [cxs x] [] = some (ints x, []) := by
 unfold g_89
 apply body_of
 rw [show [cxs x] ++ List.replicate (a_89.ntmps - [cxs x].length) AVal.undef = [cxs x, .undef, .undef, .undef, .undef, .undef, .undef, .undef, .undef, .undef, .undef, .undef, .undef, .undef, .undef, .undef, .undef, .undef, .undef, .undef] from rfl]
 unfold cxs a_89
 repeat (first
   | with_reducible refine goes_seq ?_
   | with_reducible refine then_normal ?_
   | with_reducible refine then_exit ?_
   | with_reducible refine then_ret ?_
   | with_reducible refine goes_region0 ?_
   | ((with_reducible refine goes_region ?_); dsimp only [List.cons_append, List.nil_append, List.replicate, List.length])
   | with_reducible refine goes_skip ?_
   | with_reducible refine goes_exit ?_
   | with_reducible refine goes_ret ?_
   | with_reducible refine goes_block ?_
   | with_reducible refine blk_normal ?_
   | with_reducible refine blk_out ?_
   | with_reducible refine blk_ret ?_
   | ((with_reducible refine blk_far ?_ ?_); (· rfl))
   | with_reducible refine ops_nil ?_
   | ((with_reducible refine goes_true ?_ ?_); (· simp [toInt_ok, h1, h2, h3, h4, fop]; done))
   | ((with_reducible refine goes_false ?_ ?_); (· simp [toInt_ok, h1, h2, h3, h4, fop]; done))
   | ((with_reducible apply ops_pure); (· rfl); (· simp [toInt_ok, h1, h2, h3, h4, fop]; rfl); (· dsimp only [List.set]; try rfl))
   | ((with_reducible apply ops_off); (· simp; rfl); (· simp [toInt_ok, h1, h2, h3, h4, fop]; done); (· dsimp only [setTmp, List.set]; try rfl))
   | ((with_reducible apply ops_dead); (· simp; done); (· dsimp only [setTmp, List.set]; try rfl))
   | ((with_reducible apply ops_on); (· simp [toInt_ok, h1, h2, h3, h4, fop]; done); (· simp [toInt_ok, h1, h2, h3, h4, fop]; exact ⟨rfl, rfl⟩); (· dsimp only [setTmp, List.set]; try rfl))
   | ((with_reducible apply ops_eff); (· simp [toInt_ok, h1, h2, h3, h4, fop]; exact ⟨rfl, rfl⟩); (· dsimp only [setTmp, List.set]; try rfl)))
 refine ⟨.inr rfl, ?_⟩; kernel_rfl
def hRight (x : Res) (k : Nat) : St := ⟨[.undef, .undef, .undef, .undef, .undef, .undef, ints x, .int .i64 (k : Int), .undef, .undef, .undef, .undef, .undef, .undef, .undef, .undef, .undef], [], 0⟩
def num (x : Res) : Nat → Int
 | 0 => x.cpu | 1 => x.mem | 2 => x.gpu | _ => x.lic
def okN (n : Int) : Bool := decide (0 ≤ n) && decide (n ≤ 1048576)
theorem right_ok0 (K : Oracle) (x : Res) (h1 : ¬ x.cpu < 0) (h2 : ¬ 1048576 < x.cpu) : roundN [6, 7] (exec K LOOPS b_45_0) (hRight x 0) = some (hRight x 1) := by
 apply round_of
 unfold hRight ints b_45_0
 repeat (first
   | with_reducible refine goes_seq ?_
   | with_reducible refine then_normal ?_
   | with_reducible refine then_exit ?_
   | with_reducible refine then_ret ?_
   | with_reducible refine goes_region0 ?_
   | ((with_reducible refine goes_region ?_); dsimp only [List.cons_append, List.nil_append, List.replicate, List.length])
   | with_reducible refine goes_skip ?_
   | with_reducible refine goes_exit ?_
   | with_reducible refine goes_ret ?_
   | with_reducible refine goes_block ?_
   | with_reducible refine blk_normal ?_
   | with_reducible refine blk_out ?_
   | with_reducible refine blk_ret ?_
   | ((with_reducible refine blk_far ?_ ?_); (· rfl))
   | with_reducible refine ops_nil ?_
   | ((with_reducible refine goes_true ?_ ?_); (· simp [h1, h2, idxNat, partOf, IntKind.wrap]; done))
   | ((with_reducible refine goes_false ?_ ?_); (· simp [h1, h2, idxNat, partOf, IntKind.wrap]; done))
   | ((with_reducible apply ops_pure); (· rfl); (· simp [h1, h2, idxNat, partOf, IntKind.wrap]; rfl); (· dsimp only [List.set]; try rfl))
   | ((with_reducible apply ops_off); (· simp; rfl); (· simp [h1, h2, idxNat, partOf, IntKind.wrap]; done); (· dsimp only [setTmp, List.set]; try rfl))
   | ((with_reducible apply ops_dead); (· simp; done); (· dsimp only [setTmp, List.set]; try rfl))
   | ((with_reducible apply ops_on); (· simp [h1, h2, idxNat, partOf, IntKind.wrap]; done); (· simp [h1, h2, idxNat, partOf, IntKind.wrap]; exact ⟨rfl, rfl⟩); (· dsimp only [setTmp, List.set]; try rfl))
   | ((with_reducible apply ops_eff); (· simp [h1, h2, idxNat, partOf, IntKind.wrap]; exact ⟨rfl, rfl⟩); (· dsimp only [setTmp, List.set]; try rfl)))
 refine ⟨rfl, ?_⟩; kernel_rfl
theorem right_lt0 (K : Oracle) (x : Res) (h1 : x.cpu < 0) : Goes K LOOPS b_45_0 (hRight x 0) fun e s => e = .ret ∧ leave a_45 s = some (.bool false, []) := by
 unfold hRight ints b_45_0
 repeat (first
   | with_reducible refine goes_seq ?_
   | with_reducible refine then_normal ?_
   | with_reducible refine then_exit ?_
   | with_reducible refine then_ret ?_
   | with_reducible refine goes_region0 ?_
   | ((with_reducible refine goes_region ?_); dsimp only [List.cons_append, List.nil_append, List.replicate, List.length])
   | with_reducible refine goes_skip ?_
   | with_reducible refine goes_exit ?_
   | with_reducible refine goes_ret ?_
   | with_reducible refine goes_block ?_
   | with_reducible refine blk_normal ?_
   | with_reducible refine blk_out ?_
   | with_reducible refine blk_ret ?_
   | ((with_reducible refine blk_far ?_ ?_); (· rfl))
   | with_reducible refine ops_nil ?_
   | ((with_reducible refine goes_true ?_ ?_); (· simp [h1, idxNat, partOf, IntKind.wrap]; done))
   | ((with_reducible refine goes_false ?_ ?_); (· simp [h1, idxNat, partOf, IntKind.wrap]; done))
   | ((with_reducible apply ops_pure); (· rfl); (· simp [h1, idxNat, partOf, IntKind.wrap]; rfl); (· dsimp only [List.set]; try rfl))
   | ((with_reducible apply ops_off); (· simp; rfl); (· simp [h1, idxNat, partOf, IntKind.wrap]; done); (· dsimp only [setTmp, List.set]; try rfl))
   | ((with_reducible apply ops_dead); (· simp; done); (· dsimp only [setTmp, List.set]; try rfl))
   | ((with_reducible apply ops_on); (· simp [h1, idxNat, partOf, IntKind.wrap]; done); (· simp [h1, idxNat, partOf, IntKind.wrap]; exact ⟨rfl, rfl⟩); (· dsimp only [setTmp, List.set]; try rfl))
   | ((with_reducible apply ops_eff); (· simp [h1, idxNat, partOf, IntKind.wrap]; exact ⟨rfl, rfl⟩); (· dsimp only [setTmp, List.set]; try rfl)))
 refine ⟨rfl, ?_⟩; kernel_rfl
theorem right_gt0 (K : Oracle) (x : Res) (h1 : ¬ x.cpu < 0) (h2 : 1048576 < x.cpu) : Goes K LOOPS b_45_0 (hRight x 0) fun e s => e = .ret ∧ leave a_45 s = some (.bool false, []) := by
 unfold hRight ints b_45_0
 repeat (first
   | with_reducible refine goes_seq ?_
   | with_reducible refine then_normal ?_
   | with_reducible refine then_exit ?_
   | with_reducible refine then_ret ?_
   | with_reducible refine goes_region0 ?_
   | ((with_reducible refine goes_region ?_); dsimp only [List.cons_append, List.nil_append, List.replicate, List.length])
   | with_reducible refine goes_skip ?_
   | with_reducible refine goes_exit ?_
   | with_reducible refine goes_ret ?_
   | with_reducible refine goes_block ?_
   | with_reducible refine blk_normal ?_
   | with_reducible refine blk_out ?_
   | with_reducible refine blk_ret ?_
   | ((with_reducible refine blk_far ?_ ?_); (· rfl))
   | with_reducible refine ops_nil ?_
   | ((with_reducible refine goes_true ?_ ?_); (· simp [h1, h2, idxNat, partOf, IntKind.wrap]; done))
   | ((with_reducible refine goes_false ?_ ?_); (· simp [h1, h2, idxNat, partOf, IntKind.wrap]; done))
   | ((with_reducible apply ops_pure); (· rfl); (· simp [h1, h2, idxNat, partOf, IntKind.wrap]; rfl); (· dsimp only [List.set]; try rfl))
   | ((with_reducible apply ops_off); (· simp; rfl); (· simp [h1, h2, idxNat, partOf, IntKind.wrap]; done); (· dsimp only [setTmp, List.set]; try rfl))
   | ((with_reducible apply ops_dead); (· simp; done); (· dsimp only [setTmp, List.set]; try rfl))
   | ((with_reducible apply ops_on); (· simp [h1, h2, idxNat, partOf, IntKind.wrap]; done); (· simp [h1, h2, idxNat, partOf, IntKind.wrap]; exact ⟨rfl, rfl⟩); (· dsimp only [setTmp, List.set]; try rfl))
   | ((with_reducible apply ops_eff); (· simp [h1, h2, idxNat, partOf, IntKind.wrap]; exact ⟨rfl, rfl⟩); (· dsimp only [setTmp, List.set]; try rfl)))
 refine ⟨rfl, ?_⟩; kernel_rfl
theorem right_ok1 (K : Oracle) (x : Res) (h1 : ¬ x.mem < 0) (h2 : ¬ 1048576 < x.mem) : roundN [6, 7] (exec K LOOPS b_45_0) (hRight x 1) = some (hRight x 2) := by
 apply round_of
 unfold hRight ints b_45_0
 repeat (first
   | with_reducible refine goes_seq ?_
   | with_reducible refine then_normal ?_
   | with_reducible refine then_exit ?_
   | with_reducible refine then_ret ?_
   | with_reducible refine goes_region0 ?_
   | ((with_reducible refine goes_region ?_); dsimp only [List.cons_append, List.nil_append, List.replicate, List.length])
   | with_reducible refine goes_skip ?_
   | with_reducible refine goes_exit ?_
   | with_reducible refine goes_ret ?_
   | with_reducible refine goes_block ?_
   | with_reducible refine blk_normal ?_
   | with_reducible refine blk_out ?_
   | with_reducible refine blk_ret ?_
   | ((with_reducible refine blk_far ?_ ?_); (· rfl))
   | with_reducible refine ops_nil ?_
   | ((with_reducible refine goes_true ?_ ?_); (· simp [h1, h2, idxNat, partOf, IntKind.wrap]; done))
   | ((with_reducible refine goes_false ?_ ?_); (· simp [h1, h2, idxNat, partOf, IntKind.wrap]; done))
   | ((with_reducible apply ops_pure); (· rfl); (· simp [h1, h2, idxNat, partOf, IntKind.wrap]; rfl); (· dsimp only [List.set]; try rfl))
   | ((with_reducible apply ops_off); (· simp; rfl); (· simp [h1, h2, idxNat, partOf, IntKind.wrap]; done); (· dsimp only [setTmp, List.set]; try rfl))
   | ((with_reducible apply ops_dead); (· simp; done); (· dsimp only [setTmp, List.set]; try rfl))
   | ((with_reducible apply ops_on); (· simp [h1, h2, idxNat, partOf, IntKind.wrap]; done); (· simp [h1, h2, idxNat, partOf, IntKind.wrap]; exact ⟨rfl, rfl⟩); (· dsimp only [setTmp, List.set]; try rfl))
   | ((with_reducible apply ops_eff); (· simp [h1, h2, idxNat, partOf, IntKind.wrap]; exact ⟨rfl, rfl⟩); (· dsimp only [setTmp, List.set]; try rfl)))
 refine ⟨rfl, ?_⟩; kernel_rfl
theorem right_lt1 (K : Oracle) (x : Res) (h1 : x.mem < 0) : Goes K LOOPS b_45_0 (hRight x 1) fun e s => e = .ret ∧ leave a_45 s = some (.bool false, []) := by
 unfold hRight ints b_45_0
 repeat (first
   | with_reducible refine goes_seq ?_
   | with_reducible refine then_normal ?_
   | with_reducible refine then_exit ?_
   | with_reducible refine then_ret ?_
   | with_reducible refine goes_region0 ?_
   | ((with_reducible refine goes_region ?_); dsimp only [List.cons_append, List.nil_append, List.replicate, List.length])
   | with_reducible refine goes_skip ?_
   | with_reducible refine goes_exit ?_
   | with_reducible refine goes_ret ?_
   | with_reducible refine goes_block ?_
   | with_reducible refine blk_normal ?_
   | with_reducible refine blk_out ?_
   | with_reducible refine blk_ret ?_
   | ((with_reducible refine blk_far ?_ ?_); (· rfl))
   | with_reducible refine ops_nil ?_
   | ((with_reducible refine goes_true ?_ ?_); (· simp [h1, idxNat, partOf, IntKind.wrap]; done))
   | ((with_reducible refine goes_false ?_ ?_); (· simp [h1, idxNat, partOf, IntKind.wrap]; done))
   | ((with_reducible apply ops_pure); (· rfl); (· simp [h1, idxNat, partOf, IntKind.wrap]; rfl); (· dsimp only [List.set]; try rfl))
   | ((with_reducible apply ops_off); (· simp; rfl); (· simp [h1, idxNat, partOf, IntKind.wrap]; done); (· dsimp only [setTmp, List.set]; try rfl))
   | ((with_reducible apply ops_dead); (· simp; done); (· dsimp only [setTmp, List.set]; try rfl))
   | ((with_reducible apply ops_on); (· simp [h1, idxNat, partOf, IntKind.wrap]; done); (· simp [h1, idxNat, partOf, IntKind.wrap]; exact ⟨rfl, rfl⟩); (· dsimp only [setTmp, List.set]; try rfl))
   | ((with_reducible apply ops_eff); (· simp [h1, idxNat, partOf, IntKind.wrap]; exact ⟨rfl, rfl⟩); (· dsimp only [setTmp, List.set]; try rfl)))
 refine ⟨rfl, ?_⟩; kernel_rfl
theorem right_gt1 (K : Oracle) (x : Res) (h1 : ¬ x.mem < 0) (h2 : 1048576 < x.mem) : Goes K LOOPS b_45_0 (hRight x 1) fun e s => e = .ret ∧ leave a_45 s = some (.bool false, []) := by
 unfold hRight ints b_45_0
 repeat (first
   | with_reducible refine goes_seq ?_
   | with_reducible refine then_normal ?_
   | with_reducible refine then_exit ?_
   | with_reducible refine then_ret ?_
   | with_reducible refine goes_region0 ?_
   | ((with_reducible refine goes_region ?_); dsimp only [List.cons_append, List.nil_append, List.replicate, List.length])
   | with_reducible refine goes_skip ?_
   | with_reducible refine goes_exit ?_
   | with_reducible refine goes_ret ?_
   | with_reducible refine goes_block ?_
   | with_reducible refine blk_normal ?_
   | with_reducible refine blk_out ?_
   | with_reducible refine blk_ret ?_
   | ((with_reducible refine blk_far ?_ ?_); (· rfl))
   | with_reducible refine ops_nil ?_
   | ((with_reducible refine goes_true ?_ ?_); (· simp [h1, h2, idxNat, partOf, IntKind.wrap]; done))
   | ((with_reducible refine goes_false ?_ ?_); (· simp [h1, h2, idxNat, partOf, IntKind.wrap]; done))
   | ((with_reducible apply ops_pure); (· rfl); (· simp [h1, h2, idxNat, partOf, IntKind.wrap]; rfl); (· dsimp only [List.set]; try rfl))
   | ((with_reducible apply ops_off); (· simp; rfl); (· simp [h1, h2, idxNat, partOf, IntKind.wrap]; done); (· dsimp only [setTmp, List.set]; try rfl))
   | ((with_reducible apply ops_dead); (· simp; done); (· dsimp only [setTmp, List.set]; try rfl))
   | ((with_reducible apply ops_on); (· simp [h1, h2, idxNat, partOf, IntKind.wrap]; done); (· simp [h1, h2, idxNat, partOf, IntKind.wrap]; exact ⟨rfl, rfl⟩); (· dsimp only [setTmp, List.set]; try rfl))
   | ((with_reducible apply ops_eff); (· simp [h1, h2, idxNat, partOf, IntKind.wrap]; exact ⟨rfl, rfl⟩); (· dsimp only [setTmp, List.set]; try rfl)))
 refine ⟨rfl, ?_⟩; kernel_rfl
theorem right_ok2 (K : Oracle) (x : Res) (h1 : ¬ x.gpu < 0) (h2 : ¬ 1048576 < x.gpu) : roundN [6, 7] (exec K LOOPS b_45_0) (hRight x 2) = some (hRight x 3) := by
 apply round_of
 unfold hRight ints b_45_0
 repeat (first
   | with_reducible refine goes_seq ?_
   | with_reducible refine then_normal ?_
   | with_reducible refine then_exit ?_
   | with_reducible refine then_ret ?_
   | with_reducible refine goes_region0 ?_
   | ((with_reducible refine goes_region ?_); dsimp only [List.cons_append, List.nil_append, List.replicate, List.length])
   | with_reducible refine goes_skip ?_
   | with_reducible refine goes_exit ?_
   | with_reducible refine goes_ret ?_
   | with_reducible refine goes_block ?_
   | with_reducible refine blk_normal ?_
   | with_reducible refine blk_out ?_
   | with_reducible refine blk_ret ?_
   | ((with_reducible refine blk_far ?_ ?_); (· rfl))
   | with_reducible refine ops_nil ?_
   | ((with_reducible refine goes_true ?_ ?_); (· simp [h1, h2, idxNat, partOf, IntKind.wrap]; done))
   | ((with_reducible refine goes_false ?_ ?_); (· simp [h1, h2, idxNat, partOf, IntKind.wrap]; done))
   | ((with_reducible apply ops_pure); (· rfl); (· simp [h1, h2, idxNat, partOf, IntKind.wrap]; rfl); (· dsimp only [List.set]; try rfl))
   | ((with_reducible apply ops_off); (· simp; rfl); (· simp [h1, h2, idxNat, partOf, IntKind.wrap]; done); (· dsimp only [setTmp, List.set]; try rfl))
   | ((with_reducible apply ops_dead); (· simp; done); (· dsimp only [setTmp, List.set]; try rfl))
   | ((with_reducible apply ops_on); (· simp [h1, h2, idxNat, partOf, IntKind.wrap]; done); (· simp [h1, h2, idxNat, partOf, IntKind.wrap]; exact ⟨rfl, rfl⟩); (· dsimp only [setTmp, List.set]; try rfl))
   | ((with_reducible apply ops_eff); (· simp [h1, h2, idxNat, partOf, IntKind.wrap]; exact ⟨rfl, rfl⟩); (· dsimp only [setTmp, List.set]; try rfl)))
 refine ⟨rfl, ?_⟩; kernel_rfl
theorem right_lt2 (K : Oracle) (x : Res) (h1 : x.gpu < 0) : Goes K LOOPS b_45_0 (hRight x 2) fun e s => e = .ret ∧ leave a_45 s = some (.bool false, []) := by
 unfold hRight ints b_45_0
 repeat (first
   | with_reducible refine goes_seq ?_
   | with_reducible refine then_normal ?_
   | with_reducible refine then_exit ?_
   | with_reducible refine then_ret ?_
   | with_reducible refine goes_region0 ?_
   | ((with_reducible refine goes_region ?_); dsimp only [List.cons_append, List.nil_append, List.replicate, List.length])
   | with_reducible refine goes_skip ?_
   | with_reducible refine goes_exit ?_
   | with_reducible refine goes_ret ?_
   | with_reducible refine goes_block ?_
   | with_reducible refine blk_normal ?_
   | with_reducible refine blk_out ?_
   | with_reducible refine blk_ret ?_
   | ((with_reducible refine blk_far ?_ ?_); (· rfl))
   | with_reducible refine ops_nil ?_
   | ((with_reducible refine goes_true ?_ ?_); (· simp [h1, idxNat, partOf, IntKind.wrap]; done))
   | ((with_reducible refine goes_false ?_ ?_); (· simp [h1, idxNat, partOf, IntKind.wrap]; done))
   | ((with_reducible apply ops_pure); (· rfl); (· simp [h1, idxNat, partOf, IntKind.wrap]; rfl); (· dsimp only [List.set]; try rfl))
   | ((with_reducible apply ops_off); (· simp; rfl); (· simp [h1, idxNat, partOf, IntKind.wrap]; done); (· dsimp only [setTmp, List.set]; try rfl))
   | ((with_reducible apply ops_dead); (· simp; done); (· dsimp only [setTmp, List.set]; try rfl))
   | ((with_reducible apply ops_on); (· simp [h1, idxNat, partOf, IntKind.wrap]; done); (· simp [h1, idxNat, partOf, IntKind.wrap]; exact ⟨rfl, rfl⟩); (· dsimp only [setTmp, List.set]; try rfl))
   | ((with_reducible apply ops_eff); (· simp [h1, idxNat, partOf, IntKind.wrap]; exact ⟨rfl, rfl⟩); (· dsimp only [setTmp, List.set]; try rfl)))
 refine ⟨rfl, ?_⟩; kernel_rfl
theorem right_gt2 (K : Oracle) (x : Res) (h1 : ¬ x.gpu < 0) (h2 : 1048576 < x.gpu) : Goes K LOOPS b_45_0 (hRight x 2) fun e s => e = .ret ∧ leave a_45 s = some (.bool false, []) := by
 unfold hRight ints b_45_0
 repeat (first
   | with_reducible refine goes_seq ?_
   | with_reducible refine then_normal ?_
   | with_reducible refine then_exit ?_
   | with_reducible refine then_ret ?_
   | with_reducible refine goes_region0 ?_
   | ((with_reducible refine goes_region ?_); dsimp only [List.cons_append, List.nil_append, List.replicate, List.length])
   | with_reducible refine goes_skip ?_
   | with_reducible refine goes_exit ?_
   | with_reducible refine goes_ret ?_
   | with_reducible refine goes_block ?_
   | with_reducible refine blk_normal ?_
   | with_reducible refine blk_out ?_
   | with_reducible refine blk_ret ?_
   | ((with_reducible refine blk_far ?_ ?_); (· rfl))
   | with_reducible refine ops_nil ?_
   | ((with_reducible refine goes_true ?_ ?_); (· simp [h1, h2, idxNat, partOf, IntKind.wrap]; done))
   | ((with_reducible refine goes_false ?_ ?_); (· simp [h1, h2, idxNat, partOf, IntKind.wrap]; done))
   | ((with_reducible apply ops_pure); (· rfl); (· simp [h1, h2, idxNat, partOf, IntKind.wrap]; rfl); (· dsimp only [List.set]; try rfl))
   | ((with_reducible apply ops_off); (· simp; rfl); (· simp [h1, h2, idxNat, partOf, IntKind.wrap]; done); (· dsimp only [setTmp, List.set]; try rfl))
   | ((with_reducible apply ops_dead); (· simp; done); (· dsimp only [setTmp, List.set]; try rfl))
   | ((with_reducible apply ops_on); (· simp [h1, h2, idxNat, partOf, IntKind.wrap]; done); (· simp [h1, h2, idxNat, partOf, IntKind.wrap]; exact ⟨rfl, rfl⟩); (· dsimp only [setTmp, List.set]; try rfl))
   | ((with_reducible apply ops_eff); (· simp [h1, h2, idxNat, partOf, IntKind.wrap]; exact ⟨rfl, rfl⟩); (· dsimp only [setTmp, List.set]; try rfl)))
 refine ⟨rfl, ?_⟩; kernel_rfl
theorem right_ok3 (K : Oracle) (x : Res) (h1 : ¬ x.lic < 0) (h2 : ¬ 1048576 < x.lic) : roundN [6, 7] (exec K LOOPS b_45_0) (hRight x 3) = some (hRight x 4) := by
 apply round_of
 unfold hRight ints b_45_0
 repeat (first
   | with_reducible refine goes_seq ?_
   | with_reducible refine then_normal ?_
   | with_reducible refine then_exit ?_
   | with_reducible refine then_ret ?_
   | with_reducible refine goes_region0 ?_
   | ((with_reducible refine goes_region ?_); dsimp only [List.cons_append, List.nil_append, List.replicate, List.length])
   | with_reducible refine goes_skip ?_
   | with_reducible refine goes_exit ?_
   | with_reducible refine goes_ret ?_
   | with_reducible refine goes_block ?_
   | with_reducible refine blk_normal ?_
   | with_reducible refine blk_out ?_
   | with_reducible refine blk_ret ?_
   | ((with_reducible refine blk_far ?_ ?_); (· rfl))
   | with_reducible refine ops_nil ?_
   | ((with_reducible refine goes_true ?_ ?_); (· simp [h1, h2, idxNat, partOf, IntKind.wrap]; done))
   | ((with_reducible refine goes_false ?_ ?_); (· simp [h1, h2, idxNat, partOf, IntKind.wrap]; done))
   | ((with_reducible apply ops_pure); (· rfl); (· simp [h1, h2, idxNat, partOf, IntKind.wrap]; rfl); (· dsimp only [List.set]; try rfl))
   | ((with_reducible apply ops_off); (· simp; rfl); (· simp [h1, h2, idxNat, partOf, IntKind.wrap]; done); (· dsimp only [setTmp, List.set]; try rfl))
   | ((with_reducible apply ops_dead); (· simp; done); (· dsimp only [setTmp, List.set]; try rfl))
   | ((with_reducible apply ops_on); (· simp [h1, h2, idxNat, partOf, IntKind.wrap]; done); (· simp [h1, h2, idxNat, partOf, IntKind.wrap]; exact ⟨rfl, rfl⟩); (· dsimp only [setTmp, List.set]; try rfl))
   | ((with_reducible apply ops_eff); (· simp [h1, h2, idxNat, partOf, IntKind.wrap]; exact ⟨rfl, rfl⟩); (· dsimp only [setTmp, List.set]; try rfl)))
 refine ⟨rfl, ?_⟩; kernel_rfl
theorem right_lt3 (K : Oracle) (x : Res) (h1 : x.lic < 0) : Goes K LOOPS b_45_0 (hRight x 3) fun e s => e = .ret ∧ leave a_45 s = some (.bool false, []) := by
 unfold hRight ints b_45_0
 repeat (first
   | with_reducible refine goes_seq ?_
   | with_reducible refine then_normal ?_
   | with_reducible refine then_exit ?_
   | with_reducible refine then_ret ?_
   | with_reducible refine goes_region0 ?_
   | ((with_reducible refine goes_region ?_); dsimp only [List.cons_append, List.nil_append, List.replicate, List.length])
   | with_reducible refine goes_skip ?_
   | with_reducible refine goes_exit ?_
   | with_reducible refine goes_ret ?_
   | with_reducible refine goes_block ?_
   | with_reducible refine blk_normal ?_
   | with_reducible refine blk_out ?_
   | with_reducible refine blk_ret ?_
   | ((with_reducible refine blk_far ?_ ?_); (· rfl))
   | with_reducible refine ops_nil ?_
   | ((with_reducible refine goes_true ?_ ?_); (· simp [h1, idxNat, partOf, IntKind.wrap]; done))
   | ((with_reducible refine goes_false ?_ ?_); (· simp [h1, idxNat, partOf, IntKind.wrap]; done))
   | ((with_reducible apply ops_pure); (· rfl); (· simp [h1, idxNat, partOf, IntKind.wrap]; rfl); (· dsimp only [List.set]; try rfl))
   | ((with_reducible apply ops_off); (· simp; rfl); (· simp [h1, idxNat, partOf, IntKind.wrap]; done); (· dsimp only [setTmp, List.set]; try rfl))
   | ((with_reducible apply ops_dead); (· simp; done); (· dsimp only [setTmp, List.set]; try rfl))
   | ((with_reducible apply ops_on); (· simp [h1, idxNat, partOf, IntKind.wrap]; done); (· simp [h1, idxNat, partOf, IntKind.wrap]; exact ⟨rfl, rfl⟩); (· dsimp only [setTmp, List.set]; try rfl))
   | ((with_reducible apply ops_eff); (· simp [h1, idxNat, partOf, IntKind.wrap]; exact ⟨rfl, rfl⟩); (· dsimp only [setTmp, List.set]; try rfl)))
 refine ⟨rfl, ?_⟩; kernel_rfl
theorem right_gt3 (K : Oracle) (x : Res) (h1 : ¬ x.lic < 0) (h2 : 1048576 < x.lic) : Goes K LOOPS b_45_0 (hRight x 3) fun e s => e = .ret ∧ leave a_45 s = some (.bool false, []) := by
 unfold hRight ints b_45_0
 repeat (first
   | with_reducible refine goes_seq ?_
   | with_reducible refine then_normal ?_
   | with_reducible refine then_exit ?_
   | with_reducible refine then_ret ?_
   | with_reducible refine goes_region0 ?_
   | ((with_reducible refine goes_region ?_); dsimp only [List.cons_append, List.nil_append, List.replicate, List.length])
   | with_reducible refine goes_skip ?_
   | with_reducible refine goes_exit ?_
   | with_reducible refine goes_ret ?_
   | with_reducible refine goes_block ?_
   | with_reducible refine blk_normal ?_
   | with_reducible refine blk_out ?_
   | with_reducible refine blk_ret ?_
   | ((with_reducible refine blk_far ?_ ?_); (· rfl))
   | with_reducible refine ops_nil ?_
   | ((with_reducible refine goes_true ?_ ?_); (· simp [h1, h2, idxNat, partOf, IntKind.wrap]; done))
   | ((with_reducible refine goes_false ?_ ?_); (· simp [h1, h2, idxNat, partOf, IntKind.wrap]; done))
   | ((with_reducible apply ops_pure); (· rfl); (· simp [h1, h2, idxNat, partOf, IntKind.wrap]; rfl); (· dsimp only [List.set]; try rfl))
   | ((with_reducible apply ops_off); (· simp; rfl); (· simp [h1, h2, idxNat, partOf, IntKind.wrap]; done); (· dsimp only [setTmp, List.set]; try rfl))
   | ((with_reducible apply ops_dead); (· simp; done); (· dsimp only [setTmp, List.set]; try rfl))
   | ((with_reducible apply ops_on); (· simp [h1, h2, idxNat, partOf, IntKind.wrap]; done); (· simp [h1, h2, idxNat, partOf, IntKind.wrap]; exact ⟨rfl, rfl⟩); (· dsimp only [setTmp, List.set]; try rfl))
   | ((with_reducible apply ops_eff); (· simp [h1, h2, idxNat, partOf, IntKind.wrap]; exact ⟨rfl, rfl⟩); (· dsimp only [setTmp, List.set]; try rfl)))
 refine ⟨rfl, ?_⟩; kernel_rfl
theorem goes_mono {K : Oracle} {N : Nat} {c : ACode} {st : St} {Q Q' : AExit → St → Prop} (h : Goes K N c st Q) (hq : ∀ e s, Q e s → Q' e s) : Goes K N c st Q' := by
 obtain ⟨e, s, he, h⟩ := h
 exact ⟨e, s, he, hq e s h⟩
def okR (x : Res) : Bool := okN x.cpu && okN x.mem && okN x.gpu && okN x.lic
set_option maxHeartbeats 100000 in
theorem eff_ints {K : Oracle} {base : Nat} {dst : Option Nat} {gd : Option (Nat × Bool)} {f t at_ room : Nat} {q : Bool} {sees : Sees} {tm : List AVal} {hp : Heap} {r : AVal} (x : Res) (hv : look tm (.tmp t) = ints x) (hK : K f [ints x] [] = some (r, [])) (hr : r.bareT = true) (hf : f < PB := by decide) :
   effOp K base ⟨dst, .call (.func f) [(false, .tmp t)] q room, gd, at_, sees⟩ (look tm) hp = some (r, hp) := by
 have hc : callVal K hp base sees (base + at_) room q (.fn f []) [(false, ints x)] = some (r, hp) := by
   have e : allOn (argView hp) [(false, ints x)] = some ([ints x], []) := rfl
   have eo : ([ints x] ++ []).flatMap AVal.ownV = [] := rfl
   have ei : reach hp [] (([ints x] ++ []).flatMap AVal.ownV) = [] := by rw [eo]; simp [reach, reachOnce, addNew, alive]
   unfold callVal
   simp only [e]
   rw [ei, if_pos ⟨rfl, rfl, rfl, rfl, Or.inr rfl⟩]
   have ek : K f (([ints x] ++ []).map (AVal.renV (index []))) (packHeap hp []) = some (r, []) := hK
   rw [ek]
   simp only
   rw [if_pos ⟨hr, trivial⟩]
 have ht : tightOk base ⟨dst, .call (.func f) [(false, .tmp t)] q room, gd, at_, sees⟩ (look tm) hp = true := by
   have : touchL hp (.call (.func f) [(false, .tmp t)] q room) (look tm) = [] := by
     show callL hp (.fn f []) [(false, look tm (.tmp t))] = []
     rw [hv]
     have e : allOn (argView hp) [(false, ints x)] = some ([ints x], []) := rfl
     have eo : ([ints x] ++ []).flatMap AVal.ownV = [] := rfl
     have ei : reach hp [] (([ints x] ++ []).flatMap AVal.ownV) = [] := by rw [eo]; simp [reach, reachOnce, addNew, alive]
     unfold callL
     simp only [e]
     rw [ei, eo]
     rfl
   unfold tightOk
   rw [this]
   simp
 unfold effOp
 rw [if_pos ht]
 show (if okFn (.func f) (.fn f []) = true ∧ seesB base sees (.fn f []) = true ∧ ((seesB base sees (look tm (.tmp t)) && true) = true) then callVal K hp base sees (base + at_) room q (.fn f []) [(false, look tm (.tmp t))] else none) = _
 rw [hv, if_pos ⟨by show (false == decide (PB ≤ f)) = true; rw [decide_eq_false (Nat.not_le_of_lt hf)]; rfl, rfl, rfl⟩]
 exact hc
set_option maxHeartbeats 100000 in
theorem eff_cxs {K : Oracle} {base : Nat} {dst : Option Nat} {gd : Option (Nat × Bool)} {f t at_ room : Nat} {q : Bool} {sees : Sees} {tm : List AVal} {hp : Heap} {r : AVal} (x : Res) (hv : look tm (.tmp t) = cxs x) (hK : K f [cxs x] [] = some (r, [])) (hr : r.bareT = true) (hf : f < PB := by decide) :
   effOp K base ⟨dst, .call (.func f) [(false, .tmp t)] q room, gd, at_, sees⟩ (look tm) hp = some (r, hp) := by
 have hc : callVal K hp base sees (base + at_) room q (.fn f []) [(false, cxs x)] = some (r, hp) := by
   have e : allOn (argView hp) [(false, cxs x)] = some ([cxs x], []) := rfl
   have eo : ([cxs x] ++ []).flatMap AVal.ownV = [] := rfl
   have ei : reach hp [] (([cxs x] ++ []).flatMap AVal.ownV) = [] := by rw [eo]; simp [reach, reachOnce, addNew, alive]
   unfold callVal
   simp only [e]
   rw [ei, if_pos ⟨rfl, rfl, rfl, rfl, Or.inr rfl⟩]
   have ek : K f (([cxs x] ++ []).map (AVal.renV (index []))) (packHeap hp []) = some (r, []) := hK
   rw [ek]
   simp only
   rw [if_pos ⟨hr, trivial⟩]
 have ht : tightOk base ⟨dst, .call (.func f) [(false, .tmp t)] q room, gd, at_, sees⟩ (look tm) hp = true := by
   have : touchL hp (.call (.func f) [(false, .tmp t)] q room) (look tm) = [] := by
     show callL hp (.fn f []) [(false, look tm (.tmp t))] = []
     rw [hv]
     have e : allOn (argView hp) [(false, cxs x)] = some ([cxs x], []) := rfl
     have eo : ([cxs x] ++ []).flatMap AVal.ownV = [] := rfl
     have ei : reach hp [] (([cxs x] ++ []).flatMap AVal.ownV) = [] := by rw [eo]; simp [reach, reachOnce, addNew, alive]
     unfold callL
     simp only [e]
     rw [ei, eo]
     rfl
   unfold tightOk
   rw [this]
   simp
 unfold effOp
 rw [if_pos ht]
 show (if okFn (.func f) (.fn f []) = true ∧ seesB base sees (.fn f []) = true ∧ ((seesB base sees (look tm (.tmp t)) && true) = true) then callVal K hp base sees (base + at_) room q (.fn f []) [(false, look tm (.tmp t))] else none) = _
 rw [hv, if_pos ⟨by show (false == decide (PB ≤ f)) = true; rw [decide_eq_false (Nat.not_le_of_lt hf)]; rfl, rfl, rfl⟩]
 exact hc
theorem g_right (x : Res) : g_45 [ints x] [] = some (.bool (okR x), []) := by
 have hn : tab [(74, g_74)] 74 [ints x] [] = some (ints x, []) := by simp [tab, g_numbers]
 unfold g_45
 apply body_of
 rw [show [ints x] ++ List.replicate (a_45.ntmps - [ints x].length) AVal.undef = [ints x, .undef, .undef, .undef, .undef, .undef, .undef, .undef, .undef, .undef, .undef, .undef, .undef, .undef, .undef, .undef, .undef] from rfl]
 generalize hK : tab [(74, g_74)] = K at hn ⊢
 unfold ints a_45
 repeat (first
   | ((with_reducible apply ops_eff); (with_reducible refine eff_ints x ?_ hn ?_); (· rfl); (· rfl); (· dsimp only [setTmp, List.set]; try rfl))
   | ((with_reducible apply ops_on); (· first | rfl | (simp; done)); (with_reducible refine eff_ints x ?_ hn ?_); (· rfl); (· rfl); (· dsimp only [setTmp, List.set]; try rfl))
   | with_reducible refine goes_seq ?_
   | with_reducible refine then_normal ?_
   | with_reducible refine then_exit ?_
   | with_reducible refine then_ret ?_
   | with_reducible refine goes_region0 ?_
   | ((with_reducible refine goes_region ?_); dsimp only [List.cons_append, List.nil_append, List.replicate, List.length])
   | with_reducible refine goes_skip ?_
   | with_reducible refine goes_exit ?_
   | with_reducible refine goes_ret ?_
   | with_reducible refine goes_block ?_
   | with_reducible refine blk_normal ?_
   | with_reducible refine blk_out ?_
   | with_reducible refine blk_ret ?_
   | ((with_reducible refine blk_far ?_ ?_); (· rfl))
   | with_reducible refine ops_nil ?_
   | ((with_reducible refine goes_true ?_ ?_); (· simp [hn]; done))
   | ((with_reducible refine goes_false ?_ ?_); (· simp [hn]; done))
   | ((with_reducible apply ops_pure); (· rfl); (· simp [hn]; rfl); (· dsimp only [List.set]; try rfl))
   | ((with_reducible apply ops_off); (· simp; rfl); (· simp [hn]; done); (· dsimp only [setTmp, List.set]; try rfl))
   | ((with_reducible apply ops_dead); (· simp; done); (· dsimp only [setTmp, List.set]; try rfl))
   | ((with_reducible apply ops_on); (· simp [hn]; done); (· simp [hn]; exact ⟨rfl, rfl⟩); (· dsimp only [setTmp, List.set]; try rfl))
   | ((with_reducible apply ops_eff); (· simp [hn]; exact ⟨rfl, rfl⟩); (· dsimp only [setTmp, List.set]; try rfl)))
 have hg : ∀ n : Int, okN n = true → ¬ n < 0 ∧ ¬ 1048576 < n := fun n h => by simp only [okN, Bool.and_eq_true, decide_eq_true_eq] at h; omega
 have hb : ∀ n : Int, okN n = false → n < 0 ∨ (¬ n < 0 ∧ 1048576 < n) := fun n h => by
   by_cases h1 : n < 0
   · exact .inl h1
   · refine .inr ⟨h1, ?_⟩
     apply Classical.byContradiction
     intro h2
     have : okN n = true := by simp only [okN, Bool.and_eq_true, decide_eq_true_eq]; omega
     rw [this] at h; cases h
 refine goes_upto (H := hRight x) (fun k => okN (num x k)) 4 (by kernel_rfl) (by decide) ?_ ?_ ?_
 · intro k hk hp
   rcases (by omega : k = 0 ∨ k = 1 ∨ k = 2 ∨ k = 3) with rfl | rfl | rfl | rfl
   · exact right_ok0 K x (hg x.cpu hp).1 (hg x.cpu hp).2
   · exact right_ok1 K x (hg x.mem hp).1 (hg x.mem hp).2
   · exact right_ok2 K x (hg x.gpu hp).1 (hg x.gpu hp).2
   · exact right_ok3 K x (hg x.lic hp).1 (hg x.lic hp).2
 · intro k hk _ hp
   rcases (by omega : k = 0 ∨ k = 1 ∨ k = 2 ∨ k = 3) with rfl | rfl | rfl | rfl
   · have he : okR x = false := by have hp : okN x.cpu = false := hp; simp [okR, hp]
     rw [he]
     rcases hb x.cpu hp with h1 | ⟨h1, h2⟩
     · refine goes_mono (right_lt0 K x h1) ?_
       rintro e s ⟨rfl, hl⟩
       exact ⟨by simp, blk_ret (then_ret ⟨.inr rfl, hl⟩)⟩
     · refine goes_mono (right_gt0 K x h1 h2) ?_
       rintro e s ⟨rfl, hl⟩
       exact ⟨by simp, blk_ret (then_ret ⟨.inr rfl, hl⟩)⟩
   · have he : okR x = false := by have hp : okN x.mem = false := hp; simp [okR, hp]
     rw [he]
     rcases hb x.mem hp with h1 | ⟨h1, h2⟩
     · refine goes_mono (right_lt1 K x h1) ?_
       rintro e s ⟨rfl, hl⟩
       exact ⟨by simp, blk_ret (then_ret ⟨.inr rfl, hl⟩)⟩
     · refine goes_mono (right_gt1 K x h1 h2) ?_
       rintro e s ⟨rfl, hl⟩
       exact ⟨by simp, blk_ret (then_ret ⟨.inr rfl, hl⟩)⟩
   · have he : okR x = false := by have hp : okN x.gpu = false := hp; simp [okR, hp]
     rw [he]
     rcases hb x.gpu hp with h1 | ⟨h1, h2⟩
     · refine goes_mono (right_lt2 K x h1) ?_
       rintro e s ⟨rfl, hl⟩
       exact ⟨by simp, blk_ret (then_ret ⟨.inr rfl, hl⟩)⟩
     · refine goes_mono (right_gt2 K x h1 h2) ?_
       rintro e s ⟨rfl, hl⟩
       exact ⟨by simp, blk_ret (then_ret ⟨.inr rfl, hl⟩)⟩
   · have he : okR x = false := by have hp : okN x.lic = false := hp; simp [okR, hp]
     rw [he]
     rcases hb x.lic hp with h1 | ⟨h1, h2⟩
     · refine goes_mono (right_lt3 K x h1) ?_
       rintro e s ⟨rfl, hl⟩
       exact ⟨by simp, blk_ret (then_ret ⟨.inr rfl, hl⟩)⟩
     · refine goes_mono (right_gt3 K x h1 h2) ?_
       rintro e s ⟨rfl, hl⟩
       exact ⟨by simp, blk_ret (then_ret ⟨.inr rfl, hl⟩)⟩
 · intro hall
   have he : okR x = true := by
     have h0 : okN x.cpu = true := hall 0 (by omega)
     have h1 : okN x.mem = true := hall 1 (by omega)
     have h2 : okN x.gpu = true := hall 2 (by omega)
     have h3 : okN x.lic = true := hall 3 (by omega)
     simp [okR, h0, h1, h2, h3]
   rw [he]
   unfold hRight ints b_45_0
   repeat (first
     | with_reducible refine goes_seq ?_
     | with_reducible refine then_normal ?_
     | with_reducible refine then_exit ?_
     | with_reducible refine then_ret ?_
     | with_reducible refine goes_region0 ?_
     | ((with_reducible refine goes_region ?_); dsimp only [List.cons_append, List.nil_append, List.replicate, List.length])
     | with_reducible refine goes_skip ?_
     | with_reducible refine goes_exit ?_
     | with_reducible refine goes_ret ?_
     | with_reducible refine goes_block ?_
     | with_reducible refine blk_normal ?_
     | with_reducible refine blk_out ?_
     | with_reducible refine blk_ret ?_
     | ((with_reducible refine blk_far ?_ ?_); (· rfl))
     | with_reducible refine ops_nil ?_
     | ((with_reducible refine goes_true ?_ ?_); (· simp [hn]; done))
     | ((with_reducible refine goes_false ?_ ?_); (· simp [hn]; done))
     | ((with_reducible apply ops_pure); (· rfl); (· simp [hn]; rfl); (· dsimp only [List.set]; try rfl))
     | ((with_reducible apply ops_off); (· simp; rfl); (· simp [hn]; done); (· dsimp only [setTmp, List.set]; try rfl))
     | ((with_reducible apply ops_dead); (· simp; done); (· dsimp only [setTmp, List.set]; try rfl))
     | ((with_reducible apply ops_on); (· simp [hn]; done); (· simp [hn]; exact ⟨rfl, rfl⟩); (· dsimp only [setTmp, List.set]; try rfl))
     | ((with_reducible apply ops_eff); (· simp [hn]; exact ⟨rfl, rfl⟩); (· dsimp only [setTmp, List.set]; try rfl)))
   refine ⟨by simp, ?_⟩
   repeat (first
     | with_reducible refine goes_seq ?_
     | with_reducible refine then_normal ?_
     | with_reducible refine then_exit ?_
     | with_reducible refine then_ret ?_
     | with_reducible refine goes_region0 ?_
     | ((with_reducible refine goes_region ?_); dsimp only [List.cons_append, List.nil_append, List.replicate, List.length])
     | with_reducible refine goes_skip ?_
     | with_reducible refine goes_exit ?_
     | with_reducible refine goes_ret ?_
     | with_reducible refine goes_block ?_
     | with_reducible refine blk_normal ?_
     | with_reducible refine blk_out ?_
     | with_reducible refine blk_ret ?_
     | ((with_reducible refine blk_far ?_ ?_); (· rfl))
     | with_reducible refine ops_nil ?_
     | ((with_reducible refine goes_true ?_ ?_); (· simp [hn]; done))
     | ((with_reducible refine goes_false ?_ ?_); (· simp [hn]; done))
     | ((with_reducible apply ops_pure); (· rfl); (· simp [hn]; rfl); (· dsimp only [List.set]; try rfl))
     | ((with_reducible apply ops_off); (· simp; rfl); (· simp [hn]; done); (· dsimp only [setTmp, List.set]; try rfl))
     | ((with_reducible apply ops_dead); (· simp; done); (· dsimp only [setTmp, List.set]; try rfl))
     | ((with_reducible apply ops_on); (· simp [hn]; done); (· simp [hn]; exact ⟨rfl, rfl⟩); (· dsimp only [setTmp, List.set]; try rfl))
     | ((with_reducible apply ops_eff); (· simp [hn]; exact ⟨rfl, rfl⟩); (· dsimp only [setTmp, List.set]; try rfl)))
   refine ⟨.inr rfl, ?_⟩; kernel_rfl
def zeroR : Res := ⟨0, 0, 0, 0⟩
def resR (r : Res × Int) : AVal := .tup [ints r.1, .int .i64 r.2]
def withinG (x : Res) : Res × Int := if okR x = true then (x, 0) else (zeroR, 20)
theorem g_within (x : Res) (h1 : wholeB x.cpu = true) (h2 : wholeB x.mem = true) (h3 : wholeB x.gpu = true) (h4 : wholeB x.lic = true) : g_73 [cxs x] [] = some (resR (withinG x), []) := by
 have hn : tab [(89, g_89), (45, g_45)] 89 [cxs x] [] = some (ints x, []) := by simp [tab, g_join x h1 h2 h3 h4]
 have hr : tab [(89, g_89), (45, g_45)] 45 [ints x] [] = some (.bool (okR x), []) := by simp [tab, g_right]
 unfold g_73
 generalize hK : tab [(89, g_89), (45, g_45)] = K at hn hr ⊢
 clear hK
 apply body_of
 rw [show [cxs x] ++ List.replicate (a_73.ntmps - [cxs x].length) AVal.undef = [cxs x, .undef, .undef, .undef, .undef, .undef, .undef, .undef, .undef, .undef, .undef, .undef] from rfl]
 by_cases ho : okR x = true
 · have hw : withinG x = (x, 0) := by unfold withinG; rw [if_pos ho]
   rw [hw]
   rw [ho] at hr
   unfold cxs a_73
   repeat (first
     | ((with_reducible apply ops_eff); (with_reducible refine eff_cxs x ?_ hn ?_); (· rfl); (· rfl); (· dsimp only [setTmp, List.set]; try rfl))
     | ((with_reducible apply ops_eff); (with_reducible refine eff_ints x ?_ hr ?_); (· rfl); (· rfl); (· dsimp only [setTmp, List.set]; try rfl))
     | ((with_reducible apply ops_on); (· first | rfl | (simp; done)); (with_reducible refine eff_cxs x ?_ hn ?_); (· rfl); (· rfl); (· dsimp only [setTmp, List.set]; try rfl))
     | ((with_reducible apply ops_on); (· first | rfl | (simp; done)); (with_reducible refine eff_ints x ?_ hr ?_); (· rfl); (· rfl); (· dsimp only [setTmp, List.set]; try rfl))
     | with_reducible refine goes_seq ?_
     | with_reducible refine then_normal ?_
     | with_reducible refine then_exit ?_
     | with_reducible refine then_ret ?_
     | with_reducible refine goes_region0 ?_
     | ((with_reducible refine goes_region ?_); dsimp only [List.cons_append, List.nil_append, List.replicate, List.length])
     | with_reducible refine goes_skip ?_
     | with_reducible refine goes_exit ?_
     | with_reducible refine goes_ret ?_
     | with_reducible refine goes_block ?_
     | with_reducible refine blk_normal ?_
     | with_reducible refine blk_out ?_
     | with_reducible refine blk_ret ?_
     | ((with_reducible refine blk_far ?_ ?_); (· rfl))
     | with_reducible refine ops_nil ?_
     | ((with_reducible refine goes_true ?_ ?_); (· simp [fop]; done))
     | ((with_reducible refine goes_false ?_ ?_); (· simp [fop]; done))
     | ((with_reducible apply ops_pure); (· rfl); (· simp [fop]; rfl); (· dsimp only [List.set]; try rfl))
     | ((with_reducible apply ops_off); (· simp; rfl); (· simp [fop]; done); (· dsimp only [setTmp, List.set]; try rfl))
     | ((with_reducible apply ops_dead); (· simp; done); (· dsimp only [setTmp, List.set]; try rfl))
     | ((with_reducible apply ops_on); (· simp [fop]; done); (· simp [fop]; exact ⟨rfl, rfl⟩); (· dsimp only [setTmp, List.set]; try rfl))
     | ((with_reducible apply ops_eff); (· simp [fop]; exact ⟨rfl, rfl⟩); (· dsimp only [setTmp, List.set]; try rfl)))
   refine ⟨.inr rfl, ?_⟩; kernel_rfl
 · have hw : withinG x = (zeroR, 20) := by unfold withinG; rw [if_neg ho]
   rw [hw]
   have ho : okR x = false := by simpa using ho
   rw [ho] at hr
   unfold cxs a_73
   repeat (first
     | ((with_reducible apply ops_eff); (with_reducible refine eff_cxs x ?_ hn ?_); (· rfl); (· rfl); (· dsimp only [setTmp, List.set]; try rfl))
     | ((with_reducible apply ops_eff); (with_reducible refine eff_ints x ?_ hr ?_); (· rfl); (· rfl); (· dsimp only [setTmp, List.set]; try rfl))
     | ((with_reducible apply ops_on); (· first | rfl | (simp; done)); (with_reducible refine eff_cxs x ?_ hn ?_); (· rfl); (· rfl); (· dsimp only [setTmp, List.set]; try rfl))
     | ((with_reducible apply ops_on); (· first | rfl | (simp; done)); (with_reducible refine eff_ints x ?_ hr ?_); (· rfl); (· rfl); (· dsimp only [setTmp, List.set]; try rfl))
     | with_reducible refine goes_seq ?_
     | with_reducible refine then_normal ?_
     | with_reducible refine then_exit ?_
     | with_reducible refine then_ret ?_
     | with_reducible refine goes_region0 ?_
     | ((with_reducible refine goes_region ?_); dsimp only [List.cons_append, List.nil_append, List.replicate, List.length])
     | with_reducible refine goes_skip ?_
     | with_reducible refine goes_exit ?_
     | with_reducible refine goes_ret ?_
     | with_reducible refine goes_block ?_
     | with_reducible refine blk_normal ?_
     | with_reducible refine blk_out ?_
     | with_reducible refine blk_ret ?_
     | ((with_reducible refine blk_far ?_ ?_); (· rfl))
     | with_reducible refine ops_nil ?_
     | ((with_reducible refine goes_true ?_ ?_); (· simp [fop]; done))
     | ((with_reducible refine goes_false ?_ ?_); (· simp [fop]; done))
     | ((with_reducible apply ops_pure); (· rfl); (· simp [fop]; rfl); (· dsimp only [List.set]; try rfl))
     | ((with_reducible apply ops_off); (· simp; rfl); (· simp [fop]; done); (· dsimp only [setTmp, List.set]; try rfl))
     | ((with_reducible apply ops_dead); (· simp; done); (· dsimp only [setTmp, List.set]; try rfl))
     | ((with_reducible apply ops_on); (· simp [fop]; done); (· simp [fop]; exact ⟨rfl, rfl⟩); (· dsimp only [setTmp, List.set]; try rfl))
     | ((with_reducible apply ops_eff); (· simp [fop]; exact ⟨rfl, rfl⟩); (· dsimp only [setTmp, List.set]; try rfl)))
   refine ⟨.inr rfl, ?_⟩; kernel_rfl
theorem okR_parts {x : Res} (h : okR x = true) : partB x.cpu = true ∧ partB x.mem = true ∧ partB x.gpu = true ∧ partB x.lic = true := by
 unfold okR at h
 simp only [Bool.and_eq_true] at h
 exact ⟨h.1.1.1, h.1.1.2, h.1.2, h.2⟩
theorem whole_add {a b : Int} (ha : partB a = true) (hb : partB b = true) : wholeB (a + b) = true := by
 have := partB_le ha; have := partB_le hb
 simp only [wholeB, Bool.and_eq_true, decide_eq_true_eq]; omega
theorem whole_sub {a b : Int} (ha : partB a = true) (hb : partB b = true) : wholeB (a - b) = true := by
 have := partB_le ha; have := partB_le hb
 simp only [wholeB, Bool.and_eq_true, decide_eq_true_eq]; omega
def addR (x y : Res) : Res := ⟨x.cpu + y.cpu, x.mem + y.mem, x.gpu + y.gpu, x.lic + y.lic⟩
def subR (x y : Res) : Res := ⟨x.cpu - y.cpu, x.mem - y.mem, x.gpu - y.gpu, x.lic - y.lic⟩
def sumG (x y z : Res) : Res × Int := if okR x = true then (if okR y = true then withinG z else (zeroR, 2)) else (zeroR, 2)
end AM
end Go.Proofs.Ytfelhbeiegppgaa
end
