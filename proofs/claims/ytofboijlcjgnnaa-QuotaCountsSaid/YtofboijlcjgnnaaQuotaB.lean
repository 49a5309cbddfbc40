/-
  Counting the jobs of a queue: the program's closures and the document's loop count the same.
-/
import Derived.Test.YtofboijlcjgnnaaQuotaA
import Derived.Test.YtofboijlcjgnnaaAmS
set_option linter.unusedVariables false
set_option linter.unusedSimpArgs false
namespace Go.Proofs.Ytofboijlcjgnnaa
namespace AM
set_option maxRecDepth 100000

/-- the document's condition -/
def pR (q a b u : Int) (j : Job) : Bool := decide (j.queue = q) && (decide (j.state = a) || decide (j.state = b)) && (decide (u < 0) || decide (j.user = u))

def hRef (q a b u : Int) (l : List Job) (k c : Nat) : St :=
  ⟨[.imm 18 (l.map Enc.cells), .int .i64 q, .undef, .int .i64 u, .undef, .undef, .ptr 0 0 0, .undef, .undef, .int .i64 (c : Int), .int .i64 (k : Int)] ++ List.replicate 42 .undef, [.live ⟨2, false, [[.int .i64 a, .int .i64 b]]⟩], 0⟩

set_option maxHeartbeats 4000000

theorem ref_no (K : Oracle) (l : List Job) (q a b u : Int) (k c : Nat) (hk : k < l.length) (w2 : IntKind.i64.wrap ((k : Int) + 1) = k + 1) (h1 : ¬ l[k].queue = q) :
    roundN [0, 1, 3, 6, 9, 10] (exec K LOOPS b_65_0) (hRef q a b u l k c) = some (hRef q a b u l (k + 1) c) := by
  apply round_of
  unfold hRef b_65_0
  dsimp only [List.cons_append, List.nil_append, List.replicate]
  repeat (first
    | with_reducible refine goes_seq ?_
    | with_reducible refine then_normal ?_
    | with_reducible refine then_exit ?_
    | with_reducible refine then_ret ?_
    | with_reducible refine goes_region0 ?_
    | (with_reducible refine goes_region ?_; dsimp only [List.cons_append, List.nil_append, List.replicate, List.length])
    | with_reducible refine goes_skip ?_
    | with_reducible refine goes_exit ?_
    | with_reducible refine goes_ret ?_
    | with_reducible refine goes_block ?_
    | with_reducible refine blk_normal ?_
    | with_reducible refine blk_out ?_
    | with_reducible refine blk_ret ?_
    | (with_reducible refine blk_far ?_ ?_; (· rfl))
    | with_reducible refine ops_nil ?_
    | (with_reducible refine goes_true ?_ ?_; (· simp [hk, cells_job, h1, w2]; done))
    | (with_reducible refine goes_false ?_ ?_; (· simp [hk, cells_job, h1, w2]; done))
    | (with_reducible apply ops_pure; (· rfl); (· simp [hk, cells_job, h1, w2]; rfl); (· dsimp only [List.set]; try rfl))
    | (with_reducible apply ops_off; (· simp; rfl); (· simp [hk, cells_job, h1, w2]; done); (· dsimp only [setTmp, List.set]; try rfl))
    | (with_reducible apply ops_dead; (· simp; done); (· dsimp only [setTmp, List.set]; try rfl))
    | (with_reducible apply ops_on; (· simp [hk, cells_job, h1, w2]; done); (· simp [hk, cells_job, h1, w2]; exact ⟨rfl, rfl⟩); (· dsimp only [setTmp, List.set]; try rfl))
    | (with_reducible apply ops_eff; (· simp [hk, cells_job, h1, w2]; exact ⟨rfl, rfl⟩); (· dsimp only [setTmp, List.set]; try rfl)))
  refine ⟨rfl, ?_⟩; kernel_rfl
theorem ref_out (K : Oracle) (l : List Job) (q a b u : Int) (k c : Nat) (hk : k < l.length) (w2 : IntKind.i64.wrap ((k : Int) + 1) = k + 1) (h1 : l[k].queue = q) (h2 : ¬ l[k].state = a) (h3 : ¬ l[k].state = b) :
    roundN [0, 1, 3, 6, 9, 10] (exec K LOOPS b_65_0) (hRef q a b u l k c) = some (hRef q a b u l (k + 1) c) := by
  apply round_of
  unfold hRef b_65_0
  dsimp only [List.cons_append, List.nil_append, List.replicate]
  repeat (first
    | with_reducible refine goes_seq ?_
    | with_reducible refine then_normal ?_
    | with_reducible refine then_exit ?_
    | with_reducible refine then_ret ?_
    | with_reducible refine goes_region0 ?_
    | (with_reducible refine goes_region ?_; dsimp only [List.cons_append, List.nil_append, List.replicate, List.length])
    | with_reducible refine goes_skip ?_
    | with_reducible refine goes_exit ?_
    | with_reducible refine goes_ret ?_
    | with_reducible refine goes_block ?_
    | with_reducible refine blk_normal ?_
    | with_reducible refine blk_out ?_
    | with_reducible refine blk_ret ?_
    | (with_reducible refine blk_far ?_ ?_; (· rfl))
    | with_reducible refine ops_nil ?_
    | (with_reducible refine goes_true ?_ ?_; (· simp [hk, cells_job, h1, h2, h3, w2]; done))
    | (with_reducible refine goes_false ?_ ?_; (· simp [hk, cells_job, h1, h2, h3, w2]; done))
    | (with_reducible apply ops_pure; (· rfl); (· simp [hk, cells_job, h1, h2, h3, w2]; rfl); (· dsimp only [List.set]; try rfl))
    | (with_reducible apply ops_off; (· simp; rfl); (· simp [hk, cells_job, h1, h2, h3, w2]; done); (· dsimp only [setTmp, List.set]; try rfl))
    | (with_reducible apply ops_dead; (· simp; done); (· dsimp only [setTmp, List.set]; try rfl))
    | (with_reducible apply ops_on; (· simp [hk, cells_job, h1, h2, h3, w2]; done); (· simp [hk, cells_job, h1, h2, h3, w2]; exact ⟨rfl, rfl⟩); (· dsimp only [setTmp, List.set]; try rfl))
    | (with_reducible apply ops_eff; (· simp [hk, cells_job, h1, h2, h3, w2]; exact ⟨rfl, rfl⟩); (· dsimp only [setTmp, List.set]; try rfl)))
  refine ⟨rfl, ?_⟩; kernel_rfl
theorem ref_a (K : Oracle) (l : List Job) (q a b u : Int) (k c : Nat) (hk : k < l.length) (w1 : IntKind.i64.wrap ((c : Int) + 1) = c + 1) (w2 : IntKind.i64.wrap ((k : Int) + 1) = k + 1) (h1 : l[k].queue = q) (h2 : l[k].state = a) :
    roundN [0, 1, 3, 6, 9, 10] (exec K LOOPS b_65_0) (hRef q a b u l k c) = some (hRef q a b u l (k + 1) (c + if u < 0 ∨ l[k].user = u then 1 else 0)) := by
  by_cases h4 : u < 0
  · rw [if_pos (Or.inl h4)]
    apply round_of
    unfold hRef b_65_0
    dsimp only [List.cons_append, List.nil_append, List.replicate]
    repeat (first
      | with_reducible refine goes_seq ?_
      | with_reducible refine then_normal ?_
      | with_reducible refine then_exit ?_
      | with_reducible refine then_ret ?_
      | with_reducible refine goes_region0 ?_
      | (with_reducible refine goes_region ?_; dsimp only [List.cons_append, List.nil_append, List.replicate, List.length])
      | with_reducible refine goes_skip ?_
      | with_reducible refine goes_exit ?_
      | with_reducible refine goes_ret ?_
      | with_reducible refine goes_block ?_
      | with_reducible refine blk_normal ?_
      | with_reducible refine blk_out ?_
      | with_reducible refine blk_ret ?_
      | (with_reducible refine blk_far ?_ ?_; (· rfl))
      | with_reducible refine ops_nil ?_
      | (with_reducible refine goes_true ?_ ?_; (· simp [hk, cells_job, h1, h2, h4, w1, w2]; done))
      | (with_reducible refine goes_false ?_ ?_; (· simp [hk, cells_job, h1, h2, h4, w1, w2]; done))
      | (with_reducible apply ops_pure; (· rfl); (· simp [hk, cells_job, h1, h2, h4, w1, w2]; rfl); (· dsimp only [List.set]; try rfl))
      | (with_reducible apply ops_off; (· simp; rfl); (· simp [hk, cells_job, h1, h2, h4, w1, w2]; done); (· dsimp only [setTmp, List.set]; try rfl))
      | (with_reducible apply ops_dead; (· simp; done); (· dsimp only [setTmp, List.set]; try rfl))
      | (with_reducible apply ops_on; (· simp [hk, cells_job, h1, h2, h4, w1, w2]; done); (· simp [hk, cells_job, h1, h2, h4, w1, w2]; exact ⟨rfl, rfl⟩); (· dsimp only [setTmp, List.set]; try rfl))
      | (with_reducible apply ops_eff; (· simp [hk, cells_job, h1, h2, h4, w1, w2]; exact ⟨rfl, rfl⟩); (· dsimp only [setTmp, List.set]; try rfl)))
    refine ⟨rfl, ?_⟩; kernel_rfl
  · by_cases h5 : l[k].user = u
    · rw [if_pos (Or.inr h5)]
      apply round_of
      unfold hRef b_65_0
      dsimp only [List.cons_append, List.nil_append, List.replicate]
      repeat (first
        | with_reducible refine goes_seq ?_
        | with_reducible refine then_normal ?_
        | with_reducible refine then_exit ?_
        | with_reducible refine then_ret ?_
        | with_reducible refine goes_region0 ?_
        | (with_reducible refine goes_region ?_; dsimp only [List.cons_append, List.nil_append, List.replicate, List.length])
        | with_reducible refine goes_skip ?_
        | with_reducible refine goes_exit ?_
        | with_reducible refine goes_ret ?_
        | with_reducible refine goes_block ?_
        | with_reducible refine blk_normal ?_
        | with_reducible refine blk_out ?_
        | with_reducible refine blk_ret ?_
        | (with_reducible refine blk_far ?_ ?_; (· rfl))
        | with_reducible refine ops_nil ?_
        | (with_reducible refine goes_true ?_ ?_; (· simp [hk, cells_job, h1, h2, h4, h5, w1, w2]; done))
        | (with_reducible refine goes_false ?_ ?_; (· simp [hk, cells_job, h1, h2, h4, h5, w1, w2]; done))
        | (with_reducible apply ops_pure; (· rfl); (· simp [hk, cells_job, h1, h2, h4, h5, w1, w2]; rfl); (· dsimp only [List.set]; try rfl))
        | (with_reducible apply ops_off; (· simp; rfl); (· simp [hk, cells_job, h1, h2, h4, h5, w1, w2]; done); (· dsimp only [setTmp, List.set]; try rfl))
        | (with_reducible apply ops_dead; (· simp; done); (· dsimp only [setTmp, List.set]; try rfl))
        | (with_reducible apply ops_on; (· simp [hk, cells_job, h1, h2, h4, h5, w1, w2]; done); (· simp [hk, cells_job, h1, h2, h4, h5, w1, w2]; exact ⟨rfl, rfl⟩); (· dsimp only [setTmp, List.set]; try rfl))
        | (with_reducible apply ops_eff; (· simp [hk, cells_job, h1, h2, h4, h5, w1, w2]; exact ⟨rfl, rfl⟩); (· dsimp only [setTmp, List.set]; try rfl)))
      refine ⟨rfl, ?_⟩; kernel_rfl
    · rw [if_neg (by simp [h4, h5])]
      apply round_of
      unfold hRef b_65_0
      dsimp only [List.cons_append, List.nil_append, List.replicate]
      repeat (first
        | with_reducible refine goes_seq ?_
        | with_reducible refine then_normal ?_
        | with_reducible refine then_exit ?_
        | with_reducible refine then_ret ?_
        | with_reducible refine goes_region0 ?_
        | (with_reducible refine goes_region ?_; dsimp only [List.cons_append, List.nil_append, List.replicate, List.length])
        | with_reducible refine goes_skip ?_
        | with_reducible refine goes_exit ?_
        | with_reducible refine goes_ret ?_
        | with_reducible refine goes_block ?_
        | with_reducible refine blk_normal ?_
        | with_reducible refine blk_out ?_
        | with_reducible refine blk_ret ?_
        | (with_reducible refine blk_far ?_ ?_; (· rfl))
        | with_reducible refine ops_nil ?_
        | (with_reducible refine goes_true ?_ ?_; (· simp [hk, cells_job, h1, h2, h4, h5, w1, w2]; done))
        | (with_reducible refine goes_false ?_ ?_; (· simp [hk, cells_job, h1, h2, h4, h5, w1, w2]; done))
        | (with_reducible apply ops_pure; (· rfl); (· simp [hk, cells_job, h1, h2, h4, h5, w1, w2]; rfl); (· dsimp only [List.set]; try rfl))
        | (with_reducible apply ops_off; (· simp; rfl); (· simp [hk, cells_job, h1, h2, h4, h5, w1, w2]; done); (· dsimp only [setTmp, List.set]; try rfl))
        | (with_reducible apply ops_dead; (· simp; done); (· dsimp only [setTmp, List.set]; try rfl))
        | (with_reducible apply ops_on; (· simp [hk, cells_job, h1, h2, h4, h5, w1, w2]; done); (· simp [hk, cells_job, h1, h2, h4, h5, w1, w2]; exact ⟨rfl, rfl⟩); (· dsimp only [setTmp, List.set]; try rfl))
        | (with_reducible apply ops_eff; (· simp [hk, cells_job, h1, h2, h4, h5, w1, w2]; exact ⟨rfl, rfl⟩); (· dsimp only [setTmp, List.set]; try rfl)))
      refine ⟨rfl, ?_⟩; kernel_rfl
theorem ref_b (K : Oracle) (l : List Job) (q a b u : Int) (k c : Nat) (hk : k < l.length) (w1 : IntKind.i64.wrap ((c : Int) + 1) = c + 1) (w2 : IntKind.i64.wrap ((k : Int) + 1) = k + 1) (h1 : l[k].queue = q) (h2 : ¬ b = a) (h3 : l[k].state = b) :
    roundN [0, 1, 3, 6, 9, 10] (exec K LOOPS b_65_0) (hRef q a b u l k c) = some (hRef q a b u l (k + 1) (c + if u < 0 ∨ l[k].user = u then 1 else 0)) := by
  by_cases h4 : u < 0
  · rw [if_pos (Or.inl h4)]
    apply round_of
    unfold hRef b_65_0
    dsimp only [List.cons_append, List.nil_append, List.replicate]
    repeat (first
      | with_reducible refine goes_seq ?_
      | with_reducible refine then_normal ?_
      | with_reducible refine then_exit ?_
      | with_reducible refine then_ret ?_
      | with_reducible refine goes_region0 ?_
      | (with_reducible refine goes_region ?_; dsimp only [List.cons_append, List.nil_append, List.replicate, List.length])
      | with_reducible refine goes_skip ?_
      | with_reducible refine goes_exit ?_
      | with_reducible refine goes_ret ?_
      | with_reducible refine goes_block ?_
      | with_reducible refine blk_normal ?_
      | with_reducible refine blk_out ?_
      | with_reducible refine blk_ret ?_
      | (with_reducible refine blk_far ?_ ?_; (· rfl))
      | with_reducible refine ops_nil ?_
      | (with_reducible refine goes_true ?_ ?_; (· simp [hk, cells_job, h1, h2, h3, h4, w1, w2]; done))
      | (with_reducible refine goes_false ?_ ?_; (· simp [hk, cells_job, h1, h2, h3, h4, w1, w2]; done))
      | (with_reducible apply ops_pure; (· rfl); (· simp [hk, cells_job, h1, h2, h3, h4, w1, w2]; rfl); (· dsimp only [List.set]; try rfl))
      | (with_reducible apply ops_off; (· simp; rfl); (· simp [hk, cells_job, h1, h2, h3, h4, w1, w2]; done); (· dsimp only [setTmp, List.set]; try rfl))
      | (with_reducible apply ops_dead; (· simp; done); (· dsimp only [setTmp, List.set]; try rfl))
      | (with_reducible apply ops_on; (· simp [hk, cells_job, h1, h2, h3, h4, w1, w2]; done); (· simp [hk, cells_job, h1, h2, h3, h4, w1, w2]; exact ⟨rfl, rfl⟩); (· dsimp only [setTmp, List.set]; try rfl))
      | (with_reducible apply ops_eff; (· simp [hk, cells_job, h1, h2, h3, h4, w1, w2]; exact ⟨rfl, rfl⟩); (· dsimp only [setTmp, List.set]; try rfl)))
    refine ⟨rfl, ?_⟩; kernel_rfl
  · by_cases h5 : l[k].user = u
    · rw [if_pos (Or.inr h5)]
      apply round_of
      unfold hRef b_65_0
      dsimp only [List.cons_append, List.nil_append, List.replicate]
      repeat (first
        | with_reducible refine goes_seq ?_
        | with_reducible refine then_normal ?_
        | with_reducible refine then_exit ?_
        | with_reducible refine then_ret ?_
        | with_reducible refine goes_region0 ?_
        | (with_reducible refine goes_region ?_; dsimp only [List.cons_append, List.nil_append, List.replicate, List.length])
        | with_reducible refine goes_skip ?_
        | with_reducible refine goes_exit ?_
        | with_reducible refine goes_ret ?_
        | with_reducible refine goes_block ?_
        | with_reducible refine blk_normal ?_
        | with_reducible refine blk_out ?_
        | with_reducible refine blk_ret ?_
        | (with_reducible refine blk_far ?_ ?_; (· rfl))
        | with_reducible refine ops_nil ?_
        | (with_reducible refine goes_true ?_ ?_; (· simp [hk, cells_job, h1, h2, h3, h4, h5, w1, w2]; done))
        | (with_reducible refine goes_false ?_ ?_; (· simp [hk, cells_job, h1, h2, h3, h4, h5, w1, w2]; done))
        | (with_reducible apply ops_pure; (· rfl); (· simp [hk, cells_job, h1, h2, h3, h4, h5, w1, w2]; rfl); (· dsimp only [List.set]; try rfl))
        | (with_reducible apply ops_off; (· simp; rfl); (· simp [hk, cells_job, h1, h2, h3, h4, h5, w1, w2]; done); (· dsimp only [setTmp, List.set]; try rfl))
        | (with_reducible apply ops_dead; (· simp; done); (· dsimp only [setTmp, List.set]; try rfl))
        | (with_reducible apply ops_on; (· simp [hk, cells_job, h1, h2, h3, h4, h5, w1, w2]; done); (· simp [hk, cells_job, h1, h2, h3, h4, h5, w1, w2]; exact ⟨rfl, rfl⟩); (· dsimp only [setTmp, List.set]; try rfl))
        | (with_reducible apply ops_eff; (· simp [hk, cells_job, h1, h2, h3, h4, h5, w1, w2]; exact ⟨rfl, rfl⟩); (· dsimp only [setTmp, List.set]; try rfl)))
      refine ⟨rfl, ?_⟩; kernel_rfl
    · rw [if_neg (by simp [h4, h5])]
      apply round_of
      unfold hRef b_65_0
      dsimp only [List.cons_append, List.nil_append, List.replicate]
      repeat (first
        | with_reducible refine goes_seq ?_
        | with_reducible refine then_normal ?_
        | with_reducible refine then_exit ?_
        | with_reducible refine then_ret ?_
        | with_reducible refine goes_region0 ?_
        | (with_reducible refine goes_region ?_; dsimp only [List.cons_append, List.nil_append, List.replicate, List.length])
        | with_reducible refine goes_skip ?_
        | with_reducible refine goes_exit ?_
        | with_reducible refine goes_ret ?_
        | with_reducible refine goes_block ?_
        | with_reducible refine blk_normal ?_
        | with_reducible refine blk_out ?_
        | with_reducible refine blk_ret ?_
        | (with_reducible refine blk_far ?_ ?_; (· rfl))
        | with_reducible refine ops_nil ?_
        | (with_reducible refine goes_true ?_ ?_; (· simp [hk, cells_job, h1, h2, h3, h4, h5, w1, w2]; done))
        | (with_reducible refine goes_false ?_ ?_; (· simp [hk, cells_job, h1, h2, h3, h4, h5, w1, w2]; done))
        | (with_reducible apply ops_pure; (· rfl); (· simp [hk, cells_job, h1, h2, h3, h4, h5, w1, w2]; rfl); (· dsimp only [List.set]; try rfl))
        | (with_reducible apply ops_off; (· simp; rfl); (· simp [hk, cells_job, h1, h2, h3, h4, h5, w1, w2]; done); (· dsimp only [setTmp, List.set]; try rfl))
        | (with_reducible apply ops_dead; (· simp; done); (· dsimp only [setTmp, List.set]; try rfl))
        | (with_reducible apply ops_on; (· simp [hk, cells_job, h1, h2, h3, h4, h5, w1, w2]; done); (· simp [hk, cells_job, h1, h2, h3, h4, h5, w1, w2]; exact ⟨rfl, rfl⟩); (· dsimp only [setTmp, List.set]; try rfl))
        | (with_reducible apply ops_eff; (· simp [hk, cells_job, h1, h2, h3, h4, h5, w1, w2]; exact ⟨rfl, rfl⟩); (· dsimp only [setTmp, List.set]; try rfl)))
      refine ⟨rfl, ?_⟩; kernel_rfl
theorem ref_last (K : Oracle) (l : List Job) (q a b u : Int) (c : Nat) : ∃ tm, exec K LOOPS b_65_0 (hRef q a b u l l.length c) = some (.exit 0, ⟨tm, [.live ⟨2, false, [[.int .i64 a, .int .i64 b]]⟩], 0⟩) ∧ tm.length = 53 ∧ tm[9]? = some (.int .i64 (c : Int)) := by
  unfold hRef b_65_0
  simp
theorem ref_step (K : Oracle) (l : List Job) (hl : l.length ≤ 30) (q a b u : Int) (k : Nat) (hk : k < l.length) :
    roundN [0, 1, 3, 6, 9, 10] (exec K LOOPS b_65_0) (hRef q a b u l k (cnt (pR q a b u) l k)) = some (hRef q a b u l (k + 1) (cnt (pR q a b u) l (k + 1))) := by
  have hc := cnt_le (pR q a b u) l k
  have w1 : IntKind.i64.wrap ((cnt (pR q a b u) l k : Int) + 1) = cnt (pR q a b u) l k + 1 := wrap64 (by omega) (by omega)
  have w2 : IntKind.i64.wrap ((k : Int) + 1) = k + 1 := wrap64 (by omega) (by omega)
  rw [cnt_succ (pR q a b u) l k hk]
  by_cases h1 : l[k].queue = q
  · by_cases h2 : l[k].state = a
    · rw [ref_a K l q a b u k _ hk w1 w2 h1 h2]; simp [pR, h1, h2]
    · by_cases h3 : l[k].state = b
      · rw [ref_b K l q a b u k _ hk w1 w2 h1 (fun e => h2 (by rw [h3, e])) h3]; simp [pR, h1, h3]
      · rw [ref_out K l q a b u k _ hk w2 h1 h2 h3]; simp [pR, h1, h2, h3]
  · rw [ref_no K l q a b u k _ hk w2 h1]; simp [pR, h1]
theorem ref_run (K : Oracle) (l : List Job) (q a b u : Int) (c : Nat) (h : ∀ st0, norm [0, 1, 3, 6, 9, 10] st0 = some (hRef q a b u l 0 0) → ∃ tm, iter [0, 1, 3, 6, 9, 10] (exec K LOOPS b_65_0) LOOPS st0 = some (.exit 0, ⟨tm, [.live ⟨2, false, [[.int .i64 a, .int .i64 b]]⟩], 0⟩) ∧ tm.length = 53 ∧ tm[9]? = some (.int .i64 (c : Int))) :
    runBody K a_65 [.imm 18 (l.map Enc.cells), .int .i64 q, .agg [.int .i64 a, .int .i64 b], .int .i64 u] [] = some (.int .i64 (c : Int), []) := by
  obtain ⟨tm, h0, e2, e3⟩ := h ⟨[.imm 18 (l.map Enc.cells), .int .i64 q, .agg [.int .i64 a, .int .i64 b], .int .i64 u, .undef, .undef, .ptr 0 0 0, .undef, .int .i64 0, .int .i64 0, .int .i64 0] ++ List.replicate 42 .undef, [.live ⟨2, false, [[.int .i64 a, .int .i64 b]]⟩], 0⟩ (by simp [hRef, List.replicate])
  have e6 : 9 < tm.length := by omega
  have e7 : tm[9] = .int .i64 (c : Int) := by simpa [List.getElem?_eq_getElem e6] using e3
  unfold a_65
  simp [List.replicate] at h0
  simp [h0, e2, e6, e7]
theorem refCount (l : List Job) (hl : l.length ≤ 30) (q a b u : Int) : g_65 [.imm 18 (l.map Enc.cells), .int .i64 q, .agg [.int .i64 a, .int .i64 b], .int .i64 u] [] = some (.int .i64 (cnt (pR q a b u) l l.length : Int), []) := by
  unfold g_65
  refine ref_run _ l q a b u _ fun st0 h0 => ?_
  obtain ⟨tm, e1, e2, e3⟩ := ref_last (tab []) l q a b u (cnt (pR q a b u) l l.length)
  exact ⟨tm, iter_upto (H := fun k => hRef q a b u l k (cnt (pR q a b u) l k)) h0 (fun k hk => ref_step _ l hl q a b u k hk) e1 (by simp) (loops_big (by omega)), e2, e3⟩

end AM
end Go.Proofs.Ytofboijlcjgnnaa
