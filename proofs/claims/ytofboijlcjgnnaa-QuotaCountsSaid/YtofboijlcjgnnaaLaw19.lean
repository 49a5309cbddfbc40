/-
  Counting the jobs of a queue: the program's closures and the document's loop count the same.
-/
import Derived.Test.YtofboijlcjgnnaaQuotaB
import Derived.Test.YtofboijlcjgnnaaAmS
set_option linter.unusedVariables false
set_option linter.unusedSimpArgs false
namespace Go.Proofs.Ytofboijlcjgnnaa
namespace AM
set_option maxRecDepth 100000

theorem tab_go {f f' : Nat} {g : List AVal → Heap → Option (AVal × Heap)} {t : List (Nat × (List AVal → Heap → Option (AVal × Heap)))} {args : List AVal} {hp : Heap} {r : Option (AVal × Heap)} (h : (f' == f) = false) (k : tab t f' args hp = r) : tab ((f, g) :: t) f' args hp = r := by
  have : ¬ f' = f := by simpa using h
  simp only [tab, if_neg this]; exact k
theorem tab_got {f : Nat} {g : List AVal → Heap → Option (AVal × Heap)} {t : List (Nat × (List AVal → Heap → Option (AVal × Heap)))} {args : List AVal} {hp : Heap} {r : Option (AVal × Heap)} (k : g args hp = r) : tab ((f, g) :: t) f args hp = r := by
  simp only [tab, if_true]; exact k
theorem law_false (K : Oracle) (A : AVal) (q n : Int) (hA : A.immP = true) (h1 : K 62 [] [] = some (.bool true, [])) (h2 : K 63 [A] [] = some (.bool false, [])) : runBody K a_11 [A, .int .i64 q, .int .u8 n] [] = some (.bool true, []) := by
  cases A <;> simp at hA <;> (unfold a_11; simp [h1, h2])
theorem law_true (K : Oracle) (xs : List (List AVal)) (q n c1 c2 c3 : Int) (hn : IntKind.i64.wrap n = n) (h1 : K 62 [] [] = some (.bool true, [])) (h2 : K 63 [.imm 18 xs] [] = some (.bool true, [])) (h3 : K 64 [.imm 18 xs, .int .i64 q] [] = some (.int .i64 c1, []))
    (h4 : K 65 [.imm 18 xs, .int .i64 q, .agg [.int .i64 1, .int .i64 2], .int .i64 (-1)] [] = some (.int .i64 c1, [])) (h5 : K 66 [.imm 18 xs, .int .i64 q] [] = some (.int .i64 c2, []))
    (h6 : K 65 [.imm 18 xs, .int .i64 q, .agg [.int .i64 3, .int .i64 4], .int .i64 (-1)] [] = some (.int .i64 c2, [])) (h7 : K 67 [.imm 18 xs, .int .i64 q, .int .i64 n] [] = some (.int .i64 c3, []))
    (h8 : K 65 [.imm 18 xs, .int .i64 q, .agg [.int .i64 3, .int .i64 4], .int .i64 n] [] = some (.int .i64 c3, [])) : runBody K a_11 [.imm 18 xs, .int .i64 q, .int .u8 n] [] = some (.bool true, []) := by
  apply body_of
  unfold a_11
  dsimp only [List.cons_append, List.nil_append, List.replicate, List.length, Nat.sub]
  repeat (first
    | with_reducible refine goes_seq ?_
    | with_reducible refine then_normal ?_
    | with_reducible refine then_exit ?_
    | with_reducible refine then_ret ?_
    | with_reducible refine goes_region0 ?_
    | (with_reducible refine goes_region ?_; dsimp only [List.cons_append, List.nil_append, List.replicate, List.length])
    | with_reducible refine goes_skip ?_
    | with_reducible refine goes_exit ?_
    | with_reducible refine goes_ret ?_
    | with_reducible refine goes_block ?_
    | with_reducible refine blk_normal ?_
    | with_reducible refine blk_out ?_
    | with_reducible refine blk_ret ?_
    | (with_reducible refine blk_far ?_ ?_; (· rfl))
    | with_reducible refine ops_nil ?_
    | (with_reducible refine goes_true ?_ ?_; (· simp [h1, h2, h3, h4, h5, h6, h7, h8, hn]; done))
    | (with_reducible refine goes_false ?_ ?_; (· simp [h1, h2, h3, h4, h5, h6, h7, h8, hn]; done))
    | (with_reducible apply ops_pure; (· rfl); (· simp [h1, h2, h3, h4, h5, h6, h7, h8, hn]; rfl); (· dsimp only [List.set]; try rfl))
    | (with_reducible apply ops_off; (· simp; rfl); (· simp [h1, h2, h3, h4, h5, h6, h7, h8, hn]; done); (· dsimp only [setTmp, List.set]; try rfl))
    | (with_reducible apply ops_dead; (· simp; done); (· dsimp only [setTmp, List.set]; try rfl))
    | (with_reducible apply ops_on; (· simp [h1, h2, h3, h4, h5, h6, h7, h8, hn]; done); (· simp [h1, h2, h3, h4, h5, h6, h7, h8, hn]; exact ⟨rfl, rfl⟩); (· dsimp only [setTmp, List.set]; try rfl))
    | (with_reducible apply ops_eff; (· simp [h1, h2, h3, h4, h5, h6, h7, h8, hn]; exact ⟨rfl, rfl⟩); (· dsimp only [setTmp, List.set]; try rfl)))
  refine ⟨by simp, ?_⟩
  kernel_rfl

theorem law19 (l : List Job) (q : Int) (u : UInt8) : g_11 [.imm 18 (l.map Enc.cells), .int .i64 q, .int .u8 (u.toNat : Int)] [] = some (.bool true, []) := by
  obtain ⟨b, hb, hl⟩ := few l
  have hu := u.toNat_lt
  have w1 : IntKind.i64.wrap (u.toNat : Int) = u.toNat := wrap64 (by omega) (by omega)
  unfold g_11
  cases b with
  | false => exact law_false _ _ _ _ rfl (by (repeat refine tab_go rfl ?_); refine tab_got ?_; exact awake19) (by (repeat refine tab_go rfl ?_); refine tab_got ?_; exact hb)
  | true =>
    have hl := hl rfl
    have e1 : cnt (pR q 1 2 (-1)) l l.length = cnt (pW q) l l.length := by
      unfold cnt; congr 1; funext j; simp [pR, pW]
    have e2 : cnt (pR q 3 4 (-1)) l l.length = cnt (pH q) l l.length := by
      unfold cnt; congr 1; funext j; simp [pR, pH]
    have e3 : cnt (pR q 3 4 (u.toNat : Int)) l l.length = cnt (pO q u.toNat) l l.length := by
      have : ¬ ((u.toNat : Int) < 0) := by omega
      unfold cnt; congr 1; funext j; simp only [pR, pO, this, decide_false, Bool.false_or]; cases decide (j.queue = q) <;> cases decide (j.user = (u.toNat : Int)) <;> cases decide (j.state = 3) <;> cases decide (j.state = 4) <;> rfl
    refine law_true _ _ q _ (cnt (pW q) l l.length) (cnt (pH q) l l.length) (cnt (pO q u.toNat) l l.length) w1 ?_ ?_ ?_ ?_ ?_ ?_ ?_ ?_
    · (repeat refine tab_go rfl ?_); refine tab_got ?_; exact awake19
    · (repeat refine tab_go rfl ?_); refine tab_got ?_; exact hb
    · (repeat refine tab_go rfl ?_); refine tab_got ?_; exact waiting l hl q
    · rw [← e1]; (repeat refine tab_go rfl ?_); refine tab_got ?_; exact refCount l hl q 1 2 (-1)
    · (repeat refine tab_go rfl ?_); refine tab_got ?_; exact having l hl q
    · rw [← e2]; (repeat refine tab_go rfl ?_); refine tab_got ?_; exact refCount l hl q 3 4 (-1)
    · (repeat refine tab_go rfl ?_); refine tab_got ?_; exact of_ l hl q u.toNat
    · rw [← e3]; (repeat refine tab_go rfl ?_); refine tab_got ?_; exact refCount l hl q 3 4 u.toNat

end AM
namespace quotaCounts
open AM
theorem walk (x0 : List Job) (x1 : Int) (x2 : UInt8) (v0 v1 v2 : Value) (W : World) (h0 : V W (Lt W.heap.size) x0 v0) (h1 : V W (Lt W.heap.size) x1 v1) (h2 : V W (Lt W.heap.size) x2 v2) :
    Calls Try.prog 11 #[v0, v1, v2] W fun e w' => e = .returned (.bool true) ∧ Go.RowKit.Below W.heap.size W w' :=
  law_walk AM.ok_11 (args := [encV x0, encV x1, encV x2]) (AM.law19 x0 x1 x2) rfl fun j a v ha hv => by
    match j with
    | 0 => simp at ha hv; subst ha; subst hv; exact h0.vr (fun _ h => h) _
    | 1 => simp at ha hv; subst ha; subst hv; exact h1.vr (fun _ h => h) _
    | 2 => simp at ha hv; subst ha; subst hv; exact h2.vr (fun _ h => h) _
end quotaCounts
end Go.Proofs.Ytofboijlcjgnnaa
