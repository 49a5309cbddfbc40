/-
  The statement LotDraws about plain data.
-/
import Derived.Test.YtofboijlcjgnnaaLotM
import Derived.Test.YtofboijlcjgnnaaU64
import Derived.KernelRfl
set_option linter.unusedVariables false
set_option linter.unusedSimpArgs false
namespace Go.Proofs.Ytofboijlcjgnnaa
namespace NM
open AM
theorem loop_run {σ ω : Type} {f : σ → (σ → Option ω) → Option ω} {r : Option ω} (n : Nat) (hn : n < LOOPS) (s : Nat → σ) (hs : ∀ i, i < n → ∀ next, f (s i) next = next (s (i + 1))) (hend : ∀ next, f (s n) next = r) : LN LOOPS f (s 0) = r := by
  have key : ∀ m i, i ≤ n → n - i < m → loopN f m (s i) = r := by
    intro m
    induction m with
    | zero => intro i _ h; omega
    | succ m ih =>
      intro i hi hm
      simp only [loopN]
      rcases Nat.lt_or_ge i n with h | h
      · rw [hs i h]
        exact ih (i + 1) h (by omega)
      · have : i = n := by omega
        subst this
        exact hend _
  exact key LOOPS 0 (Nat.zero_le _) (by omega)
theorem loops_big : 4096 < LOOPS := by unfold LOOPS; omega
theorem awake48 : f49 = some true := by kernel_rfl
def turnI (x : Int) : Int :=
  let v2 := IntKind.wrap .u64 (((BitVec.ofInt 64 x ^^^ BitVec.ofInt 64 (IntKind.wrap .u64 (x * 2 ^ (min (Int.toNat 13) 64)))).toNat : Int))
  let v3 := IntKind.wrap .u64 (((BitVec.ofInt 64 v2 ^^^ BitVec.ofInt 64 (Int.fdiv v2 (2 ^ (min (Int.toNat 7) 64)))).toNat : Int))
  IntKind.wrap .u64 (((BitVec.ofInt 64 v3 ^^^ BitVec.ofInt 64 (IntKind.wrap .u64 (v3 * 2 ^ (min (Int.toNat 17) 64)))).toNat : Int))
theorem p_turn (x : Int) : f93 x = some (turnI x) := rfl
theorem u64_nonneg (x : Int) : 0 ≤ IntKind.wrap .u64 x := by
  simp only [IntKind.wrap, IntKind.signed, IntKind.bits]
  exact Int.emod_nonneg _ (by decide)
theorem u64_id {x : Int} (h0 : 0 ≤ x) (h1 : x ≤ 9223372036854775807) : IntKind.wrap .u64 x = x := by
  simp only [IntKind.wrap, IntKind.signed, IntKind.bits]
  exact Int.emod_eq_of_lt h0 (by omega)
theorem turn_nonneg (x : Int) : 0 ≤ turnI x := u64_nonneg _
def belowI (n : Int) (a : Int × Unit) : Int × ((Int × Unit) × Unit) := if n < 1 then (0, (a, ())) else ((Int.fdiv (turnI a.1) (2 ^ (min (Int.toNat 33) 64))) % n, ((turnI a.1, ()), ()))
theorem mod_eq (t n : Int) (ht : 0 ≤ t) (hn : 1 ≤ n) (hn2 : n ≤ 9223372036854775807) : IntKind.wrap .i64 (Int.tmod (Int.fdiv t (2 ^ (min (Int.toNat 33) 64))) (IntKind.wrap .u64 n)) = (Int.fdiv t (2 ^ (min (Int.toNat 33) 64))) % n := by
  have h0 : 0 ≤ Int.fdiv t (2 ^ (min (Int.toNat 33) 64)) := Int.fdiv_nonneg ht (by decide)
  rw [u64_id (by omega) hn2, Int.tmod_eq_emod_of_nonneg h0]
  have h1 := Int.emod_nonneg (Int.fdiv t (2 ^ (min (Int.toNat 33) 64))) (show n ≠ 0 by omega)
  have h2 := Int.emod_lt_of_pos (Int.fdiv t (2 ^ (min (Int.toNat 33) 64))) (show 0 < n by omega)
  exact wi (by omega) (by omega)
theorem p_Below (n : Int) (hn : n ≤ 9223372036854775807) (a : Int × Unit) : f52 n a = some (belowI n a) := by
  unfold f52 F52 belowI
  by_cases h : n < 1
  · simp [h]
  · simp only [h, decide_false, cond_false, if_false, p_turn, Option.bind_some]
    rw [mod_eq _ _ (turn_nonneg _) (by omega) hn, u64_id (by omega) hn]
    simp [show n ≠ 0 by omega]
theorem r_Below (n : Int) (hn : n ≤ 9223372036854775807) (a : Int × Unit) : f53 n a = some (belowI n a) := by
  rw [← p_Below n hn a]
  rfl
theorem below_lt (n : Int) (hn : 1 ≤ n) (a : Int × Unit) : 0 ≤ (belowI n a).1 ∧ (belowI n a).1 < n := by
  unfold belowI
  rw [if_neg (by omega)]
  exact ⟨Int.emod_nonneg _ (by omega), Int.emod_lt_of_pos _ (by omega)⟩
def holdI (n lo hi : Int) : Int := if n < lo then lo else if hi < n then hi else n
theorem p_Hold (n lo hi : Int) : f80 n lo hi = some (holdI n lo hi) := by
  unfold f80 F80 holdI
  by_cases h1 : n < lo <;> by_cases h2 : hi < n <;> simp [h1, h2]
theorem r_Hold (n lo hi : Int) : f16 n lo hi = some (holdI n lo hi) := by
  rw [← p_Hold]; rfl
theorem hold_in (n : Int) {lo hi : Int} (h : lo ≤ hi) : lo ≤ holdI n lo hi ∧ holdI n lo hi ≤ hi := by
  unfold holdI; split <;> (try split) <;> omega
theorem requests (k : Int) (hk : k ≤ 1073741824) (a : Int × Unit) : ∃ r, f96 k a = some r ∧ f94 k a = some r ∧ r.1.after = [] := by
  unfold f96 F96 f94 F94
  simp only [p_Below 8 (by decide), p_Below k (by omega), r_Below 8 (by decide), r_Below k (by omega), p_Below 2 (by decide), p_Below 3 (by decide), p_Below 4 (by decide), p_Below 6 (by decide), r_Below 2 (by decide), r_Below 3 (by decide), r_Below 4 (by decide), r_Below 6 (by decide), Option.bind_some]
  obtain ⟨b0, b1⟩ := below_lt 8 (by decide) a
  generalize hr : belowI 8 a = r2 at *
  have hc : r2.1 = 0 ∨ r2.1 = 1 ∨ r2.1 = 2 ∨ r2.1 = 3 ∨ r2.1 = 4 ∨ r2.1 = 5 ∨ r2.1 = 6 ∨ r2.1 = 7 := by omega
  rcases hc with h | h | h | h | h | h | h | h <;> simp only [h, Int.reduceEq, Int.reduceLE, decide_true, decide_false, cond_true, cond_false, Option.bind_some, Sum.elim_inl, Sum.elim_inr, Int.add_comm _ 1] <;> exact ⟨_, rfl, rfl, rfl⟩
abbrev Ev := Int × (Int × (Request × ((List Int) × (Int × (Bool × (Int × Bool))))))
theorem events (u k : Int) (a : Int × Unit) : ∃ r, f57 u k a = some r ∧ f56 u k a = some r ∧ r.1.2.2.1.after = [] ∧ r.1.2.2.2.1 = [] := by
  unfold f57 F57 f56 F56
  have hu := hold_in u (show (1 : Int) ≤ 8 by decide)
  have hk := hold_in k (show (1 : Int) ≤ 1073741824 by decide)
  have hm : ∀ kind user a, f95 kind user a = some ((kind, (user, (Request.mk 0 0 0 0 0 0 (Res.mk 0 0 0 0) 0 0 [] 0 0 0 0, ([], ((belowI 2 a).1, (decide ((belowI 4 (belowI 2 a).2.1).1 = 0), (0, false))))))), ((belowI 4 (belowI 2 a).2.1).2.1, ())) := fun kind user a => by
    unfold f95 F95
    simp only [p_Below 2 (by decide), p_Below 4 (by decide), Option.bind_some]
  simp only [p_Hold, r_Hold, hm, p_Below 12 (by decide), r_Below 12 (by decide), p_Below (holdI u 1 8) (by omega), r_Below (holdI u 1 8) (by omega), p_Below 2 (by decide), p_Below 3 (by decide), p_Below 4 (by decide), p_Below 6 (by decide), r_Below 2 (by decide), r_Below 3 (by decide), r_Below 4 (by decide), r_Below 6 (by decide), Option.bind_some]
  obtain ⟨b0, b1⟩ := below_lt 12 (by decide) a
  generalize hr : belowI 12 a = r3 at *
  obtain ⟨q, q1, q2, q3⟩ := requests (holdI k 1 1073741824) hk.2 (belowI (holdI u 1 8) r3.2.1).2.1
  have hc : r3.1 = 0 ∨ r3.1 = 1 ∨ r3.1 = 2 ∨ r3.1 = 3 ∨ r3.1 = 4 ∨ r3.1 = 5 ∨ r3.1 = 6 ∨ r3.1 = 7 ∨ r3.1 = 8 ∨ r3.1 = 9 ∨ r3.1 = 10 ∨ r3.1 = 11 := by omega
  rcases hc with h | h | h | h | h | h | h | h | h | h | h | h <;> simp only [h, Int.reduceEq, Int.reduceLE, decide_true, decide_false, cond_true, cond_false, Option.bind_some, q1, q2, Int.add_comm _ 1] <;> first | exact ⟨_, rfl, rfl, rfl, rfl⟩ | exact ⟨_, rfl, rfl, q3, rfl⟩
def evI (u k : Int) (a : Int × Unit) : Ev × ((Int × Unit) × Unit) := match f57 u k a with
  | some r => r
  | none => ((0, (0, (Request.mk 0 0 0 0 0 0 (Res.mk 0 0 0 0) 0 0 [] 0 0 0 0, ([], (0, (false, (0, false))))))), ((0, ()), ()))
theorem p_Event (u k : Int) (a : Int × Unit) : f57 u k a = some (evI u k a) := by
  obtain ⟨r, h, _⟩ := events u k a
  unfold evI; rw [h]
theorem r_Event (u k : Int) (a : Int × Unit) : f56 u k a = some (evI u k a) := by
  obtain ⟨r, h, h2, _⟩ := events u k a
  unfold evI; rw [h, h2]
theorem ev_after (u k : Int) (a : Int × Unit) : (evI u k a).1.2.2.1.after = [] ∧ (evI u k a).1.2.2.2.1 = [] := by
  obtain ⟨r, h, h2, h3⟩ := events u k a
  unfold evI; rw [h]; exact h3
theorem r_Same (e : Ev) (h1 : e.2.2.1.after = []) (h2 : e.2.2.2.1 = []) : f55 e e = some true := by
  have hr : f60 e.2.2.1 e.2.2.1 = some true := by
    unfold f60 F60
    simp only [decide_true, Bool.not_true, cond_false]
    refine loop_run 0 (by decide) (fun i => (((), (), (i : Int), ()), (e.2.2.1, e.2.2.1, ()))) (fun i hi => by omega) (fun next => ?_)
    simp [l60_0, h1, f99, F99]
  have hb : f36 [] [] = some true := by
    unfold f36 F36
    simp only [List.length_nil, decide_true, Bool.not_true, cond_false]
    refine loop_run 0 (by decide) (fun i => (((i : Int), ()), ())) (fun i hi => by omega) (fun next => ?_)
    simp [l36_0]
  unfold f55 F55
  simp [hr, h2, hb]
def stI (u k : Int) (a : Int × Unit) : Nat → Int × Unit
  | 0 => a
  | n + 1 => (evI u k (stI u k a n)).2.1
def evsI (u k : Int) (a : Int × Unit) (n : Nat) : List Ev := (List.range n).map fun i => (evI u k (stI u k a i)).1
theorem evs_succ (u k : Int) (a : Int × Unit) (n : Nat) : evsI u k a (n + 1) = evsI u k a n ++ [(evI u k (stI u k a n)).1] := by
  simp [evsI, List.range_succ]
theorem small_ok {n : Nat} (h : n ≤ 4096) : smallB n 224 = true := by
  have h1 : n * 224 ≤ 1099511627776 := Nat.le_trans (Nat.mul_le_mul_right 224 h) (by decide)
  have h2 : n ≤ 4294967296 := Nat.le_trans h (by decide)
  unfold smallB
  rw [decide_eq_true h1, decide_eq_true h2]
  rfl
theorem evs_len (u k : Int) (a : Int × Unit) (i : Nat) (h : i + 1 ≤ 4096) : (evsI u k a i).length + 1 ≤ 4096 := by
  have e : (evsI u k a i).length = i := by simp [evsI]
  rw [e]; exact h
theorem sc_step (u k r : Int) (a : Int × Unit) (hr : r ≤ 4096) (i : Nat) (hlt : (i : Int) < r) (next) : l54_1_0 f57 u k r next (i : Int) (stI u k a i) (evsI u k a i) = next (((), (), ((i + 1 : Nat) : Int), ()), (stI u k a (i + 1), evsI u k a (i + 1), ())) := by
  have hsm : smallB ((evsI u k a i).length + 1) 224 = true := small_ok (evs_len u k a i (by omega))
  have e : ((i + 1 : Nat) : Int) = (i : Int) + 1 := by omega
  have hw : IntKind.wrap .i64 ((i : Int) + 1) = (i : Int) + 1 := wi (by omega) (by omega)
  unfold l54_1_0
  rw [decide_eq_true hlt, p_Event, e, hw, evs_succ]
  simp only [cond_true, Option.bind_some]
  rw [hsm]
  rfl
theorem sc_end (u k : Int) (m : Nat) (b : Int × Unit) (l : List Ev) (next) : l54_1_0 f57 u k (m : Int) next (m : Int) b l = some (l, (b, ())) := by
  unfold l54_1_0
  rw [decide_eq_false (Int.lt_irrefl _)]
  rfl
theorem p_Script (n u k : Int) (a : Int × Unit) : f54_1 n u k a = some (evsI u k a (holdI n 0 4096).toNat, (stI u k a (holdI n 0 4096).toNat, ())) := by
  have hn := hold_in n (show (0 : Int) ≤ 4096 by decide)
  unfold f54_1 F54_1
  rw [p_Hold]
  simp only [Option.bind_some]
  generalize holdI n 0 4096 = r at *
  obtain ⟨m, rfl⟩ := Int.eq_ofNat_of_zero_le hn.1
  rw [Int.toNat_natCast]
  exact loop_run m (Nat.lt_of_le_of_lt (show m ≤ 4096 by omega) loops_big) (fun i => (((), (), (i : Int), ()), (stI u k a i, evsI u k a i, ()))) (fun i hi next => sc_step u k m a hn.2 i (by omega) next) (fun next => sc_end u k m _ _ next)
theorem _root_.Go.Proofs.Ytofboijlcjgnnaa.lotDraws.plain (seed : Int) (l : List Int) (hl : Rng.P l) (x : Int × Int × Int) : f9 seed l x = some true := by
  have hml : maxLen = 9223372036854775807 := rfl
  unfold f9 F9
  simp only [awake48, Option.bind_some, Bool.not_true, cond_false]
  by_cases h100 : 100 < (l.length : Int)
  · simp only [h100, decide_true, cond_true]
  · have hnew : ∃ a : Int × Unit, f50 seed = some ((), (a, ())) ∧ f51 seed = some ((), (a, ())) := by
      unfold f50 F50 f51 F51
      cases decide ((IntKind.wrap .u64 (seed + 88172645463325252)) = 0) <;> exact ⟨_, rfl, rfl⟩
    obtain ⟨a, ha, hb⟩ := hnew
    simp only [h100, decide_false, cond_false, ha, hb, Option.bind_some]
    rw [list_loop l (fun b z => (((), (), (), z, ()), (x, b, b, ()))) (fun b n => .inl (belowI n b).2.1) (fun b => some true) hl.1 ?_ ?_ a]
    · clear h100 hl ha hb
      induction l generalizing a with
      | nil => rfl
      | cons n l ih => exact ih _
    · intro b next
      simp only [l9_1, Int.lt_irrefl, decide_false, cond_false]
      by_cases hx : 100 < x.1
      · simp only [hx, decide_true, cond_true]
      · simp only [hx, decide_false, cond_false, p_Script, Option.bind_some]
        have hlen : (evsI x.2.1 x.2.2 b (holdI x.1 0 4096).toNat).length = (holdI x.1 0 4096).toNat := by simp [evsI]
        have hh : ((holdI x.1 0 4096).toNat : Int) = if x.1 > 0 then x.1 else 0 := by
          unfold holdI
          by_cases p : x.1 < 0
          · rw [if_pos p, if_neg (by omega)]; rfl
          · rw [if_neg p, if_neg (by omega)]
            by_cases q : x.1 > 0
            · rw [if_pos q]; omega
            · rw [if_neg q]; omega
        rw [hlen, hh]
        simp only [decide_true, Bool.not_true, cond_false]
        have hn := hold_in x.1 (show (0 : Int) ≤ 4096 by decide)
        generalize (holdI x.1 0 4096).toNat = m at *
        refine loop_run m (Nat.lt_of_le_of_lt (show m ≤ 4096 by omega) loops_big) (fun i => (((), (), (i : Int), ()), (stI x.2.1 x.2.2 b m, stI x.2.1 x.2.2 b i, ()))) (fun i hi next => ?_) (fun next => ?_)
        · have hlt : (i : Int) < ((evsI x.2.1 x.2.2 b m).length : Int) := by rw [hlen]; omega
          have hget : (evsI x.2.1 x.2.2 b m)[Int.toNat (i : Int)]? = some (evI x.2.1 x.2.2 (stI x.2.1 x.2.2 b i)).1 := by
            rw [Int.toNat_natCast, evsI, List.getElem?_map, List.getElem?_range hi]; rfl
          simp only [l9_0, hlt, decide_true, cond_true, show (0 : Int) ≤ (i : Int) by omega, hget, Option.bind_some, r_Event, r_Same _ (ev_after _ _ _).1 (ev_after _ _ _).2, Bool.not_true, cond_false, wi (show -9223372036854775808 ≤ (i : Int) + 1 by omega) (show (i : Int) + 1 ≤ 9223372036854775807 by omega)]
          rfl
        · have hlt : ¬ ((m : Int) < ((evsI x.2.1 x.2.2 b m).length : Int)) := by rw [hlen]; omega
          simp only [l9_0, hlt, decide_false, cond_false, p_Event, r_Event, Option.bind_some, r_Same _ (ev_after _ _ _).1 (ev_after _ _ _).2]
    · intro b z n next h0 h1 h2 h3
      have hr : I64 n := hl.2 n (List.mem_of_getElem? h2)
      simp only [l9_1, h0, h1, h2, h3, decide_true, cond_true, Option.bind_some, p_Below n hr.2, r_Below n hr.2, Bool.not_true, cond_false]
end NM
namespace lotDraws
open NM AM
theorem ints_self (l : List Int) : (NEnc.f l : List Int) = l := List.map_id' l
theorem walk (x0 : UInt64) (x1 : List Int) (x2 : Int × Int × Int) (v0 v1 v2 : Value) (W : World) (h0 : V W (Lt W.heap.size) x0 v0) (h1 : V W (Lt W.heap.size) x1 v1) (h2 : V W (Lt W.heap.size) x2 v2) :
    Calls Try.prog 9 #[v0, v1, v2] W fun e w' => e = .returned (.bool true) ∧ Go.RowKit.Below W.heap.size W w' :=
  nlaw_walk NM.ok9 (x := (NEnc.f x0, NEnc.f x1, NEnc.f x2, ())) (by rw [ints_self x1]; exact plain _ x1 (Rng.ok h1.1) x2) (arg_cons x0 (arg_cons x1 (arg_cons x2 arg_nil))) rfl fun j a v ha hv => by
    match j with
    | 0 => simp at ha hv; subst ha; subst hv; exact h0.vr (fun _ h => h) _
    | 1 => simp at ha hv; subst ha; subst hv; exact h1.vr (fun _ h => h) _
    | 2 => simp at ha hv; subst ha; subst hv; exact h2.vr (fun _ h => h) _
end lotDraws
end Go.Proofs.Ytofboijlcjgnnaa
