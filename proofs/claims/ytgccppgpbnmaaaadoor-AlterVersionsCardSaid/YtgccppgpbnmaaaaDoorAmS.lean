/-
  The abstract machine, walked: one law for each kind of code and operation.
-/
import Derived.Test.YtgccppgpbnmaaaaDoorAmR
set_option linter.unusedVariables false
namespace Go.Proofs.YtgccppgpbnmaaaaDoor
namespace AM

/-- the code comes to an end that meets Q -/
def Goes (K : Oracle) (N : Nat) (c : ACode) (st : St) (Q : AExit → St → Prop) : Prop := ∃ e s, exec K N c st = some (e, s) ∧ Q e s
def Ops (K : Oracle) (base : Nat) (os : List AOper) (st : St) (Q : St → Prop) : Prop := ∃ s, runOps K base os st = some s ∧ Q s

variable {K : Oracle} {N : Nat} {Q : AExit → St → Prop} {st : St}

theorem goes_seq {a b : ACode} (h : Goes K N a st fun e s => (e = .normal → Goes K N b s Q) ∧ (e ≠ .normal → Q e s)) : Goes K N (.seq a b) st Q := by
  obtain ⟨e, s, he, h1, h2⟩ := h
  cases e with
  | normal => obtain ⟨e', s', h3, h4⟩ := h1 rfl; exact ⟨e', s', by simp only [exec, he, h3], h4⟩
  | exit i => exact ⟨_, s, by simp only [exec, he], h2 (by simp)⟩
  | ret => exact ⟨_, s, by simp only [exec, he], h2 (by simp)⟩
  | goto i => exact ⟨_, s, by simp only [exec, he], h2 (by simp)⟩
theorem then_normal {P R : Prop} (h : P) : (AExit.normal = .normal → P) ∧ (AExit.normal ≠ .normal → R) := ⟨fun _ => h, fun h => absurd rfl h⟩
theorem then_exit {i : Nat} {P R : Prop} (h : R) : (AExit.exit i = .normal → P) ∧ (AExit.exit i ≠ .normal → R) := ⟨fun h => (by cases h), fun _ => h⟩
theorem then_ret {P R : Prop} (h : R) : (AExit.ret = .normal → P) ∧ (AExit.ret ≠ .normal → R) := ⟨fun h => (by cases h), fun _ => h⟩
theorem then_goto {i : Nat} {P R : Prop} (h : R) : (AExit.goto i = .normal → P) ∧ (AExit.goto i ≠ .normal → R) := ⟨fun h => (by cases h), fun _ => h⟩
theorem goes_skip (h : Q .normal st) : Goes K N .skip st Q := ⟨_, _, rfl, h⟩
theorem goes_exit {i : Nat} (h : Q (.exit i) st) : Goes K N (.exit i) st Q := ⟨_, _, rfl, h⟩
theorem goes_ret (h : Q .ret st) : Goes K N .ret st Q := ⟨_, _, rfl, h⟩
theorem goes_label (h : Q .normal st) : Goes K N .label st Q := ⟨_, _, rfl, h⟩
theorem goes_goto {i : Nat} (h : Q (.goto i) st) : Goes K N (.goto i) st Q := ⟨_, _, rfl, h⟩
theorem goes_region {ids : Nat} {ops : List AOper} {tm : List AVal} {hp : Heap} {k : Nat} (h : Ops K hp.length ops ⟨tm, hp ++ List.replicate ids .free, k⟩ fun s => Q .normal s) : Goes K N (.region ids ops) ⟨tm, hp, k⟩ Q := by
  obtain ⟨s, hs, hq⟩ := h
  exact ⟨_, s, by simp only [exec, hs, Option.map_some], hq⟩
theorem goes_region0 {ops : List AOper} {tm : List AVal} {hp : Heap} {k : Nat} (h : Ops K hp.length ops ⟨tm, hp, k⟩ fun s => Q .normal s) : Goes K N (.region 0 ops) ⟨tm, hp, k⟩ Q :=
  goes_region (by rw [List.replicate_zero, List.append_nil]; exact h)
theorem goes_true {c : Opd} {a b : ACode} {tm : List AVal} {hp : Heap} {k : Nat} (hc : look tm c = .bool true) (h : Goes K N a ⟨tm, hp, k⟩ Q) : Goes K N (.cond c a b) ⟨tm, hp, k⟩ Q := by
  obtain ⟨e, s, he, hq⟩ := h
  exact ⟨e, s, by simp only [exec, hc, if_true, he], hq⟩
theorem goes_false {c : Opd} {a b : ACode} {tm : List AVal} {hp : Heap} {k : Nat} (hc : look tm c = .bool false) (h : Goes K N b ⟨tm, hp, k⟩ Q) : Goes K N (.cond c a b) ⟨tm, hp, k⟩ Q := by
  obtain ⟨e, s, he, hq⟩ := h
  exact ⟨e, s, by simp only [exec, hc, Bool.false_eq_true, if_false, he], hq⟩
theorem goes_cond {c : Opd} {a b : ACode} {tm : List AVal} {hp : Heap} {k : Nat} {t : Bool} (hc : look tm c = .bool t) (h1 : t = true → Goes K N a ⟨tm, hp, k⟩ Q) (h2 : t = false → Goes K N b ⟨tm, hp, k⟩ Q) : Goes K N (.cond c a b) ⟨tm, hp, k⟩ Q := by
  cases t with
  | true => exact goes_true hc (h1 rfl)
  | false => exact goes_false hc (h2 rfl)
theorem goes_block {i : Nat} {c : ACode} (h : Goes K N c st fun e s => if e = .exit i then Q .normal s else Q e s) : Goes K N (.block i c) st Q := by
  obtain ⟨e, s, he, hq⟩ := h
  by_cases hi : e = .exit i
  · rw [if_pos hi] at hq
    exact ⟨.normal, s, by simp only [exec, he, hi, if_true], hq⟩
  · rw [if_neg hi] at hq
    refine ⟨e, s, ?_, hq⟩
    cases e with
    | exit j => have : ¬ j = i := fun e => hi (by rw [e])
                simp only [exec, he, if_neg this]
    | normal => simp only [exec, he]
    | ret => simp only [exec, he]
    | goto j => simp only [exec, he]
theorem blk_out {i : Nat} {P R : Prop} (h : P) : if AExit.exit i = .exit i then P else R := by rw [if_pos rfl]; exact h
theorem blk_far {i j : Nat} {P R : Prop} (hj : (j == i) = false) (h : R) : if AExit.exit j = .exit i then P else R := by
  rw [if_neg]; exact h
  intro e; cases e; simp at hj
theorem blk_normal {i : Nat} {P R : Prop} (h : R) : if AExit.normal = .exit i then P else R := by rw [if_neg (by simp)]; exact h
theorem blk_ret {i : Nat} {P R : Prop} (h : R) : if AExit.ret = .exit i then P else R := by rw [if_neg (by simp)]; exact h
theorem blk_goto {i j : Nat} {P R : Prop} (h : R) : if AExit.goto j = .exit i then P else R := by rw [if_neg (by simp)]; exact h
theorem goes_loop {keep : List Nat} {c : ACode} {e : AExit} {s : St} (h : iter keep (exec K N c) N st = some (e, s)) (hq : Q e s) : Goes K N (.loop keep c) st Q := ⟨e, s, by simp only [exec, h], hq⟩

variable {base : Nat} {os : List AOper} {R : St → Prop} {tm tm' : List AVal} {hp hp' : Heap} {k d a : Nat} {sees : Sees} {op : AOp} {v : AVal}
theorem ops_nil (h : R st) : Ops K base [] st R := ⟨st, rfl, h⟩
theorem ops_pure (hpure : isPure op = true) (h : pureOp op (look tm) = some v) (hset : tm.set d v = tm') (hk : Ops K base os ⟨tm', hp, k⟩ R) : Ops K base (⟨some d, op, none, a, sees⟩ :: os) ⟨tm, hp, k⟩ R := by
  obtain ⟨s, hs, hq⟩ := hk
  have ht : tightOk base ⟨some d, op, none, a, sees⟩ (look tm) hp = true := by
    have : AOp.cls op = 0 := by unfold AOp.cls; rw [if_pos hpure]
    unfold tightOk
    simp only [this]
    rfl
  exact ⟨s, by simp only [runOps, runOp, effOp, ht, eff0, hpure, if_true, h, Option.map_some, setTmp, hset, Option.bind_some, hs], hq⟩
theorem ops_eff {dst : Option Nat} (h : effOp K base ⟨dst, op, none, a, sees⟩ (look tm) hp = some (v, hp')) (hset : setTmp tm dst v = tm') (hk : Ops K base os ⟨tm', hp', k⟩ R) : Ops K base (⟨dst, op, none, a, sees⟩ :: os) ⟨tm, hp, k⟩ R := by
  obtain ⟨s, hs, hq⟩ := hk
  exact ⟨s, by simp only [runOps, runOp, h, Option.map_some, hset, Option.bind_some, hs], hq⟩
theorem ops_on {dst : Option Nat} {t : Nat} {b : Bool} (hg : tm.getD t .undef = .bool b) (h : effOp K base ⟨dst, op, some (t, b), a, sees⟩ (look tm) hp = some (v, hp')) (hset : setTmp tm dst v = tm') (hk : Ops K base os ⟨tm', hp', k⟩ R) : Ops K base (⟨dst, op, some (t, b), a, sees⟩ :: os) ⟨tm, hp, k⟩ R := by
  obtain ⟨s, hs, hq⟩ := hk
  exact ⟨s, by simp only [runOps, runOp, hg, if_true, h, Option.map_some, hset, Option.bind_some, hs], hq⟩
theorem ops_off {dst : Option Nat} {t : Nat} {b c : Bool} (hg : tm.getD t .undef = .bool c) (hbc : (c == b) = false) (hset : setTmp tm dst (.tup []) = tm') (hk : Ops K base os ⟨tm', hp, k⟩ R) : Ops K base (⟨dst, op, some (t, b), a, sees⟩ :: os) ⟨tm, hp, k⟩ R := by
  obtain ⟨s, hs, hq⟩ := hk
  have : ¬ c = b := by simpa using hbc
  exact ⟨s, by simp only [runOps, runOp, hg, if_neg this, hset, Option.bind_some, hs], hq⟩
theorem ops_dead {dst : Option Nat} {t : Nat} {b : Bool} (hg : tm.getD t .undef = .tup []) (hset : setTmp tm dst (.tup []) = tm') (hk : Ops K base os ⟨tm', hp, k⟩ R) : Ops K base (⟨dst, op, some (t, b), a, sees⟩ :: os) ⟨tm, hp, k⟩ R := by
  obtain ⟨s, hs, hq⟩ := hk
  exact ⟨s, by simp only [runOps, runOp, hg, hset, Option.bind_some, hs], hq⟩

/-- a body's run -/
theorem body_of {f : AFunc} {args : List AVal} {hp : Heap} {r : AVal × Heap} (h : Goes K LOOPS f.code ⟨args ++ List.replicate (f.ntmps - args.length) .undef, hp, hp.length⟩ fun e s => (e = .normal ∨ e = .ret) ∧ leave f s = some r) : runBody K f args hp = some r := by
  obtain ⟨e, s, he, h1, h2⟩ := h
  unfold runBody
  rw [he]
  rcases h1 with rfl | rfl <;> exact h2
/-- a round -/
theorem round_of {keep : List Nat} {c : ACode} {s' : St} (h : Goes K N c st fun e s => e = .normal ∧ norm keep s = some s') : roundN keep (exec K N c) st = some s' := by
  obtain ⟨e, s, he, rfl, h2⟩ := h
  unfold roundN
  rw [he]; exact h2

/-- a loop of m rounds at most; each round goes on or ends the loop -/
theorem goes_upto {keep : List Nat} {c : ACode} {H : Nat → St} (p : Nat → Bool) (m : Nat) (h0 : norm keep st = some (H 0)) (hN : m < N)
    (step : ∀ k, k < m → p k = true → roundN keep (exec K N c) (H k) = some (H (k + 1)))
    (bad : ∀ k, k < m → (∀ j, j < k → p j = true) → p k = false → Goes K N c (H k) fun e s => e ≠ .normal ∧ Q e s)
    (last : (∀ k, k < m → p k = true) → Goes K N c (H m) fun e s => e ≠ .normal ∧ Q e s) : Goes K N (.loop keep c) st Q := by
  by_cases hall : ∀ k, k < m → p k = true
  · obtain ⟨e, s, he, hn, hq⟩ := last hall
    exact goes_loop (iter_upto h0 (fun k hk => step k hk (hall k hk)) he hn hN) hq
  · have hex : ∃ k, k < m ∧ p k = false ∧ ∀ j, j < k → p j = true := by
      have : ∃ k, k < m ∧ p k = false := by
        apply Classical.byContradiction
        intro h
        exact hall fun k hk => by
          cases hp : p k with
          | true => rfl
          | false => exact absurd ⟨k, hk, hp⟩ h
      obtain ⟨k, hk, hp⟩ := this
      induction k using Nat.strongRecOn with
      | ind k ih =>
        by_cases hj : ∀ j, j < k → p j = true
        · exact ⟨k, hk, hp, hj⟩
        · apply Classical.byContradiction
          intro hno
          refine hj fun j hjk => ?_
          cases hpj : p j with
          | true => rfl
          | false => exact absurd (ih j hjk (by omega) hpj) hno
    obtain ⟨k, hk, hp, hj⟩ := hex
    obtain ⟨e, s, he, hn, hq⟩ := bad k hk hj hp
    exact goes_loop (iter_upto h0 (fun j hjk => step j (by omega) (hj j hjk)) he hn (by omega)) hq

end AM
end Go.Proofs.YtgccppgpbnmaaaaDoor
