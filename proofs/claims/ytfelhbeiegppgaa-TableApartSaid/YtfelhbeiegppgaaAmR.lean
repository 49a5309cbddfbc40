/-
  How the abstract machine is run by simp, and loops.
-/
import Derived.Test.YtfelhbeiegppgaaAmQ
set_option linter.unusedVariables false
namespace Go.Proofs.Ytfelhbeiegppgaa
namespace AM

theorem pureOp_move (ρ : Opd → AVal) (x : Opd) : pureOp (.move x) ρ =
    (some (ρ x)) := rfl
theorem pureOp_pick (ρ : Opd → AVal) (c : Opd) (a : Opd) (b : Opd) : pureOp (.pick c a b) ρ =
    (match ρ c with | .bool t => some (if t then ρ a else ρ b) | _ => none) := rfl
theorem pureOp_build (ρ : Opd → AVal) (zero : List AVal) (parts : List (Nat × Nat × Opd)) : pureOp (.build zero parts) ρ =
    ((fillP ρ zero parts).map .agg) := rfl
theorem pureOp_nilCheck (ρ : Opd → AVal) (x : Opd) : pureOp (.nilCheck x) ρ =
    (match ρ x with | .ptr b i f => some (.ptr b i f) | .iptr cs o => some (.iptr cs o) | .fn f c => some (.fn f c) | _ => none) := rfl
theorem pureOp_bin (ρ : Opd → AVal) (op : BinOp) (x : Opd) (y : Opd) : pureOp (.bin op x y) ρ =
    (binop op (ρ x) (ρ y)) := rfl
theorem pureOp_eqB (ρ : Opd → AVal) (neg : Bool) (x : Opd) (y : Opd) : pureOp (.eqB neg x y) ρ =
    (match ρ x, ρ y with | .bool a, .bool b => some (.bool (if neg then !(a == b) else a == b)) | _, _ => none) := rfl
theorem pureOp_eqP (ρ : Opd → AVal) (neg : Bool) (x : Opd) (y : Opd) : pureOp (.eqP neg x y) ρ =
    ((eqPtr (ρ x) (ρ y)).map fun r => .bool (if neg then !r else r)) := rfl
theorem pureOp_eqI (ρ : Opd → AVal) (neg : Bool) (x : Opd) (y : Opd) : pureOp (.eqI neg x y) ρ =
    ((eqIface (ρ x) (ρ y)).map fun r => .bool (if neg then !r else r)) := rfl
theorem pureOp_eqAgg (ρ : Opd → AVal) (neg : Bool × List CK) (x : Opd) (y : Opd) : pureOp (.eqAgg neg x y) ρ =
    (match ρ x, ρ y with
    | .agg a, .agg b => (cellsEq neg.2 a b).map fun r => .bool (if neg.1 then !r else r)
    | _, _ => none) := rfl
theorem pureOp_un (ρ : Opd → AVal) (op : UnOp) (x : Opd) : pureOp (.un op x) ρ =
    (unop op (ρ x)) := rfl
theorem pureOp_conv (ρ : Opd → AVal) (k : IntKind) (x : Opd) : pureOp (.conv k x) ρ =
    (match ρ x with | .int _ n => some (.int k (k.wrap n)) | _ => none) := rfl
theorem pureOp_slice (ρ : Opd → AVal) (el : Nat) (x : Opd) (lo : Option Opd) (hi : Option Opd) (mx : Option Opd) : pureOp (.slice el x lo hi mx) ρ =
    (
    match bound ρ lo 0 with
    | none => none
    | some l =>
      match optIdx ρ hi, optIdx ρ mx with
      | some h, some m => sliceVal el (ρ x) l h m
      | _, _ => none) := rfl
theorem pureOp_sliceStr (ρ : Opd → AVal) (x : Opd) (lo : Option Opd) (hi : Option Opd) : pureOp (.sliceStr x lo hi) ρ =
    (match ρ x with
    | .str s => match bound ρ lo 0, bound ρ hi s.length with
      | some l, some h => if l ≤ h ∧ h ≤ s.length then some (.str ((s.take h).drop l)) else none
      | _, _ => none
    | _ => none) := rfl
theorem pureOp_fieldAddr (ρ : Opd → AVal) (off : Nat) (x : Opd) : pureOp (.fieldAddr off x) ρ =
    (match ρ x with | .ptr b i f => some (.ptr b i (f + off)) | .iptr cs o => some (.iptr cs (o + off)) | _ => none) := rfl
theorem pureOp_field (ρ : Opd → AVal) (agg : Bool) (off : Nat) (n : Nat) (x : Opd) : pureOp (.field agg off n x) ρ =
    (match ρ x with | .agg cs => partOf agg cs off n | _ => none) := rfl
theorem pureOp_indexSl (ρ : Opd → AVal) (e : Nat) (x : Opd) (i : Opd) : pureOp (.indexSl e x i) ρ =
    (match ρ x, idxNat (ρ i) with
    | .imm e' xs, some k => if e' = e then (xs[k]?).map fun c => .iptr c 0 else none
    | .sl b off len e', some k => if k < len ∧ e' = e then some (.ptr b (off + k) 0) else none
    | _, _ => none) := rfl
theorem pureOp_indexArr (ρ : Opd → AVal) (len : Nat) (e : Nat) (x : Opd) (i : Opd) : pureOp (.indexArr len e x i) ρ =
    (match ρ x, idxNat (ρ i) with
    | .ptr b j f, some k => if k < len then some (.ptr b j (f + k * e)) else none
    | .iptr cs o, some k => if k < len then some (.iptr cs (o + k * e)) else none
    | _, _ => none) := rfl
theorem pureOp_indexVal (ρ : Opd → AVal) (agg : Bool) (len : Nat) (e : Nat) (x : Opd) (i : Opd) : pureOp (.indexVal agg len e x i) ρ =
    (match ρ x, idxNat (ρ i) with
    | .agg cs, some k => if k < len then partOf agg cs (k * e) e else none
    | _, _ => none) := rfl
theorem pureOp_indexStr (ρ : Opd → AVal) (x : Opd) (i : Opd) : pureOp (.indexStr x i) ρ =
    (match ρ x, idxNat (ρ i) with
    | .str s, some k => match s[k]? with | some c => some (.int .u8 (c.toNat : Int)) | none => none
    | _, _ => none) := rfl
theorem pureOp_extract (ρ : Opd → AVal) (x : Opd) (i : Nat) : pureOp (.extract x i) ρ =
    (match ρ x with | .tup vs => vs[i]? | _ => none) := rfl
theorem pureOp_makeFunc (ρ : Opd → AVal) (f : Nat) (cap : List Opd) : pureOp (.makeFunc f cap) ρ =
    (if (cap.map ρ).all AVal.cellB = true then some (.fn f (cap.map ρ)) else none) := rfl
theorem pureOp_len (ρ : Opd → AVal) (x : Opd) : pureOp (.len x) ρ =
    (match lenVal (ρ x) with | some n => some (.int .i64 (n : Int)) | none => none) := rfl
theorem pureOp_lenStr (ρ : Opd → AVal) (x : Opd) : pureOp (.lenStr x) ρ =
    (match ρ x with | .str s => some (.int .i64 s.length) | _ => none) := rfl
theorem pureOp_minmax (ρ : Opd → AVal) (isMax : Bool) (x : Opd) (y : Opd) : pureOp (.minmax isMax x y) ρ =
    (match ρ x, ρ y with
    | .int k a, .int k' b => if k = k' then some (.int k (if isMax then (if b > a then b else a) else (if b < a then b else a))) else none
    | _, _ => none) := rfl

theorem pureOp_flt (ρ : Opd → AVal) (op : FOp) (x y : Opd) : pureOp (.flt op x y) ρ = fop op (ρ x) (ρ y) := rfl
attribute [simp] pureOp_flt pureOp_move pureOp_pick pureOp_build pureOp_nilCheck pureOp_bin pureOp_eqB pureOp_eqP pureOp_eqI pureOp_eqAgg pureOp_un pureOp_conv pureOp_slice pureOp_sliceStr pureOp_fieldAddr pureOp_field pureOp_indexSl pureOp_indexArr pureOp_indexVal pureOp_indexStr pureOp_extract pureOp_makeFunc pureOp_len pureOp_lenStr pureOp_minmax
attribute [simp] runBody exec runOps runOp effOp isPure isNew newOp look binop binInt isShift setTmp leave resultsOf resOf viewT viewV viewP reach reachOnce addNew alive nodupB packHeap
  AVal.renT AVal.renV AVal.renC AVal.renP DEEP AVal.immP AVal.immC AVal.cellB AVal.bareC AVal.bareV AVal.bareT AVal.ownT AVal.ownV AVal.ownC AVal.ownP Heap.get Heap.isFree allOn allOf index kill settle storeVal loadVal loadCells
  putAt cellsOf fillP fillS partOf idxNat bound optIdx sliceVal lenVal unop cellEq cellsEq eqPtr eqIface binStr appended rowsFlat settleRows smallB notIn appendVal chunks sliceArrVal norm backTo Slot.ren layBack argView visible callVal seesB
  Blk.owns Blk.ren tab List.zipIdx

theorem iter_succ (keep : List Nat) (f : St → Option (AExit × St)) (n : Nat) (st : St) : iter keep f (n + 1) st = match norm keep st with
    | some s => match f s with
      | some (.normal, s') => iter keep f n s'
      | r => r
    | none => none := by
  cases h : norm keep st with
  | none => simp only [iter, h]
  | some s =>
    simp only [iter, h]
    cases f s with
    | none => rfl
    | some p => obtain ⟨e, s'⟩ := p; cases e <;> rfl

/-- a round of a loop, up to the next round's head -/
def roundN (keep : List Nat) (f : St → Option (AExit × St)) (s : St) : Option St := match f s with
  | some (.normal, s') => norm keep s'
  | _ => none

/-- a loop of so many rounds -/
theorem iter_upto {keep : List Nat} {f : St → Option (AExit × St)} {H : Nat → St} {m N : Nat} {r : AExit × St} {st0 : St} (h0 : norm keep st0 = some (H 0)) (h1 : ∀ k, k < m → roundN keep f (H k) = some (H (k + 1))) (h2 : f (H m) = some r) (hr : r.1 ≠ .normal) (hN : m < N) :
    iter keep f N st0 = some r := by
  have key : ∀ (d k N : Nat) (st : St), k + d = m → d < N → norm keep st = some (H k) → iter keep f N st = some r := by
    intro d
    induction d with
    | zero =>
      intro k N st hk hN h0
      obtain ⟨N, rfl⟩ : ∃ M, N = M + 1 := ⟨N - 1, by omega⟩
      have : k = m := by omega
      subst this
      rw [iter_succ, h0]
      simp only [h2]
      obtain ⟨e, s⟩ := r
      cases e with
      | normal => exact absurd rfl hr
      | _ => rfl
    | succ d ih =>
      intro k N st hk hN h0
      obtain ⟨N, rfl⟩ : ∃ M, N = M + 1 := ⟨N - 1, by omega⟩
      have h := h1 k (by omega)
      unfold roundN at h
      rw [iter_succ, h0]
      simp only
      split at h
      · rename_i s' hs
        exact ih (k + 1) N s' (by omega) (by omega) h
      · cases h
  exact key m 0 N st0 (by omega) hN h0

theorem loops_big {n : Nat} (h : n ≤ 18446744073709551615) : n < LOOPS := by unfold LOOPS; omega

theorem wrap64 {x : Int} (h1 : -9223372036854775808 ≤ x) (h2 : x ≤ 9223372036854775807) : IntKind.i64.wrap x = x := by
  simp [IntKind.wrap, IntKind.bits, IntKind.signed]; omega

end AM
end Go.Proofs.Ytfelhbeiegppgaa
