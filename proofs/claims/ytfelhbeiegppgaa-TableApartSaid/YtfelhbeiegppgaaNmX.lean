/-
  Functions of the library whose plain forms need a proof by hand: copies of slices.
-/
import Derived.Test.YtfelhbeiegppgaaNmR
import Derived.Test.YtfelhbeiegppgaaProg
import Derived.WalkKit
import Derived.LoopTactic
import Derived.Lib.Hide
set_option linter.unusedVariables false
namespace Go.Proofs.Ytfelhbeiegppgaa
namespace NM
open AM Go.RowKit

@[reducible] def sigC (t : Ty) : Sig := ⟨.cons (.v (.list t)) .nil, [], (.slw 0 (ops t).size, [.typed t]), []⟩
/-- the copy of an empty slice is empty -/
def emptyF {α : Type} (xs : List α) : Option (Unit × (List α × Unit)) := match xs with
  | [] => some ((), ([], ()))
  | _ :: _ => none
def cloneF {α : Type} (F : List α → Option (Unit × (List α × Unit))) (xs : List α) : Option (Unit × (List α × Unit)) := match xs with
  | [] => some ((), ([], ()))
  | x :: l => F (x :: l)

theorem NOk.clone {P : Program} {f : Nat} {t : Ty} {F : List (den t) → Option (Unit × (List (den t) × Unit))} (h : NOk P ⟨f, sigC t, fun x _ => F x.1⟩) (he : NOk P ⟨f, sigC t, fun x _ => emptyF x.1⟩) : NOk P ⟨f, sigC t, fun x _ => cloneF F x.1⟩ := by
  refine ⟨h.1, h.2.1, fun x hh y hy args ahp ha hb => ?_⟩
  obtain ⟨xs, u⟩ := x
  cases xs with
  | nil => exact he.2.2 ([], u) hh y hy args ahp ha hb
  | cons z zs => exact h.2.2 (z :: zs, u) hh y hy args ahp ha hb

theorem clone_empty {P : Program} {f : Nat} (t : Ty) (hent : Enters P f) (h : ∀ (A : Option Addr) (c : Nat) (w : World), Calls P f #[.slice A 0 c] w fun e w' => ∃ A', e = .returned (.slice A' 0 0) ∧ Below w.heap.size w w') : NOk P ⟨f, sigC t, fun x _ => emptyF x.1⟩ := by
  refine ⟨hent, rfl, fun x hh y hy args ahp ha hb => ?_⟩
  obtain ⟨xs, u⟩ := x
  cases xs with
  | cons z zs => cases hy
  | nil =>
    cases hy
    intro μ w S cargs r0 hl hv
    have e0 : ahp = [] := A2.nil_inv hb
    subst e0
    simp only [puts, put, putV, Ty.isAgg] at ha
    obtain ⟨a, as', rfl, h1, h2⟩ := ha.cons_inv
    rw [h2.nil_inv] at hl hv
    obtain ⟨v, rfl⟩ : ∃ v, cargs = #[v] := by
      have : cargs.size = 1 := by simpa using hl.symm
      exact ⟨cargs[0], by apply Array.ext (by simp [this]); intro i h3 h4; have : i = 0 := by omega
                          subst this; simp⟩
    have hva := hv 0 a v rfl rfl
    have hsl : ∃ A c, v = .slice A 0 c := by
      have h1' : RI (.lst t []) a := (RT.v h1).lst_inv
      rcases h1'.lst_inv with ⟨ys, rfl, hy⟩ | ⟨rfl, _⟩
      · rw [hy.nil_inv] at hva
        cases hva with
        | imm _ _ h => cases h with
          | imm _ _ A cap g i1 i2 i3 i4 i5 => exact ⟨A, cap, rfl⟩
      · obtain ⟨A, rfl⟩ := hva.zsl_inv
        exact ⟨A, 0, rfl⟩
    obtain ⟨A, c, rfl⟩ := hsl
    refine (h A c w).mono fun e w' ⟨A', he, hbel⟩ => ?_
    refine ⟨_, fun b => if b = 0 then .void else .free, S, he, ?_, ?_, ?_, Nat.zero_le _, fun b hb => absurd hb (Nat.not_lt_zero _)⟩
    · refine ⟨fun b k hbk => ?_, fun b hbk => ?_, fun b hbk => ?_, fun b b' m n n' e e' hm => ?_, fun m ho => ?_, fun m hm => Nat.lt_of_lt_of_le (r0.inS m hm) hbel.size, r0.gl.mono (fun m hm => hbel.block m (r0.inS m hm)) (fun _ h => h)⟩
      · cases b with
        | zero => simp [yB, outB, canH, canS, Heap.get] at hbk; subst hbk; rfl
        | succ b => simp [yB, outB, canH, Heap.get] at hbk
      · cases b with
        | zero => simp [yB, outB, canH, canS, Heap.get] at hbk
        | succ b => exact .inl (by simp)
      · cases b with
        | zero => simp [yB, outB, canH, canS, Heap.isFree] at hbk
        | succ b => simp
      · split at hm <;> cases hm
      · obtain ⟨b, n, e, hb⟩ := ho
        simp only at hb
        split at hb <;> cases hb
    · refine ⟨hbel.os, hbel.tape, hbel.output, hbel.size, fun m hm ho => hbel.block m hm, fun _ h => h, fun m hm => .inl hm, fun m ho => ?_⟩
      obtain ⟨b, n, e, hb⟩ := ho
      simp only at hb
      split at hb <;> cases hb
    · have : yA (.slw 0 (ops t).size, [HS.typed t]) [] ((), (([] : List (den t)), ())) = .sl 0 0 0 (ops t).size := by
        simp [yA, outA, can, lensOf, putH, putS, nget, NBlk.len]
      show VR _ w' S (yA (.slw 0 (ops t).size, [HS.typed t]) [] ((), (([] : List (den t)), ()))) _
      rw [this]
      refine .sl _ _ _ _ _ ?_
      exact ⟨rfl, rfl, A', rfl⟩

/- functions that call themselves -/
def RDEEP : Nat := 1000000
def fixN {α : Type} (F : α → α) (z : α) : Nat → α
  | 0 => z
  | n + 1 => F (fixN F z n)
theorem enters_of {P : Program} {f : Nat} {fn : Func} {nf : NFunc} (hf : P.funcs[f]? = some fn) (hc : chkNF P fn nf = true) : Enters P f := by
  refine ⟨fn, hf, ?_, ?_⟩
  · unfold chkNF at hc
    simp only [Bool.and_eq_true, Bool.not_eq_true'] at hc
    exact hc.1.2
  · unfold chkNF at hc
    simp only [Bool.and_eq_true] at hc
    cases hb : fn.body with
    | none => rw [hb] at hc; cases hc.2
    | some c => rfl
theorem NOk.fix {P : Program} {f : Nat} {s : Sig} (G : Nat → s.args.den → denH s.heap → Option s.den) (he : Enters P f) (hs : sigGood s = true) (h0 : ∀ x h, G 0 x h = none) (hn : ∀ n, NOk P ⟨f, s, G n⟩ → NOk P ⟨f, s, G (n + 1)⟩) (n : Nat) : NOk P ⟨f, s, G n⟩ := by
  induction n with
  | zero =>
    refine ⟨he, hs, fun x h y hy => ?_⟩
    have hy : G 0 x h = some y := hy
    rw [h0] at hy
    cases hy
  | succ n ih => exact hn n ih
end NM
end Go.Proofs.Ytfelhbeiegppgaa
