/-
  stat.Text at its chapter's example: which numbers a tally has, and that they are right, by the abstract machine; the text by the kit's walk.
-/
import Derived.Test.YtfelhbeiegppgaaDoorNBuild
import Derived.Test.YtfelhbeiegppgaaDoorShelf
import Derived.Test.YtfelhbeiegppgaaDoorCodeStat
import Derived.Test.YtfelhbeiegppgaaDoorNmX
import Derived.LoopTactic
import Derived.OneCell
set_option linter.unusedVariables false
set_option linter.unusedSimpArgs false
namespace Go.Proofs.YtfelhbeiegppgaaDoor
open Go Go.RowKit AM
namespace Stat
def tz : List Int := [1, 0, 0, 1, 0, 0, 0, 1, 0, 0, 0, 0, 0, 0, 0, 0, 0, 0, 0]
def tzA : List AVal := tz.map (.int .i64)
def tzV : List Value := tz.map (.int .i64)
def ptrs (m : Nat) : List Value := [.pointer (some ⟨m, 0, none⟩), .pointer (some ⟨m, 1, none⟩), .pointer (some ⟨m, 2, none⟩), .pointer (some ⟨m, 3, none⟩), .pointer (some ⟨m, 4, none⟩), .pointer (some ⟨m, 5, none⟩), .pointer (some ⟨m, 6, none⟩), .pointer (some ⟨m, 7, none⟩), .pointer (some ⟨m, 8, none⟩), .pointer (some ⟨m, 9, none⟩), .pointer (some ⟨m, 10, none⟩), .pointer (some ⟨m, 11, none⟩), .pointer (some ⟨m, 12, none⟩), .pointer (some ⟨m, 13, none⟩), .pointer (some ⟨m, 14, none⟩), .pointer (some ⟨m, 15, none⟩), .pointer (some ⟨m, 16, none⟩), .pointer (some ⟨m, 17, none⟩), .pointer (some ⟨m, 18, none⟩)]
theorem ptrs_at (m i : Nat) (hi : i < 19) : (ptrs m)[i]? = some (.pointer (some ⟨m, i, none⟩)) := by
  rcases i with _ | _ | _ | _ | _ | _ | _ | _ | _ | _ | _ | _ | _ | _ | _ | _ | _ | _ | _ | i <;> first | rfl | omega
theorem run_right : g_10 [.agg tzA] [] = some (.bool true, []) := by unfold g_10; kernel_rfl
theorem run_numbers : g_11 [.ptr 0 0 0] [.live ⟨19, false, [tzA]⟩] = some (.agg ((List.range 19).map fun i => .ptr 0 0 i), [.live ⟨19, false, [tzA]⟩]) := by unfold g_11; kernel_rfl
theorem hrep_none {w : World} {S : Nat → Prop} (hS : ∀ m, S m → m < w.heap.size) (hgl : GlobR w S) : HRep (fun _ => .free) w S [] := by
  refine ⟨fun b k hb => ?_, fun _ _ => .inl rfl, fun _ _ => rfl, fun b b' m n n' e e' h => ?_, fun m ho => ?_, hS, hgl⟩
  · simp [Heap.get] at hb
  · cases h
  · obtain ⟨b, n, e, hb⟩ := ho; cases hb
theorem int_at {μ : Nat → AM.Loc} {w : World} {S : Nat → Prop} {l : List Int} {j : Nat} {a : AVal} {v : Value} (ha : (l.map (AVal.int .i64))[j]? = some a) (hv : (l.map (Value.int .i64))[j]? = some v) : VR μ w S a v := by
  rw [List.getElem?_map] at ha hv
  obtain ⟨x, hx, rfl⟩ := Option.map_eq_some_iff.1 ha
  obtain ⟨y, hy, rfl⟩ := Option.map_eq_some_iff.1 hv
  rw [hx] at hy
  cases hy
  exact .imm _ _ (.int _ _)
theorem right_calls {w : World} {S : Nat → Prop} (hS : ∀ m, S m → m < w.heap.size) (hgl : GlobR w S) :
    Calls Tryd.prog 10 #[.agg tzV.toArray] w fun e w' => e = .returned (.bool true) ∧ Below w.heap.size w w' := by
  refine (ok_10.2 _ _ _ _ run_right (fun _ => .free) w S _ (hrep_none hS hgl) rfl ?_).mono ?_
  · intro j a v ha hv
    match j with
    | 0 =>
      cases ha
      cases hv
      exact .agg _ _ rfl fun j c v hc hv => int_at (l := tz) hc (by simpa [tzV] using hv)
    | j + 1 => simp at ha
  · rintro e w' ⟨v, μ', S', he, _, x, hv, _⟩
    rw [hv.bool_inv] at he
    exact ⟨he, x.os, x.tape, x.output, x.size, fun m hm => x.same m hm (fun ho => by obtain ⟨b, n, e, hb⟩ := ho; cases hb)⟩
theorem numbers_calls {w : World} {S : Nat → Prop} {m : Nat} (hS : ∀ k, S k → k < w.heap.size) (hgl : GlobR w S) (hSm : ¬ S m) (hm : w.heap[m]? = some (.cells tzV.toArray 27 (0, 0))) :
    Calls Tryd.prog 11 #[.pointer (some ⟨m, 0, none⟩)] w fun e w' => e = .returned (.agg (ptrs m).toArray) ∧ (w'.os = w.os ∧ w'.tape = w.tape ∧ w'.output = w.output ∧ w.heap.size ≤ w'.heap.size) ∧
      (∀ k, k < w.heap.size → k ≠ m → w'.heap[k]? = w.heap[k]?) ∧ ∀ (j : Nat) (x : Int), tz[j]? = some x → w'.cell? ⟨m, j, none⟩ = some (.int .i64 x) := by
  have hlt := Bld.lt_of hm
  have r0 : HRep (fun b => if b = 0 then .here m 1 19 else .free) w S [.live ⟨19, false, [tzA]⟩] := by
    refine ⟨fun b k hb => ?_, fun b hb => ?_, fun b hb => ?_, fun b b' m n n' e e' h h' => ?_, fun k ho => ?_, hS, hgl⟩
    · match b with
      | 0 =>
        cases hb
        refine ⟨rfl, Nat.le_refl _, fun i x hx => ?_, _, _, hm, rfl, fun i x j c hx hc => ?_⟩
        · match i with
          | 0 => cases hx; rfl
          | i + 1 => simp at hx
        · match i with
          | 0 =>
            cases hx
            have hj : j < 19 := by have := (List.getElem?_eq_some_iff.1 hc).1; simpa [tzA, tz] using this
            obtain ⟨v, hv⟩ : ∃ v, tzV[j]? = some v := ⟨tzV[j]'(by simpa [tzV, tz] using hj), List.getElem?_eq_getElem _⟩
            refine ⟨v, by simpa using hv, ?_, ?_⟩
            · exact int_at (l := tz) hc hv
            · have hv : (tz.map (Value.int .i64))[j]? = some v := hv
              rw [List.getElem?_map] at hv
              obtain ⟨y, _, rfl⟩ := Option.map_eq_some_iff.1 hv
              rfl
          | i + 1 => simp at hx
      | b + 1 => simp [Heap.get] at hb
    · match b with
      | 0 => simp [Heap.get] at hb
      | b + 1 => exact .inl rfl
    · match b with
      | 0 => simp [Heap.isFree] at hb
      | b + 1 => rfl
    · by_cases h0 : b = 0
      · by_cases h1 : b' = 0
        · rw [h0, h1]
        · simp [h1] at h'
      · simp [h0] at h
    · obtain ⟨b, n, e, hb⟩ := ho
      by_cases h0 : b = 0
      · simp only [h0, if_true] at hb
        cases hb
        exact hSm
      · simp [h0] at hb
  refine (ok_11.2 _ _ _ _ run_numbers _ w S _ r0 rfl ?_).mono ?_
  · intro j a v ha hv
    match j with
    | 0 =>
      cases ha
      cases hv
      exact .ptr _ _ _ _ rfl
    | j + 1 => simp at ha
  · rintro e w' ⟨v, μ', S', he, r1, x, hv, _, hup⟩
    have h0 : μ' 0 = .here m 1 19 := by
      have hb := r1.live 0 _ rfl
      rcases hup 0 (by simp) (by simp) with h | h
      · simpa using h
      · rw [h] at hb; exact hb.elim
    refine ⟨?_, ⟨x.os, x.tape, x.output, x.size⟩, fun k hk hkm => x.same k hk (fun ho => ?_), fun j y hj => ?_⟩
    · rw [he]
      congr 1
      cases hv with
      | imm _ _ h => cases h
      | agg _ a hl ha =>
        congr 1
        have hl : 19 = a.size := hl
        apply Array.ext
        · exact hl.symm
        · intro i h1 h2
          have hc : ((List.range 19).map fun i => AVal.ptr 0 0 i)[i]? = some (.ptr 0 0 i) := by
            rw [List.getElem?_map, List.getElem?_range (by omega)]; rfl
          have hp := ha i _ a[i] hc (Array.getElem?_eq_getElem _)
          cases hp with
          | imm _ _ h => cases h
          | ptr _ _ _ _ h =>
            rw [h0] at h
            have h : a[i] = .pointer (some ⟨m, 0 * 19 + i, none⟩) := h
            rw [h]
            have hk := ptrs_at m i (by omega)
            have hk : (ptrs m).toArray[i]? = some (.pointer (some ⟨m, i, none⟩)) := by simpa using hk
            rw [(Array.getElem?_eq_some_iff.1 hk).2, Nat.zero_mul, Nat.zero_add]
    · obtain ⟨b, n, e, hb⟩ := ho
      by_cases h0 : b = 0
      · simp only [h0, if_true] at hb
        cases hb
        exact hkm rfl
      · simp [h0] at hb
    · have hb := r1.live 0 _ rfl
      rw [h0] at hb
      obtain ⟨_, _, _, cells, t, hc, hsz, hall⟩ := hb
      obtain ⟨v, hv, hr, _⟩ := hall 0 tzA j (.int .i64 y) rfl (by simp [tzA, hj])
      have hr : VR μ' w' S' (.int .i64 y) v := hr
      rw [hr.int_inv] at hv
      have hv : cells[0 * 19 + j]? = some (.int .i64 y) := hv
      rw [Nat.zero_mul, Nat.zero_add] at hv
      simp [World.cell?, hc, hv]
end Stat
end Go.Proofs.YtfelhbeiegppgaaDoor
