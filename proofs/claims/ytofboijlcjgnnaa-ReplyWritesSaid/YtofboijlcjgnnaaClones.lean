import Derived.Test.YtofboijlcjgnnaaTypes
set_option linter.unusedVariables false
namespace Go.Proofs.Ytofboijlcjgnnaa
open Go.RowKit

theorem el_bytes : Elem Try.prog 42 5 1 UInt8 := Elem.of (.int .u8 0) Try.underlying42 (by kernel_rfl) rfl
theorem el_ints : Elem Try.prog 25 3 8 Int := Elem.of (.int .i64 0) Try.underlying25 (by kernel_rfl) rfl

theorem clone_bytes (A : Option Addr) (n c : Nat) (xs : List UInt8) (w : World) (B : Nat → Prop) (hn : n = xs.length) (h : Src w B A xs) (hB : ∀ b, B b → b < w.heap.size) (hl : xs.length ≤ 536870912) :
    Calls Try.prog 86 #[.slice A n c] w (Fresh 5 w B xs) := by
  subst hn
  have hq := fun (u : World) => Lib.run_eql_slice_nil (P := Try.prog) u 42 5 A xs.length c 0 0 Try.underlying42
  cases A with
  | none =>
    have hx : xs = [] := by
      obtain ⟨_, _, h1, _⟩ := h
      cases xs with
      | nil => rfl
      | cons x xs => exact absurd rfl (h1 (by simp))
    subst hx
    clear h hB hl
    simp only [List.length_nil] at hq ⊢

    go_enter Try.func86, Try.ntmps86
    go_wp2
    go_ret
    exact ⟨_, rfl, Own.nil, Below.refl _ _⟩
  | some ad =>
    have h0 : Own w.heap.size 5 (w.alloc (.cells #[] 5)) B (.slice (some ⟨w.heap.size, 0, none⟩) 0 0) ([] : List UInt8) :=
      Own.blk (cells := []) (Blk.new' rfl) rfl (Nat.le_refl _) (Nat.zero_le _) rfl
    have hs : Src (w.alloc (.cells #[] 5)) B (some ad) xs := h.alloc hB _
    have s1 : ∀ b, B b → b < (w.alloc (.cells #[] 5)).heap.size ∧ (Value.slice (some ⟨w.heap.size, 0, none⟩) 0 0).ownBlock ≠ some b := fun b hb => ⟨by have := hB b hb; simp; omega, by have := hB b hb; simp [Value.ownBlock]; omega⟩
    have H0 := Lib.hid h0; have HS := Lib.hid hs; have S1 := Lib.hid s1; clear h0 hs s1 hB h
    go_enter Try.func86, Try.ntmps86
    go_wp2_with (at_builtin; refine wpList_app _ rfl _ _ _ rfl el_bytes (v := .slice (some ⟨w.heap.size, 0, none⟩) 0 0) rfl H0.out rfl rfl HS.out S1.out (by simp; omega) (by simp) ?_; intro v w1 hown hg _)
    go_ret
    exact ⟨v, rfl, by simpa using hown, ((Below.refl w.heap.size w).alloc (Nat.le_refl _) _).grown hg (by simp) (by simp [Value.ownBlock])⟩

theorem clone_bytes2 (A : Option Addr) (n c : Nat) (xs : List UInt8) (w : World) (B : Nat → Prop) (hn : n = xs.length) (h : Src w B A xs) (hB : ∀ b, B b → b < w.heap.size) (hl : xs.length ≤ 536870912) :
    Calls Try.prog 84 #[.slice A n c] w (Fresh 5 w B xs) := by
  subst hn
  have hq := fun (u : World) => Lib.run_eql_slice_nil (P := Try.prog) u 42 5 A xs.length c 0 0 Try.underlying42
  cases A with
  | none =>
    have hx : xs = [] := by
      obtain ⟨_, _, h1, _⟩ := h
      cases xs with
      | nil => rfl
      | cons x xs => exact absurd rfl (h1 (by simp))
    subst hx
    clear h hB hl
    simp only [List.length_nil] at hq ⊢

    go_enter Try.func84, Try.ntmps84
    go_wp2
    go_ret
    exact ⟨_, rfl, Own.nil, Below.refl _ _⟩
  | some ad =>
    have h0 : Own w.heap.size 5 (w.alloc (.cells #[] 5)) B (.slice (some ⟨w.heap.size, 0, none⟩) 0 0) ([] : List UInt8) :=
      Own.blk (cells := []) (Blk.new' rfl) rfl (Nat.le_refl _) (Nat.zero_le _) rfl
    have hs : Src (w.alloc (.cells #[] 5)) B (some ad) xs := h.alloc hB _
    have s1 : ∀ b, B b → b < (w.alloc (.cells #[] 5)).heap.size ∧ (Value.slice (some ⟨w.heap.size, 0, none⟩) 0 0).ownBlock ≠ some b := fun b hb => ⟨by have := hB b hb; simp; omega, by have := hB b hb; simp [Value.ownBlock]; omega⟩
    have H0 := Lib.hid h0; have HS := Lib.hid hs; have S1 := Lib.hid s1; clear h0 hs s1 hB h
    go_enter Try.func84, Try.ntmps84
    go_wp2_with (at_builtin; refine wpList_app _ rfl _ _ _ rfl el_bytes (v := .slice (some ⟨w.heap.size, 0, none⟩) 0 0) rfl H0.out rfl rfl HS.out S1.out (by simp; omega) (by simp) ?_; intro v w1 hown hg _)
    go_ret
    exact ⟨v, rfl, by simpa using hown, ((Below.refl w.heap.size w).alloc (Nat.le_refl _) _).grown hg (by simp) (by simp [Value.ownBlock])⟩

end Go.Proofs.Ytofboijlcjgnnaa
