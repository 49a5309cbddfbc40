import Derived.Test.YtofboijlcjgnnaaReply3
set_option linter.unusedVariables false
namespace Go.Proofs.Ytofboijlcjgnnaa
open Go.RowKit

theorem refusal_val (k e : Int) (w : World) (B : Nat → Prop) (hk : I64 k) (he : I64 e) : V w B (Reply.mk k e 0 0 []) (.agg #[.int .i64 k, .int .i64 e, .int .i64 0, .int .i64 0, .slice none 0 0]) :=
  Reply.valMk (x := ⟨k, e, 0, 0, []⟩) (A4 := none) (C4 := 0) hk he (by simp [I64]) (by simp [I64]) (Nat.le_refl _) (Nat.zero_le _) (fun _ => rfl) Sl.nil

theorem refusal_right (k e : Int) : decide (rightReply ⟨k, e, 0, 0, []⟩) = (decide (0 ≤ k) && decide (k ≤ 1073741824) && decide (0 ≤ e) && decide (e ≤ 99)) := by
  rw [Bool.eq_iff_iff]
  simp [rightReply, PutOk]
  omega

set_option maxHeartbeats 1000000 in
theorem replyRefuses.walk (k e : Int) (v0 v1 : Value) (w : World) (h0 : V w (Lt w.heap.size) k v0) (h1 : V w (Lt w.heap.size) e v1) :
    Calls Try.prog 5 #[v0, v1] w fun en w' => en = .returned (.bool true) ∧ Below w.heap.size w w' := by
  obtain ⟨rfl, hk⟩ := h0.int
  obtain ⟨rfl, he⟩ := h1.int
  clear h0 h1
  have hk1 := hk.1; have hk2 := hk.2; have he1 := he.1; have he2 := he.2
  go_enter Try.func5, Try.ntmps5
  go_wp2_with (first | (go_at_call 26; refine (awake09 _).mono ?_; rintro e w1 ⟨rfl, hb1⟩) | (go_at_call 27; refine (Refusal_any _ _ _).mono ?_; rintro e w2 ⟨rfl, hb2⟩) | (go_at_call 28; refine (refSame_any ⟨k, e, 0, 0, []⟩ ⟨k, e, 0, 0, []⟩ _ _ _ (refusal_val k e _ _ hk he) (refusal_val k e _ _ hk he) (by simp) (by simp)).mono ?_; rintro e w3 ⟨rfl, hb3⟩; rw [show sameReply ⟨k, e, 0, 0, []⟩ ⟨k, e, 0, 0, []⟩ = true from by simp [sameReply]]; have hc3 := bcell hb3))
  have HC3 := Lib.hid hc3
  clear hc3
  refine (replyRight_any ⟨k, e, 0, 0, []⟩ _ _ (refusal_val k e _ _ hk he) (by simp)).mono ?_
  rintro en w4 ⟨rfl, hb4⟩
  rw [refusal_right]
  have hB : Below w.heap.size w w4 := (((hb1.trans (hb2.mono hb1.size)).alloc (by have := hb1.size; have := hb2.size; omega) _).trans (hb3.mono (by have := hb1.size; have := hb2.size; simp; omega))).trans (hb4.mono (by have := hb1.size; have := hb2.size; have := hb3.size; simp at this; omega))
  have HB := Lib.hid hB
  clear hB hb1 hb2 hb3 hb4 HC3
  by_cases c1 : 0 ≤ k <;> by_cases c2 : k ≤ 1073741824 <;> by_cases c3 : 0 ≤ e <;> by_cases c4 : e ≤ 99
  all_goals
    simp only [c1, c2, c3, c4, decide_true, decide_false, Bool.and_true, Bool.and_false]
    go_wp2
    go_ret
    exact ⟨rfl, HB.out⟩

end Go.Proofs.Ytofboijlcjgnnaa
