/-
  'drayagelaw15.LifeNext' returns true whatever its two arguments are, and what was in memory stays as it was. Conditions: none.
-/
import Derived.Test.YtofboijlcjgnnaaRows
import Derived.WalkKit
import Derived.ProofKit
import Derived.OpenShut
import Derived.ShutString
import Derived.Deep.QuietTactic
import Derived.BigQuiet
namespace Go.Proofs.Ytofboijlcjgnnaa.lifeNext
open Go.ChangeShapes Go.WideShapes Go.ChangeAt Go.RowKit
open Go.ChangeMaps (open_string shut_string)
set_option linter.unusedVariables false      -- a walk need not use every 'w<i>' (that an integer argument fits its kind)

theorem own : ownKnob Try.prog.godebug = none := by kernel_rfl


/-- what a state becomes by a transition; 0: none -/
def nx (s t : Int) : Int :=
  if t = 1 ∧ s = 1 then 2 else if t = 2 ∧ s = 2 then 1 else if t = 3 ∧ s = 1 then 3 else if t = 4 ∧ s = 3 then 1 else if t = 5 ∧ s = 3 then 4 else if t = 6 ∧ s = 3 then 4 else if t = 6 ∧ (s = 1 ∨ s = 2) then 6 else if t = 7 ∧ (s = 3 ∨ s = 4) then 5 else if t = 8 ∧ s = 4 then 6 else 0


theorem ret_two {a b : Int} {x y : Bool} (h : a = b) (k : x = y) : Ending.returned (.tuple #[.int .i64 a, .bool x]) = .returned (.tuple #[.int .i64 b, .bool y]) := by rw [h, k]
theorem ret_int {a b : Int} (h : a = b) : Ending.returned (.int .i64 a) = .returned (.int .i64 b) := by rw [h]
theorem ret_bool {a b : Bool} (h : a = b) : Ending.returned (.bool a) = .returned (.bool b) := by rw [h]

theorem waits (s : Int) (w : World) : Calls Try.prog 22 #[.int .i64 s] w fun e w' => e = .returned (.bool (s == 1 || s == 2)) ∧ w = w' := by
  go_enter Try.func22, Try.ntmps22
  go_wp2
  all_goals go_ret
  all_goals refine ⟨ret_bool ?_, rfl⟩
  all_goals first | rfl | (simp_all; done)

theorem has (s : Int) (w : World) : Calls Try.prog 23 #[.int .i64 s] w fun e w' => e = .returned (.bool (s == 3 || s == 4)) ∧ w = w' := by
  go_enter Try.func23, Try.ntmps23
  go_wp2
  all_goals go_ret
  all_goals refine ⟨ret_bool ?_, rfl⟩
  all_goals first | rfl | (simp_all; done)

theorem over5 (s : Int) (w : World) : Calls Try.prog 24 #[.int .i64 s] w fun e w' => e = .returned (.bool (s == 5 || s == 6)) ∧ w = w' := by
  go_enter Try.func24, Try.ntmps24
  go_wp2
  all_goals go_ret
  all_goals refine ⟨ret_bool ?_, rfl⟩
  all_goals first | rfl | (simp_all; done)

theorem next (s t : Int) (w : World) : Calls Try.prog 20 #[.int .i64 s, .int .i64 t] w fun e w' => e = .returned (.tuple #[.int .i64 (nx s t), .bool (decide (0 < nx s t))]) ∧ w = w' := by
  go_enter Try.func20, Try.ntmps20
  go_wp2
  all_goals go_ret2
  all_goals refine ⟨ret_two ?_ ?_, rfl⟩
  all_goals simp_all [nx]

theorem next1 (s t : Int) (w : World) : Calls Try.prog 21 #[.int .i64 s, .int .i64 t] w fun e w' => e = .returned (.int .i64 (nx s t)) ∧ w = w' := by
  go_enter Try.func21, Try.ntmps21
  go_wp2
  all_goals go_ret
  all_goals refine ⟨ret_int ?_, rfl⟩
  all_goals simp_all [nx]

theorem awake (w : World) : Calls Try.prog 19 #[] w fun e w' => e = .returned (.bool true) ∧ w = w' := by
  go_enter Try.func19, Try.ntmps19
  go_wp2
  go_ret
  exact ⟨rfl, rfl⟩

theorem name0 (s : Int) (w : World) (h : s < 1 ∨ 6 < s) : Calls Try.prog 25 #[.int .i64 s] w fun e w' => e = .returned (.string ⟨#[]⟩) ∧ w = w' := by
  rcases h with h | h
  all_goals
    go_enter Try.func25, Try.ntmps25
    go_wp2
    go_ret
    exact ⟨rfl, rfl⟩

theorem name1 (w : World) : Calls Try.prog 25 #[.int .i64 1] w fun e w' => e = .returned (.string ⟨#[113, 117, 101, 117, 101, 100]⟩) ∧ w' = w := by
  go_enter Try.func25, Try.ntmps25
  go_wp2
  go_ret
  exact ⟨rfl, rfl⟩

theorem walk1 (a1 : Int) (w : World) :
    Calls Try.prog 4 #[.int .i64 1, .int .i64 a1] w fun e w' => e = .returned (.bool true) ∧ Grown w w' := by
  go_enter Try.func4, Try.ntmps4
  go_wp2_with (first | (go_at_call 19; refine (awake _).mono ?_; rintro e w' ⟨rfl, rfl⟩) | (go_at_call 20; refine (next _ _ _).mono ?_; rintro e w' ⟨rfl, rfl⟩) | (go_at_call 21; refine (next1 _ _ _).mono ?_; rintro e w' ⟨rfl, rfl⟩) | (go_at_call 22; refine (waits _ _).mono ?_; rintro e w' ⟨rfl, rfl⟩) | (go_at_call 23; refine (has _ _).mono ?_; rintro e w' ⟨rfl, rfl⟩) | (go_at_call 24; refine (over5 _ _).mono ?_; rintro e w' ⟨rfl, rfl⟩) | (go_at_call 25; refine (name0 _ _ (by omega)).mono ?_; rintro e w' ⟨rfl, rfl⟩))
  go_quiet ((go_at_call 25; exact Calls.quiet_of_same (name1 _)))
  go_wp2
  go_ret
  exact ⟨rfl, by repeat (first | exact Grown.refl _ | apply Grown.drew | apply Grown.drewN | apply Grown.alloc)⟩

theorem name2 (w : World) : Calls Try.prog 25 #[.int .i64 2] w fun e w' => e = .returned (.string ⟨#[104, 101, 108, 100]⟩) ∧ w' = w := by
  go_enter Try.func25, Try.ntmps25
  go_wp2
  go_ret
  exact ⟨rfl, rfl⟩

theorem walk2 (a1 : Int) (w : World) :
    Calls Try.prog 4 #[.int .i64 2, .int .i64 a1] w fun e w' => e = .returned (.bool true) ∧ Grown w w' := by
  go_enter Try.func4, Try.ntmps4
  go_wp2_with (first | (go_at_call 19; refine (awake _).mono ?_; rintro e w' ⟨rfl, rfl⟩) | (go_at_call 20; refine (next _ _ _).mono ?_; rintro e w' ⟨rfl, rfl⟩) | (go_at_call 21; refine (next1 _ _ _).mono ?_; rintro e w' ⟨rfl, rfl⟩) | (go_at_call 22; refine (waits _ _).mono ?_; rintro e w' ⟨rfl, rfl⟩) | (go_at_call 23; refine (has _ _).mono ?_; rintro e w' ⟨rfl, rfl⟩) | (go_at_call 24; refine (over5 _ _).mono ?_; rintro e w' ⟨rfl, rfl⟩) | (go_at_call 25; refine (name0 _ _ (by omega)).mono ?_; rintro e w' ⟨rfl, rfl⟩))
  go_quiet ((go_at_call 25; exact Calls.quiet_of_same (name2 _)))
  go_wp2
  go_ret
  exact ⟨rfl, by repeat (first | exact Grown.refl _ | apply Grown.drew | apply Grown.drewN | apply Grown.alloc)⟩

theorem name3 (w : World) : Calls Try.prog 25 #[.int .i64 3] w fun e w' => e = .returned (.string ⟨#[114, 117, 110, 110, 105, 110, 103]⟩) ∧ w' = w := by
  go_enter Try.func25, Try.ntmps25
  go_wp2
  go_ret
  exact ⟨rfl, rfl⟩

theorem walk3 (a1 : Int) (w : World) :
    Calls Try.prog 4 #[.int .i64 3, .int .i64 a1] w fun e w' => e = .returned (.bool true) ∧ Grown w w' := by
  go_enter Try.func4, Try.ntmps4
  go_wp2_with (first | (go_at_call 19; refine (awake _).mono ?_; rintro e w' ⟨rfl, rfl⟩) | (go_at_call 20; refine (next _ _ _).mono ?_; rintro e w' ⟨rfl, rfl⟩) | (go_at_call 21; refine (next1 _ _ _).mono ?_; rintro e w' ⟨rfl, rfl⟩) | (go_at_call 22; refine (waits _ _).mono ?_; rintro e w' ⟨rfl, rfl⟩) | (go_at_call 23; refine (has _ _).mono ?_; rintro e w' ⟨rfl, rfl⟩) | (go_at_call 24; refine (over5 _ _).mono ?_; rintro e w' ⟨rfl, rfl⟩) | (go_at_call 25; refine (name0 _ _ (by omega)).mono ?_; rintro e w' ⟨rfl, rfl⟩))
  go_quiet ((go_at_call 25; exact Calls.quiet_of_same (name3 _)))
  go_wp2
  go_ret
  exact ⟨rfl, by repeat (first | exact Grown.refl _ | apply Grown.drew | apply Grown.drewN | apply Grown.alloc)⟩

theorem name4 (w : World) : Calls Try.prog 25 #[.int .i64 4] w fun e w' => e = .returned (.string ⟨#[101, 120, 105, 116, 105, 110, 103]⟩) ∧ w' = w := by
  go_enter Try.func25, Try.ntmps25
  go_wp2
  go_ret
  exact ⟨rfl, rfl⟩

theorem walk4 (a1 : Int) (w : World) :
    Calls Try.prog 4 #[.int .i64 4, .int .i64 a1] w fun e w' => e = .returned (.bool true) ∧ Grown w w' := by
  go_enter Try.func4, Try.ntmps4
  go_wp2_with (first | (go_at_call 19; refine (awake _).mono ?_; rintro e w' ⟨rfl, rfl⟩) | (go_at_call 20; refine (next _ _ _).mono ?_; rintro e w' ⟨rfl, rfl⟩) | (go_at_call 21; refine (next1 _ _ _).mono ?_; rintro e w' ⟨rfl, rfl⟩) | (go_at_call 22; refine (waits _ _).mono ?_; rintro e w' ⟨rfl, rfl⟩) | (go_at_call 23; refine (has _ _).mono ?_; rintro e w' ⟨rfl, rfl⟩) | (go_at_call 24; refine (over5 _ _).mono ?_; rintro e w' ⟨rfl, rfl⟩) | (go_at_call 25; refine (name0 _ _ (by omega)).mono ?_; rintro e w' ⟨rfl, rfl⟩))
  go_quiet ((go_at_call 25; exact Calls.quiet_of_same (name4 _)))
  go_wp2
  go_ret
  exact ⟨rfl, by repeat (first | exact Grown.refl _ | apply Grown.drew | apply Grown.drewN | apply Grown.alloc)⟩

theorem name5 (w : World) : Calls Try.prog 25 #[.int .i64 5] w fun e w' => e = .returned (.string ⟨#[99, 111, 109, 112, 108, 101, 116, 101, 100]⟩) ∧ w' = w := by
  go_enter Try.func25, Try.ntmps25
  go_wp2
  go_ret
  exact ⟨rfl, rfl⟩

theorem walk5 (a1 : Int) (w : World) :
    Calls Try.prog 4 #[.int .i64 5, .int .i64 a1] w fun e w' => e = .returned (.bool true) ∧ Grown w w' := by
  go_enter Try.func4, Try.ntmps4
  go_wp2_with (first | (go_at_call 19; refine (awake _).mono ?_; rintro e w' ⟨rfl, rfl⟩) | (go_at_call 20; refine (next _ _ _).mono ?_; rintro e w' ⟨rfl, rfl⟩) | (go_at_call 21; refine (next1 _ _ _).mono ?_; rintro e w' ⟨rfl, rfl⟩) | (go_at_call 22; refine (waits _ _).mono ?_; rintro e w' ⟨rfl, rfl⟩) | (go_at_call 23; refine (has _ _).mono ?_; rintro e w' ⟨rfl, rfl⟩) | (go_at_call 24; refine (over5 _ _).mono ?_; rintro e w' ⟨rfl, rfl⟩) | (go_at_call 25; refine (name0 _ _ (by omega)).mono ?_; rintro e w' ⟨rfl, rfl⟩))
  go_quiet ((go_at_call 25; exact Calls.quiet_of_same (name5 _)))
  go_wp2
  go_ret
  exact ⟨rfl, by repeat (first | exact Grown.refl _ | apply Grown.drew | apply Grown.drewN | apply Grown.alloc)⟩

theorem name6 (w : World) : Calls Try.prog 25 #[.int .i64 6] w fun e w' => e = .returned (.string ⟨#[99, 97, 110, 99, 101, 108, 108, 101, 100]⟩) ∧ w' = w := by
  go_enter Try.func25, Try.ntmps25
  go_wp2
  go_ret
  exact ⟨rfl, rfl⟩

theorem walk6 (a1 : Int) (w : World) :
    Calls Try.prog 4 #[.int .i64 6, .int .i64 a1] w fun e w' => e = .returned (.bool true) ∧ Grown w w' := by
  go_enter Try.func4, Try.ntmps4
  go_wp2_with (first | (go_at_call 19; refine (awake _).mono ?_; rintro e w' ⟨rfl, rfl⟩) | (go_at_call 20; refine (next _ _ _).mono ?_; rintro e w' ⟨rfl, rfl⟩) | (go_at_call 21; refine (next1 _ _ _).mono ?_; rintro e w' ⟨rfl, rfl⟩) | (go_at_call 22; refine (waits _ _).mono ?_; rintro e w' ⟨rfl, rfl⟩) | (go_at_call 23; refine (has _ _).mono ?_; rintro e w' ⟨rfl, rfl⟩) | (go_at_call 24; refine (over5 _ _).mono ?_; rintro e w' ⟨rfl, rfl⟩) | (go_at_call 25; refine (name0 _ _ (by omega)).mono ?_; rintro e w' ⟨rfl, rfl⟩))
  go_quiet ((go_at_call 25; exact Calls.quiet_of_same (name6 _)))
  go_wp2
  go_ret
  exact ⟨rfl, by repeat (first | exact Grown.refl _ | apply Grown.drew | apply Grown.drewN | apply Grown.alloc)⟩

theorem walk7 (a0 a1 : Int) (w : World) (h : a0 < 1 ∨ 6 < a0) :
    Calls Try.prog 4 #[.int .i64 a0, .int .i64 a1] w fun e w' => e = .returned (.bool true) ∧ Grown w w' := by
  rcases h with h | h
  all_goals
    go_enter Try.func4, Try.ntmps4
    go_wp2_with (first | (go_at_call 19; refine (awake _).mono ?_; rintro e w' ⟨rfl, rfl⟩) | (go_at_call 20; refine (next _ _ _).mono ?_; rintro e w' ⟨rfl, rfl⟩) | (go_at_call 21; refine (next1 _ _ _).mono ?_; rintro e w' ⟨rfl, rfl⟩) | (go_at_call 22; refine (waits _ _).mono ?_; rintro e w' ⟨rfl, rfl⟩) | (go_at_call 23; refine (has _ _).mono ?_; rintro e w' ⟨rfl, rfl⟩) | (go_at_call 24; refine (over5 _ _).mono ?_; rintro e w' ⟨rfl, rfl⟩) | (go_at_call 25; refine (name0 _ _ (by omega)).mono ?_; rintro e w' ⟨rfl, rfl⟩))
    go_ret
    exact ⟨rfl, by repeat (first | exact Grown.refl _ | apply Grown.drew | apply Grown.alloc)⟩


/-! ### STEP 1: THE WALK: the Go text returns true. 'Grown w w'': the world has at most new blocks (Derived/RowKit3.lean). Part the cases AHEAD of 'go_enter' where a test parts the walk; take each callee by a contract of your own. -/
theorem walk (a0 : Int) (a1 : Int) (w0 : (Lit.int .i64 a0).wf = true) (w1 : (Lit.int .i64 a1).wf = true) (w : World) :
    Calls Try.prog 4 #[.int .i64 a0, .int .i64 a1] w fun e w' => e = .returned (.bool true) ∧ Grown w w' := by
  by_cases h1 : a0 = 1
  · subst h1; exact walk1 a1 w
  by_cases h2 : a0 = 2
  · subst h2; exact walk2 a1 w
  by_cases h3 : a0 = 3
  · subst h3; exact walk3 a1 w
  by_cases h4 : a0 = 4
  · subst h4; exact walk4 a1 w
  by_cases h5 : a0 = 5
  · subst h5; exact walk5 a1 w
  by_cases h6 : a0 = 6
  · subst h6; exact walk6 a1 w
  exact walk7 a0 a1 w (by omega)

/-! ### THE ROW's STEP: WRITTEN OUT: LEAVE IT -/
set_option maxRecDepth 100000 in
theorem lifted (os : Os) (started : os.Started) (H : Type) (enc : TypeId × Value → H) :
    ReturnsInHanded {} Try.checked os 4 .any (Rows.lifeNextSpec.pre6 enc Try.prog Try.f4 Rows.lifeNextRow.domain false) (Rows.lifeNextSpec.post enc Try.prog Try.f4 false true false false) := by
  refine returnsInHanded_of_change (C := Try.checked) own started (by kernel_rfl) Try.func4
    (ChangeSpec.witness6 (enc := enc) (C := Try.checked) false ⟨#[], #[.int .i64 0, .int .i64 0], []⟩ 8 (by kernel_rfl) (by kernel_rfl) (by kernel_rfl) (by kernel_rfl)) ?_
  intro W base args ds gs before hval0 hW hcnd _
  have hval : ∀ (j : Nat) t v, Try.f4.params[j]? = some t → args[j]? = some v → Value.okWide Try.prog W .any base t v := hval0
  have hW' := hW
  obtain ⟨p, q, hA0, hV, rfl, hfz, hnd⟩ := hW
  have hA : DataW.TrodAll enc Try.prog W 0 (fun _ => true) true Try.f4.params.toList args.toList ds p := hA0
  rw [Try.params4] at hA hval
  obtain ⟨v0, vs0, d0, ds0, p0, q0, hargs, rfl, rfl, h0, r0⟩ := trodAll_cons hA
  obtain ⟨v1, vs1, d1, ds1, p1, q1, rfl, rfl, rfl, h1, r1⟩ := trodAll_cons r0
  obtain ⟨rfl, rfl, rfl⟩ := trodAll_nil r1
  obtain rfl : args = #[v0, v1] := by cases args; simp_all
  obtain ⟨rfl, rfl⟩ := trodVars_none hV
  obtain ⟨a0, rfl, rfl, rfl, w0⟩ := open_int Try.underlying3 (hval 0 3 v0 rfl rfl) h0
  obtain ⟨a1, rfl, rfl, rfl, w1⟩ := open_int Try.underlying3 (hval 1 3 v1 rfl rfl) h1
  clear hA0 hval0
  simp only [List.append_nil] at hW'
  refine (walk a0 a1 w0 w1 W).mono fun e W' ⟨he, hg⟩ => ?_
  subst he
  exact ⟨_, rfl, post_of_same (pa := []) (pv := []) hW' (fun _ _ _ => (trodAll_cons_mk (shut_bool Try.underlying4 _) trodAll_mk0)) (fun sp _ => (trodAll_cons_mk (shut_int Try.underlying3 w0) (trodAll_cons_mk (shut_int Try.underlying3 w1) trodAll_mk0))) (fun _ _ => rfl) rfl
    (hg.frame _) hg.2.1 (ok_one (by kernel_rfl) rfl (okWide_bool_mk Try.underlying4 _))⟩

theorem over : Rows.lifeNextRow.holds Try.pinned (OpenSpec.ofChange Rows.lifeNextSpec) :=
  OpenClaim.holds_of_wide 4 Try.f4 rfl rfl rfl rfl rfl rfl rfl ⟨rfl, rfl, rfl, rfl, rfl⟩ rfl rfl rfl rfl rfl (by kernel_rfl) Try.func4 (by kernel_rfl)
    (of_decide_eq_true (by kernel_rfl)) (by unfold Func.isWrapper; first | (rw [if_pos (by decide +kernel)]; kernel_rfl) | (rw [if_neg (by decide +kernel)]; exact ⟨rfl, rfl⟩))
    (fun os started H enc _ => lifted os started H enc)

/-- ████ THE STATEMENT ████ -/
theorem proved : Rows.LifeNextSaid :=
  over
#print axioms proved
end Go.Proofs.Ytofboijlcjgnnaa.lifeNext
