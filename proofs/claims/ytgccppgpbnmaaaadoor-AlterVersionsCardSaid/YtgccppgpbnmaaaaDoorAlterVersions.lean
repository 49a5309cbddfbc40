/-
  'drayagelaw25.AlterVersions' returns true whatever its arguments are, and what was in memory stays as it was; the package variables that the row lists hold what the program's text lays there. Conditions: none.
-/
import Derived.Test.YtgccppgpbnmaaaaDoorRows
import Derived.Test.YtgccppgpbnmaaaaDoorCards
import Derived.Test.YtgccppgpbnmaaaaDoorTie
import Derived.Test.YtgccppgpbnmaaaaDoorMAlterVersions
import Derived.WalkKit
import Derived.ProofKit
import Derived.OpenShut
import Derived.LaidMore
import Derived.Lay
import Derived.Lib.LaidTab
import Derived.SevenTiedAt
import Derived.Stop.Joined
import Derived.Below
import Derived.Carry
namespace Go.Proofs.YtgccppgpbnmaaaaDoor.alterVersions
open Go.ChangeShapes Go.WideShapes Go.ChangeAt Go.RowKit

theorem own : ownKnob Tryd.prog.godebug = none := by kernel_rfl
theorem laidOut : laidOutB Tryd.prog = true := by kernel_rfl
theorem glob_ints {W : World} {g : Nat} {k : IntKind} {zs : List Int} (hglobs : AM.globs = [(g, zs.map (AM.AVal.int k))]) (h0 : 0 < zs.length) (hT : ∀ i, i < zs.length → W.cell? ⟨g, i, none⟩ = some (.int k (zs.getD i 0))) : AM.GlobR W (Lt W.heap.size) := by
  intro b cs hb
  rw [hglobs] at hb
  simp only [AM.globOf] at hb
  split at hb
  · rename_i hg
    subst hg
    cases hb
    refine .iptr _ 0 g 0 (fun j => .int k (zs.getD j 0)) ?_ (fun j c hj => ?_) (fun j c hj => ?_)
    · apply Classical.byContradiction
      intro hlt
      have h1 := hT 0 h0
      have hlt : ¬ g < W.heap.size := hlt
      have : W.heap[g]? = none := by rw [Array.getElem?_eq_none]; omega
      unfold World.cell? at h1
      simp [this] at h1
    · have hl := (List.getElem?_eq_some_iff.1 hj).1
      rw [List.length_map] at hl
      rw [Nat.zero_add]
      exact hT j hl
    · rw [List.getElem?_map] at hj
      obtain ⟨z, hz, rfl⟩ := Option.map_eq_some_iff.1 hj
      have : zs.getD j 0 = z := by rw [List.getD, hz]; rfl
      rw [this]
      exact .int k z
  · cases hb

set_option maxRecDepth 100000 in
theorem lifted (os : Os) (started : os.Started) (H : Type) (enc : TypeId × Value → H) :
    ReturnsInHanded {} Tryd.checked os 6 .any (fun w args => (Rows.alterVersionsSpec.pre enc Tryd.prog Tryd.f6 Rows.alterVersionsRow.domain false w args ∧ laidMetH Tryd.prog Rows.alterVersionsRow.laid w) ∧ sizedMet enc Tryd.prog Tryd.f6 (OpenSpec.ofChange Rows.alterVersionsSpec) false w args)
      (Rows.alterVersionsSpec.post enc Tryd.prog Tryd.f6 false true false false) := by
  refine returnsInHanded_of_change_and (C := Tryd.checked) (X := fun w _ => laidMetH Tryd.prog Rows.alterVersionsRow.laid w) (fun _ _ _ hh h => h.of_heap hh) own started (by kernel_rfl) Tryd.func6
    (ChangeSpec.witness_shaped (enc := enc) (C := Tryd.checked) (os := os) (X := fun w _ => laidMetH Tryd.prog Rows.alterVersionsRow.laid w) false (World.laidAll Tryd.prog os Rows.alterVersionsRow.laid) #[.agg #[.slice none 0 0, .slice none 0 0, .slice none 0 0, .int .i64 0, .int .i64 0, .int .i64 0, .int .i64 0, .int .i64 0, .int .i64 0, .int .i64 0, .int .i64 0, .int .i64 0, .int .i64 0, .int .i64 0, .int .i64 0, .int .i64 0, .int .i64 0, .int .i64 0], .agg #[.int .i64 0, .int .i64 0, .int .i64 0, .int .i64 0, .int .i64 0, .int .i64 0, .int .i64 0, .int .i64 0, .int .i64 0, .slice none 0 0, .int .i64 0, .bool false, .bool false, .int .i64 0, .int .i64 0, .int .i64 0, .int .i64 0, .int .i64 0], .agg #[.int .i64 0, .slice none 0 0, .int .i64 0]] 8 (World.laidAll_os _ _ _)
      (World.shaped_of_ZipB (by kernel_rfl) (by kernel_rfl)) (by kernel_rfl) (by kernel_rfl) (by kernel_rfl)
      (by rw [MakeChecks.laidMetH_plain _ _ _ (by kernel_rfl)]; exact laidMet_laidAll _ (by kernel_rfl) (by kernel_rfl))) ?_
  intro W base args ds gs before hval0 hW _ _ hL _
  have hval : ∀ (j : Nat) t v, Tryd.f6.params[j]? = some t → args[j]? = some v → Value.okWide Tryd.prog W .any base t v := hval0
  have hW' := hW
  obtain ⟨p, q, hA0, hV, rfl, hfz, hnd⟩ := hW
  have hA : DataW.TrodAll enc Tryd.prog W 0 (fun _ => true) true Tryd.f6.params.toList args.toList ds p := hA0
  rw [Tryd.params6] at hA hval
  rw [MakeChecks.laidMetH_plain _ _ _ (by kernel_rfl)] at hL
  have hT : Lib.TabIs Tryd.prog W "drayage/alter.changes" .i64 [0, 0, -1, 1, 2, 6] := Lib.tabIs_of_head (g := 1) (t := 131) (e := 3) (n := 6) (rest := []) (by kernel_rfl) (by kernel_rfl) Tryd.underlying131 Tryd.underlying3 (by kernel_rfl) (by kernel_rfl) hL
  have hgl : AM.GlobR W (Lt W.heap.size) := glob_ints (g := 1) (k := .i64) (zs := [0, 0, -1, 1, 2, 6]) rfl (by decide) fun i hi => hT.cell (by kernel_rfl) i hi
  obtain ⟨v0, vs0, d0, ds0, p0, q0, hargs, rfl, rfl, h0, r0⟩ := trodAll_cons hA
  obtain ⟨v1, vs1, d1, ds1, p1, q1, rfl, rfl, rfl, h1, r1⟩ := trodAll_cons r0
  obtain ⟨v2, vs2, d2, ds2, p2, q2, rfl, rfl, rfl, h2, r2⟩ := trodAll_cons r1
  obtain ⟨rfl, rfl, rfl⟩ := trodAll_nil r2
  obtain rfl : args = #[v0, v1, v2] := by cases args; simp_all
  obtain ⟨rfl, rfl⟩ := trodVars_none hV
  have lt0 : ∀ x ∈ p0, x.block < W.heap.size := by obtain ⟨m, hm⟩ := h0; exact DataW.trod_lt m _ _ _ hm
  obtain ⟨x0, a0⟩ : ∃ x : Spec, V W (Lt W.heap.size) x v0 := arg_of rd_Spec h0 (agg_struct Tryd.underlying50 (hval 0 50 v0 rfl rfl))
  have lt1 : ∀ x ∈ p1, x.block < W.heap.size := by obtain ⟨m, hm⟩ := h1; exact DataW.trod_lt m _ _ _ hm
  obtain ⟨x1, a1⟩ : ∃ x : Job, V W (Lt W.heap.size) x v1 := arg_of rd_Job h1 (agg_struct Tryd.underlying55 (hval 1 55 v1 rfl rfl))
  have lt2 : ∀ x ∈ p2, x.block < W.heap.size := by obtain ⟨m, hm⟩ := h2; exact DataW.trod_lt m _ _ _ hm
  obtain ⟨x2, a2⟩ : ∃ x : (Int × (List Call) × Int), V W (Lt W.heap.size) x v2 := arg_of (rd_struct Tryd.underlying58 (by kernel_rfl) (RdF.cons (rd_int Tryd.underlying3) rfl (by kernel_rfl) rfl (RdF.cons (rd_slice Tryd.underlying56 (by kernel_rfl) rd_Call) rfl (by kernel_rfl) rfl (RdF.last (rd_int Tryd.underlying3) rfl (by kernel_rfl))))) h2 (agg_struct Tryd.underlying58 (hval 2 58 v2 rfl rfl))
  clear hA0 hval0
  refine (walk x0 x1 x2 v0 v1 v2 W hgl a0 a1 a2).mono fun e W' ⟨he, bel⟩ => ?_
  subst he
  exact ⟨_, rfl, _, _, _, [], _, [], hW', trodAll_mk1 (shut_bool Tryd.underlying4 _), (trodAll_cons_mk (Below.trod laidOut (by kernel_rfl) (of_decide_eq_true (by kernel_rfl)) h0 bel lt0) (trodAll_cons_mk (Below.trod laidOut (by kernel_rfl) (of_decide_eq_true (by kernel_rfl)) h1 bel lt1) (trodAll_cons_mk (Below.trod laidOut (by kernel_rfl) (of_decide_eq_true (by kernel_rfl)) h2 bel lt2) trodAll_mk0))), rfl, bel.frame _, fun h => by cases h⟩

theorem over : Rows.alterVersionsRow.holds Tryd.pinned (OpenSpec.ofChange Rows.alterVersionsSpec) :=
  OpenClaim.holds_of_wide 6 Tryd.f6 rfl rfl rfl rfl rfl rfl rfl ⟨rfl, rfl, rfl, rfl, rfl⟩ rfl rfl rfl rfl rfl (by kernel_rfl) Tryd.func6 (by kernel_rfl)
    (of_decide_eq_true (by kernel_rfl)) (by unfold Func.isWrapper; first | (rw [if_pos (by decide +kernel)]; kernel_rfl) | (rw [if_neg (by decide +kernel)]; exact ⟨rfl, rfl⟩))
    (fun os started H enc _ => lifted os started H enc)

theorem proved : Rows.AlterVersionsCardSaid :=
  Claim7.holds_tied_plain_at .later [] [.data] true (true, "f662f84a55fcc42127e5561140b0c8b52a6e04a8d92251afd9764e18f6df97cd") false
    over (fun _ h => by cases h) (by kernel_rfl) (fun _ h => by cases h) alterVersions_row_tie rfl ⟨rfl, rfl⟩ (by kernel_rfl) rfl
    (fun f fn hf hfn => by
      obtain rfl : f = 6 := Option.some.inj ((show Tryd.prog.funcNamed "drayage/drayagelaw25.AlterVersions" = some 6 by kernel_rfl).symm.trans hf) |>.symm
      obtain rfl : fn = Tryd.f6 := (Option.some.inj (Tryd.func6.symm.trans hfn)).symm
      exact ⟨by kernel_rfl, fun j t ht => by
        rw [Tryd.params6] at ht
        have hm : t ∈ [50, 55, 58] := by simpa using Array.mem_of_getElem? ht
        have hall : ([50, 55, 58].all fun u => !Tryd.prog.wantsStandIn u) = true := by kernel_rfl
        exact (show Tryd.prog.wantsStandIn t = false by simpa using List.all_eq_true.1 hall t hm)⟩)
    (by kernel_rfl)
#print axioms proved
end Go.Proofs.YtgccppgpbnmaaaaDoor.alterVersions
