/-
  'drayagelaw49.StatOf' returns true whatever its arguments are, and what was in memory stays as it was; the package variables that the row lists hold what the program's text lays there. Conditions: none.
-/
import Derived.Test.YtfelhbeiegppgaaDoorRows
import Derived.Test.YtfelhbeiegppgaaDoorCards
import Derived.Test.YtfelhbeiegppgaaDoorTie
import Derived.Test.YtfelhbeiegppgaaDoorMStatOf
import Derived.WalkKit
import Derived.ProofKit
import Derived.OpenShut
import Derived.LaidMore
import Derived.Lay
import Derived.Lib.LaidTab
import Derived.SevenTiedAt
import Derived.Stop.Joined
import Derived.Below
import Derived.Carry
import Derived.Stop.LaidErr
namespace Go.Proofs.YtfelhbeiegppgaaDoor.statOf
open Go.ChangeShapes Go.WideShapes Go.ChangeAt Go.RowKit

theorem own : ownKnob Tryd.prog.godebug = none := by kernel_rfl
theorem laidOut : laidOutB Tryd.prog = true := by kernel_rfl
theorem glob_ints {P : Program} {W : World} {name : String} {g : Nat} {k : IntKind} {zs : List Int} (hglobs : AM.globs = [(g, zs.map (AM.AVal.int k))]) (hg : P.globalNamed name = some g) (hT : Lib.TabIs P W name k zs) : AM.GlobR W (Lt W.heap.size) := by
  intro b cs hb
  rw [hglobs] at hb
  simp only [AM.globOf] at hb
  split at hb
  · rename_i hgb
    subst hgb
    cases hb
    have hv : W.var? P name = some (zs.map fun z => Value.int k z).toArray := hT
    unfold World.var? at hv
    rw [hg] at hv
    simp only [Option.bind_some] at hv
    have hlt : g < W.heap.size := by
      apply Classical.byContradiction
      intro hlt
      have : W.heap[g]? = none := by rw [Array.getElem?_eq_none]; omega
      rw [this] at hv
      cases hv
    refine ⟨.iptr _ 0 g 0 (fun j => .int k (zs.getD j 0)) hlt (fun j c hj => ?_) (fun j c hj => ?_), hlt, ?_⟩
    · have hl := (List.getElem?_eq_some_iff.1 hj).1
      rw [List.length_map] at hl
      rw [Nat.zero_add]
      exact hT.cell hg j hl
    · rw [List.getElem?_map] at hj
      obtain ⟨z, hz, rfl⟩ := Option.map_eq_some_iff.1 hj
      have : zs.getD j 0 = z := by rw [List.getD, hz]; rfl
      rw [this]
      exact .int k z
    · split at hv
      · rename_i us t p hu
        cases hv
        exact ⟨_, t, p, hu, by simp⟩
      · cases hv
  · cases hb

set_option maxRecDepth 100000 in
theorem lifted (os : Os) (started : os.Started) (H : Type) (enc : TypeId × Value → H) :
    ReturnsInHanded {} Tryd.checked os 3 .any (fun w args => (Rows.statOfSpec.pre enc Tryd.prog Tryd.f3 Rows.statOfRow.domain false w args ∧ laidMetH Tryd.prog Rows.statOfRow.laid w) ∧ sizedMet enc Tryd.prog Tryd.f3 (OpenSpec.ofChange Rows.statOfSpec) false w args)
      (Rows.statOfSpec.post enc Tryd.prog Tryd.f3 false true false false) := by
  refine returnsInHanded_of_change_and (C := Tryd.checked) (X := fun w _ => laidMetH Tryd.prog Rows.statOfRow.laid w) (fun _ _ _ hh h => h.of_heap hh) own started (by kernel_rfl) Tryd.func3
    (ChangeSpec.witness_shaped (enc := enc) (C := Tryd.checked) (os := os) (X := fun w _ => laidMetH Tryd.prog Rows.statOfRow.laid w) false (World.laidAll Tryd.prog os Rows.statOfRow.laid) #[.slice none 0 0, .int .u16 0] 8 (World.laidAll_os _ _ _)
      (World.shaped_of_ZipB (by kernel_rfl) (by kernel_rfl)) (by kernel_rfl) (by kernel_rfl) (by kernel_rfl)
      (by rw [MakeChecks.laidMetH_plain _ _ _ (by kernel_rfl)]; exact laidMet_laidAll _ (by kernel_rfl) (by kernel_rfl))) ?_
  intro W base args ds gs before hval0 hW _ _ hL _
  have hval : ∀ (j : Nat) t v, Tryd.f3.params[j]? = some t → args[j]? = some v → Value.okWide Tryd.prog W .any base t v := hval0
  have hW' := hW
  obtain ⟨p, q, hA0, hV, rfl, hfz, hnd⟩ := hW
  have hA : DataW.TrodAll enc Tryd.prog W 0 (fun _ => true) true Tryd.f3.params.toList args.toList ds p := hA0
  rw [Tryd.params3] at hA hval
  rw [MakeChecks.laidMetH_plain _ _ _ (by kernel_rfl)] at hL
  have hv0 := GlobS.strs_of_head (P := Tryd.prog) (W := W) (name := "drayage/stat.names") (zs := [[97, 112, 112, 108, 105, 101, 100], [99, 97, 99, 104, 101, 100], [114, 101, 102, 117, 115, 101, 100], [99, 121, 99, 108, 101, 115], [116, 105, 99, 107, 115], [101, 120, 105, 116, 115], [], [115, 117, 98, 109, 105, 116], [109, 111, 100, 105, 102, 121], [104, 111, 108, 100], [114, 101, 108, 101, 97, 115, 101], [99, 97, 110, 99, 101, 108], [114, 101, 113, 117, 101, 117, 101], [109, 111, 118, 101], [106, 111, 98], [113, 117, 101, 117, 101], [110, 111, 100, 101, 115], [114, 101, 115, 101, 114, 118, 101], [117, 110, 114, 101, 115, 101, 114, 118, 101]]) (g := 0) (t := 62) (e := 9) (n := 19) (by kernel_rfl) (by kernel_rfl) Tryd.underlying62 Tryd.underlying9 (by kernel_rfl) (by kernel_rfl) hL.tail.tail.tail
  have hgl : AM.GlobR W (Lt W.heap.size) := GlobS.globR_of fun p hp => by
    simp only [AM.globs, List.mem_cons, List.not_mem_nil, or_false] at hp
    rcases hp with rfl
    · exact GlobS.at_strs (by kernel_rfl) hv0
  obtain ⟨v0, vs0, d0, ds0, p0, q0, hargs, rfl, rfl, h0, r0⟩ := trodAll_cons hA
  obtain ⟨v1, vs1, d1, ds1, p1, q1, rfl, rfl, rfl, h1, r1⟩ := trodAll_cons r0
  obtain ⟨rfl, rfl, rfl⟩ := trodAll_nil r1
  obtain rfl : args = #[v0, v1] := by cases args; simp_all
  obtain ⟨rfl, rfl⟩ := trodVars_none hV
  have lt0 : ∀ x ∈ p0, x.block < W.heap.size := by obtain ⟨m, hm⟩ := h0; exact DataW.trod_lt m _ _ _ hm
  obtain ⟨x0, a0⟩ : ∃ x : (List Entry), V W (Lt W.heap.size) x v0 := arg_of (rd_slice Tryd.underlying22 (by kernel_rfl) rd_Entry) h0 (agg_slice Tryd.underlying22 (hval 0 22 v0 rfl rfl))
  have lt1 : ∀ x ∈ p1, x.block < W.heap.size := by obtain ⟨m, hm⟩ := h1; exact DataW.trod_lt m _ _ _ hm
  obtain ⟨x1, a1⟩ : ∃ x : UInt16, V W (Lt W.heap.size) x v1 := arg_of (rd_u16 Tryd.underlying23) h1 (agg_int Tryd.underlying23 (hval 1 23 v1 rfl rfl))
  clear hA0 hval0
  refine (walk x0 x1 v0 v1 W hgl a0 a1).mono fun e W' ⟨he, bel⟩ => ?_
  subst he
  exact ⟨_, rfl, _, _, _, [], _, [], hW', trodAll_mk1 (shut_bool Tryd.underlying4 _), (trodAll_cons_mk (Below.trod laidOut (by kernel_rfl) (of_decide_eq_true (by kernel_rfl)) h0 bel lt0) (trodAll_cons_mk (Below.trod laidOut (by kernel_rfl) (of_decide_eq_true (by kernel_rfl)) h1 bel lt1) trodAll_mk0)), rfl, bel.frame _, fun h => by cases h⟩

theorem over : Rows.statOfRow.holds Tryd.pinned (OpenSpec.ofChange Rows.statOfSpec) :=
  OpenClaim.holds_of_wide 3 Tryd.f3 rfl rfl rfl rfl rfl rfl rfl ⟨rfl, rfl, rfl, rfl, rfl⟩ rfl rfl rfl rfl rfl (by kernel_rfl) Tryd.func3 (by kernel_rfl)
    (of_decide_eq_true (by kernel_rfl)) (by unfold Func.isWrapper; first | (rw [if_pos (by decide +kernel)]; kernel_rfl) | (rw [if_neg (by decide +kernel)]; exact ⟨rfl, rfl⟩))
    (fun os started H enc _ => lifted os started H enc)

theorem proved : Rows.StatOfCardSaid :=
  Claim7.holds_tied_plain_at .later [] [.data, .data, .data, .data] true (true, "ff45b8f5bbe863459b782e8e9e39bea11ea8e79b92c74630a0ced745e9c1c3aa") false
    over (fun _ h => by cases h) (by kernel_rfl) (fun _ h => by cases h) statOf_row_tie rfl ⟨rfl, rfl⟩ (by kernel_rfl) rfl
    (fun f fn hf hfn => by
      obtain rfl : f = 3 := Option.some.inj ((show Tryd.prog.funcNamed "drayage/drayagelaw49.StatOf" = some 3 by kernel_rfl).symm.trans hf) |>.symm
      obtain rfl : fn = Tryd.f3 := (Option.some.inj (Tryd.func3.symm.trans hfn)).symm
      exact ⟨by kernel_rfl, fun j t ht => by
        rw [Tryd.params3] at ht
        have hm : t ∈ [22, 23] := by simpa using Array.mem_of_getElem? ht
        have hall : ([22, 23].all fun u => !Tryd.prog.wantsStandIn u) = true := by kernel_rfl
        exact (show Tryd.prog.wantsStandIn t = false by simpa using List.all_eq_true.1 hall t hm)⟩)
    (by kernel_rfl)
#print axioms proved
end Go.Proofs.YtfelhbeiegppgaaDoor.statOf
