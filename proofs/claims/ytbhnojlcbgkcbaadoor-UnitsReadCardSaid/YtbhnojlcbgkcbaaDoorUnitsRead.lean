/-
  'drayagelaw03.UnitsRead' returns true whatever its arguments are, and what was in memory stays as it was; the package variables that the row lists hold what the program's text lays there. Conditions: none.
-/
import Derived.Test.YtbhnojlcbgkcbaaDoorRows
import Derived.Test.YtbhnojlcbgkcbaaDoorCards
import Derived.Test.YtbhnojlcbgkcbaaDoorTie
import Derived.Test.YtbhnojlcbgkcbaaDoorLUnitsRead
import Derived.WalkKit
import Derived.ProofKit
import Derived.OpenShut
import Derived.LaidMore
import Derived.Lay
import Derived.Lib.LaidTab
import Derived.SevenTiedAt
import Derived.Stop.Joined
import Derived.Below
import Derived.Carry
import Derived.Stop.LaidErr
namespace Go.Proofs.YtbhnojlcbgkcbaaDoor.unitsRead
open Go.ChangeShapes Go.WideShapes Go.ChangeAt Go.RowKit

theorem own : ownKnob Tryd.prog.godebug = none := by kernel_rfl
theorem laidOut : laidOutB Tryd.prog = true := by kernel_rfl
theorem glob_ints {P : Program} {W : World} {name : String} {g : Nat} {k : IntKind} {zs : List Int} (hglobs : AM.globs = [(g, zs.map (AM.AVal.int k))]) (hg : P.globalNamed name = some g) (hT : Lib.TabIs P W name k zs) : AM.GlobR W (Lt W.heap.size) := by
  intro b cs hb
  rw [hglobs] at hb
  simp only [AM.globOf] at hb
  split at hb
  · rename_i hgb
    subst hgb
    cases hb
    have hv : W.var? P name = some (zs.map fun z => Value.int k z).toArray := hT
    unfold World.var? at hv
    rw [hg] at hv
    simp only [Option.bind_some] at hv
    have hlt : g < W.heap.size := by
      apply Classical.byContradiction
      intro hlt
      have : W.heap[g]? = none := by rw [Array.getElem?_eq_none]; omega
      rw [this] at hv
      cases hv
    refine ⟨.iptr _ 0 g 0 (fun j => .int k (zs.getD j 0)) hlt (fun j c hj => ?_) (fun j c hj => ?_), hlt, ?_⟩
    · have hl := (List.getElem?_eq_some_iff.1 hj).1
      rw [List.length_map] at hl
      rw [Nat.zero_add]
      exact hT.cell hg j hl
    · rw [List.getElem?_map] at hj
      obtain ⟨z, hz, rfl⟩ := Option.map_eq_some_iff.1 hj
      have : zs.getD j 0 = z := by rw [List.getD, hz]; rfl
      rw [this]
      exact .int k z
    · split at hv
      · rename_i us t p hu
        cases hv
        exact ⟨_, t, p, hu, by simp⟩
      · cases hv
  · cases hb

set_option maxRecDepth 100000 in
theorem lifted (os : Os) (started : os.Started) (H : Type) (enc : TypeId × Value → H) :
    ReturnsInHanded {} Tryd.checked os 6 .any (fun w args => (Rows.unitsReadSpec.pre enc Tryd.prog Tryd.f6 Rows.unitsReadRow.domain false w args ∧ laidMetH Tryd.prog Rows.unitsReadRow.laid w) ∧ sizedMet enc Tryd.prog Tryd.f6 (OpenSpec.ofChange Rows.unitsReadSpec) false w args)
      (Rows.unitsReadSpec.post enc Tryd.prog Tryd.f6 false true false false) := by
  refine returnsInHanded_of_change_and (C := Tryd.checked) (X := fun w _ => laidMetH Tryd.prog Rows.unitsReadRow.laid w) (fun _ _ _ hh h => h.of_heap hh) own started (by kernel_rfl) Tryd.func6
    (ChangeSpec.witness_shaped (enc := enc) (C := Tryd.checked) (os := os) (X := fun w _ => laidMetH Tryd.prog Rows.unitsReadRow.laid w) false (World.laidAll Tryd.prog os Rows.unitsReadRow.laid) #[.string .empty] 8 (World.laidAll_os _ _ _)
      (World.shaped_of_ZipB (by kernel_rfl) (by kernel_rfl)) (by kernel_rfl) (by kernel_rfl) (by kernel_rfl)
      (by rw [MakeChecks.laidMetH_plain _ _ _ (by kernel_rfl)]; exact laidMet_laidAll _ (by kernel_rfl) (by kernel_rfl))) ?_
  intro W base args ds gs before hval0 hW _ _ hL _
  have hval : ∀ (j : Nat) t v, Tryd.f6.params[j]? = some t → args[j]? = some v → Value.okWide Tryd.prog W .any base t v := hval0
  have hW' := hW
  obtain ⟨p, q, hA0, hV, rfl, hfz, hnd⟩ := hW
  have hA : DataW.TrodAll enc Tryd.prog W 0 (fun _ => true) true Tryd.f6.params.toList args.toList ds p := hA0
  rw [Tryd.params6] at hA hval
  rw [MakeChecks.laidMetH_plain _ _ _ (by kernel_rfl)] at hL
  have hT : Lib.TabIs Tryd.prog W "internal/strconv.uint64pow10" .u64 [1, 10, 100, 1000, 10000, 100000, 1000000, 10000000, 100000000, 1000000000, 10000000000, 100000000000, 1000000000000, 10000000000000, 100000000000000, 1000000000000000, 10000000000000000, 100000000000000000, 1000000000000000000, 10000000000000000000] := Lib.tabIs_of_head (g := 1) (t := 85) (e := 68) (n := 20) (rest := []) (by kernel_rfl) (by kernel_rfl) Tryd.underlying85 Tryd.underlying68 (by kernel_rfl) (by kernel_rfl) hL.tail.tail
  have hgl : AM.GlobR W (Lt W.heap.size) := glob_ints (g := 1) (k := .u64) (zs := [1, 10, 100, 1000, 10000, 100000, 1000000, 10000000, 100000000, 1000000000, 10000000000, 100000000000, 1000000000000, 10000000000000, 100000000000000, 1000000000000000, 10000000000000000, 100000000000000000, 1000000000000000000, 10000000000000000000]) rfl (by kernel_rfl) hT
  obtain ⟨v0, vs0, d0, ds0, p0, q0, hargs, rfl, rfl, h0, r0⟩ := trodAll_cons hA
  obtain ⟨rfl, rfl, rfl⟩ := trodAll_nil r0
  obtain rfl : args = #[v0] := by cases args; simp_all
  obtain ⟨rfl, rfl⟩ := trodVars_none hV
  have lt0 : ∀ x ∈ p0, x.block < W.heap.size := by obtain ⟨m, hm⟩ := h0; exact DataW.trod_lt m _ _ _ hm
  obtain ⟨x0, a0⟩ : ∃ x : ByteArray, V W (Lt W.heap.size) x v0 := arg_of (rd_string Tryd.underlying9) h0 (agg_string Tryd.underlying9 (hval 0 9 v0 rfl rfl))
  clear hA0 hval0
  refine (walk x0 v0 W hgl a0).mono fun e W' ⟨he, bel⟩ => ?_
  subst he
  exact ⟨_, rfl, _, _, _, [], _, [], hW', trodAll_mk1 (shut_bool Tryd.underlying4 _), (trodAll_cons_mk (Below.trod laidOut (by kernel_rfl) (of_decide_eq_true (by kernel_rfl)) h0 bel lt0) trodAll_mk0), rfl, bel.frame _, fun h => by cases h⟩

theorem over : Rows.unitsReadRow.holds Tryd.pinned (OpenSpec.ofChange Rows.unitsReadSpec) :=
  OpenClaim.holds_of_wide 6 Tryd.f6 rfl rfl rfl rfl rfl rfl rfl ⟨rfl, rfl, rfl, rfl, rfl⟩ rfl rfl rfl rfl rfl (by kernel_rfl) Tryd.func6 (by kernel_rfl)
    (of_decide_eq_true (by kernel_rfl)) (by unfold Func.isWrapper; first | (rw [if_pos (by decide +kernel)]; kernel_rfl) | (rw [if_neg (by decide +kernel)]; exact ⟨rfl, rfl⟩))
    (fun os started H enc _ => lifted os started H enc)

theorem proved : Rows.UnitsReadCardSaid :=
  Claim7.holds_tied_plain_at .later [] [.data, .data, .data] true (true, "0db2acf1ddeb3a5267932e99e0b4246ce38ca4bffaf8355faba2ea3e5b42c16a") false
    over (fun _ h => by cases h) (by kernel_rfl) (fun _ h => by cases h) unitsRead_row_tie rfl ⟨rfl, rfl⟩ (by kernel_rfl) rfl
    (fun f fn hf hfn => by
      obtain rfl : f = 6 := Option.some.inj ((show Tryd.prog.funcNamed "drayage/drayagelaw03.UnitsRead" = some 6 by kernel_rfl).symm.trans hf) |>.symm
      obtain rfl : fn = Tryd.f6 := (Option.some.inj (Tryd.func6.symm.trans hfn)).symm
      exact ⟨by kernel_rfl, fun j t ht => by
        rw [Tryd.params6] at ht
        have hm : t ∈ [9] := by simpa using Array.mem_of_getElem? ht
        have hall : ([9].all fun u => !Tryd.prog.wantsStandIn u) = true := by kernel_rfl
        exact (show Tryd.prog.wantsStandIn t = false by simpa using List.all_eq_true.1 hall t hm)⟩)
    (by kernel_rfl)
#print axioms proved
end Go.Proofs.YtbhnojlcbgkcbaaDoor.unitsRead
