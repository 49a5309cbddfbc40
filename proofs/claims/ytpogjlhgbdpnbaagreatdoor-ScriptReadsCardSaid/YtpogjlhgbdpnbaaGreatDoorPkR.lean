/-
  The statement ScriptReads is proved here: whatever its arguments, the call gives true; under the conditions that the given statement itself names. (Many texts laid together by program.)
-/
import Derived.Test.YtpogjlhgbdpnbaaGreatDoorPkRx
import Derived.Lib.LaidTab
import Derived.SizedLaws
import Derived.ShapedOpen
import Derived.Test.YtpogjlhgbdpnbaaGreatDoorRows
import Derived.Test.YtpogjlhgbdpnbaaGreatDoorCards
import Derived.Test.YtpogjlhgbdpnbaaGreatDoorTie
import Derived.WalkKit
import Derived.ProofKit
import Derived.OpenShut
import Derived.LaidMore
import Derived.Lay
import Derived.SevenTiedAt
import Derived.Stop.Joined
import Derived.Below
import Derived.Carry
import Derived.Stop.LaidErr
set_option linter.unnecessarySimpa false
set_option linter.unusedSimpArgs false
set_option linter.unusedVariables false
section
namespace Go.Proofs.YtpogjlhgbdpnbaaGreatDoor
open Go Go.RowKit
namespace GlobS
def strData {H : Type} (zs : List (List UInt8)) : DataW H := .agg (zs.map fun z => .lit (.string z))
theorem cells_of_strs {H : Type} {enc : TypeId × Value → H} {P : Program} {w : World} {base : Nat} {sp : Nat → Bool} {held : Bool} {fuel : Nat} {t e : TypeId} {n : Nat} {cs : List Value} {zs : List (List UInt8)} {p : List MemPlace}
   (ht : P.underlying t = some (.array n e)) (he : P.underlying e = some .string) (hce : P.cellsOf e = 1) (hct : P.cellsOf t = n)
   (h : DataW.trod enc P w base sp held fuel t cs = some (strData zs, p)) : cs = zs.map fun z => Value.string ⟨z.toArray⟩ := by
 cases fuel with
 | zero => simp [DataW.trod] at h
 | succ fuel =>
   simp only [DataW.trod, ht, hce, hct, Nat.mul_one] at h
   split at h
   · rename_i hl
     obtain ⟨xs, hm, hx⟩ := Option.map_eq_some_iff.1 h
     have hxs : xs.map (·.1) = zs.map fun z => (DataW.lit (.string z) : DataW H) := by
       have := congrArg Prod.fst hx
       simpa [strData] using this
     have hxl : xs.length = n := by simpa using Lib.mapM_length hm
     have hzl : zs.length = n := by
       have := congrArg List.length hxs
       simp at this
       omega
     apply List.ext_getElem?
     intro i
     by_cases hi : i < n
     · obtain ⟨b, hb, hf⟩ := Lib.mapM_at hm i i (by simp [hi])
       obtain ⟨s, hc, rfl, _⟩ := DataW.trod_string he hf
       have h1 : cs[i]? = some (.string s) := by
         have := congrArg (·[0]?) hc
         simpa [List.getElem?_take, List.getElem?_drop] using this
       have h2 : (xs.map (·.1))[i]? = some (DataW.lit (.string s.data.toList) : DataW H) := by simp [hb]
       rw [hxs] at h2
       simp only [List.getElem?_map, Option.map_eq_some_iff, DataW.lit.injEq, Lit.string.injEq] at h2
       obtain ⟨z', hz', rfl⟩ := h2
       simp [h1, hz']
     · rw [List.getElem?_eq_none (by omega), List.getElem?_eq_none (by simp; omega)]
   · cases h
theorem strs_of_head {P : Program} {W : World} {name : String} {zs : List (List UInt8)} {rest : List (String × DataW Unit)} {g : Nat} {t e : TypeId} {n : Nat}
   (hg : P.globalNamed name = some g) (hty : (P.globals[g]?).map (·.type) = some t) (ht : P.underlying t = some (.array n e)) (he : P.underlying e = some .string) (hce : P.cellsOf e = 1) (hct : P.cellsOf t = n)
   (h : laidMet P ((name, strData zs) :: rest) W) : W.var? P name = some (zs.map fun z => Value.string ⟨z.toArray⟩).toArray := by
 obtain ⟨ps, ⟨g', t', cs, fuel, p, q, hg', ht', hvar, hd, _, _⟩, _⟩ := h
 obtain rfl := Option.some.inj (hg.symm.trans hg')
 obtain rfl := Option.some.inj (hty.symm.trans ht')
 rw [hvar, ← cells_of_strs ht he hce hct hd]
def At (W : World) (g : Nat) (cs : List AM.AVal) : Prop := AM.IR W (Lt W.heap.size) (.iptr cs 0) (.pointer (some ⟨g, 0, none⟩)) ∧ g < W.heap.size ∧ ∃ us t p, W.heap[g]? = some (.cells us t p) ∧ us.size = cs.length
theorem at_of {W : World} {g : Nat} {cs : List AM.AVal} {us : Array Value} {t : TypeId} {p : Nat × Nat} (h : W.heap[g]? = some (.cells us t p)) (hl : us.size = cs.length) (hr : ∀ (j : Nat) (c : AM.AVal) (v : Value), cs[j]? = some c → us[j]? = some v → AM.IR W (Lt W.heap.size) c v) : At W g cs := by
 have hlt : g < W.heap.size := by
   rcases Nat.lt_or_ge g W.heap.size with h' | h'
   · exact h'
   · rw [Array.getElem?_eq_none h'] at h; cases h
 refine ⟨.iptr _ 0 g 0 (fun j => us.getD j undef) hlt (fun j c hj => ?_) (fun j c hj => ?_), hlt, us, t, p, h, hl⟩
 · have hj' := (List.getElem?_eq_some_iff.1 hj).1
   have hju : j < us.size := by omega
   simp only [World.cell?, h, Nat.zero_add]
   simp [Array.getD, hju]
 · have hj' := (List.getElem?_eq_some_iff.1 hj).1
   have hju : j < us.size := by omega
   refine hr j c _ hj ?_
   simp [Array.getD, hju]
theorem var_heap {P : Program} {W : World} {name : String} {g : Nat} {us : Array Value} (hg : P.globalNamed name = some g) (hv : W.var? P name = some us) : ∃ t p, W.heap[g]? = some (.cells us t p) := by
 unfold World.var? at hv
 rw [hg] at hv
 simp only [Option.bind_some] at hv
 split at hv
 · rename_i us' t p hu
   cases hv
   exact ⟨t, p, hu⟩
 · cases hv
theorem at_strs {P : Program} {W : World} {name : String} {g : Nat} {zs : List (List UInt8)} (hg : P.globalNamed name = some g) (hv : W.var? P name = some (zs.map fun z => Value.string ⟨z.toArray⟩).toArray) : At W g (zs.map .str) := by
 obtain ⟨t, p, h⟩ := var_heap hg hv
 refine at_of h (by simp) fun j c v hc hv => ?_
 rw [List.getElem?_map] at hc
 obtain ⟨z, hz, rfl⟩ := Option.map_eq_some_iff.1 hc
 have : v = .string ⟨z.toArray⟩ := by simpa [hz] using hv.symm
 subst this
 have h := AM.IR.str (w := W) (S := Lt W.heap.size) ⟨z.toArray⟩
 simpa using h
theorem at_ints {P : Program} {W : World} {name : String} {g : Nat} {k : IntKind} {zs : List Int} (hg : P.globalNamed name = some g) (hT : Lib.TabIs P W name k zs) : At W g (zs.map (.int k)) := by
 obtain ⟨t, p, h⟩ := var_heap hg hT
 refine at_of h (by simp) fun j c v hc hv => ?_
 rw [List.getElem?_map] at hc
 obtain ⟨z, hz, rfl⟩ := Option.map_eq_some_iff.1 hc
 have : v = .int k z := by simpa [hz] using hv.symm
 subst this
 exact .int k z
theorem globR_of {W : World} (h : ∀ p, p ∈ AM.globs → At W p.1 p.2) (h2 : ∀ b, b ∈ AM.anyInts → ∃ m t p, W.heap[b]? = some (.cells #[.int .i64 m] t p)) : AM.GlobR W (Lt W.heap.size) := by
 have key : ∀ (l : List (Nat × List AM.AVal)), (∀ p, p ∈ l → At W p.1 p.2) → ∀ b cs, AM.globOf b l = some cs → At W b cs := by
   intro l
   induction l with
   | nil => intro _ b cs hb; cases hb
   | cons p l ih =>
     intro hl b cs hb
     obtain ⟨c, ds⟩ := p
     simp only [AM.globOf] at hb
     split at hb
     · rename_i hcb
       subst hcb
       cases hb
       exact hl _ (List.mem_cons_self ..)
     · exact ih (fun p hp => hl p (List.mem_cons_of_mem _ hp)) b cs hb
 refine ⟨fun b cs hb => key AM.globs h b cs hb, fun b hb => ?_⟩
 obtain ⟨m, t, p, h3⟩ := h2 b hb
 refine ⟨?_, m, t, p, h3⟩
 rcases Nat.lt_or_ge b W.heap.size with h' | h'
 · exact h'
 · rw [Array.getElem?_eq_none h'] at h3; cases h3
theorem some_int {P : Program} {w : World} {g : Nat} {t : TypeId} {zero : Array Value} {k : IntKind}
   (h : w.ShapedOpen P) (hg : g < P.globals.size)
   (h0 : ((begin P (fun _ _ => 0) default).world.heap[g]?).bind Obj.row? = some (zero, t)) (hz : zero.size = 1)
   (hb : P.buildable t = true) (hc : P.cellTypes P.depth t = some [t]) (hu : P.underlying t = some (.int k)) :
   ∃ m t p, w.heap[g]? = some (.cells #[.int k m] t p) := by
 obtain ⟨cs, hh, hs, hr⟩ := h.1 g zero t hg h0
 obtain ⟨ts, hts, _, hall⟩ := hr hb
 rw [hc] at hts
 cases hts
 have h1 : cs.size = 1 := by omega
 obtain ⟨u, hu', hok⟩ := hall 0 cs[0] (by simp [h1])
 have : u = t := by simpa using hu'.symm
 subst this
 unfold Cell.ok at hok
 rw [hu] at hok
 cases hv : cs[0] <;> rw [hv] at hok <;> simp at hok
 case int k' n =>
   have e : cs = #[.int k n] := by
     apply Array.ext
     · simp [h1]
     · intro i hi1 hi2
       have : i = 0 := by omega
       subst this
       rw [hv, hok.1]
       rfl
   rw [e] at hh
   exact ⟨n, _, _, hh⟩
theorem wrap_shaped {H : Type} {enc : TypeId × Value → H} {a : Assume} {C : Checked} {os : Os} {f : FuncId} {fn : Func} {s : ChangeSpec} {conds : List PathCond} {apart fresh handsOn again : Bool} {X : World → Array Value → Prop}
   (hX : ∀ (w w' : World) (args : Array Value), w.heap = w'.heap → X w args → X w' args)
   (own : ownKnob C.prog.godebug = none) (started : os.Started) (noInit : C.prog.inits.idxOf? f = none) (hfn : C.prog.funcs[f]? = some fn)
   (witness : ∃ (w : World) (tape : Tape) (i : Input), w.os = os ∧ (w.forCall tape i).Shaped C.prog ∧ i.vars = [] ∧ Input.okWide C.prog (w.forCall tape i) .any w.heap.size f i ∧
     ((s.pre enc C.prog fn conds apart (w.forCall tape i).memory i.args ∧ X (w.forCall tape i).memory i.args) ∧ sizedMet enc C.prog fn (OpenSpec.ofChange s) apart (w.forCall tape i).memory i.args) ∧ a.holds C.prog (lone (Frame.enter C.prog f i.args .normal) [] (w.forCall tape i)))
   (contract : ∀ (W : World) (base : Nat) (args : Array Value) (ds gs : List (DataW H)) (before : List MemPlace),
     (∀ (j : Nat) t v, fn.params[j]? = some t → args[j]? = some v → Value.okWide C.prog W .any base t v) →
     DataW.Whole enc C.prog fn.params.toList s.vars apart W args.toList ds gs before →
     conds.all (PathCond.test C.prog ⟨fn.params.toList, ds, s.plain.varTypes C.prog, gs⟩) = true →
     (DataW.weightsEach C.prog (fn.params.toList ++ s.plain.varTypes C.prog) (ds ++ gs)).all (· ≤ reachBytes) = true → X W args →
     W.ShapedOpen C.prog →
     a.holds C.prog (lone (Frame.enter C.prog f args .normal) [] W) →
     Calls C.prog f args W fun e W' => ∃ v, e = .returned v ∧ s.post enc C.prog fn apart fresh handsOn again W args v W') :
   ReturnsInHanded a C os f .any (fun w args => (s.pre enc C.prog fn conds apart w args ∧ X w args) ∧ sizedMet enc C.prog fn (OpenSpec.ofChange s) apart w args) (s.post enc C.prog fn apart fresh handsOn again) := by
 refine returnsInHanded_of_calls own started noInit witness ?_
 intro w tape i _ hsh _ hok hpre hholds
 obtain ⟨_, _, _, fn', hfn', _, _, _, _, hval⟩ := hok
 have e : fn' = fn := Option.some.inj (hfn'.symm.trans hfn)
 subst e
 obtain ⟨⟨⟨ds, gs, before, hw, hc⟩, hx⟩, hz⟩ := hpre
 have hw' := DataW.Whole.of_heap (w' := w.forCall tape i) (by rfl) hw
 refine (contract (w.forCall tape i) w.heap.size i.args ds gs before hval hw' hc (hz.weights hw) (hX _ _ _ (by rfl) hx) hsh hholds).mono fun e W' ⟨v, he, hp⟩ => ?_
 subst he
 exact ChangeSpec.post_blind hp
end GlobS
end Go.Proofs.YtpogjlhgbdpnbaaGreatDoor
end
section
namespace Go.Proofs.YtpogjlhgbdpnbaaGreatDoor.scriptReads
open Go.ChangeShapes Go.WideShapes Go.ChangeAt Go.RowKit
theorem own : ownKnob Tryz.prog.godebug = none := by kernel_rfl
theorem laidOut : laidOutB Tryz.prog = true := by kernel_rfl
set_option maxRecDepth 100000 in
theorem lifted (os : Os) (started : os.Started) (H : Type) (enc : TypeId × Value → H) :
   ReturnsInHanded {} Tryz.checked os 4 .any (fun w args => (Rows.scriptReadsSpec.pre enc Tryz.prog Tryz.f4 Rows.scriptReadsRow.domain false w args ∧ laidMetH Tryz.prog Rows.scriptReadsRow.laid w) ∧ sizedMet enc Tryz.prog Tryz.f4 (OpenSpec.ofChange Rows.scriptReadsSpec) false w args)
     (Rows.scriptReadsSpec.post enc Tryz.prog Tryz.f4 false true false false) := by
 refine GlobS.wrap_shaped (C := Tryz.checked) (X := fun w _ => laidMetH Tryz.prog Rows.scriptReadsRow.laid w) (fun _ _ _ hh h => h.of_heap hh) own started (by kernel_rfl) Tryz.func4
   (ChangeSpec.witness_shaped (enc := enc) (C := Tryz.checked) (os := os) (X := fun w _ => laidMetH Tryz.prog Rows.scriptReadsRow.laid w) false (World.laidAll Tryz.prog os Rows.scriptReadsRow.laid) #[.string .empty] 8 (World.laidAll_os _ _ _)
     (World.shaped_of_ZipB (by kernel_rfl) (by kernel_rfl)) (by kernel_rfl) (by kernel_rfl) (by kernel_rfl)
     (by rw [MakeChecks.laidMetH_plain _ _ _ (by kernel_rfl)]; exact laidMet_laidAll _ (by kernel_rfl) (by kernel_rfl))) ?_
 intro W base args ds gs before hval0 hW _ _ hL hsh _
 have hval : ∀ (j : Nat) t v, Tryz.f4.params[j]? = some t → args[j]? = some v → Value.okWide Tryz.prog W .any base t v := hval0
 have hW' := hW
 obtain ⟨p, q, hA0, hV, rfl, hfz, hnd⟩ := hW
 have hA : DataW.TrodAll enc Tryz.prog W 0 (fun _ => true) true Tryz.f4.params.toList args.toList ds p := hA0
 rw [Tryz.params4] at hA hval
 rw [MakeChecks.laidMetH_plain _ _ _ (by kernel_rfl)] at hL
 have hv0 := GlobS.strs_of_head (P := Tryz.prog) (W := W) (name := "drayage/script.verbs") (zs := [[], [115, 101, 110, 100], [114, 97, 119], [97, 114, 114, 105, 118, 101], [108, 111, 115, 101], [99, 108, 111, 115, 101], [99, 121, 99, 108, 101], [116, 105, 99, 107], [101, 120, 105, 116], [100, 101, 108, 105, 118, 101, 114], [100, 114, 111, 112]]) (g := 0) (t := 107) (e := 9) (n := 11) (by kernel_rfl) (by kernel_rfl) Tryz.underlying107 Tryz.underlying9 (by kernel_rfl) (by kernel_rfl) hL.tail.tail.tail.tail
 have hv1 := GlobS.strs_of_head (P := Tryz.prog) (W := W) (name := "drayage/script.kinds") (zs := [[], [115, 117, 98, 109, 105, 116], [109, 111, 100, 105, 102, 121], [104, 111, 108, 100], [114, 101, 108, 101, 97, 115, 101], [99, 97, 110, 99, 101, 108], [114, 101, 113, 117, 101, 117, 101], [109, 111, 118, 101], [106, 111, 98], [113, 117, 101, 117, 101], [110, 111, 100, 101, 115], [114, 101, 115, 101, 114, 118, 101], [117, 110, 114, 101, 115, 101, 114, 118, 101]]) (g := 1) (t := 142) (e := 9) (n := 13) (by kernel_rfl) (by kernel_rfl) Tryz.underlying142 Tryz.underlying9 (by kernel_rfl) (by kernel_rfl) hL.tail.tail.tail.tail.tail
 have hv2 : Lib.TabIs Tryz.prog W "internal/strconv.uint64pow10" .u64 [1, 10, 100, 1000, 10000, 100000, 1000000, 10000000, 100000000, 1000000000, 10000000000, 100000000000, 1000000000000, 10000000000000, 100000000000000, 1000000000000000, 10000000000000000, 100000000000000000, 1000000000000000000, 10000000000000000000] := Lib.tabIs_of_head (g := 5) (t := 197) (e := 54) (n := 20) (by kernel_rfl) (by kernel_rfl) Tryz.underlying197 Tryz.underlying54 (by kernel_rfl) (by kernel_rfl) hL.tail.tail
 have hgl : AM.GlobR W (Lt W.heap.size) := by
   refine GlobS.globR_of (fun p hp => ?_) (fun b hb => ?_)
   · simp only [AM.globs, List.mem_cons, List.not_mem_nil, or_false] at hp
     rcases hp with rfl | rfl | rfl
     · exact GlobS.at_strs (by kernel_rfl) hv0
     · exact GlobS.at_strs (by kernel_rfl) hv1
     · exact GlobS.at_ints (by kernel_rfl) hv2
   · simp only [AM.anyInts, List.mem_cons, List.not_mem_nil, or_false] at hb
     rcases hb with rfl
     · exact GlobS.some_int (zero := #[.int .i64 0]) (t := 3) hsh (of_decide_eq_true (by kernel_rfl)) (by kernel_rfl) rfl (by kernel_rfl) (by kernel_rfl) Tryz.underlying3
 obtain ⟨v0, vs0, d0, ds0, p0, q0, hargs, rfl, rfl, h0, r0⟩ := trodAll_cons hA
 obtain ⟨rfl, rfl, rfl⟩ := trodAll_nil r0
 obtain rfl : args = #[v0] := by cases args; simp_all
 obtain ⟨rfl, rfl⟩ := trodVars_none hV
 have lt0 : ∀ x ∈ p0, x.block < W.heap.size := by obtain ⟨m, hm⟩ := h0; exact DataW.trod_lt m _ _ _ hm
 obtain ⟨x0, a0⟩ : ∃ x : ByteArray, V W (Lt W.heap.size) x v0 := arg_of (rd_string Tryz.underlying9) h0 (agg_string Tryz.underlying9 (hval 0 9 v0 rfl rfl))
 clear hA0 hval0
 refine (walk x0 v0 W hgl a0).mono fun e W' ⟨he, bel⟩ => ?_
 subst he
 exact ⟨_, rfl, _, _, _, [], _, [], hW', trodAll_mk1 (shut_bool Tryz.underlying4 _), (trodAll_cons_mk (Below.trod laidOut (by kernel_rfl) (of_decide_eq_true (by kernel_rfl)) h0 bel lt0) trodAll_mk0), rfl, bel.frame _, fun h => by cases h⟩
theorem over : Rows.scriptReadsRow.holds Tryz.pinned (OpenSpec.ofChange Rows.scriptReadsSpec) :=
 OpenClaim.holds_of_wide 4 Tryz.f4 rfl rfl rfl rfl rfl rfl rfl ⟨rfl, rfl, rfl, rfl, rfl⟩ rfl rfl rfl rfl rfl (by kernel_rfl) Tryz.func4 (by kernel_rfl)
   (of_decide_eq_true (by kernel_rfl)) (by unfold Func.isWrapper; first | (rw [if_pos (by decide +kernel)]; kernel_rfl) | (rw [if_neg (by decide +kernel)]; exact ⟨rfl, rfl⟩))
   (fun os started H enc _ => lifted os started H enc)
theorem proved : Rows.ScriptReadsCardSaid :=
 Claim7.holds_tied_plain_at .later [] [.data, .data, .data, .data, .data, .data, .pinned] true (true, "beedd42a53d3e1f08d3b973aae9b58e6e835b961c1c220f59be509a2120f9d64") true
   over (fun _ h => by cases h) (by kernel_rfl) (fun _ h => by cases h) scriptReads_row_tie rfl ⟨rfl, rfl⟩ (by kernel_rfl) rfl
   (fun f fn hf hfn => by
     obtain rfl : f = 4 := Option.some.inj ((show Tryz.prog.funcNamed "drayage/drayagelaw44.ScriptReads" = some 4 by kernel_rfl).symm.trans hf) |>.symm
     obtain rfl : fn = Tryz.f4 := (Option.some.inj (Tryz.func4.symm.trans hfn)).symm
     exact ⟨by kernel_rfl, fun j t ht => by
       rw [Tryz.params4] at ht
       have hm : t ∈ [9] := by simpa using Array.mem_of_getElem? ht
       have hall : ([9].all fun u => !Tryz.prog.wantsStandIn u) = true := by kernel_rfl
       exact (show Tryz.prog.wantsStandIn t = false by simpa using List.all_eq_true.1 hall t hm)⟩)
   (by kernel_rfl)
end Go.Proofs.YtpogjlhgbdpnbaaGreatDoor.scriptReads
end
