/-
  The statement LedgerSums is proved here: whatever its arguments, the call gives true; under the conditions that the given statement itself names. (Many texts laid together by program.)
-/
import Derived.Test.YtfelhbeiegppgaaPkAy
import Derived.Test.YtfelhbeiegppgaaRows
import Derived.WalkKit
import Derived.ProofKit
import Derived.OpenShut
import Derived.ChangeOld
import Derived.Below
import Derived.Carry
set_option linter.unnecessarySimpa false
set_option linter.unusedSimpArgs false
set_option linter.unusedVariables false
section
namespace Go.Proofs.Ytfelhbeiegppgaa
namespace NM
open AM
theorem sums_in {s : Spec} {fr : List Res} {m : List (Int × Alloc)} {B : Nat} (I : LInv s.nodes fr m B) (hB : B ≤ 1000) {k : Nat} {x : Res} (hx : fr[k]? = some x) (next : ((Unit × (Unit × (Int × Unit))) × (Spec × (((List Res) × (Unit × Unit)) × ((List (Int × Alloc)) × Unit)))) → Option Bool) :
   LN LOOPS (fun (s62 : ((Unit × (Unit × (Unit × (Int × Unit)))) × (Spec × (((List Res) × (Unit × Unit)) × (Res × ((List (Int × Alloc)) × Unit)))))) nx63 => l4_3 f24 f23 f22 f25 (fr, ((fr, (), ()), m, ())) next (k : Int) (m.map (·.2), ((fr, (), ()), m, ())) nx63 s62.1.2.2.2.1 s62.2.1 s62.2.2.1.1 s62.2.2.2.1 s62.2.2.2.2.1) (((), (), (), 0, ()), (s, (fr, (), ()), x, m, ())) = next (((), (), ((k + 1 : Nat) : Int), ()), (s, (fr, (), ()), m, ())) := by
 have hm := I.cnt
 have hkl := (List.getElem?_eq_some_iff.1 hx).1
 have hfl := I.len
 have hnn := I.nn
 have hml : (m.map (·.2)).length = m.length := List.length_map ..
 have hxo := I.ok x (List.mem_of_getElem? hx)
 refine loop_run0 m.length (small_lt (by omega)) (fun i => ((((), (), (), (i : Int), ()), (s, (fr, (), ()), accM x k ((m.map (·.2)).take i), m, ())) : ((Unit × (Unit × (Unit × (Int × Unit)))) × (Spec × (((List Res) × (Unit × Unit)) × (Res × ((List (Int × Alloc)) × Unit))))))) _ (by simp [accM]) (fun i hi nx => ?_) (fun nx => ?_)
 · have hp := I.al m[i] (List.getElem_mem hi)
   have g1 : (m.map (·.2))[i]? = some m[i].2 := by simp [hi]
   obtain ⟨d1, d2⟩ := r_d hp k
   have hs1 : SmallR (1048576 + 67108864 * (m.take i).length) (accM x k ((m.map (·.2)).take i)) := by
     rw [← List.map_take]
     exact accM_small (m.take i) x (fun q hq => I.al q (List.mem_of_mem_take hq)) (ok_small hxo)
   have hti : (m.take i).length ≤ 1000 := by rw [List.length_take]; omega
   simp only [l4_3]
   rw [decide_eq_true (show (i : Int) < ((m.map (·.2)).length : Int) by omega), decide_eq_true (show (0 : Int) ≤ (i : Int) by omega), show Int.toNat (i : Int) = i by omega, g1]
   simp only [cond_true, Option.bind_some]
   rw [d1]
   simp only [Option.bind_some]
   rw [d2]
   simp only [Option.bind_some]
   rw [r_AddR (b := 1048576 + 67108864 * 1000) (by omega) (hs1.more (by omega)) ((hp.small k).more (by omega)), ← accM_take _ _ _ _ g1, wi (by omega) (by omega)]
   rfl
 · have e : (m.map (·.2)).take m.length = m.map (·.2) := List.take_of_length_le (by simp)
   simp only [l4_3]
   rw [decide_eq_false (by omega), e, accM_eq, decide_eq_true (show (0 : Int) ≤ (k : Int) by omega), show Int.toNat (k : Int) = k by omega, I.sum k x hx, hx]
   simp only [cond_false, cond_true, Option.bind_some, decide_true, Bool.and_self, Bool.not_true]
   rw [r_vecRight]
   simp only [Option.bind_some]
   rw [resOk_okR, hxo, wi (by omega) (by omega)]
   rfl
theorem sums_mid {s : Spec} {fr : List Res} {m : List (Int × Alloc)} {B : Nat} (I : LInv s.nodes fr m B) (hB : B ≤ 1000) (i : Nat) (hi : i ≤ 1000) (next : ((Unit × (Unit × (Int × Unit))) × (Spec × (((List Res) × (Unit × Unit)) × ((List (Int × Alloc)) × Unit)))) → Option Bool) :
   LN LOOPS (fun (s54 : ((Unit × (Unit × (Int × Unit))) × (Spec × (((List Res) × (Unit × Unit)) × ((List (Int × Alloc)) × Unit))))) nx55 => l4_4 (@LN LOOPS) f21 f24 f23 f22 f25 next (i : Int) (fr, ((fr, (), ()), m, ())) nx55 s54.1.2.2.1 s54.2.1 s54.2.2.1.1 s54.2.2.2.1) (((), (), 0, ()), (s, (fr, (), ()), m, ())) = next (((), (), ((i + 1 : Nat) : Int), ()), (s, (fr, (), ()), m, ())) := by
 have hfl := I.len
 have hnn := I.nn
 refine loop_run0 fr.length (small_lt (by omega)) (fun k => ((((), (), (k : Int), ()), (s, (fr, (), ()), m, ())) : ((Unit × (Unit × (Int × Unit))) × (Spec × (((List Res) × (Unit × Unit)) × ((List (Int × Alloc)) × Unit)))))) _ (by simp) (fun k hk nx => ?_) (fun nx => ?_)
 · have hx : fr[k]? = some fr[k] := List.getElem?_eq_getElem hk
   simp only [l4_4]
   rw [decide_eq_true (show (k : Int) < (fr.length : Int) by omega), decide_eq_true (show (0 : Int) ≤ (k : Int) by omega), show Int.toNat (k : Int) = k by omega, hx]
   simp only [cond_true, Option.bind_some]
   rw [p_AllL I hB]
   simp only [Option.bind_some]
   exact sums_in I hB hx nx
 · simp only [l4_4]
   rw [decide_eq_false (by omega), wi (by omega) (by omega)]
   rfl
theorem law_LedgerSums (s : Spec) (a : List (Bool × Alloc)) (hs : Rng.P s) (ha : ∀ x ∈ a, I64 x.2.job) : f4 s a = some true := by
 unfold f4 F4
 rw [awake14, r_Few s hs]
 simp only [Option.bind_some, Bool.not_true, cond_false]
 cases h1 : fewB s with
 | false => rfl
 | true =>
   simp only [Bool.not_true, cond_false]
   rw [p_Few14]
   simp only [Option.bind_some]
   cases h2 : fewD a with
   | false => rfl
   | true =>
     simp only [Bool.not_true, cond_false]
     rw [r_Right s hs]
     simp only [Option.bind_some]
     cases h3 : specOk s with
     | false => rfl
     | true =>
       simp only [Bool.not_true, cond_false]
       rw [p_NewL s hs h3]
       simp only [Option.bind_some, Sum.elim_inr, decide_true, Bool.not_true, cond_false, Sum.elim_inl]
       simp only [fewD, Bool.and_eq_true, decide_eq_true_eq, List.all_eq_true] at h2
       refine inv_loop (G := fun r => r = some true) (f := fun (s43 : ((Unit × (Unit × (Int × Unit))) × (Spec × (((List Res) × (Unit × Unit)) × ((List (Int × Alloc)) × Unit))))) nx44 => l4_5 (@LN LOOPS) f18_1 f19_1 f20_1 f21 f24 f23 f22 f25 a nx44 s43.1.2.2.1 s43.2.1 s43.2.2.1.1 s43.2.2.2.1) a.length (small_lt (by omega))
         (fun (b : List Res × List (Int × Alloc)) i => ((((), (), (i : Int), ()), (s, (b.1, (), ()), b.2, ())) : ((Unit × (Unit × (Int × Unit))) × (Spec × (((List Res) × (Unit × Unit)) × ((List (Int × Alloc)) × Unit))))))
         (fun b i => LInv s.nodes b.1 b.2 i) (fun b hb => ⟨some true, rfl, fun nx => ?_⟩) (fun b i hi hb => .inl ?_) (s.nodes, []) (inv_new h3)
       · simp only [l4_5]
         rw [decide_eq_false (by omega)]
         rfl
       · have hx : a[i]? = some a[i] := List.getElem?_eq_getElem hi
         have hfew := h2.2 a[i] (List.getElem_mem hi)
         have hjob := ha a[i] (List.getElem_mem hi)
         have fin : ∀ {b' : List Res × List (Int × Alloc)}, LInv s.nodes b'.1 b'.2 (i + 1) → ∀ nx : ((Unit × (Unit × (Int × Unit))) × (Spec × (((List Res) × (Unit × Unit)) × ((List (Int × Alloc)) × Unit)))) → Option Bool,
             (Option.bind (f20_1 b'.1 b'.2) fun r53 => cond (!decide ((List.length r53.1 : Int) = (List.length s.nodes : Int))) (some false)
               (LN LOOPS (fun (s54 : ((Unit × (Unit × (Int × Unit))) × (Spec × (((List Res) × (Unit × Unit)) × ((List (Int × Alloc)) × Unit))))) nx55 => l4_4 (@LN LOOPS) f21 f24 f23 f22 f25 nx (i : Int) r53 nx55 s54.1.2.2.1 s54.2.1 s54.2.2.1.1 s54.2.2.2.1) (((), (), 0, ()), (s, (r53.2.1.1, (), ()), r53.2.2.1, ())))) = nx (((), (), ((i + 1 : Nat) : Int), ()), (s, (b'.1, (), ()), b'.2, ())) := fun {b'} hb' nx => by
           have hl := hb'.len
           have hn := hb'.nn
           rw [p_FreeL _ _ (by omega)]
           simp only [Option.bind_some]
           rw [decide_eq_true (show (b'.1.length : Int) = (s.nodes.length : Int) by omega)]
           simp only [Bool.not_true, cond_false]
           exact sums_mid hb' (by omega) i (by omega) nx
         cases hg : a[i].1 with
         | true =>
           refine ⟨(giveL a[i].2.job b.1 b.2).2, inv_give hb, fun nx => ?_⟩
           simp only [l4_5]
           rw [decide_eq_true (show (i : Int) < (a.length : Int) by omega), decide_eq_true (show (0 : Int) ≤ (i : Int) by omega), show Int.toNat (i : Int) = i by omega, hx]
           simp only [cond_true, Option.bind_some, hg]
           rw [p_GiveL hb (by omega) hjob]
           simp only [Option.bind_some]
           exact fin (inv_give hb) nx
         | false =>
           refine ⟨(takeL a[i].2 b.1 b.2).2, inv_take hb hfew, fun nx => ?_⟩
           simp only [l4_5]
           rw [decide_eq_true (show (i : Int) < (a.length : Int) by omega), decide_eq_true (show (0 : Int) ≤ (i : Int) by omega), show Int.toNat (i : Int) = i by omega, hx]
           simp only [cond_true, cond_false, Option.bind_some, hg]
           rw [p_TakeL hb (by omega) hfew]
           simp only [Option.bind_some]
           exact fin (inv_take hb hfew) nx
end NM
end Go.Proofs.Ytfelhbeiegppgaa
end
section
namespace Go.Proofs.Ytfelhbeiegppgaa
namespace ledgerSums
open NM AM
theorem walk (x0 : Spec) (x1 : List (Bool × Alloc)) (v0 v1 : Value) (W : World) (h0 : V W (Lt W.heap.size) x0 v0) (h1 : V W (Lt W.heap.size) x1 v1) :
   Calls Try.prog 4 #[v0, v1] W fun e w' => e = .returned (.bool true) ∧ Go.RowKit.Below W.heap.size W w' :=
 nlaw_walk NM.ok4 (x := (NEnc.f x0, NEnc.f x1, ())) (law_LedgerSums _ _ (Rng.ok h0.1) (fun y hy => by
   obtain ⟨x, hx, rfl⟩ := List.mem_map.1 (show y ∈ List.map _ x1 from hy)
   exact ((Rng.ok h1.1).2 x hx).2.1)) (arg_cons x0 (arg_cons x1 arg_nil)) rfl (fun j a v ha hv => by
   match j with
   | 0 => simp at ha hv; subst ha; subst hv; exact h0.vr (fun _ h => h) _
   | 1 => simp at ha hv; subst ha; subst hv; exact h1.vr (fun _ h => h) _)
end ledgerSums
end Go.Proofs.Ytfelhbeiegppgaa
end
section
namespace Go.Proofs.Ytfelhbeiegppgaa.ledgerSums
open Go.ChangeShapes Go.WideShapes Go.ChangeAt Go.RowKit
theorem own : ownKnob Try.prog.godebug = none := by kernel_rfl
theorem laidOut : laidOutB Try.prog = true := by kernel_rfl
set_option maxRecDepth 100000 in
theorem lifted (os : Os) (started : os.Started) (H : Type) (enc : TypeId × Value → H) :
   ReturnsInHanded {} Try.checked os 4 .any (Rows.ledgerSumsSpec.pre6 enc Try.prog Try.f4 Rows.ledgerSumsRow.domain false) (Rows.ledgerSumsSpec.post enc Try.prog Try.f4 false true false false) := by
 refine returnsInHanded_of_change (C := Try.checked) own started (by kernel_rfl) Try.func4
   (ChangeSpec.witness6 (enc := enc) (C := Try.checked) false ⟨#[], #[.agg #[.slice none 0 0, .slice none 0 0, .slice none 0 0, .int .i64 0, .int .i64 0, .int .i64 0, .int .i64 0, .int .i64 0, .int .i64 0, .int .i64 0, .int .i64 0, .int .i64 0, .int .i64 0, .int .i64 0, .int .i64 0, .int .i64 0, .int .i64 0, .int .i64 0], .slice none 0 0], []⟩ 8 (by kernel_rfl) (by kernel_rfl) (by kernel_rfl) (by kernel_rfl)) ?_
 intro W base args ds gs before hval0 hW _ _
 have hval : ∀ (j : Nat) t v, Try.f4.params[j]? = some t → args[j]? = some v → Value.okWide Try.prog W .any base t v := hval0
 have hW' := hW
 obtain ⟨p, q, hA0, hV, rfl, hfz, hnd⟩ := hW
 have hA : DataW.TrodAll enc Try.prog W 0 (fun _ => true) true Try.f4.params.toList args.toList ds p := hA0
 rw [Try.params4] at hA hval
 obtain ⟨v0, vs0, d0, ds0, p0, q0, hargs, rfl, rfl, h0, r0⟩ := trodAll_cons hA
 obtain ⟨v1, vs1, d1, ds1, p1, q1, rfl, rfl, rfl, h1, r1⟩ := trodAll_cons r0
 obtain ⟨rfl, rfl, rfl⟩ := trodAll_nil r1
 obtain rfl : args = #[v0, v1] := by cases args; simp_all
 obtain ⟨rfl, rfl⟩ := trodVars_none hV
 have lt0 : ∀ x ∈ p0, x.block < W.heap.size := by obtain ⟨m, hm⟩ := h0; exact DataW.trod_lt m _ _ _ hm
 obtain ⟨x0, a0⟩ : ∃ x : Spec, V W (Lt W.heap.size) x v0 := arg_of rd_Spec h0 (agg_struct Try.underlying48 (hval 0 48 v0 rfl rfl))
 have lt1 : ∀ x ∈ p1, x.block < W.heap.size := by obtain ⟨m, hm⟩ := h1; exact DataW.trod_lt m _ _ _ hm
 obtain ⟨x1, a1⟩ : ∃ x : (List (Bool × Alloc)), V W (Lt W.heap.size) x v1 := arg_of (rd_slice Try.underlying49 (by kernel_rfl) (rd_struct Try.underlying59 (by kernel_rfl) (RdF.cons (rd_bool Try.underlying4) rfl (by kernel_rfl) rfl (RdF.last rd_Alloc rfl (by kernel_rfl))))) h1 (agg_slice Try.underlying49 (hval 1 49 v1 rfl rfl))
 clear hA0 hval0
 refine (walk x0 x1 v0 v1 W a0 a1).mono fun e W' ⟨he, bel⟩ => ?_
 subst he
 exact ⟨_, rfl, _, _, _, [], _, [], hW', trodAll_mk1 (shut_bool Try.underlying4 _), (trodAll_cons_mk (Below.trod laidOut (by kernel_rfl) (of_decide_eq_true (by kernel_rfl)) h0 bel lt0) (trodAll_cons_mk (Below.trod laidOut (by kernel_rfl) (of_decide_eq_true (by kernel_rfl)) h1 bel lt1) trodAll_mk0)), rfl, bel.frame _, fun h => by cases h⟩
theorem over : Rows.ledgerSumsRow.holds Try.pinned (OpenSpec.ofChange Rows.ledgerSumsSpec) :=
 OpenClaim.holds_of_wide 4 Try.f4 rfl rfl rfl rfl rfl rfl rfl ⟨rfl, rfl, rfl, rfl, rfl⟩ rfl rfl rfl rfl rfl (by kernel_rfl) Try.func4 (by kernel_rfl)
   (of_decide_eq_true (by kernel_rfl)) (by unfold Func.isWrapper; first | (rw [if_pos (by decide +kernel)]; kernel_rfl) | (rw [if_neg (by decide +kernel)]; exact ⟨rfl, rfl⟩))
   (fun os started H enc _ => lifted os started H enc)
theorem proved : Rows.LedgerSumsSaid :=
 over
end Go.Proofs.Ytfelhbeiegppgaa.ledgerSums
end
