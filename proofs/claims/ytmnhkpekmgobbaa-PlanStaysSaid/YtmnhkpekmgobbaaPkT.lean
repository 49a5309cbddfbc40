/-
  The statement PlanStays is proved here: whatever its arguments, the call gives true; under the conditions that the given statement itself names. (Many texts laid together by program.)
-/
import Derived.Test.YtmnhkpekmgobbaaPkTza
import Derived.KernelRfl
import Derived.Test.YtmnhkpekmgobbaaRows
import Derived.WalkKit
import Derived.ProofKit
import Derived.OpenShut
import Derived.ChangeOld
import Derived.Below
import Derived.Carry
set_option linter.unnecessarySimpa false
set_option linter.unusedSimpArgs false
set_option linter.unusedVariables false
section
namespace Go.Proofs.Ytmnhkpekmgobbaa
namespace NM
open AM
abbrev EarlyF2 := Int → Int → Res → Int → Int → (List (List Int)) → (List (List Step)) → Option PlanT2
abbrev CloneF2 := Int → (List (List Int)) → (List (List Step)) → Option (Unit × ((Int × ((List (List Int)) × (Unit × Unit))) × ((List (List Step)) × ((Int × ((List (List Int)) × (Unit × Unit))) × ((List (List Step)) × Unit)))))
abbrev TakeF2 := Int → (List Share) → Res → Int → Int → (List (List Int)) → (List (List Step)) → Option (Int × Prof2)
abbrev SameF := PlT → PlT → Option Bool
abbrev SS := ((Unit × (Unit × (Unit × (Bool × (Int × Unit))))) × ((Int × ((List (List Int)) × (Unit × Unit))) × ((Int × ((List (List Int)) × (Unit × Unit))) × ((Int × (Int × ((List Share) × Unit))) × ((List (List Step)) × ((List (List Step)) × Unit))))))
def ss (now : Int) (parts : List (List Int)) (was : Bool) (i : Int) (mine : PlT) (nP nO : List (List Step)) : SS := (((), (), (), was, i, ()), ((now, parts, (), ()), (now, parts, (), ()), (mine.1, mine.2.1, mine.2.2, ()), nP, nO, ()))
def rP (g63_2 : EarlyF2) (g69 : TakeF2) (g70 : SameF) (al1 : List WantT) (at2 : Int) : SS → (SS → Option Bool) → Option Bool := fun s32 nx33 => l11_1 g63_2 g69 g70 al1 at2 nx33 s32.1.2.2.2.1 s32.1.2.2.2.2.1 s32.2.1.1 s32.2.1.2.1 s32.2.2.1.1 s32.2.2.1.2.1 s32.2.2.2.1.1 s32.2.2.2.1.2.1 s32.2.2.2.1.2.2.1 s32.2.2.2.2.1 s32.2.2.2.2.2.1
theorem stays_open (L : Lp) (g60 : Option Bool) (g61 : WorldT → Option Bool) (g62 : NewF) (g68 : CloneF2) (g63_2 : EarlyF2) (g69 : TakeF2) (g70 : SameF) (w : WorldT) (al : List WantT) (at2 : Int) (nodes : List (List Step)) (h0 : g60 = some true) (h1 : g61 w = some true) (h8 : ¬ 8 < (al.length : Int)) (hz : ¬ (al.length : Int) = 0)
   (h2 : g62 w.1 w.2.1 w.2.2.1 w.2.2.2 = some (.inr (((), 0, ()), prof w.2.1 w.1.parts nodes))) (h3 : g68 w.2.1 w.1.parts nodes = some ((), ((w.2.1, w.1.parts, (), ()), nodes, (w.2.1, w.1.parts, (), ()), nodes, ()))) :
   F11 L g60 g61 g62 g68 g63_2 g69 g70 w al at2 = L (rP g63_2 g69 g70 al at2) (ss w.2.1 w.1.parts false 0 (0, (0, [])) nodes nodes) := by
 unfold F11
 rw [h0, h1, h2, decide_eq_false h8, decide_eq_false hz]
 simp only [Option.bind_some, Bool.not_true, cond_false, Sum.elim_inr, decide_true, prof, Sum.elim_inl]
 rw [h3]
 simp only [Option.bind_some, decide_true, Bool.and_self, cond_true]
 rfl
theorem rP_end (g63_2 : EarlyF2) (g69 : TakeF2) (g70 : SameF) (al : List WantT) (at2 now : Int) (parts : List (List Int)) (was : Bool) (mine : PlT) (nP nO : List (List Step)) (k : Nat) (x : WantT) (hk : Int.tmod (IntKind.wrap .i64 at2) (al.length : Int) = (k : Int)) (hx : al[k]? = some x)
   (hE : g63_2 x.1 x.2.1 x.2.2.1 x.2.2.2 now parts nO = some ((mine, (was, ())), prof2 now parts nO)) (hS : g70 mine mine = some true) (next) :
   rP g63_2 g69 g70 al at2 (ss now parts was (al.length : Int) mine nP nO) next = some true := by
 show l11_1 g63_2 g69 g70 al at2 next was (al.length : Int) now parts now parts mine.1 mine.2.1 mine.2.2 nP nO = _
 unfold l11_1
 rw [decide_eq_false (show ¬ ((al.length : Nat) : Int) < (al.length : Int) by omega), hk, decide_eq_true (show (0 : Int) ≤ (k : Int) by omega), show Int.toNat (k : Int) = k by omega, hx]
 simp only [cond_true, cond_false, Option.bind_some]
 rw [hE]
 simp only [Option.bind_some, prof2, decide_true, Bool.and_self, cond_true, beq_self_eq_true]
 rw [hS]
 rfl
theorem rP_no (g63_2 : EarlyF2) (g69 : TakeF2) (g70 : SameF) (al : List WantT) (at2 now : Int) (parts : List (List Int)) (was : Bool) (mine a : PlT) (nP nO : List (List Step)) (k i : Nat) (hi : i < al.length) (hl : al.length ≤ 8) (x : WantT) (hk : Int.tmod (IntKind.wrap .i64 at2) (al.length : Int) = (k : Int)) (hx : al[i]? = some x)
   (hE : g63_2 x.1 x.2.1 x.2.2.1 x.2.2.2 now parts nP = some ((a, (false, ())), prof2 now parts nP)) (next) :
   rP g63_2 g69 g70 al at2 (ss now parts was (i : Int) mine nP nO) next = next (ss now parts (if i = k then false else was) ((i + 1 : Nat) : Int) (if i = k then a else mine) nP nO) := by
 show l11_1 g63_2 g69 g70 al at2 next was (i : Int) now parts now parts mine.1 mine.2.1 mine.2.2 nP nO = _
 unfold l11_1
 rw [decide_eq_true (show ((i : Nat) : Int) < (al.length : Int) by omega), decide_eq_true (show (0 : Int) ≤ (i : Int) by omega), show Int.toNat (i : Int) = i by omega, hx, hk, wi (show (-9223372036854775808 : Int) ≤ (i : Int) + 1 by omega) (by omega)]
 simp only [cond_true, cond_false, Option.bind_some]
 rw [hE]
 simp only [Option.bind_some, prof2, decide_true, Bool.and_self, cond_true]
 by_cases e : i = k
 · rw [decide_eq_true (show (i : Int) = (k : Int) by omega), if_pos e, if_pos e]
   rfl
 · rw [decide_eq_false (show ¬ (i : Int) = (k : Int) by omega), if_neg e, if_neg e]
   rfl
theorem rP_go (g63_2 : EarlyF2) (g69 : TakeF2) (g70 : SameF) (al : List WantT) (at2 now : Int) (parts : List (List Int)) (was : Bool) (mine a : PlT) (nP nO nP' nO' : List (List Step)) (k i : Nat) (hi : i < al.length) (hl : al.length ≤ 8) (x : WantT) (hk : Int.tmod (IntKind.wrap .i64 at2) (al.length : Int) = (k : Int)) (hx : al[i]? = some x)
   (hE : g63_2 x.1 x.2.1 x.2.2.1 x.2.2.2 now parts nP = some ((a, (true, ())), prof2 now parts nP)) (hT : g69 a.2.1 a.2.2 x.2.2.1 x.2.2.2 now parts nP = some (0, prof2 now parts nP')) (hl1 : nP'.length = nP.length)
   (hO : if i = k then nO' = nO else g69 a.2.1 a.2.2 x.2.2.1 x.2.2.2 now parts nO = some (0, prof2 now parts nO') ∧ nO'.length = nO.length) (next) :
   rP g63_2 g69 g70 al at2 (ss now parts was (i : Int) mine nP nO) next = next (ss now parts (if i = k then true else was) ((i + 1 : Nat) : Int) (if i = k then a else mine) nP' nO') := by
 show l11_1 g63_2 g69 g70 al at2 next was (i : Int) now parts now parts mine.1 mine.2.1 mine.2.2 nP nO = _
 unfold l11_1
 rw [decide_eq_true (show ((i : Nat) : Int) < (al.length : Int) by omega), decide_eq_true (show (0 : Int) ≤ (i : Int) by omega), show Int.toNat (i : Int) = i by omega, hx, hk, wi (show (-9223372036854775808 : Int) ≤ (i : Int) + 1 by omega) (by omega)]
 simp only [cond_true, cond_false, Option.bind_some]
 rw [hE]
 simp only [Option.bind_some, prof2, decide_true, Bool.and_self, cond_true]
 by_cases e : i = k
 · rw [if_pos e] at hO
   subst hO
   rw [decide_eq_true (show (i : Int) = (k : Int) by omega), if_pos e, if_pos e]
   simp only [cond_true, Option.bind_some, Bool.not_true, cond_false]
   rw [hT]
   simp only [Option.bind_some, prof2, hl1, decide_true, Bool.and_self, cond_true, Bool.not_true, cond_false]
   rfl
 · rw [if_neg e] at hO
   obtain ⟨hO1, hO2⟩ := hO
   rw [decide_eq_false (show ¬ (i : Int) = (k : Int) by omega), if_neg e, if_neg e]
   simp only [cond_false, Option.bind_some, Bool.not_true]
   rw [hT]
   simp only [Option.bind_some, prof2, hl1, decide_true, Bool.and_self, cond_true, Bool.not_true, cond_false, Bool.not_false]
   rw [hO1]
   simp only [Option.bind_some, prof2, hO2, decide_true, Bool.and_self, cond_true, Bool.not_true, cond_false]
   rfl
theorem sumF_some {fit : Int → Int} : ∀ (l : List Int), 1 ≤ sumF fit l → ∃ k ∈ l, 1 ≤ fit k
 | [], h => by simp [sumF] at h
 | k :: l, h => by
   by_cases hk : 1 ≤ fit k
   · exact ⟨k, by simp, hk⟩
   · simp only [sumF] at h
     obtain ⟨j, h1, h2⟩ := sumF_some (fit := fit) l (by omega)
     exact ⟨j, List.mem_cons_of_mem k h1, h2⟩
structure PartP (N : Nat) (parts : List (List Int)) (p0 : Int) (part : List Int) : Prop where
 lo : 0 ≤ p0
 at_ : parts[p0.toNat]? = some part
 ok : PartOk N part
 ne : 1 ≤ part.length
 len : part.length ≤ 16
 asc : asc N (-1) part = true
theorem part_there {s : Spec} (h : specOk s = true) {p0 : Int} (hp : ¬ (p0 < 0 ∨ (s.parts.length : Int) ≤ p0)) : ∃ part, PartP s.nodes.length s.parts p0 part := by
 obtain ⟨part, h1, h2, h3, h4⟩ := part_ok h (p0 := p0) (by omega) (by omega)
 obtain ⟨f1, f2, f3, f4⟩ := specOk_facts h
 exact ⟨part, by omega, h1, h2, h3, h4, (f4 part (List.mem_of_getElem? h1)).2.1⟩
structure Found (now : Int) (N : Nat) (part : List Int) (V : Vals) (x : WantT) (t : Int) (fit : Int → Int) : Prop where
 c : condW now x.2.2.2 t
 f : FitsV V part x.2.2.1 t (t + x.2.2.2) fit
 m : 1 ≤ x.2.1
 s : x.2.1 ≤ sumF fit part
 min : ∀ t', now ≤ t' → t' < t → ¬ OkAt V part x.2.1 x.2.2.1 now x.2.2.2 t'
theorem early_cases {now : Int} {B : Nat} {s : Spec} {nodes : List (List Step)} {V : Vals} (x : WantT) (hs : specOk s = true) (hV : PRep now B nodes V) (hB : B ≤ 700) (hN : nodes.length = s.nodes.length) (h0 : 0 ≤ now) :
   ((x.1 < 0 ∨ (s.parts.length : Int) ≤ x.1) ∧ f63 x.1 x.2.1 x.2.2.1 x.2.2.2 now s.parts nodes = some (((0, (0, [])), (false, ())), prof2 now s.parts nodes)) ∨
   ∃ part, PartP s.nodes.length s.parts x.1 part ∧ EarlyG2 V now s.parts nodes part x.1 x.2.1 x.2.2.1 x.2.2.2 (f63 x.1 x.2.1 x.2.2.1 x.2.2.2 now s.parts nodes) := by
 by_cases hp : x.1 < 0 ∨ (s.parts.length : Int) ≤ x.1
 · exact .inl ⟨hp, p_Earliest_no2 _ _ _ _ hp⟩
 · obtain ⟨part, h⟩ := part_there hs hp
   obtain ⟨f1, _⟩ := specOk_facts hs
   have hok := h.ok
   rw [← hN] at hok
   exact .inr ⟨part, h, p_Earliest2 hV hB (by omega) _ _ _ _ h.lo h.at_ hok h.ne h.len h0⟩
theorem Found.takes {now : Int} {N : Nat} {parts : List (List Int)} {part : List Int} {V : Vals} {x : WantT} {t : Int} {fit : Int → Int} (h : Found now N part V x t fit) (hp : PartP N parts x.1 part) (hok : OkV now N V) :
   okR x.2.2.1 = true ∧ shB N (-1) (greedy fit part x.2.1) = true ∧ (greedy fit part x.2.1).length ≤ 16 ∧ OkV now N (minV V (takeD t (t + x.2.2.2) (greedy fit part x.2.1) x.2.2.1)) := by
 obtain ⟨hc, hf, hm, hs, _⟩ := h
 have hf2 := hf
 obtain ⟨lst, a1, a2⟩ := hf
 have hb : ∀ k ∈ part, 0 ≤ fit k ∧ fit k ≤ 64 := fun k hk => by
   rw [a2 k hk]
   exact ⟨countI_nonneg _ _, countI_le _ _⟩
 have hr := greedy_right (fit := fit) part (-1) x.2.1 hp.asc (Int.le_refl _) hb (by omega)
 obtain ⟨k, hk, h1⟩ := sumF_some part (show 1 ≤ sumF fit part by omega)
 rw [a2 k hk] at h1
 refine ⟨(countI_pos h1).1, hr, ?_, plan_takes hp.ok hc (by omega) hf2 hok⟩
 have := greedy_len (fit := fit) part x.2.1
 have := hp.len
 omega
def Done (now : Int) (N : Nat) (parts : List (List Int)) (x : WantT) (V W : Vals) (was : Bool) (mine : PlT) : Prop :=
 (was = false ∧ mine = (0, (0, [])) ∧ (x.1 < 0 ∨ (parts.length : Int) ≤ x.1)) ∨
 ∃ part Vk ds, PartP N parts x.1 part ∧ (∀ D ∈ ds, posD N now D) ∧ (∀ t, condW now x.2.2.2 t → ∃ fit, FitsV Vk part x.2.2.1 t (t + x.2.2.2) fit) ∧ W = apV Vk ds ∧
   ((was = false ∧ mine = (0, (0, [])) ∧ ∀ t', ¬ OkAt Vk part x.2.1 x.2.2.1 now x.2.2.2 t') ∨
    (was = true ∧ ∃ t fit, mine = (0, (t, greedy fit part x.2.1)) ∧ Found now N part Vk x t fit ∧ V = apV (minV Vk (takeD t (t + x.2.2.2) (greedy fit part x.2.1) x.2.2.1)) ds))
theorem apV_app (V D : Vals) (ds : List Vals) : apV V (ds ++ [D]) = minV (apV V ds) D := by
 unfold apV
 rw [List.foldl_append]
 rfl
theorem Done.more {now : Int} {N : Nat} {parts : List (List Int)} {x : WantT} {V W D : Vals} {was : Bool} {mine : PlT} (h : Done now N parts x V W was mine) (hD : posD N now D) : Done now N parts x (minV V D) (minV W D) was mine := by
 rcases h with h | ⟨part, Vk, ds, h1, h2, h3, h4, h5⟩
 · exact .inl h
 · refine .inr ⟨part, Vk, ds ++ [D], h1, fun E hE => ?_, h3, by rw [apV_app, h4], ?_⟩
   · rcases List.mem_append.1 hE with hE | hE
     · exact h2 E hE
     · rw [List.mem_singleton] at hE
       exact hE ▸ hD
   · rcases h5 with h5 | ⟨h5, t, fit, h6, h7, h8⟩
     · exact .inl h5
     · exact .inr ⟨h5, t, fit, h6, h7, by rw [apV_app, h8]⟩
abbrev StB := Bool × (PlT × (List (List Step) × List (List Step)))
def StI (now : Int) (N : Nat) (parts : List (List Int)) (x : WantT) (k : Nat) (b : StB) (i : Nat) : Prop :=
 b.2.2.1.length = N ∧ b.2.2.2.length = N ∧ ∃ V W, PRep now (100 + 2 * i) b.2.2.1 V ∧ PRep now (100 + 2 * i) b.2.2.2 W ∧ OkV now N V ∧ OkV now N W ∧ (∀ j, j < N → ∀ t, now ≤ t → leR (V j t) (W j t)) ∧ (i ≤ k → V = W) ∧ (k < i → Done now N parts x V W b.1 b.2.1)
theorem stays_round {now : Int} {s : Spec} {al : List WantT} {at2 : Int} (hs : specOk s = true) (h0 : 0 ≤ now) (k : Nat) (x : WantT) (hl : al.length ≤ 8) (hk : Int.tmod (IntKind.wrap .i64 at2) (al.length : Int) = (k : Int)) (hx : al[k]? = some x) (b : StB) (i : Nat) (hi : i < al.length) (h : StI now s.nodes.length s.parts x k b i) :
   ∃ b' : StB, StI now s.nodes.length s.parts x k b' (i + 1) ∧ ∀ next, rP f63 f69 f70 al at2 (ss now s.parts b.1 (i : Int) b.2.1 b.2.2.1 b.2.2.2) next = next (ss now s.parts b'.1 ((i + 1 : Nat) : Int) b'.2.1 b'.2.2.1 b'.2.2.2) := by
 obtain ⟨was, mine, nP, nO⟩ := b
 obtain ⟨n1, n2, V, W, p1, p2, o1, o2, le, eq, dn⟩ := h
 simp only at n1 n2 p1 p2 dn
 obtain ⟨f1, f2, f3, f4⟩ := specOk_facts hs
 have hbi : al[i]? = some al[i] := List.getElem?_eq_getElem hi
 have hxi : i = k → al[i] = x := fun e => by
   subst e
   rw [hbi] at hx
   exact Option.some.inj hx
 generalize al[i] = xi at hbi hxi
 have hno : f63 xi.1 xi.2.1 xi.2.2.1 xi.2.2.2 now s.parts nP = some (((0, (0, [])), (false, ())), prof2 now s.parts nP) → (i = k → Done now s.nodes.length s.parts x V W false (0, (0, []))) →
     ∃ b' : StB, StI now s.nodes.length s.parts x k b' (i + 1) ∧ ∀ next, rP f63 f69 f70 al at2 (ss now s.parts was (i : Int) mine nP nO) next = next (ss now s.parts b'.1 ((i + 1 : Nat) : Int) b'.2.1 b'.2.2.1 b'.2.2.2) := by
   intro hE hD
   refine ⟨(if i = k then false else was, if i = k then (0, (0, [])) else mine, nP, nO), ⟨n1, n2, V, W, p1.more (by omega), p2.more (by omega), o1, o2, le, fun h => eq (by omega), fun h => ?_⟩, fun next => rP_no _ _ _ al at2 now s.parts was mine _ nP nO k i hi hl xi hk hbi hE next⟩
   by_cases e : i = k
   · simp only [if_pos e]
     exact hD e
   · simp only [if_neg e]
     exact dn (by omega)
 rcases early_cases xi hs p1 (by omega) n1 h0 with ⟨hp, hE⟩ | ⟨part, hp, E⟩
 · exact hno hE fun e => .inl ⟨rfl, rfl, by rw [← hxi e]; exact hp⟩
 have hpn := hp.ok
 rw [← n1] at hpn
 have hfits := fun t hc => has_fits p1 (by omega) hpn xi.2.2.1 xi.2.2.2 t hc
 rcases E with ⟨t, fit, e1, e2, e3, e4, e5, e6⟩ | ⟨e1, e2⟩
 · have hF : Found now s.nodes.length part V xi t fit := ⟨e2, e3, e4, e5, e6⟩
   obtain ⟨t1, t2, t3, t4⟩ := hF.takes hp o1
   have hDp : posD s.nodes.length now (takeD t (t + xi.2.2.2) (greedy fit part xi.2.1) xi.2.2.1) := fun j hj τ hτ => takeD_pos t2 t1 j τ
   have hTP := p_TakeM (parts := s.parts) (l := greedy fit part xi.2.1) (need := xi.2.2.1) p1 (by omega) (by omega) (by rw [n1]; exact t2) (by omega) t1 e2 h0 (by rw [n1]; exact o1)
   rw [n1] at hTP
   rcases hTP with ⟨_, nP', q1, q2, q3⟩ | ⟨q1, _⟩
   · by_cases e : i = k
     · have hVW := eq (by omega)
       subst hVW
       have hxe := hxi e
       subst hxe
       refine ⟨(true, (0, (t, greedy fit part xi.2.1)), nP', nO), ⟨by show nP'.length = _; omega, n2, _, V, q3.more (by omega), p2.more (by omega), t4, o2, minV_le hDp, fun h => by omega, fun _ => .inr ⟨part, V, [], hp, by simp, hfits, rfl, .inr ⟨rfl, t, fit, rfl, hF, rfl⟩⟩⟩, fun next => ?_⟩
       rw [rP_go _ _ _ al at2 now s.parts was mine _ nP nO nP' nO k i hi hl xi hk hbi e1 q1 (by omega) (by rw [if_pos e]) next, if_pos e, if_pos e]
     · have hWD : OkV now s.nodes.length (minV W (takeD t (t + xi.2.2.2) (greedy fit part xi.2.1) xi.2.2.1)) := t4.mono (minV_mono le)
       have hTO := p_TakeM (parts := s.parts) (l := greedy fit part xi.2.1) (need := xi.2.2.1) p2 (by omega) (by omega) (by rw [n2]; exact t2) (by omega) t1 e2 h0 (by rw [n2]; exact o2)
       rw [n2] at hTO
       rcases hTO with ⟨_, nO', r1, r2, r3⟩ | ⟨r1, _⟩
       · refine ⟨(was, mine, nP', nO'), ⟨by show nP'.length = _; omega, by show nO'.length = _; omega, _, _, q3.more (by omega), r3.more (by omega), t4, hWD, minV_mono le, fun h => by rw [eq (by omega)], fun h => (dn (by omega)).more hDp⟩, fun next => ?_⟩
         rw [rP_go _ _ _ al at2 now s.parts was mine _ nP nO nP' nO' k i hi hl xi hk hbi e1 q1 (by omega) (by rw [if_neg e]; exact ⟨r1, by omega⟩) next, if_neg e, if_neg e]
       · exact absurd hWD r1
   · exact absurd t4 q1
 · refine hno e1 fun e => .inr ⟨part, V, [], by rw [← hxi e]; exact hp, by simp, by rw [← hxi e]; exact hfits, (eq (by omega)).symm, .inl ⟨rfl, rfl, by rw [← hxi e]; exact e2⟩⟩
theorem stays_last {now : Int} {s : Spec} {al : List WantT} {at2 : Int} (hs : specOk s = true) (h0 : 0 ≤ now) (k : Nat) (x : WantT) (hl : al.length ≤ 8) (hk : Int.tmod (IntKind.wrap .i64 at2) (al.length : Int) = (k : Int)) (hx : al[k]? = some x) (b : StB) (h : StI now s.nodes.length s.parts x k b al.length) (next) :
   rP f63 f69 f70 al at2 (ss now s.parts b.1 (al.length : Int) b.2.1 b.2.2.1 b.2.2.2) next = some true := by
 obtain ⟨was, mine, nP, nO⟩ := b
 obtain ⟨n1, n2, V, W, p1, p2, o1, o2, le, eq, dn⟩ := h
 simp only at n1 n2 p1 p2 dn
 have hkl := (List.getElem?_eq_some_iff.1 hx).1
 have hm : mine.2.2.length ≤ 1000 ∧ f63 x.1 x.2.1 x.2.2.1 x.2.2.2 now s.parts nO = some ((mine, (was, ())), prof2 now s.parts nO) := by
   rcases dn hkl with ⟨rfl, rfl, hp⟩ | ⟨part, Vk, ds, h1, h2, h3, rfl, h5⟩
   · exact ⟨by simp, p_Earliest_no2 _ _ _ _ hp⟩
   · rcases early_cases x hs p2 (by omega) n2 h0 with ⟨hp, _⟩ | ⟨part', hp', E⟩
     · have h7 := h1.lo
       have h8 := (List.getElem?_eq_some_iff.1 h1.at_).1
       omega
     · have hpp : part' = part := by
         have h7 := hp'.at_
         rw [h1.at_] at h7
         exact (Option.some.inj h7).symm
       subst hpp
       rcases h5 with ⟨rfl, rfl, h5⟩ | ⟨rfl, t, fit, rfl, hF, rfl⟩
       · exact ⟨by simp, stays_none h1.ok h2 h3 h5 E⟩
       · have hpn := h1.ok
         rw [← n2] at hpn
         refine ⟨?_, stays_end h1.ok (asc_nodup h1.asc) hF.c hF.m hF.s hF.f hF.min h2 o1 h3 (has_fits p2 (by omega) hpn x.2.2.1 x.2.2.2 t hF.c) E⟩
         have := greedy_len (fit := fit) part' x.2.1
         have := h1.len
         show (greedy fit part' x.2.1).length ≤ 1000
         omega
 exact rP_end _ _ _ al at2 now s.parts was mine nP nO k x hk hx hm.2 (p_SameP mine hm.1) next
theorem law_PlanStays (w : WorldT) (al : List WantT) (at_ : Int) (hs : Rng.P w.1) (ha : 0 ≤ at_) (ha2 : at_ ≤ 255) : f11 w al at_ = some true := by
 have e0 : f11 w al at_ = F11 (@LN LOOPS) f60 f61 f62 f68 f63 f69 f70 w al at_ := rfl
 rw [e0]
 obtain ⟨b, hb1, hb2⟩ := p_Few13 w hs
 cases b with
 | false =>
   unfold F11
   rw [awake13, hb1]
   rfl
 | true =>
   obtain ⟨g1, g2, g3, g4⟩ := hb2 rfl
   by_cases h8 : 8 < (al.length : Int)
   · unfold F11
     rw [awake13, hb1, decide_eq_true h8]
     rfl
   by_cases hz : (al.length : Int) = 0
   · unfold F11
     rw [awake13, hb1, decide_eq_false h8, decide_eq_true hz]
     rfl
   have hbad : ∀ e, e ≠ 0 → f62 w.1 w.2.1 w.2.2.1 w.2.2.2 = some (.inl ((), e, ())) → F11 (@LN LOOPS) f60 f61 f62 f68 f63 f69 f70 w al at_ = some true := by
     intro e he hn
     unfold F11
     rw [awake13, hb1, decide_eq_false h8, decide_eq_false hz]
     simp only [Option.bind_some, Bool.not_true, cond_false]
     rw [hn]
     simp only [Option.bind_some, Sum.elim_inl, decide_eq_false he, Bool.not_false, cond_true, Sum.elim_inr]
   rcases p_New w.1 hs w.2.1 w.2.2.1 w.2.2.2 g2 g4 g3 with ⟨hin, hG⟩ | ⟨_, hno⟩
   · rcases hG with ⟨hok, nodes, hnew, hN, hV⟩ | ⟨_, e, he, hno⟩
     · obtain ⟨i1, i2, i3, i4, i5⟩ := hin
       obtain ⟨f1, f2, f3, f4⟩ := specOk_facts i1
       have hn1 : 1 ≤ w.1.nodes.length := by
         have h := i1
         unfold specOk nodesOk at h
         simp only [Bool.and_eq_true, decide_eq_true_eq] at h
         omega
       rw [stays_open (@LN LOOPS) _ _ _ _ _ _ _ w al at_ nodes awake13 hb1 h8 hz hnew (p_Clone2 _ _ _ (by omega) (by omega))]
       have hwa : IntKind.wrap .i64 at_ = at_ := wi (by omega) (by omega)
       obtain ⟨k, hk, hkl⟩ : ∃ k : Nat, Int.tmod (IntKind.wrap .i64 at_) (al.length : Int) = (k : Int) ∧ k < al.length := by
         rw [hwa, Int.tmod_eq_emod_of_nonneg ha]
         have h1 := Int.emod_nonneg at_ (b := (al.length : Int)) hz
         have h2 := Int.emod_lt_of_pos at_ (b := (al.length : Int)) (by omega)
         exact ⟨(at_ % (al.length : Int)).toNat, (Int.toNat_of_nonneg h1).symm, by omega⟩
       have hx : al[k]? = some al[k] := List.getElem?_eq_getElem hkl
       refine inv_loop (G := fun o => o = some true) al.length (small_lt (by omega)) (fun (b : StB) i => ss w.2.1 w.1.parts b.1 (i : Int) b.2.1 b.2.2.1 b.2.2.2) (StI w.2.1 w.1.nodes.length w.1.parts al[k] k) ?_ ?_ (false, (0, (0, [])), nodes, nodes) ⟨hN, hN, _, _, hV, hV, hok, hok, fun j _ t _ => leR.refl _, fun _ => rfl, fun h => absurd h (Nat.not_lt_zero k)⟩
       · intro b hb
         exact ⟨_, rfl, stays_last i1 i2 k al[k] (by omega) hk hx b hb⟩
       · intro b i hi hb
         exact .inl (stays_round i1 i2 k al[k] (by omega) hk hx b i hi hb)
     · exact hbad e he hno
   · exact hbad 2 (by decide) hno
end NM
namespace planStays
open NM AM
theorem walk (x0 : Spec × (Int × ((List Run) × (List Booking)))) (x1 : List (Int × (Int × (Res × Int)))) (x2 : UInt8) (v0 v1 v2 : Value) (W : World) (h0 : V W (Lt W.heap.size) x0 v0) (h1 : V W (Lt W.heap.size) x1 v1) (h2 : V W (Lt W.heap.size) x2 v2) :
   Calls Try.prog 11 #[v0, v1, v2] W fun e w' => e = .returned (.bool true) ∧ Go.RowKit.Below W.heap.size W w' :=
 nlaw_walk NM.ok11 (x := (NEnc.f x0, NEnc.f x1, NEnc.f x2, ())) (law_PlanStays _ _ _ (Rng.ok h0.1).1 (Int.natCast_nonneg _) (by have := UInt8.toNat_lt x2; show ((x2.toNat : Nat) : Int) ≤ 255; omega)) (arg_cons x0 (arg_cons x1 (arg_cons x2 arg_nil))) rfl fun j a v ha hv => by
   match j with
   | 0 => simp at ha hv; subst ha; subst hv; exact h0.vr (fun _ h => h) _
   | 1 => simp at ha hv; subst ha; subst hv; exact h1.vr (fun _ h => h) _
   | 2 => simp at ha hv; subst ha; subst hv; exact h2.vr (fun _ h => h) _
end planStays
end Go.Proofs.Ytmnhkpekmgobbaa
end
section
namespace Go.Proofs.Ytmnhkpekmgobbaa.planStays
open Go.ChangeShapes Go.WideShapes Go.ChangeAt Go.RowKit
theorem own : ownKnob Try.prog.godebug = none := by kernel_rfl
theorem laidOut : laidOutB Try.prog = true := by kernel_rfl
set_option maxRecDepth 100000 in
theorem lifted (os : Os) (started : os.Started) (H : Type) (enc : TypeId × Value → H) :
   ReturnsInHanded {} Try.checked os 11 .any (Rows.planStaysSpec.pre6 enc Try.prog Try.f11 Rows.planStaysRow.domain false) (Rows.planStaysSpec.post enc Try.prog Try.f11 false true false false) := by
 refine returnsInHanded_of_change (C := Try.checked) own started (by kernel_rfl) Try.func11
   (ChangeSpec.witness6 (enc := enc) (C := Try.checked) false ⟨#[], #[.agg #[.slice none 0 0, .slice none 0 0, .slice none 0 0, .int .i64 0, .int .i64 0, .int .i64 0, .int .i64 0, .int .i64 0, .int .i64 0, .int .i64 0, .int .i64 0, .int .i64 0, .int .i64 0, .int .i64 0, .int .i64 0, .int .i64 0, .int .i64 0, .int .i64 0, .int .i64 0, .slice none 0 0, .slice none 0 0], .slice none 0 0, .int .u8 0], []⟩ 8 (by kernel_rfl) (by kernel_rfl) (by kernel_rfl) (by kernel_rfl)) ?_
 intro W base args ds gs before hval0 hW _ _
 have hval : ∀ (j : Nat) t v, Try.f11.params[j]? = some t → args[j]? = some v → Value.okWide Try.prog W .any base t v := hval0
 have hW' := hW
 obtain ⟨p, q, hA0, hV, rfl, hfz, hnd⟩ := hW
 have hA : DataW.TrodAll enc Try.prog W 0 (fun _ => true) true Try.f11.params.toList args.toList ds p := hA0
 rw [Try.params11] at hA hval
 obtain ⟨v0, vs0, d0, ds0, p0, q0, hargs, rfl, rfl, h0, r0⟩ := trodAll_cons hA
 obtain ⟨v1, vs1, d1, ds1, p1, q1, rfl, rfl, rfl, h1, r1⟩ := trodAll_cons r0
 obtain ⟨v2, vs2, d2, ds2, p2, q2, rfl, rfl, rfl, h2, r2⟩ := trodAll_cons r1
 obtain ⟨rfl, rfl, rfl⟩ := trodAll_nil r2
 obtain rfl : args = #[v0, v1, v2] := by cases args; simp_all
 obtain ⟨rfl, rfl⟩ := trodVars_none hV
 have lt0 : ∀ x ∈ p0, x.block < W.heap.size := by obtain ⟨m, hm⟩ := h0; exact DataW.trod_lt m _ _ _ hm
 obtain ⟨x0, a0⟩ : ∃ x : (Spec × (Int × (List Run) × (List Booking))), V W (Lt W.heap.size) x v0 := arg_of (rd_struct Try.underlying121 (by kernel_rfl) (RdF.cons rd_Spec rfl (by kernel_rfl) rfl (RdF.cons (rd_int Try.underlying3) rfl (by kernel_rfl) rfl (RdF.cons (rd_slice Try.underlying118 (by kernel_rfl) rd_Run) rfl (by kernel_rfl) rfl (RdF.last (rd_slice Try.underlying119 (by kernel_rfl) rd_Booking) rfl (by kernel_rfl)))))) h0 (agg_struct Try.underlying121 (hval 0 121 v0 rfl rfl))
 have lt1 : ∀ x ∈ p1, x.block < W.heap.size := by obtain ⟨m, hm⟩ := h1; exact DataW.trod_lt m _ _ _ hm
 obtain ⟨x1, a1⟩ : ∃ x : (List (Int × (Int × (Res × Int)))), V W (Lt W.heap.size) x v1 := arg_of (rd_slice Try.underlying145 (by kernel_rfl) (rd_struct Try.underlying123 (by kernel_rfl) (RdF.cons (rd_int Try.underlying3) rfl (by kernel_rfl) rfl (RdF.cons (rd_int Try.underlying3) rfl (by kernel_rfl) rfl (RdF.cons rd_Res rfl (by kernel_rfl) rfl (RdF.last (rd_int Try.underlying3) rfl (by kernel_rfl))))))) h1 (agg_slice Try.underlying145 (hval 1 145 v1 rfl rfl))
 have lt2 : ∀ x ∈ p2, x.block < W.heap.size := by obtain ⟨m, hm⟩ := h2; exact DataW.trod_lt m _ _ _ hm
 obtain ⟨x2, a2⟩ : ∃ x : UInt8, V W (Lt W.heap.size) x v2 := arg_of (rd_u8 Try.underlying5) h2 (agg_int Try.underlying5 (hval 2 5 v2 rfl rfl))
 clear hA0 hval0
 refine (walk x0 x1 x2 v0 v1 v2 W a0 a1 a2).mono fun e W' ⟨he, bel⟩ => ?_
 subst he
 exact ⟨_, rfl, _, _, _, [], _, [], hW', trodAll_mk1 (shut_bool Try.underlying4 _), (trodAll_cons_mk (Below.trod laidOut (by kernel_rfl) (of_decide_eq_true (by kernel_rfl)) h0 bel lt0) (trodAll_cons_mk (Below.trod laidOut (by kernel_rfl) (of_decide_eq_true (by kernel_rfl)) h1 bel lt1) (trodAll_cons_mk (Below.trod laidOut (by kernel_rfl) (of_decide_eq_true (by kernel_rfl)) h2 bel lt2) trodAll_mk0))), rfl, bel.frame _, fun h => by cases h⟩
theorem over : Rows.planStaysRow.holds Try.pinned (OpenSpec.ofChange Rows.planStaysSpec) :=
 OpenClaim.holds_of_wide 11 Try.f11 rfl rfl rfl rfl rfl rfl rfl ⟨rfl, rfl, rfl, rfl, rfl⟩ rfl rfl rfl rfl rfl (by kernel_rfl) Try.func11 (by kernel_rfl)
   (of_decide_eq_true (by kernel_rfl)) (by unfold Func.isWrapper; first | (rw [if_pos (by decide +kernel)]; kernel_rfl) | (rw [if_neg (by decide +kernel)]; exact ⟨rfl, rfl⟩))
   (fun os started H enc _ => lifted os started H enc)
theorem proved : Rows.PlanStaysSaid :=
 over
end Go.Proofs.Ytmnhkpekmgobbaa.planStays
end
