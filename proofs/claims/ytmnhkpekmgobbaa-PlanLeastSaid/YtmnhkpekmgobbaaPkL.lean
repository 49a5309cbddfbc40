/-
  The statement PlanLeast is proved here: whatever its arguments, the call gives true; under the conditions that the given statement itself names. (Many texts laid together by program.)
-/
import Derived.Test.YtmnhkpekmgobbaaPkLza
import Derived.Test.YtmnhkpekmgobbaaRows
import Derived.WalkKit
import Derived.ProofKit
import Derived.OpenShut
import Derived.ChangeOld
import Derived.Below
import Derived.Carry
set_option linter.unnecessarySimpa false
set_option linter.unusedSimpArgs false
set_option linter.unusedVariables false
section
namespace Go.Proofs.Ytmnhkpekmgobbaa
namespace NM
open AM
def totS : List Share → Int
 | [] => 0
 | s :: l => s.many + totS l
theorem totS_app : ∀ (a b : List Share), totS (a ++ b) = totS a + totS b
 | [], b => by simp [totS]
 | s :: a, b => by simp only [List.cons_append, totS, totS_app a b]; omega
theorem greedy_total {fit : Int → Int} : ∀ (l : List Int) (left : Int), (∀ k ∈ l, 0 ≤ fit k) → 0 ≤ left → left ≤ sumF fit l → totS (greedy fit l left) = left
 | [], left, _, h0, h1 => by simp only [sumF] at h1; simp only [greedy, totS]; omega
 | k :: l, left, hf, h0, h1 => by
   have hk := hf k (by simp)
   have hl := fun j hj => hf j (List.mem_cons_of_mem k hj)
   simp only [sumF] at h1
   simp only [greedy]
   by_cases hz : left = 0
   · rw [if_pos hz]; simp only [totS]; omega
   · rw [if_neg hz]
     by_cases hlt : left < fit k
     · simp only [if_pos hlt]
       rw [if_neg hz]
       simp only [totS]
       have h2 := sumF_nonneg' l hl
       rw [greedy_total l (left - left) hl (by omega) (by omega)]
       omega
     · simp only [if_neg hlt]
       by_cases hk0 : fit k = 0
       · rw [if_pos hk0]
         exact greedy_total l left hl h0 (by omega)
       · rw [if_neg hk0]
         simp only [totS]
         rw [greedy_total l (left - fit k) hl (by omega) (by omega)]
         omega
where
 sumF_nonneg' {fit : Int → Int} : ∀ (l : List Int), (∀ k ∈ l, 0 ≤ fit k) → 0 ≤ sumF fit l
   | [], _ => Int.le_refl _
   | k :: l, h => by
     have := h k (by simp)
     have := sumF_nonneg' l fun j hj => h j (List.mem_cons_of_mem k hj)
     simp only [sumF]
     omega
theorem greedy_mem {fit : Int → Int} : ∀ (l : List Int) (left : Int), (∀ k ∈ l, 0 ≤ fit k) → 0 ≤ left → ∀ s ∈ greedy fit l left, s.node ∈ l ∧ 1 ≤ s.many ∧ s.many ≤ fit s.node
 | [], left, _, h0, s, hs => by simp [greedy] at hs
 | k :: l, left, hf, h0, s, hs => by
   have hk := hf k (by simp)
   have hl := fun j hj => hf j (List.mem_cons_of_mem k hj)
   simp only [greedy] at hs
   by_cases hz : left = 0
   · rw [if_pos hz] at hs; simp at hs
   · rw [if_neg hz] at hs
     by_cases hlt : left < fit k
     · simp only [if_pos hlt] at hs
       rw [if_neg hz] at hs
       rcases List.mem_cons.1 hs with rfl | hs
       · exact ⟨by simp, by simp only; omega, by simp only; omega⟩
       · have := greedy_mem l _ hl (by omega) s hs
         exact ⟨List.mem_cons_of_mem k this.1, this.2⟩
     · simp only [if_neg hlt] at hs
       by_cases hk0 : fit k = 0
       · rw [if_pos hk0] at hs
         have := greedy_mem l left hl h0 s hs
         exact ⟨List.mem_cons_of_mem k this.1, this.2⟩
       · rw [if_neg hk0] at hs
         rcases List.mem_cons.1 hs with rfl | hs
         · exact ⟨by simp, by simp only; omega, by simp only; omega⟩
         · have := greedy_mem l _ hl (by omega) s hs
           exact ⟨List.mem_cons_of_mem k this.1, this.2⟩
theorem greedy_len {fit : Int → Int} : ∀ (l : List Int) (left : Int), (greedy fit l left).length ≤ l.length
 | [], _ => Nat.le_refl _
 | k :: l, left => by
   simp only [greedy]
   by_cases hz : left = 0
   · rw [if_pos hz]; simp
   · rw [if_neg hz]
     by_cases hn : (if left < fit k then left else fit k) = 0
     · rw [if_pos hn]
       have := greedy_len (fit := fit) l left
       simp only [List.length_cons]; omega
     · rw [if_neg hn]
       generalize (if left < fit k then left else fit k) = y
       have := greedy_len (fit := fit) l (left - y)
       simp only [List.length_cons]; omega
theorem p_Total (l : List Share) (hl : l.length ≤ 1000) (hm : ∀ s ∈ l, 1 ≤ s.many ∧ s.many ≤ 64) : f65 l = some (totS l) := by
 unfold f65 F65
 refine inv_loop (G := fun o => o = some (totS l)) l.length (small_lt (by omega)) (fun (n : Int) i => ((n, (i : Int), ()), ())) (fun n i => n = totS (l.take i) ∧ 0 ≤ n ∧ n ≤ 64 * (i : Int)) ?_ ?_ 0 ⟨rfl, Int.le_refl _, by omega⟩
 · rintro n ⟨rfl, _, _⟩
   rw [List.take_length]
   refine ⟨_, rfl, fun next => ?_⟩
   simp only [l65_0]
   rw [decide_eq_false (show ¬ ((l.length : Nat) : Int) < (l.length : Int) by omega)]
   rfl
 · rintro n i hi ⟨h1, h2, h3⟩
   have hbi : l[i]? = some l[i] := List.getElem?_eq_getElem hi
   have hmi := hm _ (List.getElem_mem hi)
   have t0 : Int.toNat (i : Int) = i := by omega
   have htk : totS (l.take (i + 1)) = totS (l.take i) + l[i].many := by
     rw [List.take_add_one, hbi, totS_app]
     simp [totS]
   refine .inl ⟨n + l[i].many, ⟨by rw [htk, h1], by omega, by omega⟩, fun next => ?_⟩
   simp only [l65_0]
   rw [t0, decide_eq_true (show (i : Int) < (l.length : Int) by omega), decide_eq_true (show (0 : Int) ≤ (i : Int) by omega), hbi]
   simp only [cond_true, Option.bind_some]
   rw [decide_eq_false (show ¬ 64 < l[i].many by omega), decide_eq_true (show 0 < l[i].many by omega), wi (show (-9223372036854775808 : Int) ≤ n + l[i].many by omega) (by omega), wi (show (-9223372036854775808 : Int) ≤ (i : Int) + 1 by omega) (by omega)]
   rfl
theorem p_rTimes (need : Res) (hn : okR need = true) (m : Int) (h1 : 1 ≤ m) (h2 : m ≤ 64) : f53 need m = some (mulR need m) := by
 rw [okR_iff] at hn
 unfold f53 F53
 have key := loop_run (f := fun (s2 : ((Unit × (Unit × (Unit × (Int × Unit)))) × (Res × (Res × (Res × Unit))))) nx3 => l53_0 f52 m nx3 s2.1.2.2.2.1 s2.2.1 s2.2.2.1 s2.2.2.2.1) (r := some (mulR need m)) m.toNat (small_lt (by omega)) (fun i => (((), (), (), (i : Int), ()), (need, Res.mk 0 0 0 0, mulR need (i : Int), ())))
   (fun i hi next => by
     have hA : f52 (mulR need (i : Int)) need = some (mulR need ((i + 1 : Nat) : Int)) := by
       have e : ∀ a : Int, a * ((i + 1 : Nat) : Int) = a * (i : Int) + a := fun a => by
         rw [show ((i + 1 : Nat) : Int) = (i : Int) + 1 by omega, Int.mul_add, Int.mul_one]
       have b : ∀ a : Int, 0 ≤ a → a ≤ 1048576 → 0 ≤ a * (i : Int) ∧ a * (i : Int) ≤ 1048576 * 64 := fun a h3 h4 => ⟨Int.mul_nonneg h3 (by omega), Int.mul_le_mul h4 (by omega) (by omega) (by omega)⟩
       have b1 := b _ hn.1.1 hn.1.2
       have b2 := b _ hn.2.1.1 hn.2.1.2
       have b3 := b _ hn.2.2.1.1 hn.2.2.1.2
       have b4 := b _ hn.2.2.2.1 hn.2.2.2.2
       unfold f52 F52 mulR
       simp only [e]
       rw [wi (by omega) (by omega), wi (by omega) (by omega), wi (by omega) (by omega), wi (by omega) (by omega)]
     simp only [l53_0]
     rw [decide_eq_true (show (i : Int) < m by omega), hA, wi (show (-9223372036854775808 : Int) ≤ (i : Int) + 1 by omega) (by omega)]
     rfl)
   (fun next => by
     simp only [l53_0]
     rw [decide_eq_false (show ¬ ((m.toNat : Nat) : Int) < m by omega), show ((m.toNat : Nat) : Int) = m by omega]
     rfl)
 have e0 : mulR need ((0 : Nat) : Int) = Res.mk 0 0 0 0 := by unfold mulR; simp
 rw [e0] at key
 exact key
theorem p_rFits (a b : Res) (h : leR a b) : f67 a b = some true := by
 obtain ⟨h1, h2, h3, h4⟩ := h
 unfold f67 F67
 simp [h1, h2, h3, h4]
theorem p_AtV {now t : Int} {l : List Step} (h : OkL now l) (hl : l.length ≤ 900) (ht : now ≤ t) : f130 l t = some (vl l t) := by
 obtain ⟨s, tl, rfl, hs, hok⟩ := h
 rw [p_At hok hl, if_neg (by omega)]
 rfl
theorem p_Free {now : Int} {B : Nat} {parts : List (List Int)} {nodes : List (List Step)} {V : Vals} (hV : PRep now B nodes V) (hB : B ≤ 700) (hN : nodes.length ≤ 16) (t : Int) (ht : now ≤ t) :
   ∃ free, f66 t now parts nodes = some (free, prof now parts nodes) ∧ free.length = nodes.length ∧ ∀ k, k < nodes.length → free[k]? = some (V k t) := by
 unfold f66 F66
 have e0 : Int.toNat (nodes.length : Int) = nodes.length := by omega
 rw [decide_eq_false (show ¬ t < now by omega), e0, decide_eq_true (show (0 : Int) ≤ (nodes.length : Int) by omega), decide_eq_true (Nat.le_refl nodes.length), decide_eq_true (show nodes.length * 32 ≤ 1099511627776 by omega), decide_eq_true (show nodes.length ≤ 4294967296 by omega)]
 simp only [cond_true, cond_false, Bool.and_self]
 refine inv_loop (G := fun o => ∃ free : List Res, o = some (free, prof now parts nodes) ∧ free.length = nodes.length ∧ ∀ k, k < nodes.length → free[k]? = some (V k t)) nodes.length (small_lt (by omega)) (fun (free : List Res) i => (((), (), (i : Int), ()), ((now, (), (), ()), parts, nodes, free, ())))
   (fun free i => free.length = nodes.length ∧ ∀ k, k < i → free[k]? = some (V k t)) ?_ ?_ (List.replicate nodes.length (Res.mk 0 0 0 0)) ⟨by simp, fun k hk => by omega⟩
 · rintro free ⟨h1, h2⟩
   refine ⟨_, ⟨free, rfl, h1, h2⟩, fun next => ?_⟩
   simp only [l66_0]
   rw [decide_eq_false (show ¬ ((nodes.length : Nat) : Int) < (nodes.length : Int) by omega)]
   rfl
 · rintro free i hi ⟨h1, h2⟩
   have hbi : nodes[i]? = some nodes[i] := List.getElem?_eq_getElem hi
   have t0 : Int.toNat (i : Int) = i := by omega
   have hf : free[i]? = some (free[i]'(by omega)) := List.getElem?_eq_getElem (by omega)
   obtain ⟨g1, g2⟩ := hV.ok _ _ hbi
   refine .inl ⟨free.set i (V i t), ⟨by rw [List.length_set]; exact h1, fun k hk => ?_⟩, fun next => ?_⟩
   · by_cases e : i = k
     · subst e
       exact List.getElem?_set_self (by omega)
     · rw [List.getElem?_set_ne e]
       exact h2 k (by omega)
   · simp only [l66_0]
     rw [t0, decide_eq_true (show (i : Int) < (nodes.length : Int) by omega), decide_eq_true (show (0 : Int) ≤ (i : Int) by omega), decide_eq_true hi, hbi]
     simp only [cond_true, Option.bind_some, p_AtV g1 (show nodes[i].length ≤ 900 by omega) ht, hf]
     rw [decide_eq_true (show i < free.length by omega), hV.val _ _ hbi t ht, wi (by omega) (by omega)]
     rfl
abbrev WantT := Int × (Int × (Res × Int))
abbrev PlT := Int × (Int × List Share)
abbrev SA := ((Unit × (Unit × (Unit × (Unit × (Int × Unit))))) × (WorldT × (WantT × ((Int × (Unit × (Unit × Unit))) × (PlT × ((List (List Int)) × ((List (List Step)) × Unit)))))))
abbrev SB := ((Unit × (Unit × (Unit × (Int × Unit)))) × (WantT × ((Int × (Unit × (Unit × Unit))) × (PlT × ((List (List Int)) × ((List (List Step)) × Unit))))))
abbrev FreeF := Int → Int → (List (List Int)) → (List (List Step)) → Option ((List Res) × Prof)
def sa (w : WorldT) (x : WantT) (plan : PlT) (now : Int) (parts : List (List Int)) (nodes : List (List Step)) (z : Int) : SA := (((), (), (), (), z, ()), (w, x, (now, (), (), ()), plan, parts, nodes, ()))
def sb (x : WantT) (plan : PlT) (now : Int) (parts : List (List Int)) (nodes : List (List Step)) (z : Int) : SB := (((), (), (), z, ()), (x, (now, (), (), ()), plan, parts, nodes, ()))
def rA (L : Lp) (g66 : FreeF) (g53 : Res → Int → Option Res) (g67 : Res → Res → Option Bool) (g64_1 : WhenF) : SA → (SA → Option Bool) → Option Bool := fun s45 nx46 => l10_5 L g66 g53 g67 g64_1 nx46 s45.1.2.2.2.2.1 s45.2.1 s45.2.2.1 s45.2.2.2.1.1 s45.2.2.2.2.1 s45.2.2.2.2.2.1 s45.2.2.2.2.2.2.1
def rS (g53 : Res → Int → Option Res) (g67 : Res → Res → Option Bool) (nx46 : SA → Option Bool) (zt47 : Int) (z51 : PlT) (r54 : (List Res) × Prof) : SA → (SA → Option Bool) → Option Bool := fun s55 nx56 => l10_3 g53 g67 nx46 zt47 z51 r54 nx56 s55.1.2.2.2.2.1 s55.2.1 s55.2.2.1 s55.2.2.2.1.1 s55.2.2.2.2.1 s55.2.2.2.2.2.1 s55.2.2.2.2.2.2.1
def rB (g64_1 : WhenF) : SB → (SB → Option Bool) → Option Bool := fun s69 nx70 => l10_4 g64_1 nx70 s69.1.2.2.2.1 s69.2.1 s69.2.2.1.1 s69.2.2.2.1 s69.2.2.2.2.1 s69.2.2.2.2.2.1
theorem rA_go (L : Lp) (g66 : FreeF) (g53 : Res → Int → Option Res) (g67 : Res → Res → Option Bool) (g64_1 : WhenF) (w : WorldT) (x : WantT) (plan : PlT) (now : Int) (parts : List (List Int)) (nodes : List (List Step)) (z : Int) (free : List Res) (next) (hz : z < IntKind.wrap .i64 (plan.2.1 + x.2.2.2)) (hf : g66 z now parts nodes = some (free, prof now parts nodes)) :
   rA L g66 g53 g67 g64_1 (sa w x plan now parts nodes z) next = L (rS g53 g67 next z plan (free, prof now parts nodes)) (sa w x plan now parts nodes 0) := by
 show l10_5 L g66 g53 g67 g64_1 next z w x now plan parts nodes = _
 unfold l10_5
 rw [decide_eq_true hz, hf]
 simp only [cond_true, Option.bind_some, prof, decide_true, Bool.and_self]
 rfl
theorem rA_end (L : Lp) (g66 : FreeF) (g53 : Res → Int → Option Res) (g67 : Res → Res → Option Bool) (g64_1 : WhenF) (w : WorldT) (x : WantT) (plan : PlT) (now : Int) (parts : List (List Int)) (nodes : List (List Step)) (z : Int) (next) (hz : ¬ z < IntKind.wrap .i64 (plan.2.1 + x.2.2.2)) :
   rA L g66 g53 g67 g64_1 (sa w x plan now parts nodes z) next = L (rB g64_1) (sb x plan now parts nodes (if (IntKind.wrap .i64 (plan.2.1 - 60)) > w.2.1 then (IntKind.wrap .i64 (plan.2.1 - 60)) else w.2.1)) := by
 show l10_5 L g66 g53 g67 g64_1 next z w x now plan parts nodes = _
 unfold l10_5
 rw [decide_eq_false hz]
 rfl
theorem rS_go (g53 : Res → Int → Option Res) (g67 : Res → Res → Option Bool) (nx46 : SA → Option Bool) (zt : Int) (w : WorldT) (x : WantT) (plan : PlT) (now : Int) (parts : List (List Int)) (nodes : List (List Step)) (free : List Res) (P : Prof) (i : Nat) (hi : i < plan.2.2.length) (s : Share) (hs : plan.2.2[i]? = some s) (hl : plan.2.2.length ≤ 1000) (fr m : Res)
   (h1 : 0 ≤ s.node) (h2 : s.node < (free.length : Int)) (h3 : 1 ≤ s.many) (h4 : s.many ≤ 64) (hm : g53 x.2.2.1 s.many = some m) (hfr : free[s.node.toNat]? = some fr) (hft : g67 m fr = some true) (next) :
   rS g53 g67 nx46 zt plan (free, P) (sa w x plan now parts nodes (i : Int)) next = next (sa w x plan now parts nodes ((i + 1 : Nat) : Int)) := by
 show l10_3 g53 g67 nx46 zt plan (free, P) next (i : Int) w x now plan parts nodes = _
 unfold l10_3
 have t0 : Int.toNat (i : Int) = i := by omega
 rw [t0, decide_eq_true (show (i : Int) < (plan.2.2.length : Int) by omega), decide_eq_true (show (0 : Int) ≤ (i : Int) by omega), hs]
 simp only [cond_true, Option.bind_some]
 rw [decide_eq_false (show ¬ s.node < 0 by omega), decide_eq_false (show ¬ (free.length : Int) ≤ s.node by omega), decide_eq_false (show ¬ s.many < 1 by omega), decide_eq_false (show ¬ 64 < s.many by omega), hm, decide_eq_true h1, hfr, wi (show (-9223372036854775808 : Int) ≤ (i : Int) + 1 by omega) (by omega)]
 simp only [cond_true, cond_false, Option.bind_some]
 rw [hft]
 rfl
theorem rS_end (g53 : Res → Int → Option Res) (g67 : Res → Res → Option Bool) (nx46 : SA → Option Bool) (zt : Int) (w : WorldT) (x : WantT) (plan : PlT) (now : Int) (parts : List (List Int)) (nodes : List (List Step)) (free : List Res) (P : Prof) (next) :
   rS g53 g67 nx46 zt plan (free, P) (sa w x plan now parts nodes (plan.2.2.length : Int)) next = nx46 (sa w x plan now parts nodes (IntKind.wrap .i64 (zt + 1))) := by
 show l10_3 g53 g67 nx46 zt plan (free, P) next (plan.2.2.length : Int) w x now plan parts nodes = _
 unfold l10_3
 rw [decide_eq_false (show ¬ ((plan.2.2.length : Nat) : Int) < (plan.2.2.length : Int) by omega)]
 rfl
theorem rB_go (g64_1 : WhenF) (x : WantT) (plan : PlT) (now : Int) (parts : List (List Int)) (nodes : List (List Step)) (z : Int) (l : List Share) (next) (hz : z < plan.2.1) (hw : g64_1 x.1 x.2.1 x.2.2.1 x.2.2.2 z now parts nodes = some ((l, (false, ())), prof now parts nodes)) :
   rB g64_1 (sb x plan now parts nodes z) next = next (sb x plan now parts nodes (IntKind.wrap .i64 (z + 1))) := by
 show l10_4 g64_1 next z x now plan parts nodes = _
 unfold l10_4
 rw [decide_eq_true hz, hw]
 simp only [cond_true, Option.bind_some, prof, decide_true, Bool.and_self, cond_false]
 rfl
theorem rB_end (g64_1 : WhenF) (x : WantT) (plan : PlT) (now : Int) (parts : List (List Int)) (nodes : List (List Step)) (z : Int) (next) (hz : ¬ z < plan.2.1) : rB g64_1 (sb x plan now parts nodes z) next = some true := by
 show l10_4 g64_1 next z x now plan parts nodes = _
 unfold l10_4
 rw [decide_eq_false hz]
 rfl
theorem least_open (L : Lp) (g60 : Option Bool) (g61 : WorldT → Option Bool) (g62 : NewF) (g63_1 : EarlyF) (g65 : List Share → Option Int) (g66 : FreeF) (g53 : Res → Int → Option Res) (g67 : Res → Res → Option Bool) (g64_1 : WhenF) (w : WorldT) (x : WantT) (nodes : List (List Step)) (a : PlT) (ok : Bool) (h0 : g60 = some true) (h1 : g61 w = some true) (hx : ¬ 40 < x.2.2.2)
   (h2 : g62 w.1 w.2.1 w.2.2.1 w.2.2.2 = some (.inr (((), 0, ()), prof w.2.1 w.1.parts nodes))) (h3 : g63_1 x.1 x.2.1 x.2.2.1 x.2.2.2 w.2.1 w.1.parts nodes = some ((a, (ok, ())), prof w.2.1 w.1.parts nodes)) :
   F10 L g60 g61 g62 g63_1 g65 g66 g53 g67 g64_1 w x = cond (!ok) (some (decide ((a.2.2.length : Int) = 0))) (cond (decide (a.2.1 < w.2.1)) (some false) (Option.bind (g65 a.2.2) fun r44 => cond (!decide (r44 = x.2.1)) (some false) (L (rA L g66 g53 g67 g64_1) (sa w x a w.2.1 w.1.parts nodes a.2.1)))) := by
 unfold F10
 rw [h0, h1, h2, decide_eq_false hx]
 simp only [Option.bind_some, Bool.not_true, cond_false, Sum.elim_inr, decide_true, prof, Sum.elim_inl]
 rw [h3]
 simp only [Option.bind_some, prof, decide_true, Bool.and_self, cond_true]
 rfl
theorem law_PlanLeast (w : WorldT) (x : WantT) (hs : Rng.P w.1) : f10 w x = some true := by
 have e0 : f10 w x = F10 (@LN LOOPS) f60 f61 f62 f63_1 f65 f66 f53 f67 f64_1 w x := rfl
 rw [e0]
 obtain ⟨b, hb1, hb2⟩ := p_Few13 w hs
 cases b with
 | false =>
   unfold F10
   rw [awake13, hb1]
   rfl
 | true =>
   obtain ⟨g1, g2, g3, g4⟩ := hb2 rfl
   by_cases hx : 40 < x.2.2.2
   · unfold F10
     rw [awake13, hb1, decide_eq_true hx]
     rfl
   · have hbad : ∀ e, e ≠ 0 → f62 w.1 w.2.1 w.2.2.1 w.2.2.2 = some (.inl ((), e, ())) → F10 (@LN LOOPS) f60 f61 f62 f63_1 f65 f66 f53 f67 f64_1 w x = some true := by
       intro e he hn
       unfold F10
       rw [awake13, hb1, decide_eq_false hx]
       simp only [Option.bind_some, Bool.not_true, cond_false]
       rw [hn]
       simp only [Option.bind_some, Sum.elim_inl, decide_eq_false he, Bool.not_false, cond_true, Sum.elim_inr]
     rcases p_New w.1 hs w.2.1 w.2.2.1 w.2.2.2 g2 g4 g3 with ⟨hin, hG⟩ | ⟨_, hno⟩
     · rcases hG with ⟨hok, nodes, hnew, hN, hV⟩ | ⟨_, e, he, hno⟩
       · obtain ⟨i1, i2, i3, i4, i5⟩ := hin
         obtain ⟨f1, f2, f3, f4⟩ := specOk_facts i1
         by_cases hp : x.1 < 0 ∨ (w.1.parts.length : Int) ≤ x.1
         · rw [least_open (@LN LOOPS) _ _ _ _ _ _ _ _ _ w x nodes _ _ awake13 hb1 hx hnew (p_Earliest_no x.1 x.2.1 x.2.2.1 x.2.2.2 hp)]
           rfl
         · obtain ⟨part, hpart, hpok, hne, hp16⟩ := part_ok i1 (p0 := x.1) (by omega) (by omega)
           have hpokN := hpok
           rw [← hN] at hpokN
           have E := p_Earliest hV (by omega) (by omega) x.1 x.2.1 x.2.2.1 x.2.2.2 (by omega) hpart hpokN hne hp16 i2
           rcases E with ⟨t, fit, e1, e2, ⟨lst, q1, q2⟩, e4, e5, e6⟩ | ⟨e1, e2⟩
           · rw [least_open (@LN LOOPS) _ _ _ _ _ _ _ _ _ w x nodes _ _ awake13 hb1 hx hnew e1]
             obtain ⟨c1, c2, c3, c4⟩ := e2
             have hfit : ∀ k ∈ part, 0 ≤ fit k ∧ fit k ≤ 64 := fun k hk => by
               rw [q2 k hk]
               exact ⟨countI_nonneg _ _, countI_le _ _⟩
             have hgm := greedy_mem (fit := fit) part x.2.1 (fun k hk => (hfit k hk).1) (by omega)
             have hm64 : ∀ s ∈ greedy fit part x.2.1, 1 ≤ s.many ∧ s.many ≤ 64 := fun s hs => by
               have h := hgm s hs
               have := (hfit _ h.1).2
               omega
             have hgl := greedy_len (fit := fit) part x.2.1
             rw [p_Total _ (by omega) hm64, greedy_total part x.2.1 (fun k hk => (hfit k hk).1) (by omega) e5]
             simp only [Bool.not_true, cond_false, Option.bind_some, decide_true]
             rw [decide_eq_false (show ¬ t < w.2.1 by omega)]
             simp only [cond_false]
             generalize hgg : greedy fit part x.2.1 = gl at hgm hm64 hgl
             obtain ⟨plan, hp1, hp2, hpl⟩ : ∃ plan : PlT, t = plan.2.1 ∧ gl = plan.2.2 ∧ ((0, (t, gl)) : PlT) = plan := ⟨_, rfl, rfl, rfl⟩
             rw [hpl]
             clear hpl e1 hgg
             subst hp1 hp2
             have hwr : IntKind.wrap .i64 (plan.2.1 + x.2.2.2) = plan.2.1 + x.2.2.2 := wi (by omega) (by omega)
             have hw60 : IntKind.wrap .i64 (plan.2.1 - 60) = plan.2.1 - 60 := wi (by omega) (by omega)
             -- tick by tick
             have htick : ∀ i : Nat, (i : Int) < x.2.2.2 → ∀ next : SA → Option Bool, rA (@LN LOOPS) f66 f53 f67 f64_1 (sa w x plan w.2.1 w.1.parts nodes (plan.2.1 + (i : Int))) next = next (sa w x plan w.2.1 w.1.parts nodes (plan.2.1 + ((i + 1 : Nat) : Int))) := by
               intro i hi next
               obtain ⟨free, r1, r2, r3⟩ := p_Free (parts := w.1.parts) hV (by omega) (by omega) (plan.2.1 + (i : Int)) (by omega)
               rw [rA_go (@LN LOOPS) _ _ _ _ w x plan w.2.1 w.1.parts nodes _ free next (by omega) r1]
               have h := loop_run (f := rS f53 f67 next (plan.2.1 + (i : Int)) plan (free, prof w.2.1 w.1.parts nodes)) (r := next (sa w x plan w.2.1 w.1.parts nodes (IntKind.wrap .i64 (plan.2.1 + (i : Int) + 1)))) plan.2.2.length (small_lt (by omega)) (fun j => sa w x plan w.2.1 w.1.parts nodes (j : Int))
                 (fun j hj nx => by
                   have hsj : plan.2.2[j]? = some plan.2.2[j] := List.getElem?_eq_getElem hj
                   have hmem : plan.2.2[j] ∈ plan.2.2 := List.getElem_mem hj
                   generalize plan.2.2[j] = s at hsj hmem
                   obtain ⟨n1, n2, n3⟩ := hgm s hmem
                   have hk := hpokN.2 _ n1
                   have h64 := hm64 s hmem
                   rw [q2 _ n1] at n3
                   obtain ⟨_, c⟩ := countI_fit (by omega) n3
                   obtain ⟨c5, c6⟩ := c n2
                   refine rS_go _ _ next _ w x plan w.2.1 w.1.parts nodes free _ j hj s hsj (show plan.2.2.length ≤ 1000 by omega) _ (mulR x.2.2.1 s.many) hk.1 (by rw [r2]; exact hk.2) h64.1 h64.2 (p_rTimes _ c5 _ h64.1 h64.2) (r3 _ (by omega)) (p_rFits _ _ ?_) nx
                   exact c6.trans ((q1 _ n1).le _ (by omega) (by omega)))
                 (fun nx => rS_end _ _ next _ w x plan w.2.1 w.1.parts nodes free _ nx)
               rw [wi (show (-9223372036854775808 : Int) ≤ plan.2.1 + (i : Int) + 1 by omega) (by omega), show plan.2.1 + (i : Int) + 1 = plan.2.1 + ((i + 1 : Nat) : Int) by omega] at h
               exact h
             have hlate : ∀ next : SA → Option Bool, rA (@LN LOOPS) f66 f53 f67 f64_1 (sa w x plan w.2.1 w.1.parts nodes (plan.2.1 + ((x.2.2.2.toNat : Nat) : Int))) next = some true := by
               intro next
               rw [rA_end (@LN LOOPS) _ _ _ _ w x plan w.2.1 w.1.parts nodes _ next (by omega)]
               rw [hw60]
               have hz : ∃ z0 : Int, (if plan.2.1 - 60 > w.2.1 then plan.2.1 - 60 else w.2.1) = z0 ∧ w.2.1 ≤ z0 ∧ z0 ≤ plan.2.1 ∧ plan.2.1 - 60 ≤ z0 := by
                 refine ⟨_, rfl, ?_⟩
                 split <;> omega
               obtain ⟨z0, hz0, hz1, hz2, hz3⟩ := hz
               rw [hz0]
               have h := loop_run (f := rB f64_1) (r := some true) (plan.2.1 - z0).toNat (small_lt (by omega)) (fun j => sb x plan w.2.1 w.1.parts nodes (z0 + (j : Int)))
                 (fun j hj nx => by
                   rcases p_When hV (by omega) (by omega) x.1 x.2.1 x.2.2.1 x.2.2.2 (z0 + (j : Int)) (by omega) hpart hpokN i2 with ⟨_, hw⟩ | ⟨hc, fit', hf', hw⟩
                   · rw [rB_go _ x plan w.2.1 w.1.parts nodes _ _ nx (by show z0 + (j : Int) < plan.2.1; omega) hw, wi (by omega) (by omega), show z0 + (j : Int) + 1 = z0 + ((j + 1 : Nat) : Int) by omega]
                   · have hno := e6 (z0 + (j : Int)) (by omega) (by omega)
                     have hpf : placeF fit' part x.2.1 = ([], (false, ())) := by
                       unfold placeF
                       rw [if_pos ?_]
                       rcases (show (1 ≤ x.2.1 ∧ x.2.1 ≤ sumF fit' part) ∨ (x.2.1 < 1 ∨ sumF fit' part < x.2.1) by omega) with h | h
                       · exact absurd ⟨hc, fit', hf', h.1, h.2⟩ hno
                       · exact h
                     rw [hpf] at hw
                     rw [rB_go _ x plan w.2.1 w.1.parts nodes _ _ nx (by show z0 + (j : Int) < plan.2.1; omega) hw, wi (by omega) (by omega), show z0 + (j : Int) + 1 = z0 + ((j + 1 : Nat) : Int) by omega])
                 (fun nx => rB_end _ x plan w.2.1 w.1.parts nodes _ nx (by show ¬ z0 + (((plan.2.1 - z0).toNat : Nat) : Int) < plan.2.1; omega))
               rw [show z0 + ((0 : Nat) : Int) = z0 by omega] at h
               exact h
             have h := loop_run (f := rA (@LN LOOPS) f66 f53 f67 f64_1) (r := some true) x.2.2.2.toNat (small_lt (by omega)) (fun i => sa w x plan w.2.1 w.1.parts nodes (plan.2.1 + (i : Int))) (fun i hi next => htick i (by omega) next) hlate
             rw [show plan.2.1 + ((0 : Nat) : Int) = plan.2.1 by omega] at h
             exact h
           · rw [least_open (@LN LOOPS) _ _ _ _ _ _ _ _ _ w x nodes _ _ awake13 hb1 hx hnew e1]
             rfl
       · exact hbad e he hno
     · exact hbad 2 (by decide) hno
end NM
namespace planLeast
open NM AM
theorem walk (x0 : Spec × (Int × ((List Run) × (List Booking)))) (x1 : Int × (Int × (Res × Int))) (v0 v1 : Value) (W : World) (h0 : V W (Lt W.heap.size) x0 v0) (h1 : V W (Lt W.heap.size) x1 v1) :
   Calls Try.prog 10 #[v0, v1] W fun e w' => e = .returned (.bool true) ∧ Go.RowKit.Below W.heap.size W w' :=
 nlaw_walk NM.ok10 (x := (NEnc.f x0, NEnc.f x1, ())) (law_PlanLeast _ _ (Rng.ok h0.1).1) (arg_cons x0 (arg_cons x1 arg_nil)) rfl fun j a v ha hv => by
   match j with
   | 0 => simp at ha hv; subst ha; subst hv; exact h0.vr (fun _ h => h) _
   | 1 => simp at ha hv; subst ha; subst hv; exact h1.vr (fun _ h => h) _
end planLeast
end Go.Proofs.Ytmnhkpekmgobbaa
end
section
namespace Go.Proofs.Ytmnhkpekmgobbaa.planLeast
open Go.ChangeShapes Go.WideShapes Go.ChangeAt Go.RowKit
theorem own : ownKnob Try.prog.godebug = none := by kernel_rfl
theorem laidOut : laidOutB Try.prog = true := by kernel_rfl
set_option maxRecDepth 100000 in
theorem lifted (os : Os) (started : os.Started) (H : Type) (enc : TypeId × Value → H) :
   ReturnsInHanded {} Try.checked os 10 .any (Rows.planLeastSpec.pre6 enc Try.prog Try.f10 Rows.planLeastRow.domain false) (Rows.planLeastSpec.post enc Try.prog Try.f10 false true false false) := by
 refine returnsInHanded_of_change (C := Try.checked) own started (by kernel_rfl) Try.func10
   (ChangeSpec.witness6 (enc := enc) (C := Try.checked) false ⟨#[], #[.agg #[.slice none 0 0, .slice none 0 0, .slice none 0 0, .int .i64 0, .int .i64 0, .int .i64 0, .int .i64 0, .int .i64 0, .int .i64 0, .int .i64 0, .int .i64 0, .int .i64 0, .int .i64 0, .int .i64 0, .int .i64 0, .int .i64 0, .int .i64 0, .int .i64 0, .int .i64 0, .slice none 0 0, .slice none 0 0], .agg #[.int .i64 0, .int .i64 0, .int .i64 0, .int .i64 0, .int .i64 0, .int .i64 0, .int .i64 0]], []⟩ 8 (by kernel_rfl) (by kernel_rfl) (by kernel_rfl) (by kernel_rfl)) ?_
 intro W base args ds gs before hval0 hW _ _
 have hval : ∀ (j : Nat) t v, Try.f10.params[j]? = some t → args[j]? = some v → Value.okWide Try.prog W .any base t v := hval0
 have hW' := hW
 obtain ⟨p, q, hA0, hV, rfl, hfz, hnd⟩ := hW
 have hA : DataW.TrodAll enc Try.prog W 0 (fun _ => true) true Try.f10.params.toList args.toList ds p := hA0
 rw [Try.params10] at hA hval
 obtain ⟨v0, vs0, d0, ds0, p0, q0, hargs, rfl, rfl, h0, r0⟩ := trodAll_cons hA
 obtain ⟨v1, vs1, d1, ds1, p1, q1, rfl, rfl, rfl, h1, r1⟩ := trodAll_cons r0
 obtain ⟨rfl, rfl, rfl⟩ := trodAll_nil r1
 obtain rfl : args = #[v0, v1] := by cases args; simp_all
 obtain ⟨rfl, rfl⟩ := trodVars_none hV
 have lt0 : ∀ x ∈ p0, x.block < W.heap.size := by obtain ⟨m, hm⟩ := h0; exact DataW.trod_lt m _ _ _ hm
 obtain ⟨x0, a0⟩ : ∃ x : (Spec × (Int × (List Run) × (List Booking))), V W (Lt W.heap.size) x v0 := arg_of (rd_struct Try.underlying121 (by kernel_rfl) (RdF.cons rd_Spec rfl (by kernel_rfl) rfl (RdF.cons (rd_int Try.underlying3) rfl (by kernel_rfl) rfl (RdF.cons (rd_slice Try.underlying118 (by kernel_rfl) rd_Run) rfl (by kernel_rfl) rfl (RdF.last (rd_slice Try.underlying119 (by kernel_rfl) rd_Booking) rfl (by kernel_rfl)))))) h0 (agg_struct Try.underlying121 (hval 0 121 v0 rfl rfl))
 have lt1 : ∀ x ∈ p1, x.block < W.heap.size := by obtain ⟨m, hm⟩ := h1; exact DataW.trod_lt m _ _ _ hm
 obtain ⟨x1, a1⟩ : ∃ x : (Int × (Int × (Res × Int))), V W (Lt W.heap.size) x v1 := arg_of (rd_struct Try.underlying123 (by kernel_rfl) (RdF.cons (rd_int Try.underlying3) rfl (by kernel_rfl) rfl (RdF.cons (rd_int Try.underlying3) rfl (by kernel_rfl) rfl (RdF.cons rd_Res rfl (by kernel_rfl) rfl (RdF.last (rd_int Try.underlying3) rfl (by kernel_rfl)))))) h1 (agg_struct Try.underlying123 (hval 1 123 v1 rfl rfl))
 clear hA0 hval0
 refine (walk x0 x1 v0 v1 W a0 a1).mono fun e W' ⟨he, bel⟩ => ?_
 subst he
 exact ⟨_, rfl, _, _, _, [], _, [], hW', trodAll_mk1 (shut_bool Try.underlying4 _), (trodAll_cons_mk (Below.trod laidOut (by kernel_rfl) (of_decide_eq_true (by kernel_rfl)) h0 bel lt0) (trodAll_cons_mk (Below.trod laidOut (by kernel_rfl) (of_decide_eq_true (by kernel_rfl)) h1 bel lt1) trodAll_mk0)), rfl, bel.frame _, fun h => by cases h⟩
theorem over : Rows.planLeastRow.holds Try.pinned (OpenSpec.ofChange Rows.planLeastSpec) :=
 OpenClaim.holds_of_wide 10 Try.f10 rfl rfl rfl rfl rfl rfl rfl ⟨rfl, rfl, rfl, rfl, rfl⟩ rfl rfl rfl rfl rfl (by kernel_rfl) Try.func10 (by kernel_rfl)
   (of_decide_eq_true (by kernel_rfl)) (by unfold Func.isWrapper; first | (rw [if_pos (by decide +kernel)]; kernel_rfl) | (rw [if_neg (by decide +kernel)]; exact ⟨rfl, rfl⟩))
   (fun os started H enc _ => lifted os started H enc)
theorem proved : Rows.PlanLeastSaid :=
 over
end Go.Proofs.Ytmnhkpekmgobbaa.planLeast
end
