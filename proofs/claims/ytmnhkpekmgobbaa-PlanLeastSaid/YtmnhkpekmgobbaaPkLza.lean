/-
  What the proof of PlanLeast leans on, part 27. (Many texts laid together by program.)
-/
import Derived.Test.YtmnhkpekmgobbaaPkLz
import Derived.KernelRfl
set_option linter.unnecessarySimpa false
set_option linter.unusedSimpArgs false
set_option linter.unusedVariables false
section
namespace Go.Proofs.Ytmnhkpekmgobbaa
namespace NM
open AM
theorem stepC_mono1 {x x' y n n' : Int} (hx : x ≤ x') (hn : n ≤ n') : stepC x y n ≤ stepC x' y n' := by
 unfold stepC
 split
 · rename_i hy
   have := Int.ediv_le_ediv hy hx
   omega
 · exact hn
theorem countI_mono1 {a a' b : Res} (h : leR a a') (ha : okR a = true) (ha' : okR a' = true) : countI a b ≤ countI a' b := by
 unfold countI
 rw [resOk_okR, resOk_okR, resOk_okR, ha, ha']
 split
 · exact stepC_mono1 h.2.2.2 (stepC_mono1 h.2.2.1 (stepC_mono1 h.2.1 (stepC_mono1 h.1 (Int.le_refl _))))
 · exact Int.le_refl _
theorem stepC_fit {x y n m : Int} (hx : 0 ≤ x) (hm : 0 ≤ m) (h : m ≤ stepC x y n) (hy : 0 ≤ y) : m ≤ n ∧ y * m ≤ x := by
 unfold stepC at h
 split at h
 · rename_i hy
   have h1 : m ≤ x / y := by omega
   have h2 : y * m ≤ y * (x / y) := Int.mul_le_mul_of_nonneg_left h1 (by omega)
   have h3 := Int.mul_ediv_self_le (x := x) (k := y) (by omega)
   omega
 · have : y = 0 := by omega
   subst this
   rw [Int.zero_mul]
   exact ⟨h, hx⟩
theorem countI_fit {a b : Res} {m : Int} (hm : 0 ≤ m) (h : m ≤ countI a b) : m ≤ 64 ∧ (1 ≤ m → okR b = true ∧ leR (mulR b m) a) := by
 unfold countI at h
 split at h
 · rename_i hc
   obtain ⟨h1, h2, h3⟩ := hc
   rw [resOk_okR] at h1 h2
   have p1 := okR_pos h1
   have p2 := okR_pos h2
   unfold posR at p1 p2
   obtain ⟨g1, g2⟩ := stepC_fit p1.2.2.2 hm h p2.2.2.2
   obtain ⟨g3, g4⟩ := stepC_fit p1.2.2.1 hm g1 p2.2.2.1
   obtain ⟨g5, g6⟩ := stepC_fit p1.2.1 hm g3 p2.2.1
   obtain ⟨g7, g8⟩ := stepC_fit p1.1 hm g5 p2.1
   exact ⟨g7, fun _ => ⟨h2, g8, g6, g4, g2⟩⟩
 · exact ⟨by omega, fun h => by omega⟩
def sumF (fit : Int → Int) : List Int → Int
 | [] => 0
 | k :: l => fit k + sumF fit l
def greedy (fit : Int → Int) : List Int → Int → List Share
 | [], _ => []
 | k :: l, left => if left = 0 then [] else if (if left < fit k then left else fit k) = 0 then greedy fit l left else ⟨k, if left < fit k then left else fit k⟩ :: greedy fit l (left - (if left < fit k then left else fit k))
def placeF (fit : Int → Int) (part : List Int) (many : Int) : List Share × (Bool × Unit) := if many < 1 ∨ sumF fit part < many then ([], (false, ())) else (greedy fit part many, (true, ()))
theorem sumF_le {fit : Int → Int} : ∀ (l : List Int), (∀ k ∈ l, 0 ≤ fit k ∧ fit k ≤ 64) → 0 ≤ sumF fit l ∧ sumF fit l ≤ 64 * (l.length : Int)
 | [], _ => ⟨Int.le_refl _, by simp [sumF]⟩
 | k :: l, h => by
   have h1 := h k (by simp)
   have h2 := sumF_le l fun j hj => h j (by simp [hj])
   simp only [sumF, List.length_cons]
   omega
theorem sumF_mono {fit fit' : Int → Int} : ∀ (l : List Int), (∀ k ∈ l, fit k ≤ fit' k) → sumF fit l ≤ sumF fit' l
 | [], _ => Int.le_refl _
 | k :: l, h => by
   have h1 := h k (by simp)
   have h2 := sumF_mono l fun j hj => h j (by simp [hj])
   simp only [sumF]
   omega
theorem sumF_app (fit : Int → Int) : ∀ (a b : List Int), sumF fit (a ++ b) = sumF fit a + sumF fit b
 | [], b => by simp [sumF]
 | k :: a, b => by simp only [List.cons_append, sumF, sumF_app fit a b]; omega
def fitI (free : List Res) (need : Res) (k : Int) : Int := if k < 0 ∨ (free.length : Int) ≤ k then 0 else countI (free.getD k.toNat zeroR) need
theorem fitI_le (free : List Res) (need : Res) (k : Int) : 0 ≤ fitI free need k ∧ fitI free need k ≤ 64 := by
 unfold fitI
 split
 · omega
 · exact ⟨countI_nonneg _ _, countI_le _ _⟩
theorem p_fit (free : List Res) (k : Int) (need : Res) : f175 free k need = some (fitI free need k) := by
 unfold f175 F175 fitI
 by_cases h1 : k < 0
 · simp [h1]
 · by_cases h2 : (free.length : Int) ≤ k
   · simp [h1, h2]
   · have hk : k.toNat < free.length := by omega
     rw [decide_eq_false h1, decide_eq_false h2, if_neg (by omega), decide_eq_true (show 0 ≤ k by omega), List.getD_eq_getElem?_getD, List.getElem?_eq_getElem hk]
     simp only [cond_false, cond_true, Option.bind_some, p_Count, Option.getD_some]
theorem p_plRoom (free : List Res) (part : List Int) (need : Res) (hl : part.length ≤ 1000) : f174 free part need = some (sumF (fitI free need) part) := by
 unfold f174 F174
 refine inv_loop (G := fun o => o = some (sumF (fitI free need) part)) part.length (small_lt (by omega)) (fun (room : Int) i => (((), room, (i : Int), ()), (need, ()))) (fun room i => room = sumF (fitI free need) (part.take i)) ?_ ?_ 0 rfl
 · rintro room rfl
   rw [List.take_length]
   refine ⟨_, rfl, fun next => ?_⟩
   simp only [l174_0]
   rw [decide_eq_false (show ¬ ((part.length : Nat) : Int) < (part.length : Int) by omega)]
   rfl
 · rintro room i hi rfl
   have hbi : part[i]? = some part[i] := List.getElem?_eq_getElem hi
   have t0 : Int.toNat (i : Int) = i := by omega
   have h1 := sumF_le (fit := fitI free need) (part.take i) fun k _ => fitI_le free need k
   have h2 := fitI_le free need part[i]
   have h3 : (part.take i).length = i := by rw [List.length_take]; omega
   refine .inl ⟨_, rfl, fun next => ?_⟩
   simp only [l174_0]
   rw [t0, decide_eq_true (show (i : Int) < (part.length : Int) by omega), decide_eq_true (show (0 : Int) ≤ (i : Int) by omega), hbi]
   simp only [cond_true, Option.bind_some, p_fit]
   rw [wi (by omega) (by omega), wi (by omega) (by omega), List.take_add_one, hbi]
   simp only [Option.toList_some, sumF_app, sumF]
   rw [Int.add_zero]
   rfl
theorem p_Place (free : List Res) (part : List Int) (many : Int) (need : Res) (hl : part.length ≤ 1000) : f129 free part many need = some (placeF (fitI free need) part many) := by
 unfold f129 F129 placeF
 rw [p_plRoom free part need hl]
 simp only [Option.bind_some]
 by_cases h1 : many < 1
 · rw [decide_eq_true h1, if_pos (.inl h1)]; rfl
 by_cases h2 : sumF (fitI free need) part < many
 · rw [decide_eq_false h1, decide_eq_true h2, if_pos (.inr h2)]; rfl
 rw [decide_eq_false h1, decide_eq_false h2, if_neg (by omega)]
 have hs := sumF_le (fit := fitI free need) part fun k _ => fitI_le free need k
 simp only [cond_false]
 refine inv_loop (G := fun o => o = some (greedy (fitI free need) part many, (true, ()))) part.length (small_lt (by omega)) (fun (x : Int × List Share) i => (((), (), x.1, (i : Int), ()), (need, x.2, ())))
   (fun x i => 0 ≤ x.1 ∧ x.1 ≤ many ∧ x.2.length ≤ i ∧ x.2 ++ greedy (fitI free need) (part.drop i) x.1 = greedy (fitI free need) part many) ?_ ?_ (many, []) ⟨by simp only; omega, Int.le_refl _, by simp, rfl⟩
 · rintro ⟨left, acc⟩ ⟨g1, g2, g3, g4⟩
   rw [List.drop_length] at g4
   simp only [greedy, List.append_nil] at g4
   refine ⟨_, by rw [← g4], fun next => ?_⟩
   simp only [l129_0]
   rw [decide_eq_false (show ¬ ((part.length : Nat) : Int) < (part.length : Int) by omega)]
   rfl
 · rintro ⟨left, acc⟩ i hi ⟨g1, g2, g3, g4⟩
   have hbi : part[i]? = some part[i] := List.getElem?_eq_getElem hi
   have hdr : part.drop i = part[i] :: part.drop (i + 1) := List.drop_eq_getElem_cons hi
   have t0 : Int.toNat (i : Int) = i := by omega
   rw [hdr] at g4
   generalize part[i] = k at hbi g4
   have hf := fitI_le free need k
   simp only at g1 g2 g3 g4
   simp only [greedy] at g4
   have hs16 : smallB (acc.length + 1) 16 = true := by
     unfold smallB
     simp only [Bool.and_eq_true, decide_eq_true_eq]
     omega
   have hgo : ∀ next : _ → Option (List Share × (Bool × Unit)), l129_0 f175 free part next left (i : Int) need acc = cond (decide (left = 0)) (some (acc, true, ()))
       (cond (decide ((if left < fitI free need k then left else fitI free need k) = 0)) (next (((), (), left, ((i + 1 : Nat) : Int), ()), (need, acc, ())))
         (next (((), (), left - (if left < fitI free need k then left else fitI free need k), ((i + 1 : Nat) : Int), ()), (need, acc ++ [Share.mk k (if left < fitI free need k then left else fitI free need k)], ())))) := by
     intro next
     simp only [l129_0]
     rw [t0, decide_eq_true (show (i : Int) < (part.length : Int) by omega), decide_eq_true (show (0 : Int) ≤ (i : Int) by omega), hbi]
     simp only [cond_true, Option.bind_some, p_fit]
     rw [wi (show (-9223372036854775808 : Int) ≤ (i : Int) + 1 by omega) (by omega), wi (show (-9223372036854775808 : Int) ≤ left - (if left < fitI free need k then left else fitI free need k) by split <;> omega) (by split <;> omega), hs16]
     rfl
   by_cases hz : left = 0
   · rw [if_pos hz, List.append_nil] at g4
     exact .inr ⟨_, by rw [← g4], fun next => (hgo next).trans (by rw [decide_eq_true hz]; rfl)⟩
   · rw [if_neg hz] at g4
     by_cases hn : (if left < fitI free need k then left else fitI free need k) = 0
     · rw [if_pos hn] at g4
       exact .inl ⟨(left, acc), ⟨g1, g2, by simp only; omega, g4⟩, fun next => (hgo next).trans (by rw [decide_eq_false hz, decide_eq_true hn]; rfl)⟩
     · rw [if_neg hn] at g4
       refine .inl ⟨(left - (if left < fitI free need k then left else fitI free need k), acc ++ [Share.mk k (if left < fitI free need k then left else fitI free need k)]), ⟨?_, ?_, ?_, ?_⟩, fun next => (hgo next).trans (by rw [decide_eq_false hz, decide_eq_false hn]; rfl)⟩
       · simp only; split <;> omega
       · simp only; split <;> omega
       · simp; omega
       · simp only [List.append_assoc, List.cons_append, List.nil_append]; exact g4
structure LeastP (W : Int → Res) (b e : Int) (r : Res) : Prop where
 ok : okR r = true
 le : ∀ t, b ≤ t → t < e → leR r (W t)
 glb : ∀ x, (∀ t, b ≤ t → t < e → leR x (W t)) → leR x r
theorem least_of {now : Int} {l : List Step} {b e : Int} (h : OkL now l) (hl : l.length ≤ 900) (hb : now ≤ b) (he : b < e) : ∃ r, f128 l b e = some r ∧ LeastP (vl l) b e r := by
 obtain ⟨s, tl, rfl, hs, hok⟩ := h
 obtain ⟨r, h1, h2⟩ := p_Least (b := b) (e := e) hok hl (by omega) he
 have c1 := h2 Res.cpu (fun a b => rfl)
 have c2 := h2 Res.mem (fun a b => rfl)
 have c3 := h2 Res.gpu (fun a b => rfl)
 have c4 := h2 Res.lic (fun a b => rfl)
 refine ⟨r, h1, ?_, fun t h3 h4 => ⟨c1.1 t h3 h4, c2.1 t h3 h4, c3.1 t h3 h4, c4.1 t h3 h4⟩, fun x hx => ?_⟩
 · obtain ⟨t1, g1, g2, g3⟩ := c1.2
   obtain ⟨t2, g4, g5, g6⟩ := c2.2
   obtain ⟨t3, g7, g8, g9⟩ := c3.2
   obtain ⟨t4, g10, g11, g12⟩ := c4.2
   have o := fun t => (okR_iff _).1 (vl_ok (now := now) (l := s :: tl) ⟨s, tl, rfl, hs, hok⟩ t)
   rw [okR_iff]
   have o1 := (o t1).1
   have o2 := (o t2).2.1
   have o3 := (o t3).2.2.1
   have o4 := (o t4).2.2.2
   unfold vl at o1 o2 o3 o4
   simp only at o1 o2 o3 o4
   omega
 · obtain ⟨t1, g1, g2, g3⟩ := c1.2
   obtain ⟨t2, g4, g5, g6⟩ := c2.2
   obtain ⟨t3, g7, g8, g9⟩ := c3.2
   obtain ⟨t4, g10, g11, g12⟩ := c4.2
   have x1 := (hx t1 g1 g2).1
   have x2 := (hx t2 g4 g5).2.1
   have x3 := (hx t3 g7 g8).2.2.1
   have x4 := (hx t4 g10 g11).2.2.2
   unfold vl at x1 x2 x3 x4
   simp only at x1 x2 x3 x4
   unfold leR
   omega
theorem LeastP.congr {W W' : Int → Res} {b e : Int} {r : Res} (h : LeastP W b e r) (hw : ∀ t, b ≤ t → t < e → W t = W' t) : LeastP W' b e r :=
 ⟨h.ok, fun t h1 h2 => hw t h1 h2 ▸ h.le t h1 h2, fun x hx => h.glb x fun t h1 h2 => by rw [hw t h1 h2]; exact hx t h1 h2⟩
def PartOk (n : Nat) (part : List Int) : Prop := part.length ≤ 1000 ∧ ∀ k ∈ part, 0 ≤ k ∧ k < (n : Int)
def condW (now wall at_ : Int) : Prop := 1 ≤ wall ∧ wall ≤ 65536 ∧ now ≤ at_ ∧ at_ ≤ 1099511627776
instance (now wall at_ : Int) : Decidable (condW now wall at_) := by unfold condW; infer_instance
def FitsV (V : Vals) (part : List Int) (need : Res) (b e : Int) (fit : Int → Int) : Prop := ∃ lst : Int → Res, (∀ k ∈ part, LeastP (V k.toNat) b e (lst k)) ∧ ∀ k ∈ part, fit k = countI (lst k) need
abbrev WhenT := (List Share × (Bool × Unit)) × Prof
theorem p_When {now : Int} {B : Nat} {parts : List (List Int)} {nodes : List (List Step)} {V : Vals} {part : List Int} (hV : PRep now B nodes V) (hB : B ≤ 700) (hN : nodes.length ≤ 16) (p0 many : Int) (need : Res) (wall at_ : Int)
   (h0 : 0 ≤ p0) (hp : parts[p0.toNat]? = some part) (hpt : PartOk nodes.length part) (hnow : 0 ≤ now) :
   (¬ condW now wall at_ ∧ f64_1 p0 many need wall at_ now parts nodes = some (([], (false, ())), prof now parts nodes)) ∨
   (condW now wall at_ ∧ ∃ fit, FitsV V part need at_ (at_ + wall) fit ∧ f64_1 p0 many need wall at_ now parts nodes = some (placeF fit part many, prof now parts nodes)) := by
 have hp0 := (List.getElem?_eq_some_iff.1 hp).1
 unfold f64_1 F64_1
 rw [decide_eq_false (show ¬ p0 < 0 by omega), decide_eq_false (show ¬ (parts.length : Int) ≤ p0 by omega)]
 simp only [cond_false]
 by_cases h1 : wall < 1
 · rw [decide_eq_true h1]; exact .inl ⟨fun h => by unfold condW at h; omega, rfl⟩
 by_cases h2 : 65536 < wall
 · rw [decide_eq_false h1, decide_eq_true h2]; exact .inl ⟨fun h => by unfold condW at h; omega, rfl⟩
 by_cases h3 : at_ < now
 · rw [decide_eq_false h1, decide_eq_false h2, decide_eq_true h3]; exact .inl ⟨fun h => by unfold condW at h; omega, rfl⟩
 by_cases h4 : 1099511627776 < at_
 · rw [decide_eq_false h1, decide_eq_false h2, decide_eq_false h3, decide_eq_true h4]; exact .inl ⟨fun h => by unfold condW at h; omega, rfl⟩
 rw [decide_eq_false h1, decide_eq_false h2, decide_eq_false h3, decide_eq_false h4]
 refine .inr ⟨⟨by omega, by omega, by omega, by omega⟩, ?_⟩
 have e0 : Int.toNat (nodes.length : Int) = nodes.length := by omega
 rw [e0, decide_eq_true (show (0 : Int) ≤ (nodes.length : Int) by omega), decide_eq_true (Nat.le_refl nodes.length), decide_eq_true (show nodes.length * 32 ≤ 1099511627776 by omega), decide_eq_true (show nodes.length ≤ 4294967296 by omega), decide_eq_true h0, decide_eq_true (show p0.toNat < parts.length by omega), hp]
 simp only [cond_true, cond_false, Bool.and_self, Option.bind_some]
 have hle : ∀ k : Int, 0 ≤ k → k < (nodes.length : Int) → ∃ x r, nodes[k.toNat]? = some x ∧ f128 x at_ (IntKind.wrap .i64 (at_ + wall)) = some r ∧ LeastP (V k.toNat) at_ (at_ + wall) r := fun k hk1 hk2 => by
   have hx : nodes[k.toNat]? = some (nodes[k.toNat]'(by omega)) := List.getElem?_eq_getElem (by omega)
   obtain ⟨g1, g2⟩ := hV.ok _ _ hx
   obtain ⟨r, g3, g4⟩ := least_of (b := at_) (e := at_ + wall) g1 (by omega) (by omega) (by omega)
   refine ⟨_, r, hx, ?_, g4.congr fun t ht1 ht2 => hV.val _ _ hx t (by omega)⟩
   rw [wi (by omega) (by omega)]
   exact g3
 refine inv_loop (f := fun (s9 : ((Unit × (Unit × (Unit × (Int × Unit)))) × ((Int × (Unit × (Unit × Unit))) × ((List (List Int)) × ((List (List Step)) × (Res × ((List Res) × Unit))))))) nx10 => l64_1_0 f128 f129 p0 many wall at_ part nx10 s9.1.2.2.2.1 s9.2.1.1 s9.2.2.1 s9.2.2.2.1 s9.2.2.2.2.1 s9.2.2.2.2.2.1)
   (G := fun o => ∃ fit, FitsV V part need at_ (at_ + wall) fit ∧ o = some (placeF fit part many, prof now parts nodes)) part.length (small_lt (by have := hpt.1; omega)) (fun (free : List Res) i => (((), (), (), (i : Int), ()), ((now, (), (), ()), parts, nodes, need, free, ())))
   (fun free i => free.length = nodes.length ∧ ∀ k ∈ part.take i, LeastP (V k.toNat) at_ (at_ + wall) (free.getD k.toNat zeroR)) ?_ ?_ (List.replicate nodes.length (Res.mk 0 0 0 0)) ⟨by simp, by simp⟩
 · rintro free ⟨g1, g2⟩
   rw [List.take_length] at g2
   refine ⟨_, ⟨fitI free need, ⟨fun k => free.getD k.toNat zeroR, g2, fun k hk => ?_⟩, rfl⟩, fun next => ?_⟩
   · have := hpt.2 k hk
     unfold fitI
     rw [if_neg (by omega)]
   · simp only [l64_1_0]
     rw [decide_eq_false (show ¬ ((part.length : Nat) : Int) < (part.length : Int) by omega), decide_eq_true h0, decide_eq_true (show p0.toNat < parts.length by omega), hp]
     simp only [cond_true, cond_false, Option.bind_some, p_Place _ _ _ _ hpt.1]
     rfl
 · rintro free i hi ⟨g1, g2⟩
   have hbi : part[i]? = some part[i] := List.getElem?_eq_getElem hi
   have hmem : part[i] ∈ part := List.getElem_mem hi
   have t0 : Int.toNat (i : Int) = i := by omega
   have htk : part.take (i + 1) = part.take i ++ [part[i]] := by rw [List.take_add_one, hbi]; rfl
   generalize part[i] = k at hbi hmem htk
   have hk := hpt.2 k hmem
   obtain ⟨x, r, q1, q2, q3⟩ := hle k hk.1 hk.2
   have hfk : free[k.toNat]? = some (free[k.toNat]'(by omega)) := List.getElem?_eq_getElem (by omega)
   refine .inl ⟨free.set k.toNat r, ⟨by rw [List.length_set]; exact g1, fun j hj => ?_⟩, fun next => ?_⟩
   · rw [List.getD_eq_getElem?_getD]
     by_cases e : k.toNat = j.toNat
     · rw [← e, List.getElem?_set_self (by omega)]
       exact q3
     · rw [List.getElem?_set_ne e, ← List.getD_eq_getElem?_getD]
       rw [htk, List.mem_append, List.mem_singleton] at hj
       rcases hj with hj | rfl
       · exact g2 j hj
       · exact absurd rfl e
   · simp only [l64_1_0]
     rw [t0, decide_eq_true (show (i : Int) < (part.length : Int) by omega), decide_eq_true (show (0 : Int) ≤ (i : Int) by omega), hbi]
     simp only [cond_true, Option.bind_some, q1, q2, hfk]
     rw [decide_eq_true hk.1, decide_eq_true (show k.toNat < nodes.length by omega), decide_eq_true (show k.toNat < free.length by omega), wi (by have := hpt.1; omega) (by have := hpt.1; omega)]
     rfl
end NM
end Go.Proofs.Ytmnhkpekmgobbaa
end
section
namespace Go.Proofs.Ytmnhkpekmgobbaa
namespace NM
open AM
def atsOf (nodes : List (List Step)) (part : List Int) : List Int := part.flatMap fun k => (nodes.getD k.toNat []).map fun s => s.at_
theorem times_open (L : Lp) (g1 : (List Int) → Option (Unit × ((List Int) × Unit))) (g2 : (List Int) → Option (Unit × (Unit × ((List Int) × Unit)))) (p0 now : Int) (parts : List (List Int)) (nodes : List (List Step)) (part : List Int) (h0 : 0 ≤ p0) (hp0 : p0.toNat < parts.length) (hp : parts[p0.toNat]? = some part) :
   F127_1 L g1 g2 p0 now parts nodes = L (fun (s5 : ((Unit × (Unit × (Int × Unit))) × ((Int × (Unit × (Unit × Unit))) × ((List (List Int)) × ((List (List Step)) × ((List Int) × Unit)))))) nx6 => l127_1_1 L g1 g2 part nx6 s5.1.2.2.1 s5.2.1.1 s5.2.2.1 s5.2.2.2.1 s5.2.2.2.2.1) (((), (), 0, ()), ((now, (), (), ()), parts, nodes, [], ())) := by
 unfold F127_1
 rw [decide_eq_false (show ¬ p0 < 0 by omega), decide_eq_false (show ¬ (parts.length : Int) ≤ p0 by omega), decide_eq_true h0, decide_eq_true hp0, hp]
 rfl
theorem times_round (L : Lp) (g1 : (List Int) → Option (Unit × ((List Int) × Unit))) (g2 : (List Int) → Option (Unit × (Unit × ((List Int) × Unit)))) (part : List Int) (next : ((Unit × (Unit × (Int × Unit))) × ((Int × (Unit × (Unit × Unit))) × ((List (List Int)) × ((List (List Step)) × ((List Int) × Unit))))) → Option ((List Int) × ((Int × (Unit × (Unit × Unit))) × ((List (List Int)) × ((List (List Step)) × Unit))))) (now : Int) (parts : List (List Int)) (nodes : List (List Step)) (acc : List Int) (i : Nat) (k : Int) (x : List Step)
   (hi : i < part.length) (hbi : part[i]? = some k) (hk : 0 ≤ k) (hkn : k.toNat < nodes.length) (hx : nodes[k.toNat]? = some x) :
   l127_1_1 L g1 g2 part next (i : Int) now parts nodes acc = L (fun (s14 : ((Unit × (Unit × (Int × Unit))) × ((Int × (Unit × (Unit × Unit))) × ((List (List Int)) × ((List (List Step)) × ((List Int) × Unit)))))) nx15 => l127_1_0 next (i : Int) x nx15 s14.1.2.2.1 s14.2.1.1 s14.2.2.1 s14.2.2.2.1 s14.2.2.2.2.1) (((), (), ((0 : Nat) : Int), ()), ((now, (), (), ()), parts, nodes, acc, ())) := by
 have t0 : Int.toNat (i : Int) = i := by omega
 unfold l127_1_1
 rw [t0, decide_eq_true (show (i : Int) < (part.length : Int) by omega), decide_eq_true (show (0 : Int) ≤ (i : Int) by omega), hbi]
 simp only [cond_true, Option.bind_some]
 rw [decide_eq_true hk, decide_eq_true hkn, hx]
 rfl
theorem p_times {now : Int} {B : Nat} {parts : List (List Int)} {nodes : List (List Step)} {V : Vals} {part : List Int} (hV : PRep now B nodes V) (hB : B ≤ 700) (hN : nodes.length ≤ 16) (p0 : Int)
   (h0 : 0 ≤ p0) (hp : parts[p0.toNat]? = some part) (hpt : PartOk nodes.length part) (hne : 1 ≤ part.length) (hlen : part.length ≤ 16) :
   ∃ ts, f127_1 p0 now parts nodes = some (ts, prof now parts nodes) ∧ ts.Pairwise (· ≤ ·) ∧ (∀ t, t ∈ ts ↔ t ∈ atsOf nodes part) ∧ ts.length ≤ 20000 := by
 have hp0 := (List.getElem?_eq_some_iff.1 hp).1
 have hx : ∀ k ∈ part, ∃ x, nodes[k.toNat]? = some x ∧ OkL now x ∧ x.length ≤ B := fun k hk => by
   have hkk := hpt.2 k hk
   have h := List.getElem?_eq_getElem (l := nodes) (i := k.toNat) (by omega)
   exact ⟨_, h, hV.ok _ _ h⟩
 have hlenA : ∀ l : List Int, (∀ k ∈ l, k ∈ part) → (atsOf nodes l).length ≤ l.length * B := by
   intro l
   induction l with
   | nil => intro _; simp [atsOf]
   | cons k l ih =>
     intro h
     obtain ⟨x, g1, g2, g3⟩ := hx k (h k (by simp))
     have := ih fun j hj => h j (by simp [hj])
     unfold atsOf at this ⊢
     rw [List.flatMap_cons, List.length_append, List.length_map, List.getD_eq_getElem?_getD, g1, List.length_cons, Nat.add_mul]
     simp only [Option.getD_some]
     omega
 have hall := hlenA part fun _ h => h
 have hle1 : part.length * B ≤ 16 * 700 := Nat.mul_le_mul hlen hB
 have hpos : 0 < (atsOf nodes part).length := by
   match part, hne, hx with
   | k :: l, _, hx =>
     obtain ⟨x, g1, ⟨s, tl, rfl, _, _⟩, g3⟩ := hx k (by simp)
     unfold atsOf
     rw [List.flatMap_cons, List.length_append, List.length_map, List.getD_eq_getElem?_getD, g1]
     simp only [Option.getD_some, List.length_cons]
     omega
 unfold f127_1
 rw [times_open (@LN LOOPS) _ _ p0 now parts nodes part h0 hp0 hp]
 refine inv_loop
   (G := fun o => ∃ ts : List Int, o = some (ts, prof now parts nodes) ∧ ts.Pairwise (· ≤ ·) ∧ (∀ t, t ∈ ts ↔ t ∈ atsOf nodes part) ∧ ts.length ≤ 20000) part.length (small_lt (by omega)) (fun (acc : List Int) i => (((), (), (i : Int), ()), ((now, (), (), ()), parts, nodes, acc, ())))
   (fun acc i => acc = atsOf nodes (part.take i)) ?_ ?_ [] rfl
 · rintro acc rfl
   rw [List.take_length]
   have hsl := sortL_len (atsOf nodes part)
   have e1 : f151 (atsOf nodes part) = some ((), (sortL (atsOf nodes part), ())) := by
     unfold f151 sortG
     rw [decide_eq_true ⟨hpos, by omega⟩]
     rfl
   have e2 : f171 (sortL (atsOf nodes part)) = some ((), ((), (Lib.compact (sortL (atsOf nodes part)), ()))) := by
     unfold f171 compactG
     rw [decide_eq_true ⟨by omega, by omega⟩]
     rfl
   refine ⟨_, ⟨Lib.compact (sortL (atsOf nodes part)), rfl, compact_sorted _ (sortL_sorted _), fun t => by rw [compact_mem, sortL_mem], by have := compact_len (sortL (atsOf nodes part)); omega⟩, fun next => ?_⟩
   simp only [l127_1_1]
   rw [decide_eq_false (show ¬ ((part.length : Nat) : Int) < (part.length : Int) by omega), e1]
   simp only [cond_false, Option.bind_some, hsl, decide_true, Bool.and_self, cond_true, e2]
   rfl
 · rintro acc i hi rfl
   have hbi : part[i]? = some part[i] := List.getElem?_eq_getElem hi
   have hmem : part[i] ∈ part := List.getElem_mem hi
   have t0 : Int.toNat (i : Int) = i := by omega
   have htk : part.take (i + 1) = part.take i ++ [part[i]] := by rw [List.take_add_one, hbi]; rfl
   generalize part[i] = k at hbi hmem htk
   obtain ⟨x, q1, q2, q3⟩ := hx k hmem
   have hk := hpt.2 k hmem
   have hacc := hlenA (part.take i) fun j hj => List.mem_of_mem_take hj
   have hti : (part.take i).length = i := by rw [List.length_take]; omega
   rw [hti] at hacc
   have hiB : i * B ≤ 16 * 700 := Nat.mul_le_mul (by omega) hB
   have hnew : atsOf nodes (part.take (i + 1)) = atsOf nodes (part.take i) ++ x.map fun s => s.at_ := by
     unfold atsOf
     rw [htk, List.flatMap_append]
     simp [q1]
   refine .inl ⟨_, rfl, fun next => ?_⟩
   rw [hnew]
   generalize atsOf nodes (part.take i) = acc at hacc
   refine (times_round (@LN LOOPS) _ _ part next now parts nodes acc i k x hi hbi hk.1 (by omega) q1).trans ?_
   have hres := loop_run (f := fun (s14 : ((Unit × (Unit × (Int × Unit))) × ((Int × (Unit × (Unit × Unit))) × ((List (List Int)) × ((List (List Step)) × ((List Int) × Unit)))))) nx15 => l127_1_0 next (i : Int) x nx15 s14.1.2.2.1 s14.2.1.1 s14.2.2.1 s14.2.2.2.1 s14.2.2.2.2.1)
     (r := next (((), (), ((i + 1 : Nat) : Int), ()), ((now, (), (), ()), parts, nodes, acc ++ x.map (fun s => s.at_), ()))) x.length (small_lt (by omega)) (fun j => (((), (), (j : Int), ()), ((now, (), (), ()), parts, nodes, acc ++ (x.take j).map (fun s => s.at_), ())))
     (fun j hj nx => by
       have hbj : x[j]? = some x[j] := List.getElem?_eq_getElem hj
       have tj : Int.toNat (j : Int) = j := by omega
       have hs8 : smallB ((acc ++ (x.take j).map (fun s => s.at_)).length + 1) 8 = true := by
         unfold smallB
         simp only [Bool.and_eq_true, decide_eq_true_eq, List.length_append, List.length_map, List.length_take]
         omega
       simp only [l127_1_0]
       rw [tj, decide_eq_true (show (j : Int) < (x.length : Int) by omega), decide_eq_true (show (0 : Int) ≤ (j : Int) by omega), hbj, hs8, wi (show (-9223372036854775808 : Int) ≤ (j : Int) + 1 by omega) (by omega), List.take_add_one, hbj]
       simp only [cond_true, Option.bind_some, Option.toList_some, List.map_append, List.map_cons, List.map_nil, List.append_assoc]
       rfl)
     (fun nx => by
       simp only [l127_1_0]
       rw [decide_eq_false (show ¬ ((x.length : Nat) : Int) < (x.length : Int) by omega), List.take_length, wi (show (-9223372036854775808 : Int) ≤ (i : Int) + 1 by omega) (by omega)]
       rfl)
   rw [List.take_zero, List.map_nil, List.append_nil] at hres
   exact hres
theorem look_flat {t0 t : Int} (h : t0 ≤ t) : ∀ {f : Res} {l : List Step}, (∀ s ∈ l, ¬ (t0 < s.at_ ∧ s.at_ ≤ t)) → look f l t0 = look f l t
 | f, [], _ => rfl
 | f, s :: l, hs => by
   have h1 := hs s (by simp)
   have ih := look_flat h (f := s.free) (l := l) fun u hu => hs u (by simp [hu])
   simp only [look]
   by_cases h2 : s.at_ ≤ t0
   · rw [if_pos h2, if_pos (show s.at_ ≤ t by omega)]
     exact ih
   · rw [if_neg h2, if_neg (by omega)]
theorem exists_last (P : Int → Prop) : ∀ (l : List Int) (t x : Int), x ∈ l → x ≤ t → ∃ y, y ∈ l ∧ y ≤ t ∧ ∀ z ∈ l, ¬ (y < z ∧ z ≤ t)
 | [], t, x, hx, _ => by simp at hx
 | a :: l, t, x, hx, hxt => by
   by_cases hl : ∃ u, u ∈ l ∧ u ≤ t
   · obtain ⟨u, hu, hut⟩ := hl
     obtain ⟨y, h1, h2, h3⟩ := exists_last P l t u hu hut
     by_cases ha : y < a ∧ a ≤ t
     · refine ⟨a, by simp, ha.2, fun z hz => ?_⟩
       rcases List.mem_cons.1 hz with rfl | hz
       · omega
       · have := h3 z hz; omega
     · refine ⟨y, by simp [h1], h2, fun z hz => ?_⟩
       rcases List.mem_cons.1 hz with rfl | hz
       · exact ha
       · exact h3 z hz
   · refine ⟨x, hx, hxt, fun z hz => ?_⟩
     rcases List.mem_cons.1 hz with rfl | hz
     · rcases List.mem_cons.1 hx with rfl | hx
       · omega
       · exact absurd ⟨x, hx, hxt⟩ hl
     · intro h
       exact hl ⟨z, hz, h.2⟩
def OkAt (V : Vals) (part : List Int) (many : Int) (need : Res) (now wall t : Int) : Prop := condW now wall t ∧ ∃ fit, FitsV V part need t (t + wall) fit ∧ 1 ≤ many ∧ many ≤ sumF fit part
theorem place_ok {fit : Int → Int} {part : List Int} {many : Int} : (placeF fit part many).2.1 = true ↔ 1 ≤ many ∧ many ≤ sumF fit part := by
 unfold placeF
 split
 · simp; omega
 · simp; omega
theorem fits_mono {V W : Vals} {part : List Int} {need : Res} {b e b' e' : Int} {fit fit' : Int → Int} (h : FitsV V part need b e fit) (h' : FitsV W part need b' e' fit')
   (hw : ∀ k ∈ part, ∀ t', b' ≤ t' → t' < e' → ∃ t, b ≤ t ∧ t < e ∧ leR (V k.toNat t) (W k.toNat t')) : ∀ k ∈ part, fit k ≤ fit' k := fun k hk => by
 obtain ⟨l1, a1, a2⟩ := h
 obtain ⟨l2, b1, b2⟩ := h'
 rw [a2 k hk, b2 k hk]
 refine countI_mono1 ((b1 k hk).glb _ fun t' h1 h2 => ?_) (a1 k hk).ok (b1 k hk).ok
 obtain ⟨t, h3, h4, h5⟩ := hw k hk t' h1 h2
 exact ((a1 k hk).le t h3 h4).trans h5
theorem step_back {now : Int} {B : Nat} {nodes : List (List Step)} {V : Vals} {part : List Int} {need : Res} {wall t : Int} {fit : Int → Int} (hV : PRep now B nodes V) (hpt : PartOk nodes.length part) (hne : 1 ≤ part.length) (hcw : condW now wall t)
   (hf : FitsV V part need t (t + wall) fit) : ∃ t0, t0 ∈ atsOf nodes part ∧ now ≤ t0 ∧ t0 ≤ t ∧ ∀ fit0, FitsV V part need t0 (t0 + wall) fit0 → ∀ k ∈ part, fit k ≤ fit0 k := by
 obtain ⟨w1, w2, w3, w4⟩ := hcw
 have hx : ∀ k ∈ part, ∃ x, nodes[k.toNat]? = some x ∧ OkL now x := fun k hk => by
   have hkk := hpt.2 k hk
   have h := List.getElem?_eq_getElem (l := nodes) (i := k.toNat) (by omega)
   exact ⟨_, h, (hV.ok _ _ h).1⟩
 have hin : ∀ k ∈ part, ∀ x, nodes[k.toNat]? = some x → ∀ s ∈ x, s.at_ ∈ atsOf nodes part := fun k hk x hx s hs => by
   unfold atsOf
   rw [List.mem_flatMap]
   exact ⟨k, hk, by rw [List.getD_eq_getElem?_getD, hx]; exact List.mem_map.2 ⟨s, hs, rfl⟩⟩
 have hnow : now ∈ atsOf nodes part := by
   match part, hne, hx, hin with
   | k :: l, _, hx, hin =>
     obtain ⟨x, g1, ⟨s, tl, rfl, g2, _⟩⟩ := hx k (by simp)
     rw [← g2]
     exact hin k (by simp) _ g1 s (by simp)
 have hge : ∀ t ∈ atsOf nodes part, now ≤ t := fun t ht => by
   unfold atsOf at ht
   rw [List.mem_flatMap] at ht
   obtain ⟨k, hk, ht⟩ := ht
   obtain ⟨x, g1, ⟨s, tl, rfl, g2, g3⟩⟩ := hx k hk
   rw [List.getD_eq_getElem?_getD, g1] at ht
   obtain ⟨u, hu, rfl⟩ := List.mem_map.1 ht
   rcases List.mem_cons.1 hu with rfl | hu
   · omega
   · have := ((stepsOk_rise g3).1.2).mem u hu
     omega
 obtain ⟨t0, h1, h2, h3⟩ := exists_last (fun _ => True) (atsOf nodes part) t now hnow w3
 refine ⟨t0, h1, hge t0 h1, h2, fun fit0 hf0 => fits_mono hf hf0 fun k hk t' g1 g2 => ?_⟩
 by_cases hlt : t ≤ t'
 · exact ⟨t', hlt, by omega, leR.refl _⟩
 · refine ⟨t, Int.le_refl _, by omega, ?_⟩
   obtain ⟨x, q1, ⟨s, tl, rfl, q2, q3⟩⟩ := hx k hk
   have hge0 := hge t0 h1
   rw [← hV.val _ _ q1 t w3, ← hV.val _ _ q1 t' (by omega)]
   show leR (look s.free tl t) (look s.free tl t')
   rw [look_flat (show t' ≤ t by omega) fun u hu => ?_]
   · exact leR.refl _
   · have := h3 u.at_ (hin k hk _ q1 u (by simp [hu]))
     omega
abbrev PlanT := ((Int × (Int × (List Share))) × (Bool × Unit)) × Prof
def EarlyG (V : Vals) (now : Int) (parts : List (List Int)) (nodes : List (List Step)) (part : List Int) (p0 many : Int) (need : Res) (wall : Int) (o : Option PlanT) : Prop :=
 (∃ t fit, o = some (((0, (t, greedy fit part many)), (true, ())), prof now parts nodes) ∧ condW now wall t ∧ FitsV V part need t (t + wall) fit ∧ 1 ≤ many ∧ many ≤ sumF fit part ∧ ∀ t', now ≤ t' → t' < t → ¬ OkAt V part many need now wall t') ∨
 (o = some (((0, (0, [])), (false, ())), prof now parts nodes) ∧ ∀ t', ¬ OkAt V part many need now wall t')
theorem p_Earliest {now : Int} {B : Nat} {parts : List (List Int)} {nodes : List (List Step)} {V : Vals} {part : List Int} (hV : PRep now B nodes V) (hB : B ≤ 700) (hN : nodes.length ≤ 16) (p0 many : Int) (need : Res) (wall : Int)
   (h0 : 0 ≤ p0) (hp : parts[p0.toNat]? = some part) (hpt : PartOk nodes.length part) (hne : 1 ≤ part.length) (hlen : part.length ≤ 16) (hnow : 0 ≤ now) :
   EarlyG V now parts nodes part p0 many need wall (f63_1 p0 many need wall now parts nodes) := by
 obtain ⟨ts, k1, k2, k3, k4⟩ := p_times hV hB hN p0 h0 hp hpt hne hlen
 -- what is found at the first times
 have hback : ∀ t', OkAt V part many need now wall t' → ∃ t0, t0 ∈ ts ∧ t0 ≤ t' ∧ now ≤ t0 ∧ ∀ o, f64_1 p0 many need wall t0 now parts nodes = some (o, prof now parts nodes) → o.2.1 = true := by
   rintro t' ⟨hc, fit, hf, hm, hs⟩
   obtain ⟨t0, g1, g2, g3, g4⟩ := step_back hV hpt hne hc hf
   refine ⟨t0, (k3 t0).2 g1, g3, g2, fun o ho => ?_⟩
   rcases p_When hV hB hN p0 many need wall t0 h0 hp hpt hnow with ⟨q1, _⟩ | ⟨q1, fit0, q2, q3⟩
   · exact absurd ⟨hc.1, hc.2.1, g2, by have := hc.2.2.2; omega⟩ q1
   · rw [ho] at q3
     simp only [Option.some.injEq, Prod.mk.injEq, and_true] at q3
     rw [q3, place_ok]
     have := sumF_mono part (g4 fit0 q2)
     exact ⟨hm, by omega⟩
 have hone : ∀ t, (∃ fit, f64_1 p0 many need wall t now parts nodes = some ((greedy fit part many, (true, ())), prof now parts nodes) ∧ condW now wall t ∧ FitsV V part need t (t + wall) fit ∧ 1 ≤ many ∧ many ≤ sumF fit part) ∨
     (∃ l, f64_1 p0 many need wall t now parts nodes = some ((l, (false, ())), prof now parts nodes)) := fun t => by
   rcases p_When hV hB hN p0 many need wall t h0 hp hpt hnow with ⟨q1, q2⟩ | ⟨q1, fit, q2, q3⟩
   · exact .inr ⟨_, q2⟩
   · unfold placeF at q3
     split at q3
     · exact .inr ⟨_, q3⟩
     · exact .inl ⟨fit, q3, q1, q2, by omega, by omega⟩
 have hpt0 : 0 < ts.length := by
   have h1 : ∃ t, t ∈ atsOf nodes part := by
     match part, hne, hpt with
     | k :: l, _, hpt =>
       have hkk := hpt.2 k (by simp)
       have h := List.getElem?_eq_getElem (l := nodes) (i := k.toNat) (by omega)
       obtain ⟨s, tl, e1, _, _⟩ := (hV.ok _ _ h).1
       refine ⟨s.at_, ?_⟩
       unfold atsOf
       rw [List.mem_flatMap]
       refine ⟨k, by simp, ?_⟩
       rw [List.getD_eq_getElem?_getD, h]
       simp only [Option.getD_some]
       rw [e1]
       simp
   obtain ⟨t, ht⟩ := h1
   exact List.length_pos_of_mem ((k3 t).2 ht)
 have hget : ∀ i (hi : i < ts.length), ts[i]? = some ts[i] := fun i hi => List.getElem?_eq_getElem hi
 have hsort := List.pairwise_iff_getElem.1 k2
 unfold f63_1 F63_1
 rw [k1]
 simp only [Option.bind_some, prof, decide_true, Bool.and_self, cond_true]
 rw [decide_eq_false (show ¬ (0 : Int) = (ts.length : Int) by omega), hget 0 hpt0]
 simp only [cond_false, Option.bind_some]
 -- found at one
 have hfound : ∀ i (hi : i < ts.length) fit, (∀ j (hj : j < ts.length), j < i → ∃ l, f64_1 p0 many need wall ts[j] now parts nodes = some ((l, (false, ())), prof now parts nodes)) → condW now wall ts[i] → FitsV V part need ts[i] (ts[i] + wall) fit → 1 ≤ many → many ≤ sumF fit part →
     EarlyG V now parts nodes part p0 many need wall (some (((0, (ts[i], greedy fit part many)), (true, ())), prof now parts nodes)) := by
   intro i hi fit hbef q1 q2 q3 q4
   refine .inl ⟨ts[i], fit, rfl, q1, q2, q3, q4, fun t' g1 g2 g3 => ?_⟩
   obtain ⟨t0, a1, a2, a3, a4⟩ := hback t' g3
   obtain ⟨j, hj, rfl⟩ := List.mem_iff_getElem.1 a1
   have hji : j < i := by
     rcases Nat.lt_or_ge j i with h | h
     · exact h
     · rcases Nat.lt_or_ge i j with h' | h'
       · have := hsort i j hi hj h'; omega
       · have : i = j := by omega
         subst this
         omega
   obtain ⟨l, hl⟩ := hbef j hj hji
   have := a4 _ hl
   simp at this
 have hnone : (∀ j (hj : j < ts.length), ∃ l, f64_1 p0 many need wall ts[j] now parts nodes = some ((l, (false, ())), prof now parts nodes)) → EarlyG V now parts nodes part p0 many need wall (some (((0, (0, [])), (false, ())), prof now parts nodes)) := by
   intro h
   refine .inr ⟨rfl, fun t' g => ?_⟩
   obtain ⟨t0, a1, a2, a3, a4⟩ := hback t' g
   obtain ⟨j, hj, rfl⟩ := List.mem_iff_getElem.1 a1
   obtain ⟨l, hl⟩ := h j hj
   have := a4 _ hl
   simp at this
 have hW : ∀ t, f64_1 p0 many need wall t now parts nodes = f64_1 p0 many need wall t now parts nodes := fun _ => rfl
 rcases hone ts[0] with ⟨fit, q1, q2, q3, q4, q5⟩ | ⟨l, q1⟩
 · rw [q1]
   simp only [Option.bind_some, prof, decide_true, Bool.and_self, cond_true]
   exact hfound 0 hpt0 fit (fun j hj h => by omega) q2 q3 q4 q5
 · have hf0 := q1
   rw [q1]
   simp only [Option.bind_some, prof, decide_true, Bool.and_self, cond_true, cond_false]
   refine inv_loop (f := fun (s11 : ((Unit × (Unit × (Unit × (Int × Unit)))) × ((Int × (Unit × (Unit × Unit))) × ((List (List Int)) × ((List (List Step)) × (Res × ((Int × (Int × (Unit × Unit))) × Unit))))))) nx12 => l63_1_0 f64_1 p0 many wall (ts, prof now parts nodes) nx12 s11.1.2.2.2.1 s11.2.1.1 s11.2.2.1 s11.2.2.2.1 s11.2.2.2.2.1 s11.2.2.2.2.2.1.1 s11.2.2.2.2.2.1.2.1)
     (G := EarlyG V now parts nodes part p0 many need wall) (ts.length - 1) (small_lt (by omega)) (fun (_ : Unit) i => (((), (), (), ((i + 1 : Nat) : Int), ()), ((now, (), (), ()), parts, nodes, need, (0, 0, (), ()), ())))
     (fun _ i => ∀ j (hj : j < ts.length), j < i + 1 → ∃ l, f64_1 p0 many need wall ts[j] now parts nodes = some ((l, (false, ())), prof now parts nodes)) ?_ ?_ () (fun j hj h => by
       have : j = 0 := by omega
       subst this
       exact ⟨l, hf0⟩)
   · rintro _ h
     refine ⟨_, hnone fun j hj => h j hj (by omega), fun next => ?_⟩
     simp only [l63_1_0]
     rw [decide_eq_true (show (((ts.length - 1 + 1 : Nat)) : Int) = (ts.length : Int) by omega)]
     rfl
   · rintro _ i hi h
     have hi1 : i + 1 < ts.length := by omega
     have t0 : Int.toNat ((i + 1 : Nat) : Int) = i + 1 := by omega
     have hgo : ∀ next : _ → Option PlanT, l63_1_0 f64_1 p0 many wall (ts, prof now parts nodes) next ((i + 1 : Nat) : Int) now parts nodes need 0 0 = Option.bind (f64_1 p0 many need wall ts[i + 1] now parts nodes) fun r21 =>
         cond (true && ((decide ((List.length r21.2.2.1) = (List.length parts))) && ((decide ((List.length r21.2.2.2.1) = (List.length nodes))) && true)))
         (cond r21.1.2.1 (some (((0, (ts[i + 1], r21.1.1)), true, ()), ((r21.2.1.1, (), (), ()), r21.2.2.1, r21.2.2.2.1, ()))) (next (((), (), (), ((i + 1 + 1 : Nat) : Int), ()), ((r21.2.1.1, (), (), ()), r21.2.2.1, r21.2.2.2.1, need, (0, 0, (), ()), ())))) (none) := by
       intro next
       simp only [l63_1_0]
       rw [decide_eq_false (show ¬ (((i + 1 : Nat)) : Int) = (ts.length : Int) by omega), decide_eq_true (show (0 : Int) ≤ ((i + 1 : Nat) : Int) by omega), t0, hget (i + 1) hi1, wi (show (-9223372036854775808 : Int) ≤ ((i + 1 : Nat) : Int) + 1 by omega) (by omega)]
       rfl
     rcases hone ts[i + 1] with ⟨fit, q1, q2, q3, q4, q5⟩ | ⟨l, q1⟩
     · refine .inr ⟨_, hfound (i + 1) hi1 fit (fun j hj hji => h j hj hji) q2 q3 q4 q5, fun next => (hgo next).trans ?_⟩
       rw [q1]
       simp only [Option.bind_some, prof, decide_true, Bool.and_self, cond_true]
     · refine .inl ⟨(), fun j hj hji => ?_, fun next => (hgo next).trans ?_⟩
       · by_cases e : j = i + 1
         · subst e; exact ⟨l, q1⟩
         · exact h j hj (by omega)
       · rw [q1]
         simp only [Option.bind_some, prof, decide_true, Bool.and_self, cond_true, cond_false]
end NM
end Go.Proofs.Ytmnhkpekmgobbaa
end
section
namespace Go.Proofs.Ytmnhkpekmgobbaa
namespace NM
open AM
def insI (x : Int) : List Int → List Int
 | [] => [x]
 | y :: l => if x ≤ y then x :: y :: l else y :: insI x l
def insSort : List Int → List Int
 | [] => []
 | x :: l => insI x (insSort l)
theorem insI_perm (x : Int) : ∀ l, (insI x l).Perm (x :: l)
 | [] => List.Perm.refl _
 | y :: l => by
   simp only [insI]
   split
   · exact List.Perm.refl _
   · exact ((insI_perm x l).cons y).trans (List.Perm.swap x y l)
theorem insSort_perm : ∀ l, (insSort l).Perm l
 | [] => List.Perm.refl _
 | x :: l => (insI_perm x _).trans ((insSort_perm l).cons x)
theorem insI_sorted (x : Int) : ∀ {l : List Int}, l.Pairwise (· ≤ ·) → (insI x l).Pairwise (· ≤ ·)
 | [], _ => by simp [insI]
 | y :: l, h => by
   simp only [insI]
   have h' := List.pairwise_cons.1 h
   split
   · rename_i hxy
     refine List.pairwise_cons.2 ⟨fun z hz => ?_, h⟩
     rcases List.mem_cons.1 hz with rfl | hz
     · exact hxy
     · have := h'.1 z hz; omega
   · rename_i hxy
     refine List.pairwise_cons.2 ⟨fun z hz => ?_, insI_sorted x h'.2⟩
     rcases List.mem_cons.1 ((insI_perm x l).mem_iff.1 hz) with rfl | hz
     · omega
     · exact h'.1 z hz
theorem insSort_sorted : ∀ l : List Int, (insSort l).Pairwise (· ≤ ·)
 | [] => List.Pairwise.nil
 | x :: l => insI_sorted x (insSort_sorted l)
theorem sortL_ins (l : List Int) : sortL l = insSort l := by
 refine List.Perm.eq_of_pairwise (le := fun a b : Int => a ≤ b) (fun a b _ _ h1 h2 => by omega) (sortL_sorted l) (insSort_sorted l) ?_
 exact (List.mergeSort_perm l _).trans (insSort_perm l).symm
theorem sort_ins : f151 = fun xs => cond (decide (0 < xs.length ∧ xs.length ≤ 4294967296)) (some ((), (insSort xs, ()))) none := by
 funext xs
 unfold f151 sortG
 rw [sortL_ins]
theorem early_ins : f63_1 = F63_1 (@LN LOOPS) (F127_1 (@LN LOOPS) (fun xs => cond (decide (0 < xs.length ∧ xs.length ≤ 4294967296)) (some ((), (insSort xs, ()))) none) f171) f64_1 := by
 rw [← sort_ins]
 rfl
theorem awake_of (g : Int → Int → Res → Int → Int → (List (List Int)) → (List (List Step)) → Option PlanT) (h : f63_1 = g) : f60 = F60 (@LN LOOPS) f101 f62 f63 g := by
 rw [← h]
 rfl
theorem awake13 : f60 = some true := (awake_of _ early_ins).trans (by kernel_rfl)
abbrev WorldT := (Spec × (Int × ((List Run) × (List Booking))))
def FewP (w : WorldT) : Prop := fewB w.1 = true ∧ w.2.2.1.length ≤ 12 ∧ w.2.2.2.length ≤ 20 ∧ ∀ r ∈ w.2.2.1, r.shares.length ≤ 40
theorem p_Few13 (w : WorldT) (hs : Rng.P w.1) : ∃ b : Bool, f61 w = some b ∧ (b = true → FewP w) := by
 have hml : maxLen = 9223372036854775807 := rfl
 unfold f61 F61
 rw [r_Few w.1 hs]
 simp only [Option.bind_some]
 cases h1 : fewB w.1 with
 | false => exact ⟨false, rfl, fun h => by cases h⟩
 | true =>
   by_cases h2 : 12 < (w.2.2.1.length : Int)
   · rw [decide_eq_true h2]; exact ⟨false, rfl, fun h => by cases h⟩
   by_cases h3 : 20 < (w.2.2.2.length : Int)
   · rw [decide_eq_false h2, decide_eq_true h3]; exact ⟨false, rfl, fun h => by cases h⟩
   rw [decide_eq_false h2, decide_eq_false h3]
   refine ⟨w.2.2.1.all (fun r => decide (r.shares.length ≤ 40)), ?_, fun h => ⟨h1, by omega, by omega, fun r hr => by simpa using List.all_eq_true.1 h r hr⟩⟩
   simp only [Bool.not_true, cond_false]
   rw [all_loop w.2.2.1 (fun z => ((z, ()), ())) (fun r => decide (r.shares.length ≤ 40)) true (by omega)]
   · simp
   · intro next
     simp [l61_0]
   · intro z r next g0 g1 g2 g3
     simp only [l61_0, g0, g1, g2, g3, decide_true, cond_true, Option.bind_some]
     by_cases h : r.shares.length ≤ 40
     · rw [decide_eq_true h, decide_eq_false (show ¬ 40 < (r.shares.length : Int) by omega)]; rfl
     · rw [decide_eq_false h, decide_eq_true (show 40 < (r.shares.length : Int) by omega)]; rfl
theorem p_Earliest_no {now : Int} {parts : List (List Int)} {nodes : List (List Step)} (p0 many : Int) (need : Res) (wall : Int) (h : p0 < 0 ∨ (parts.length : Int) ≤ p0) :
   f63_1 p0 many need wall now parts nodes = some (((0, (0, [])), (false, ())), prof now parts nodes) := by
 have ht : f127_1 p0 now parts nodes = some ([], prof now parts nodes) := by
   unfold f127_1 F127_1
   by_cases h1 : p0 < 0
   · rw [decide_eq_true h1]; rfl
   · rw [decide_eq_false h1, decide_eq_true (show (parts.length : Int) ≤ p0 by omega)]; rfl
 unfold f63_1 F63_1
 rw [ht]
 simp only [Option.bind_some, prof, decide_true, Bool.and_self, cond_true]
 rfl
theorem part_ok {s : Spec} (h : specOk s = true) {p0 : Int} (h1 : ¬ p0 < 0) (h2 : ¬ (s.parts.length : Int) ≤ p0) : ∃ part, s.parts[p0.toNat]? = some part ∧ PartOk s.nodes.length part ∧ 1 ≤ part.length ∧ part.length ≤ 16 := by
 obtain ⟨f1, f2, f3, f4⟩ := specOk_facts h
 have hp : s.parts[p0.toNat]? = some (s.parts[p0.toNat]'(by omega)) := List.getElem?_eq_getElem (by omega)
 obtain ⟨g1, g2, g3⟩ := f4 (s.parts[p0.toNat]'(by omega)) (List.getElem_mem _)
 refine ⟨_, hp, ⟨by omega, fun k hk => ?_⟩, g1, g3⟩
 have := asc_mem g2 k hk
 omega
abbrev LessT := ((List Res) × ((List (List Int)) × ((List Queue) × (Int × (Int × (Int × (Int × (Int × (Int × (Int × (Int × (Int × (Int × (Int × (Int × (Int × (Int × (Int × (Int × (Unit × (Unit × Unit)))))))))))))))))))))
def lessT (s : Spec) (now : Int) : LessT := (s.nodes, s.parts, s.queues, s.users, s.weights.age, s.weights.size, s.weights.qos, s.weights.share, s.decay, s.mode, s.jobs, s.ids, s.versions, s.linger, s.keep, s.inn, s.out, s.cache, now, (), (), ())
abbrev St1 := ((Unit × (Unit × (Unit × (Unit × (Int × Unit))))) × (WorldT × ((Int × (Int × (Res × Int))) × ((Int × (Unit × (Unit × Unit))) × (LessT × ((List (List Int)) × ((List (List Step)) × ((List Run) × Unit))))))))
abbrev St2 := ((Unit × (Unit × (Unit × (Unit × (Int × Unit))))) × (WorldT × ((Int × (Int × (Res × Int))) × ((Int × (Unit × (Unit × Unit))) × (LessT × ((List (List Int)) × ((List (List Step)) × ((List Run) × ((List Booking) × Unit)))))))))
abbrev NewF := Spec → Int → (List Run) → (List Booking) → Option NewR
abbrev EarlyF := Int → Int → Res → Int → Int → (List (List Int)) → (List (List Step)) → Option PlanT
abbrev WhenF := Int → Int → Res → Int → Int → Int → (List (List Int)) → (List (List Step)) → Option WhenT
def st1 (w : WorldT) (x : Int × (Int × (Res × Int))) (nodes : List (List Step)) (i : Nat) (acc : List Run) : St1 := (((), (), (), (), (i : Int), ()), (w, x, (w.2.1, (), (), ()), lessT w.1 w.2.1, w.1.parts, nodes, acc, ()))
def st2 (w : WorldT) (x : Int × (Int × (Res × Int))) (nodes : List (List Step)) (i : Nat) (acc : List Run) (bk : List Booking) : St2 := (((), (), (), (), (i : Int), ()), (w, x, (w.2.1, (), (), ()), lessT w.1 w.2.1, w.1.parts, nodes, acc, bk, ()))
end NM
namespace planSooner
open NM AM
end planSooner
end Go.Proofs.Ytmnhkpekmgobbaa
end
