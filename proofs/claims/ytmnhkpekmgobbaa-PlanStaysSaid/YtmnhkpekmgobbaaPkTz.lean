/-
  What the proof of PlanStays leans on, part 26. (Many texts laid together by program.)
-/
import Derived.Test.YtmnhkpekmgobbaaPkTy
import Derived.KernelRfl
set_option linter.unnecessarySimpa false
set_option linter.unusedSimpArgs false
set_option linter.unusedVariables false
section
namespace Go.Proofs.Ytmnhkpekmgobbaa
namespace NM
open AM
theorem stepC_mono1 {x x' y n n' : Int} (hx : x ≤ x') (hn : n ≤ n') : stepC x y n ≤ stepC x' y n' := by
 unfold stepC
 split
 · rename_i hy
   have := Int.ediv_le_ediv hy hx
   omega
 · exact hn
theorem countI_mono1 {a a' b : Res} (h : leR a a') (ha : okR a = true) (ha' : okR a' = true) : countI a b ≤ countI a' b := by
 unfold countI
 rw [resOk_okR, resOk_okR, resOk_okR, ha, ha']
 split
 · exact stepC_mono1 h.2.2.2 (stepC_mono1 h.2.2.1 (stepC_mono1 h.2.1 (stepC_mono1 h.1 (Int.le_refl _))))
 · exact Int.le_refl _
theorem stepC_fit {x y n m : Int} (hx : 0 ≤ x) (hm : 0 ≤ m) (h : m ≤ stepC x y n) (hy : 0 ≤ y) : m ≤ n ∧ y * m ≤ x := by
 unfold stepC at h
 split at h
 · rename_i hy
   have h1 : m ≤ x / y := by omega
   have h2 : y * m ≤ y * (x / y) := Int.mul_le_mul_of_nonneg_left h1 (by omega)
   have h3 := Int.mul_ediv_self_le (x := x) (k := y) (by omega)
   omega
 · have : y = 0 := by omega
   subst this
   rw [Int.zero_mul]
   exact ⟨h, hx⟩
theorem countI_fit {a b : Res} {m : Int} (hm : 0 ≤ m) (h : m ≤ countI a b) : m ≤ 64 ∧ (1 ≤ m → okR b = true ∧ leR (mulR b m) a) := by
 unfold countI at h
 split at h
 · rename_i hc
   obtain ⟨h1, h2, h3⟩ := hc
   rw [resOk_okR] at h1 h2
   have p1 := okR_pos h1
   have p2 := okR_pos h2
   unfold posR at p1 p2
   obtain ⟨g1, g2⟩ := stepC_fit p1.2.2.2 hm h p2.2.2.2
   obtain ⟨g3, g4⟩ := stepC_fit p1.2.2.1 hm g1 p2.2.2.1
   obtain ⟨g5, g6⟩ := stepC_fit p1.2.1 hm g3 p2.2.1
   obtain ⟨g7, g8⟩ := stepC_fit p1.1 hm g5 p2.1
   exact ⟨g7, fun _ => ⟨h2, g8, g6, g4, g2⟩⟩
 · exact ⟨by omega, fun h => by omega⟩
def sumF (fit : Int → Int) : List Int → Int
 | [] => 0
 | k :: l => fit k + sumF fit l
def greedy (fit : Int → Int) : List Int → Int → List Share
 | [], _ => []
 | k :: l, left => if left = 0 then [] else if (if left < fit k then left else fit k) = 0 then greedy fit l left else ⟨k, if left < fit k then left else fit k⟩ :: greedy fit l (left - (if left < fit k then left else fit k))
def placeF (fit : Int → Int) (part : List Int) (many : Int) : List Share × (Bool × Unit) := if many < 1 ∨ sumF fit part < many then ([], (false, ())) else (greedy fit part many, (true, ()))
theorem sumF_le {fit : Int → Int} : ∀ (l : List Int), (∀ k ∈ l, 0 ≤ fit k ∧ fit k ≤ 64) → 0 ≤ sumF fit l ∧ sumF fit l ≤ 64 * (l.length : Int)
 | [], _ => ⟨Int.le_refl _, by simp [sumF]⟩
 | k :: l, h => by
   have h1 := h k (by simp)
   have h2 := sumF_le l fun j hj => h j (by simp [hj])
   simp only [sumF, List.length_cons]
   omega
theorem sumF_mono {fit fit' : Int → Int} : ∀ (l : List Int), (∀ k ∈ l, fit k ≤ fit' k) → sumF fit l ≤ sumF fit' l
 | [], _ => Int.le_refl _
 | k :: l, h => by
   have h1 := h k (by simp)
   have h2 := sumF_mono l fun j hj => h j (by simp [hj])
   simp only [sumF]
   omega
theorem sumF_app (fit : Int → Int) : ∀ (a b : List Int), sumF fit (a ++ b) = sumF fit a + sumF fit b
 | [], b => by simp [sumF]
 | k :: a, b => by simp only [List.cons_append, sumF, sumF_app fit a b]; omega
def fitI (free : List Res) (need : Res) (k : Int) : Int := if k < 0 ∨ (free.length : Int) ≤ k then 0 else countI (free.getD k.toNat zeroR) need
theorem fitI_le (free : List Res) (need : Res) (k : Int) : 0 ≤ fitI free need k ∧ fitI free need k ≤ 64 := by
 unfold fitI
 split
 · omega
 · exact ⟨countI_nonneg _ _, countI_le _ _⟩
theorem p_fit (free : List Res) (k : Int) (need : Res) : f175 free k need = some (fitI free need k) := by
 unfold f175 F175 fitI
 by_cases h1 : k < 0
 · simp [h1]
 · by_cases h2 : (free.length : Int) ≤ k
   · simp [h1, h2]
   · have hk : k.toNat < free.length := by omega
     rw [decide_eq_false h1, decide_eq_false h2, if_neg (by omega), decide_eq_true (show 0 ≤ k by omega), List.getD_eq_getElem?_getD, List.getElem?_eq_getElem hk]
     simp only [cond_false, cond_true, Option.bind_some, p_Count, Option.getD_some]
theorem p_plRoom (free : List Res) (part : List Int) (need : Res) (hl : part.length ≤ 1000) : f174 free part need = some (sumF (fitI free need) part) := by
 unfold f174 F174
 refine inv_loop (G := fun o => o = some (sumF (fitI free need) part)) part.length (small_lt (by omega)) (fun (room : Int) i => (((), room, (i : Int), ()), (need, ()))) (fun room i => room = sumF (fitI free need) (part.take i)) ?_ ?_ 0 rfl
 · rintro room rfl
   rw [List.take_length]
   refine ⟨_, rfl, fun next => ?_⟩
   simp only [l174_0]
   rw [decide_eq_false (show ¬ ((part.length : Nat) : Int) < (part.length : Int) by omega)]
   rfl
 · rintro room i hi rfl
   have hbi : part[i]? = some part[i] := List.getElem?_eq_getElem hi
   have t0 : Int.toNat (i : Int) = i := by omega
   have h1 := sumF_le (fit := fitI free need) (part.take i) fun k _ => fitI_le free need k
   have h2 := fitI_le free need part[i]
   have h3 : (part.take i).length = i := by rw [List.length_take]; omega
   refine .inl ⟨_, rfl, fun next => ?_⟩
   simp only [l174_0]
   rw [t0, decide_eq_true (show (i : Int) < (part.length : Int) by omega), decide_eq_true (show (0 : Int) ≤ (i : Int) by omega), hbi]
   simp only [cond_true, Option.bind_some, p_fit]
   rw [wi (by omega) (by omega), wi (by omega) (by omega), List.take_add_one, hbi]
   simp only [Option.toList_some, sumF_app, sumF]
   rw [Int.add_zero]
   rfl
theorem p_Place (free : List Res) (part : List Int) (many : Int) (need : Res) (hl : part.length ≤ 1000) : f129 free part many need = some (placeF (fitI free need) part many) := by
 unfold f129 F129 placeF
 rw [p_plRoom free part need hl]
 simp only [Option.bind_some]
 by_cases h1 : many < 1
 · rw [decide_eq_true h1, if_pos (.inl h1)]; rfl
 by_cases h2 : sumF (fitI free need) part < many
 · rw [decide_eq_false h1, decide_eq_true h2, if_pos (.inr h2)]; rfl
 rw [decide_eq_false h1, decide_eq_false h2, if_neg (by omega)]
 have hs := sumF_le (fit := fitI free need) part fun k _ => fitI_le free need k
 simp only [cond_false]
 refine inv_loop (G := fun o => o = some (greedy (fitI free need) part many, (true, ()))) part.length (small_lt (by omega)) (fun (x : Int × List Share) i => (((), (), x.1, (i : Int), ()), (need, x.2, ())))
   (fun x i => 0 ≤ x.1 ∧ x.1 ≤ many ∧ x.2.length ≤ i ∧ x.2 ++ greedy (fitI free need) (part.drop i) x.1 = greedy (fitI free need) part many) ?_ ?_ (many, []) ⟨by simp only; omega, Int.le_refl _, by simp, rfl⟩
 · rintro ⟨left, acc⟩ ⟨g1, g2, g3, g4⟩
   rw [List.drop_length] at g4
   simp only [greedy, List.append_nil] at g4
   refine ⟨_, by rw [← g4], fun next => ?_⟩
   simp only [l129_0]
   rw [decide_eq_false (show ¬ ((part.length : Nat) : Int) < (part.length : Int) by omega)]
   rfl
 · rintro ⟨left, acc⟩ i hi ⟨g1, g2, g3, g4⟩
   have hbi : part[i]? = some part[i] := List.getElem?_eq_getElem hi
   have hdr : part.drop i = part[i] :: part.drop (i + 1) := List.drop_eq_getElem_cons hi
   have t0 : Int.toNat (i : Int) = i := by omega
   rw [hdr] at g4
   generalize part[i] = k at hbi g4
   have hf := fitI_le free need k
   simp only at g1 g2 g3 g4
   simp only [greedy] at g4
   have hs16 : smallB (acc.length + 1) 16 = true := by
     unfold smallB
     simp only [Bool.and_eq_true, decide_eq_true_eq]
     omega
   have hgo : ∀ next : _ → Option (List Share × (Bool × Unit)), l129_0 f175 free part next left (i : Int) need acc = cond (decide (left = 0)) (some (acc, true, ()))
       (cond (decide ((if left < fitI free need k then left else fitI free need k) = 0)) (next (((), (), left, ((i + 1 : Nat) : Int), ()), (need, acc, ())))
         (next (((), (), left - (if left < fitI free need k then left else fitI free need k), ((i + 1 : Nat) : Int), ()), (need, acc ++ [Share.mk k (if left < fitI free need k then left else fitI free need k)], ())))) := by
     intro next
     simp only [l129_0]
     rw [t0, decide_eq_true (show (i : Int) < (part.length : Int) by omega), decide_eq_true (show (0 : Int) ≤ (i : Int) by omega), hbi]
     simp only [cond_true, Option.bind_some, p_fit]
     rw [wi (show (-9223372036854775808 : Int) ≤ (i : Int) + 1 by omega) (by omega), wi (show (-9223372036854775808 : Int) ≤ left - (if left < fitI free need k then left else fitI free need k) by split <;> omega) (by split <;> omega), hs16]
     rfl
   by_cases hz : left = 0
   · rw [if_pos hz, List.append_nil] at g4
     exact .inr ⟨_, by rw [← g4], fun next => (hgo next).trans (by rw [decide_eq_true hz]; rfl)⟩
   · rw [if_neg hz] at g4
     by_cases hn : (if left < fitI free need k then left else fitI free need k) = 0
     · rw [if_pos hn] at g4
       exact .inl ⟨(left, acc), ⟨g1, g2, by simp only; omega, g4⟩, fun next => (hgo next).trans (by rw [decide_eq_false hz, decide_eq_true hn]; rfl)⟩
     · rw [if_neg hn] at g4
       refine .inl ⟨(left - (if left < fitI free need k then left else fitI free need k), acc ++ [Share.mk k (if left < fitI free need k then left else fitI free need k)]), ⟨?_, ?_, ?_, ?_⟩, fun next => (hgo next).trans (by rw [decide_eq_false hz, decide_eq_false hn]; rfl)⟩
       · simp only; split <;> omega
       · simp only; split <;> omega
       · simp; omega
       · simp only [List.append_assoc, List.cons_append, List.nil_append]; exact g4
structure LeastP (W : Int → Res) (b e : Int) (r : Res) : Prop where
 ok : okR r = true
 le : ∀ t, b ≤ t → t < e → leR r (W t)
 glb : ∀ x, (∀ t, b ≤ t → t < e → leR x (W t)) → leR x r
theorem least_of {now : Int} {l : List Step} {b e : Int} (h : OkL now l) (hl : l.length ≤ 900) (hb : now ≤ b) (he : b < e) : ∃ r, f128 l b e = some r ∧ LeastP (vl l) b e r := by
 obtain ⟨s, tl, rfl, hs, hok⟩ := h
 obtain ⟨r, h1, h2⟩ := p_Least (b := b) (e := e) hok hl (by omega) he
 have c1 := h2 Res.cpu (fun a b => rfl)
 have c2 := h2 Res.mem (fun a b => rfl)
 have c3 := h2 Res.gpu (fun a b => rfl)
 have c4 := h2 Res.lic (fun a b => rfl)
 refine ⟨r, h1, ?_, fun t h3 h4 => ⟨c1.1 t h3 h4, c2.1 t h3 h4, c3.1 t h3 h4, c4.1 t h3 h4⟩, fun x hx => ?_⟩
 · obtain ⟨t1, g1, g2, g3⟩ := c1.2
   obtain ⟨t2, g4, g5, g6⟩ := c2.2
   obtain ⟨t3, g7, g8, g9⟩ := c3.2
   obtain ⟨t4, g10, g11, g12⟩ := c4.2
   have o := fun t => (okR_iff _).1 (vl_ok (now := now) (l := s :: tl) ⟨s, tl, rfl, hs, hok⟩ t)
   rw [okR_iff]
   have o1 := (o t1).1
   have o2 := (o t2).2.1
   have o3 := (o t3).2.2.1
   have o4 := (o t4).2.2.2
   unfold vl at o1 o2 o3 o4
   simp only at o1 o2 o3 o4
   omega
 · obtain ⟨t1, g1, g2, g3⟩ := c1.2
   obtain ⟨t2, g4, g5, g6⟩ := c2.2
   obtain ⟨t3, g7, g8, g9⟩ := c3.2
   obtain ⟨t4, g10, g11, g12⟩ := c4.2
   have x1 := (hx t1 g1 g2).1
   have x2 := (hx t2 g4 g5).2.1
   have x3 := (hx t3 g7 g8).2.2.1
   have x4 := (hx t4 g10 g11).2.2.2
   unfold vl at x1 x2 x3 x4
   simp only at x1 x2 x3 x4
   unfold leR
   omega
theorem LeastP.congr {W W' : Int → Res} {b e : Int} {r : Res} (h : LeastP W b e r) (hw : ∀ t, b ≤ t → t < e → W t = W' t) : LeastP W' b e r :=
 ⟨h.ok, fun t h1 h2 => hw t h1 h2 ▸ h.le t h1 h2, fun x hx => h.glb x fun t h1 h2 => by rw [hw t h1 h2]; exact hx t h1 h2⟩
def PartOk (n : Nat) (part : List Int) : Prop := part.length ≤ 1000 ∧ ∀ k ∈ part, 0 ≤ k ∧ k < (n : Int)
def condW (now wall at_ : Int) : Prop := 1 ≤ wall ∧ wall ≤ 65536 ∧ now ≤ at_ ∧ at_ ≤ 1099511627776
instance (now wall at_ : Int) : Decidable (condW now wall at_) := by unfold condW; infer_instance
def FitsV (V : Vals) (part : List Int) (need : Res) (b e : Int) (fit : Int → Int) : Prop := ∃ lst : Int → Res, (∀ k ∈ part, LeastP (V k.toNat) b e (lst k)) ∧ ∀ k ∈ part, fit k = countI (lst k) need
end NM
end Go.Proofs.Ytmnhkpekmgobbaa
end
section
namespace Go.Proofs.Ytmnhkpekmgobbaa
namespace NM
open AM
def atsOf (nodes : List (List Step)) (part : List Int) : List Int := part.flatMap fun k => (nodes.getD k.toNat []).map fun s => s.at_
theorem look_flat {t0 t : Int} (h : t0 ≤ t) : ∀ {f : Res} {l : List Step}, (∀ s ∈ l, ¬ (t0 < s.at_ ∧ s.at_ ≤ t)) → look f l t0 = look f l t
 | f, [], _ => rfl
 | f, s :: l, hs => by
   have h1 := hs s (by simp)
   have ih := look_flat h (f := s.free) (l := l) fun u hu => hs u (by simp [hu])
   simp only [look]
   by_cases h2 : s.at_ ≤ t0
   · rw [if_pos h2, if_pos (show s.at_ ≤ t by omega)]
     exact ih
   · rw [if_neg h2, if_neg (by omega)]
theorem exists_last (P : Int → Prop) : ∀ (l : List Int) (t x : Int), x ∈ l → x ≤ t → ∃ y, y ∈ l ∧ y ≤ t ∧ ∀ z ∈ l, ¬ (y < z ∧ z ≤ t)
 | [], t, x, hx, _ => by simp at hx
 | a :: l, t, x, hx, hxt => by
   by_cases hl : ∃ u, u ∈ l ∧ u ≤ t
   · obtain ⟨u, hu, hut⟩ := hl
     obtain ⟨y, h1, h2, h3⟩ := exists_last P l t u hu hut
     by_cases ha : y < a ∧ a ≤ t
     · refine ⟨a, by simp, ha.2, fun z hz => ?_⟩
       rcases List.mem_cons.1 hz with rfl | hz
       · omega
       · have := h3 z hz; omega
     · refine ⟨y, by simp [h1], h2, fun z hz => ?_⟩
       rcases List.mem_cons.1 hz with rfl | hz
       · exact ha
       · exact h3 z hz
   · refine ⟨x, hx, hxt, fun z hz => ?_⟩
     rcases List.mem_cons.1 hz with rfl | hz
     · rcases List.mem_cons.1 hx with rfl | hx
       · omega
       · exact absurd ⟨x, hx, hxt⟩ hl
     · intro h
       exact hl ⟨z, hz, h.2⟩
def OkAt (V : Vals) (part : List Int) (many : Int) (need : Res) (now wall t : Int) : Prop := condW now wall t ∧ ∃ fit, FitsV V part need t (t + wall) fit ∧ 1 ≤ many ∧ many ≤ sumF fit part
theorem place_ok {fit : Int → Int} {part : List Int} {many : Int} : (placeF fit part many).2.1 = true ↔ 1 ≤ many ∧ many ≤ sumF fit part := by
 unfold placeF
 split
 · simp; omega
 · simp; omega
theorem fits_mono {V W : Vals} {part : List Int} {need : Res} {b e b' e' : Int} {fit fit' : Int → Int} (h : FitsV V part need b e fit) (h' : FitsV W part need b' e' fit')
   (hw : ∀ k ∈ part, ∀ t', b' ≤ t' → t' < e' → ∃ t, b ≤ t ∧ t < e ∧ leR (V k.toNat t) (W k.toNat t')) : ∀ k ∈ part, fit k ≤ fit' k := fun k hk => by
 obtain ⟨l1, a1, a2⟩ := h
 obtain ⟨l2, b1, b2⟩ := h'
 rw [a2 k hk, b2 k hk]
 refine countI_mono1 ((b1 k hk).glb _ fun t' h1 h2 => ?_) (a1 k hk).ok (b1 k hk).ok
 obtain ⟨t, h3, h4, h5⟩ := hw k hk t' h1 h2
 exact ((a1 k hk).le t h3 h4).trans h5
theorem step_back {now : Int} {B : Nat} {nodes : List (List Step)} {V : Vals} {part : List Int} {need : Res} {wall t : Int} {fit : Int → Int} (hV : PRep now B nodes V) (hpt : PartOk nodes.length part) (hne : 1 ≤ part.length) (hcw : condW now wall t)
   (hf : FitsV V part need t (t + wall) fit) : ∃ t0, t0 ∈ atsOf nodes part ∧ now ≤ t0 ∧ t0 ≤ t ∧ ∀ fit0, FitsV V part need t0 (t0 + wall) fit0 → ∀ k ∈ part, fit k ≤ fit0 k := by
 obtain ⟨w1, w2, w3, w4⟩ := hcw
 have hx : ∀ k ∈ part, ∃ x, nodes[k.toNat]? = some x ∧ OkL now x := fun k hk => by
   have hkk := hpt.2 k hk
   have h := List.getElem?_eq_getElem (l := nodes) (i := k.toNat) (by omega)
   exact ⟨_, h, (hV.ok _ _ h).1⟩
 have hin : ∀ k ∈ part, ∀ x, nodes[k.toNat]? = some x → ∀ s ∈ x, s.at_ ∈ atsOf nodes part := fun k hk x hx s hs => by
   unfold atsOf
   rw [List.mem_flatMap]
   exact ⟨k, hk, by rw [List.getD_eq_getElem?_getD, hx]; exact List.mem_map.2 ⟨s, hs, rfl⟩⟩
 have hnow : now ∈ atsOf nodes part := by
   match part, hne, hx, hin with
   | k :: l, _, hx, hin =>
     obtain ⟨x, g1, ⟨s, tl, rfl, g2, _⟩⟩ := hx k (by simp)
     rw [← g2]
     exact hin k (by simp) _ g1 s (by simp)
 have hge : ∀ t ∈ atsOf nodes part, now ≤ t := fun t ht => by
   unfold atsOf at ht
   rw [List.mem_flatMap] at ht
   obtain ⟨k, hk, ht⟩ := ht
   obtain ⟨x, g1, ⟨s, tl, rfl, g2, g3⟩⟩ := hx k hk
   rw [List.getD_eq_getElem?_getD, g1] at ht
   obtain ⟨u, hu, rfl⟩ := List.mem_map.1 ht
   rcases List.mem_cons.1 hu with rfl | hu
   · omega
   · have := ((stepsOk_rise g3).1.2).mem u hu
     omega
 obtain ⟨t0, h1, h2, h3⟩ := exists_last (fun _ => True) (atsOf nodes part) t now hnow w3
 refine ⟨t0, h1, hge t0 h1, h2, fun fit0 hf0 => fits_mono hf hf0 fun k hk t' g1 g2 => ?_⟩
 by_cases hlt : t ≤ t'
 · exact ⟨t', hlt, by omega, leR.refl _⟩
 · refine ⟨t, Int.le_refl _, by omega, ?_⟩
   obtain ⟨x, q1, ⟨s, tl, rfl, q2, q3⟩⟩ := hx k hk
   have hge0 := hge t0 h1
   rw [← hV.val _ _ q1 t w3, ← hV.val _ _ q1 t' (by omega)]
   show leR (look s.free tl t) (look s.free tl t')
   rw [look_flat (show t' ≤ t by omega) fun u hu => ?_]
   · exact leR.refl _
   · have := h3 u.at_ (hin k hk _ q1 u (by simp [hu]))
     omega
end NM
end Go.Proofs.Ytmnhkpekmgobbaa
end
section
namespace Go.Proofs.Ytmnhkpekmgobbaa
namespace NM
open AM
def insI (x : Int) : List Int → List Int
 | [] => [x]
 | y :: l => if x ≤ y then x :: y :: l else y :: insI x l
def insSort : List Int → List Int
 | [] => []
 | x :: l => insI x (insSort l)
theorem insI_perm (x : Int) : ∀ l, (insI x l).Perm (x :: l)
 | [] => List.Perm.refl _
 | y :: l => by
   simp only [insI]
   split
   · exact List.Perm.refl _
   · exact ((insI_perm x l).cons y).trans (List.Perm.swap x y l)
theorem insSort_perm : ∀ l, (insSort l).Perm l
 | [] => List.Perm.refl _
 | x :: l => (insI_perm x _).trans ((insSort_perm l).cons x)
theorem insI_sorted (x : Int) : ∀ {l : List Int}, l.Pairwise (· ≤ ·) → (insI x l).Pairwise (· ≤ ·)
 | [], _ => by simp [insI]
 | y :: l, h => by
   simp only [insI]
   have h' := List.pairwise_cons.1 h
   split
   · rename_i hxy
     refine List.pairwise_cons.2 ⟨fun z hz => ?_, h⟩
     rcases List.mem_cons.1 hz with rfl | hz
     · exact hxy
     · have := h'.1 z hz; omega
   · rename_i hxy
     refine List.pairwise_cons.2 ⟨fun z hz => ?_, insI_sorted x h'.2⟩
     rcases List.mem_cons.1 ((insI_perm x l).mem_iff.1 hz) with rfl | hz
     · omega
     · exact h'.1 z hz
theorem insSort_sorted : ∀ l : List Int, (insSort l).Pairwise (· ≤ ·)
 | [] => List.Pairwise.nil
 | x :: l => insI_sorted x (insSort_sorted l)
theorem sortL_ins (l : List Int) : sortL l = insSort l := by
 refine List.Perm.eq_of_pairwise (le := fun a b : Int => a ≤ b) (fun a b _ _ h1 h2 => by omega) (sortL_sorted l) (insSort_sorted l) ?_
 exact (List.mergeSort_perm l _).trans (insSort_perm l).symm
theorem sort_ins : f151 = fun xs => cond (decide (0 < xs.length ∧ xs.length ≤ 4294967296)) (some ((), (insSort xs, ()))) none := by
 funext xs
 unfold f151 sortG
 rw [sortL_ins]
abbrev PlanT0 := ((Int × (Int × (List Share))) × (Bool × Unit)) × ((Int × ((List (List Int)) × (Unit × Unit))) × ((List (List Step)) × Unit))
theorem early_ins : f63 = F63 (@LN LOOPS) (F127 (@LN LOOPS) (fun xs => cond (decide (0 < xs.length ∧ xs.length ≤ 4294967296)) (some ((), (insSort xs, ()))) none) f171) f64 := by
 rw [← sort_ins]
 rfl
theorem awake_of (g : Int → Int → Res → Int → Int → (List (List Int)) → (List (List Step)) → Option PlanT0) (h : f63 = g) : f60 = F60 (@LN LOOPS) f101 f62 g := by
 rw [← h]
 rfl
theorem awake13 : f60 = some true := (awake_of _ early_ins).trans (by kernel_rfl)
abbrev WorldT := (Spec × (Int × ((List Run) × (List Booking))))
def FewP (w : WorldT) : Prop := fewB w.1 = true ∧ w.2.2.1.length ≤ 12 ∧ w.2.2.2.length ≤ 20 ∧ ∀ r ∈ w.2.2.1, r.shares.length ≤ 40
theorem p_Few13 (w : WorldT) (hs : Rng.P w.1) : ∃ b : Bool, f61 w = some b ∧ (b = true → FewP w) := by
 have hml : maxLen = 9223372036854775807 := rfl
 unfold f61 F61
 rw [r_Few w.1 hs]
 simp only [Option.bind_some]
 cases h1 : fewB w.1 with
 | false => exact ⟨false, rfl, fun h => by cases h⟩
 | true =>
   by_cases h2 : 12 < (w.2.2.1.length : Int)
   · rw [decide_eq_true h2]; exact ⟨false, rfl, fun h => by cases h⟩
   by_cases h3 : 20 < (w.2.2.2.length : Int)
   · rw [decide_eq_false h2, decide_eq_true h3]; exact ⟨false, rfl, fun h => by cases h⟩
   rw [decide_eq_false h2, decide_eq_false h3]
   refine ⟨w.2.2.1.all (fun r => decide (r.shares.length ≤ 40)), ?_, fun h => ⟨h1, by omega, by omega, fun r hr => by simpa using List.all_eq_true.1 h r hr⟩⟩
   simp only [Bool.not_true, cond_false]
   rw [all_loop w.2.2.1 (fun z => ((z, ()), ())) (fun r => decide (r.shares.length ≤ 40)) true (by omega)]
   · simp
   · intro next
     simp [l61_0]
   · intro z r next g0 g1 g2 g3
     simp only [l61_0, g0, g1, g2, g3, decide_true, cond_true, Option.bind_some]
     by_cases h : r.shares.length ≤ 40
     · rw [decide_eq_true h, decide_eq_false (show ¬ 40 < (r.shares.length : Int) by omega)]; rfl
     · rw [decide_eq_false h, decide_eq_true (show 40 < (r.shares.length : Int) by omega)]; rfl
theorem part_ok {s : Spec} (h : specOk s = true) {p0 : Int} (h1 : ¬ p0 < 0) (h2 : ¬ (s.parts.length : Int) ≤ p0) : ∃ part, s.parts[p0.toNat]? = some part ∧ PartOk s.nodes.length part ∧ 1 ≤ part.length ∧ part.length ≤ 16 := by
 obtain ⟨f1, f2, f3, f4⟩ := specOk_facts h
 have hp : s.parts[p0.toNat]? = some (s.parts[p0.toNat]'(by omega)) := List.getElem?_eq_getElem (by omega)
 obtain ⟨g1, g2, g3⟩ := f4 (s.parts[p0.toNat]'(by omega)) (List.getElem_mem _)
 refine ⟨_, hp, ⟨by omega, fun k hk => ?_⟩, g1, g3⟩
 have := asc_mem g2 k hk
 omega
abbrev NewF := Spec → Int → (List Run) → (List Booking) → Option NewR
end NM
end Go.Proofs.Ytmnhkpekmgobbaa
end
section
namespace Go.Proofs.Ytmnhkpekmgobbaa
namespace NM
open AM
def totS : List Share → Int
 | [] => 0
 | s :: l => s.many + totS l
theorem greedy_total {fit : Int → Int} : ∀ (l : List Int) (left : Int), (∀ k ∈ l, 0 ≤ fit k) → 0 ≤ left → left ≤ sumF fit l → totS (greedy fit l left) = left
 | [], left, _, h0, h1 => by simp only [sumF] at h1; simp only [greedy, totS]; omega
 | k :: l, left, hf, h0, h1 => by
   have hk := hf k (by simp)
   have hl := fun j hj => hf j (List.mem_cons_of_mem k hj)
   simp only [sumF] at h1
   simp only [greedy]
   by_cases hz : left = 0
   · rw [if_pos hz]; simp only [totS]; omega
   · rw [if_neg hz]
     by_cases hlt : left < fit k
     · simp only [if_pos hlt]
       rw [if_neg hz]
       simp only [totS]
       have h2 := sumF_nonneg' l hl
       rw [greedy_total l (left - left) hl (by omega) (by omega)]
       omega
     · simp only [if_neg hlt]
       by_cases hk0 : fit k = 0
       · rw [if_pos hk0]
         exact greedy_total l left hl h0 (by omega)
       · rw [if_neg hk0]
         simp only [totS]
         rw [greedy_total l (left - fit k) hl (by omega) (by omega)]
         omega
where
 sumF_nonneg' {fit : Int → Int} : ∀ (l : List Int), (∀ k ∈ l, 0 ≤ fit k) → 0 ≤ sumF fit l
   | [], _ => Int.le_refl _
   | k :: l, h => by
     have := h k (by simp)
     have := sumF_nonneg' l fun j hj => h j (List.mem_cons_of_mem k hj)
     simp only [sumF]
     omega
theorem greedy_mem {fit : Int → Int} : ∀ (l : List Int) (left : Int), (∀ k ∈ l, 0 ≤ fit k) → 0 ≤ left → ∀ s ∈ greedy fit l left, s.node ∈ l ∧ 1 ≤ s.many ∧ s.many ≤ fit s.node
 | [], left, _, h0, s, hs => by simp [greedy] at hs
 | k :: l, left, hf, h0, s, hs => by
   have hk := hf k (by simp)
   have hl := fun j hj => hf j (List.mem_cons_of_mem k hj)
   simp only [greedy] at hs
   by_cases hz : left = 0
   · rw [if_pos hz] at hs; simp at hs
   · rw [if_neg hz] at hs
     by_cases hlt : left < fit k
     · simp only [if_pos hlt] at hs
       rw [if_neg hz] at hs
       rcases List.mem_cons.1 hs with rfl | hs
       · exact ⟨by simp, by simp only; omega, by simp only; omega⟩
       · have := greedy_mem l _ hl (by omega) s hs
         exact ⟨List.mem_cons_of_mem k this.1, this.2⟩
     · simp only [if_neg hlt] at hs
       by_cases hk0 : fit k = 0
       · rw [if_pos hk0] at hs
         have := greedy_mem l left hl h0 s hs
         exact ⟨List.mem_cons_of_mem k this.1, this.2⟩
       · rw [if_neg hk0] at hs
         rcases List.mem_cons.1 hs with rfl | hs
         · exact ⟨by simp, by simp only; omega, by simp only; omega⟩
         · have := greedy_mem l _ hl (by omega) s hs
           exact ⟨List.mem_cons_of_mem k this.1, this.2⟩
theorem greedy_len {fit : Int → Int} : ∀ (l : List Int) (left : Int), (greedy fit l left).length ≤ l.length
 | [], _ => Nat.le_refl _
 | k :: l, left => by
   simp only [greedy]
   by_cases hz : left = 0
   · rw [if_pos hz]; simp
   · rw [if_neg hz]
     by_cases hn : (if left < fit k then left else fit k) = 0
     · rw [if_pos hn]
       have := greedy_len (fit := fit) l left
       simp only [List.length_cons]; omega
     · rw [if_neg hn]
       generalize (if left < fit k then left else fit k) = y
       have := greedy_len (fit := fit) l (left - y)
       simp only [List.length_cons]; omega
abbrev WantT := Int × (Int × (Res × Int))
abbrev PlT := Int × (Int × List Share)
end NM
end Go.Proofs.Ytmnhkpekmgobbaa
end
section
namespace Go.Proofs.Ytmnhkpekmgobbaa
namespace NM
open AM
theorem stepC_of {x y n m : Int} (hm : m ≤ n) (h : y * m ≤ x) : m ≤ stepC x y n := by
 unfold stepC
 split
 · rename_i hy
   have : m ≤ x / y := (Int.le_ediv_iff_mul_le hy).2 (by rw [Int.mul_comm]; exact h)
   omega
 · exact hm
theorem countI_of {a b : Res} {m : Int} (ha : okR a = true) (hb : okR b = true) (hz : zRes b = false) (hm : m ≤ 64) (h : leR (mulR b m) a) : m ≤ countI a b := by
 unfold countI
 rw [resOk_okR, resOk_okR, if_pos ⟨ha, hb, hz⟩]
 exact stepC_of (stepC_of (stepC_of (stepC_of hm h.1) h.2.1) h.2.2.1) h.2.2.2
theorem greedy_stays {fit fit' : Int → Int} : ∀ (l : List Int) (left : Int), l.Nodup → (∀ k ∈ l, 0 ≤ k ∧ 0 ≤ fit' k ∧ fit' k ≤ fit k) → 0 ≤ left → (∀ k ∈ l, onS (greedy fit l left) k.toNat ≤ fit' k) → greedy fit' l left = greedy fit l left
 | [], _, _, _, _, _ => rfl
 | k :: l, left, hnd, hf, h0, hon => by
   obtain ⟨hk0, hk1, hk2⟩ := hf k (by simp)
   have hnd' := List.nodup_cons.1 hnd
   have hl := fun j hj => hf j (List.mem_cons_of_mem k hj)
   have hne : ∀ j ∈ l, j ≠ k := fun j hj e => hnd'.1 (e ▸ hj)
   have hkk : ((k.toNat : Nat) : Int) = k := by omega
   have hfl : ∀ j ∈ l, 0 ≤ fit j := fun j hj => by have := hl j hj; omega
   simp only [greedy] at hon ⊢
   by_cases hz : left = 0
   · rw [if_pos hz, if_pos hz]
   · rw [if_neg hz] at hon
     rw [if_neg hz, if_neg hz]
     have hkc := hon k (by simp)
     by_cases hn : (if left < fit k then left else fit k) = 0
     · rw [if_pos hn] at hon
       rw [if_pos hn]
       have hf0 : fit k = 0 := by split at hn <;> omega
       have hn' : (if left < fit' k then left else fit' k) = 0 := by split <;> omega
       rw [if_pos hn']
       exact greedy_stays l left hnd'.2 hl h0 fun j hj => hon j (List.mem_cons_of_mem k hj)
     · rw [if_neg hn] at hon hkc
       rw [if_neg hn]
       have hon1 : (if left < fit k then left else fit k) ≤ fit' k := by
         simp only [onS, hkk, if_true] at hkc
         exact hkc
       have hsame : (if left < fit' k then left else fit' k) = (if left < fit k then left else fit k) := by
         by_cases h1 : left < fit k
         · rw [if_pos h1] at hon1 ⊢
           split <;> omega
         · rw [if_neg h1] at hon1 ⊢
           split <;> omega
       rw [hsame, if_neg hn]
       have h0' : 0 ≤ left - (if left < fit k then left else fit k) := by split <;> omega
       rw [greedy_stays l _ hnd'.2 hl h0' fun j hj => ?_]
       have := hon j (List.mem_cons_of_mem k hj)
       have hjk : ¬ k = ((j.toNat : Nat) : Int) := by
         have h1 := hne j hj
         have h2 := (hl j hj).1
         omega
       simp only [onS] at this
       rw [if_neg hjk] at this
       exact this
theorem sub_comm3 (a b c : Res) : subR (subR a b) c = subR (subR a c) b := by
 unfold subR
 simp only [Res.mk.injEq]
 omega
theorem apV_comm (D : Vals) : ∀ (ds : List Vals) (V : Vals) (k : Nat) (t : Int), apV (minV V D) ds k t = subR (apV V ds k t) (D k t)
 | [], V, k, t => rfl
 | E :: ds, V, k, t => by
   show apV (minV (minV V D) E) ds k t = subR (apV (minV V E) ds k t) (D k t)
   have e : minV (minV V D) E = minV (minV V E) D := by
     funext k t
     exact sub_comm3 _ _ _
   rw [e]
   exact apV_comm D ds (minV V E) k t
theorem greedy_le {fit : Int → Int} : ∀ (l : List Int) (left : Int), (∀ k ∈ l, 0 ≤ fit k) → 0 ≤ left → totS (greedy fit l left) ≤ sumF fit l
 | [], _, _, _ => Int.le_refl _
 | k :: l, left, hf, h0 => by
   have hk := hf k (by simp)
   have hl := fun j hj => hf j (List.mem_cons_of_mem k hj)
   simp only [greedy, sumF]
   by_cases hz : left = 0
   · rw [if_pos hz]
     have := greedy_le l left hl h0
     rw [hz] at this
     have h2 : 0 ≤ totS (greedy fit l 0) := by
       cases l with
       | nil => exact Int.le_refl _
       | cons j l => simp [greedy, totS]
     simp only [totS]
     omega
   · rw [if_neg hz]
     by_cases hn : (if left < fit k then left else fit k) = 0
     · rw [if_pos hn]
       have := greedy_le l left hl h0
       omega
     · rw [if_neg hn]
       have h1 : (if left < fit k then left else fit k) ≤ fit k ∧ 0 ≤ left - (if left < fit k then left else fit k) := by split <;> omega
       have := greedy_le l _ hl h1.2
       simp only [totS]
       omega
theorem countI_pos {a b : Res} (h : 1 ≤ countI a b) : okR b = true ∧ zRes b = false := by
 unfold countI at h
 split at h
 · rename_i hc
   rw [resOk_okR b] at hc
   exact hc.2
 · omega
theorem stays_core {now wall many : Int} {need : Res} {part : List Int} {N : Nat} {V : Vals} {ds : List Vals} {t : Int} {fit fit' : Int → Int} (hp : PartOk N part) (hnd : part.Nodup) (hc : condW now wall t) (hm : 1 ≤ many) (hs : many ≤ sumF fit part)
   (hf : FitsV V part need t (t + wall) fit) (hd : ∀ D ∈ ds, posD N now D) (hok : OkV now N (apV (minV V (takeD t (t + wall) (greedy fit part many) need)) ds)) (hf' : FitsV (apV V ds) part need t (t + wall) fit') :
   greedy fit' part many = greedy fit part many ∧ many ≤ sumF fit' part := by
 obtain ⟨c1, c2, c3, c4⟩ := hc
 have hle : ∀ k ∈ part, fit' k ≤ fit k := fits_mono hf' hf fun k hk τ h1 h2 => ⟨τ, h1, h2, apV_le ds V hd k.toNat (by have := hp.2 k hk; omega) τ (by omega)⟩
 obtain ⟨l1, a1, a2⟩ := hf
 obtain ⟨l2, b1, b2⟩ := hf'
 have h0 : ∀ k ∈ part, 0 ≤ fit k ∧ 0 ≤ fit' k ∧ fit k ≤ 64 := fun k hk => by
   rw [a2 k hk, b2 k hk]
   exact ⟨countI_nonneg _ _, countI_nonneg _ _, countI_le _ _⟩
 have hon : ∀ k ∈ part, onS (greedy fit part many) k.toNat ≤ fit' k := fun k hk => by
   have hkp := hp.2 k hk
   rcases Classical.em (∃ s ∈ greedy fit part many, s.node = ((k.toNat : Nat) : Int)) with ⟨s, hsm, hsk⟩ | hno
   · by_cases hz : onS (greedy fit part many) k.toNat ≤ 0
     · have := (h0 k hk).2.1; omega
     · have hn : onS (greedy fit part many) k.toNat ≤ fit k := by
         have key : ∀ l : List Share, (∀ s ∈ l, s.many ≤ fit s.node) → (∃ s ∈ l, s.node = ((k.toNat : Nat) : Int)) → onS l k.toNat ≤ fit k := by
           intro l
           induction l with
           | nil => rintro _ ⟨s, hs, _⟩; simp at hs
           | cons u l ih =>
             rintro h ⟨s, hs, he⟩
             simp only [onS]
             by_cases hu : u.node = ((k.toNat : Nat) : Int)
             · rw [if_pos hu]
               have h1 := h u (by simp)
               have h2 : u.node = k := by omega
               rw [h2] at h1
               exact h1
             · rw [if_neg hu]
               rcases List.mem_cons.1 hs with rfl | hs
               · exact absurd he hu
               · exact ih (fun v hv => h v (List.mem_cons_of_mem u hv)) ⟨s, hs, he⟩
         exact key _ (fun s hs => (greedy_mem part many (fun j hj => (h0 j hj).1) (by omega) s hs).2.2) ⟨s, hsm, hsk⟩
       have h64 := (h0 k hk).2.2
       have hnd2 := hn
       rw [a2 k hk] at hnd2
       obtain ⟨n1, n2⟩ := countI_pos (show 1 ≤ countI (l1 k) need by omega)
       rw [b2 k hk]
       refine countI_of (b1 k hk).ok n1 n2 (by omega) ((b1 k hk).glb _ fun τ h1 h2 => ?_)
       have hpos := hok k.toNat (by omega) τ (by omega)
       rw [apV_comm] at hpos
       unfold takeD at hpos
       rw [if_pos ⟨h1, h2⟩] at hpos
       unfold posR subR at hpos
       unfold leR
       simp only at hpos
       omega
   · rw [onS_none _ _ fun s hs he => hno ⟨s, hs, he⟩]
     exact (h0 k hk).2.1
 have hg := greedy_stays (fit := fit) (fit' := fit') part many hnd (fun k hk => ⟨(hp.2 k hk).1, (h0 k hk).2.1, hle k hk⟩) (by omega) hon
 refine ⟨hg, ?_⟩
 have h1 := greedy_le (fit := fit') part many (fun k hk => (h0 k hk).2.1) (by omega)
 rw [hg, greedy_total part many (fun k hk => (h0 k hk).1) (by omega) hs] at h1
 exact h1
end NM
end Go.Proofs.Ytmnhkpekmgobbaa
end
