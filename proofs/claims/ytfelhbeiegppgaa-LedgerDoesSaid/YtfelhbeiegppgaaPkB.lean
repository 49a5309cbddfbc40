/-
  The statement LedgerDoes is proved here: whatever its arguments, the call gives true; under the conditions that the given statement itself names. (Many texts laid together by program.)
-/
import Derived.Test.YtfelhbeiegppgaaPkBz
import Derived.Test.YtfelhbeiegppgaaRows
import Derived.WalkKit
import Derived.ProofKit
import Derived.OpenShut
import Derived.ChangeOld
import Derived.Below
import Derived.Carry
set_option linter.unnecessarySimpa false
set_option linter.unusedSimpArgs false
set_option linter.unusedVariables false
section
namespace Go.Proofs.Ytfelhbeiegppgaa
namespace NM
open AM
theorem val_at {m : List (Int × Alloc)} {i : Nat} {p : Int × Alloc} (h : m[i]? = some p) : (m.map (·.2))[i]? = some p.2 := by rw [List.getElem?_map, h]; rfl
theorem find_loop (l : List Alloc) (hl : l.length ≤ 1000) (job : Int) (n : Nat) (hn : n ≤ l.length) (hno : ∀ (i : Nat) (a : Alloc), i < n → l[i]? = some a → a.job ≠ job) {r : Option Int}
   (hend : ∀ next, l55_0 l job next (n : Int) = r) : f55 l job = r := by
 unfold f55 F55
 refine loop_run0 n (small_lt (by omega)) (fun i => ((((i : Int), ()), ()) : ((Int × Unit) × Unit))) _ (by simp) (fun i hi next => ?_) (fun next => hend next)
 have hx : l[i]? = some l[i] := List.getElem?_eq_getElem (by omega)
 simp only [l55_0]
 rw [decide_eq_true (show (i : Int) < (l.length : Int) by omega), decide_eq_true (show (0 : Int) ≤ (i : Int) by omega), show Int.toNat (i : Int) = i by omega, hx]
 simp only [cond_true, Option.bind_some]
 rw [decide_eq_false (hno i _ hi hx), wi (by omega) (by omega)]
 rfl
theorem r_FindN {m : List (Int × Alloc)} (hk : ∀ p ∈ m, p.2.job = p.1) (hl : m.length ≤ 1000) {job : Int} (h : mget job m = none) : f55 (m.map (·.2)) job = some (-1) := by
 refine find_loop _ (by rw [List.length_map]; exact hl) job (m.map (·.2)).length (Nat.le_refl _) (fun i a hi ha => ?_) (fun next => ?_)
 · have hi' : i < m.length := by simpa using hi
   have hm : m[i]? = some m[i] := List.getElem?_eq_getElem hi'
   rw [val_at hm] at ha
   cases ha
   rw [hk _ (List.mem_of_getElem? hm)]
   exact mgetN h _ (List.mem_of_getElem? hm)
 · simp only [l55_0]
   rw [decide_eq_false (by omega)]
   rfl
theorem asc_lt {m : List (Int × Alloc)} (ha : AscM m) {i j : Nat} {p q : Int × Alloc} (hi : m[i]? = some p) (hj : m[j]? = some q) (hij : i < j) : p.1 < q.1 := by
 obtain ⟨h1, e1⟩ := List.getElem?_eq_some_iff.1 hi
 obtain ⟨h2, e2⟩ := List.getElem?_eq_some_iff.1 hj
 have := List.pairwise_iff_getElem.1 ha i j h1 h2 hij
 rw [e1, e2] at this
 exact this
theorem r_FindS {m : List (Int × Alloc)} (ha : AscM m) (hk : ∀ p ∈ m, p.2.job = p.1) (hl : m.length ≤ 1000) {job : Int} {a : Alloc} (h : mget job m = some a) : ∃ i : Nat, m[i]? = some (job, a) ∧ f55 (m.map (·.2)) job = some (i : Int) := by
 obtain ⟨i, hi⟩ := List.getElem?_of_mem (mget_mem h)
 have hil := (List.getElem?_eq_some_iff.1 hi).1
 refine ⟨i, hi, find_loop _ (by rw [List.length_map]; exact hl) job i (by rw [List.length_map]; omega) (fun j b hj hb => ?_) (fun next => ?_)⟩
 · have hm : m[j]? = some m[j] := List.getElem?_eq_getElem (by omega)
   rw [val_at hm] at hb
   cases hb
   rw [hk _ (List.mem_of_getElem? hm)]
   have := asc_lt ha hm hi hj
   simp only at this
   omega
 · simp only [l55_0]
   rw [decide_eq_true (show (i : Int) < ((m.map (·.2)).length : Int) by rw [List.length_map]; omega), decide_eq_true (show (0 : Int) ≤ (i : Int) by omega), show Int.toNat (i : Int) = i by omega, val_at hi]
   simp only [cond_true, Option.bind_some]
   rw [decide_eq_true (hk _ (List.mem_of_getElem? hi))]
   rfl
theorem mdel_split {m : List (Int × Alloc)} (ha : AscM m) {i : Nat} {job : Int} {a : Alloc} (hi : m[i]? = some (job, a)) : mdel job m = m.take i ++ m.drop (i + 1) := by
 obtain ⟨h1, e1⟩ := List.getElem?_eq_some_iff.1 hi
 have hm : m = m.take i ++ (job, a) :: m.drop (i + 1) := by
   rw [← e1, List.getElem_cons_drop h1, List.take_append_drop]
 have hp : ∀ p ∈ m.take i, p.1 ≠ job := fun p hp => by
   obtain ⟨j, hj⟩ := List.getElem?_of_mem hp
   have hjl := (List.getElem?_eq_some_iff.1 hj).1
   rw [List.length_take] at hjl
   rw [List.getElem?_take_of_lt (by omega)] at hj
   have := asc_lt ha hj hi (by omega)
   simp only at this
   omega
 have hq : ∀ p ∈ m.drop (i + 1), p.1 ≠ job := fun p hp => by
   obtain ⟨j, hj⟩ := List.getElem?_of_mem hp
   rw [List.getElem?_drop] at hj
   have := asc_lt ha hi hj (by omega)
   simp only at this
   omega
 have e : mdel job m = mdel job (m.take i ++ (job, a) :: m.drop (i + 1)) := by rw [← hm]
 rw [e]
 have e2 : mdel job (m.take i ++ (job, a) :: m.drop (i + 1)) = mdel job (m.take i) ++ mdel job (m.drop (i + 1)) := by
   unfold mdel
   rw [List.filter_append]
   congr 1
   simp
 rw [e2, mdel_none hp, mdel_none hq]
theorem sm_ok {n : Nat} (h : n ≤ 5000) : smallB n 64 = true := by
 simp only [smallB, Bool.and_eq_true, decide_eq_true_eq]
 omega
theorem r_GiveL {m : List (Int × Alloc)} (ha : AscM m) (hk : ∀ p ∈ m, p.2.job = p.1) (hl : m.length ≤ 1000) (fr : List Res) (job : Int) :
   f52 (m.map (·.2)) job = some ((giveL job fr m).2.2.map (·.2), (giveL job fr m).1, ()) := by
 unfold f52 F52 giveL
 cases h : mget job m with
 | none =>
   rw [r_FindN hk hl h]
   rfl
 | some a =>
   obtain ⟨i, hi, hf⟩ := r_FindS ha hk hl h
   have hil := (List.getElem?_eq_some_iff.1 hi).1
   rw [hf]
   simp only [Option.bind_some]
   rw [wi (show (-9223372036854775808 : Int) ≤ (i : Int) + 1 by omega) (by omega), decide_eq_false (show ¬ ((i : Int) < 0) by omega), decide_eq_true (show (0 : Int) ≤ (i : Int) by omega), decide_eq_true (show (0 : Int) ≤ (i : Int) + 1 by omega),
     show Int.toNat (i : Int) = i by omega, show Int.toNat ((i : Int) + 1) = i + 1 by omega, decide_eq_true (show i ≤ (m.map (·.2)).length by rw [List.length_map]; omega), decide_eq_true (show i + 1 ≤ (m.map (·.2)).length by rw [List.length_map]; omega),
     sm_ok (by rw [List.length_take, List.length_map]; omega), sm_ok (by simp only [List.nil_append, List.length_take, List.length_map, List.length_drop]; omega), mdel_split ha hi]
   simp only [cond_true, cond_false, List.nil_append, List.map_append, List.map_take, List.map_drop]
theorem run_shB (n : Int) : ∀ (l : List Share) (last : Int), runL (ω := Bool) (fun last (s : Share) => if last < s.node ∧ s.node < n ∧ 1 ≤ s.many ∧ s.many ≤ 64 then .inl s.node else .inr (some false)) (fun _ => some true) l last = some (shB n last l)
 | [], last => rfl
 | s :: l, last => by
   simp only [runL, shB]
   by_cases h : last < s.node ∧ s.node < n ∧ 1 ≤ s.many ∧ s.many ≤ 64
   · rw [if_pos h]
     simp only
     rw [run_shB n l s.node, decide_eq_true h.1, decide_eq_true h.2.1, decide_eq_true h.2.2.1, decide_eq_true h.2.2.2]
     rfl
   · rw [if_neg h]
     simp only
     congr 1
     symm
     rw [Bool.eq_false_iff]
     intro hc
     simp only [Bool.and_eq_true, decide_eq_true_eq] at hc
     exact h ⟨hc.1, hc.2.1, hc.2.2.1, hc.2.2.2.1⟩
theorem r_Right11 (l : List Share) (hl : l.length ≤ 1000) (n : Int) : f80 l n = some (shB n (-1) l) := by
 have hml : maxLen = 9223372036854775807 := rfl
 unfold f80 F80
 have key := list_loopI (f := fun (s2 : ((Int × Unit) × Unit)) nx3 => l80_0 l n nx3 s2.1.1) l (fun (_ : Int) z => (((z, ()), ()) : ((Int × Unit) × Unit)))
   (fun b z => (z = 0 ∧ b = -1) ∨ (0 < z ∧ 0 ≤ b ∧ ∃ s, l[(z - 1).toNat]? = some s ∧ b = s.node))
   (fun last (s : Share) => if last < s.node ∧ s.node < n ∧ 1 ≤ s.many ∧ s.many ≤ 64 then .inl s.node else .inr (some false)) (fun _ => some true) (by omega)
   (fun b next hb => by simp only [l80_0, decide_eq_false (Int.lt_irrefl _), cond_false])
   (fun b z x next hb h0 h1 h2 h3 => by
     simp only [l80_0]
     rw [decide_eq_true h1, decide_eq_true h0, h2]
     simp only [cond_true, Option.bind_some]
     by_cases c1 : x.node < 0
     · rw [decide_eq_true c1, if_neg (by rcases hb with ⟨_, hb⟩ | ⟨_, hb, _⟩ <;> omega)]; rfl
     by_cases c2 : n ≤ x.node
     · rw [decide_eq_false c1, decide_eq_true c2, if_neg (by omega)]; rfl
     by_cases c3 : x.many < 1
     · rw [decide_eq_false c1, decide_eq_false c2, decide_eq_true c3, if_neg (by omega)]; rfl
     by_cases c4 : 64 < x.many
     · rw [decide_eq_false c1, decide_eq_false c2, decide_eq_false c3, decide_eq_true c4, if_neg (by omega)]; rfl
     rw [decide_eq_false c1, decide_eq_false c2, decide_eq_false c3, decide_eq_false c4]
     simp only [cond_false]
     rcases hb with ⟨hz, hb⟩ | ⟨hz, hb, s, hs, he⟩
     · rw [if_pos ⟨by omega, by omega, by omega, by omega⟩, decide_eq_false (show ¬ (0 : Int) < z by omega), h3]
       refine ⟨.inr ⟨by omega, by omega, x, ?_, rfl⟩, rfl⟩
       rw [show (z + 1 - 1).toNat = z.toNat by omega]
       exact h2
     · rw [decide_eq_true hz, wi (show (-9223372036854775808 : Int) ≤ z - 1 by omega) (by omega), decide_eq_true (show (0 : Int) ≤ z - 1 by omega), hs]
       simp only [cond_true, Option.bind_some]
       by_cases c5 : x.node ≤ s.node
       · rw [decide_eq_true c5, if_neg (by omega)]; rfl
       · rw [decide_eq_false c5, if_pos ⟨by omega, by omega, by omega, by omega⟩, h3]
         refine ⟨.inr ⟨by omega, by omega, x, ?_, rfl⟩, rfl⟩
         rw [show (z + 1 - 1).toNat = z.toNat by omega]
         exact h2) (-1) (.inl ⟨rfl, rfl⟩)
 exact key.trans (run_shB n l (-1))
def fitB (a b : Res) : Bool := decide (a.cpu ≤ b.cpu) && (decide (a.mem ≤ b.mem) && (decide (a.gpu ≤ b.gpu) && decide (a.lic ≤ b.lic)))
theorem r_FitsR (a b : Res) : f32 a b = some (fitB a b) := by
 unfold f32 F32 fitB
 cases decide (a.cpu ≤ b.cpu) <;> cases decide (a.mem ≤ b.mem) <;> cases decide (a.gpu ≤ b.gpu) <;> rfl
theorem r_SubR {b : Int} (hb : b ≤ 1000000000000000) {x y : Res} (hx : SmallR b x) (hy : SmallR b y) : f81 x y = some (subR x y) := by
 unfold f81 F81 subR
 obtain ⟨⟨a1, a2, a3, a4⟩, a5, a6, a7, a8⟩ := hx
 obtain ⟨⟨b1, b2, b3, b4⟩, b5, b6, b7, b8⟩ := hy
 rw [wi (by omega) (by omega), wi (by omega) (by omega), wi (by omega) (by omega), wi (by omega) (by omega)]
def leftL (nodes : List Res) (w : List Alloc) : List Res := nodes.mapIdx fun k x => subR x (sumM w k)
def fitAt (nodes : List Res) (w : List Alloc) (k : Nat) : Bool := match nodes[k]? with | some x => fitB (sumM w k) x | none => true
def fitTo (nodes : List Res) (w : List Alloc) : Nat → Bool
 | 0 => true
 | k + 1 => fitTo nodes w k && fitAt nodes w k
theorem left_in {n : Int} {nodes : List Res} {m : List (Int × Alloc)} (hA : ∀ p ∈ m, AlOk n p) (hm : m.length ≤ 1000) (hnl : nodes.length ≤ 1000) {k : Nat} {x : Res} (hx : nodes[k]? = some x) (hxo : okR x = true) (next : ((Unit × (Bool × (Int × Unit))) × ((List Res) × Unit)) → Option ((List Res) × (Bool × Unit))) :
   LN LOOPS (fun (s7 : ((Unit × (Unit × (Int × Unit))) × ((List Res) × (Res × Unit)))) nx8 => l54_0 f24 f23 f22 f32 f81 nodes (m.map (·.2)) next (fitTo nodes (m.map (·.2)) k) (k : Int) nx8 s7.1.2.2.1 s7.2.1 s7.2.2.1) (((), (), 0, ()), ((leftL nodes (m.map (·.2))).take k, Res.mk 0 0 0 0, ())) = next (((), fitTo nodes (m.map (·.2)) (k + 1), ((k + 1 : Nat) : Int), ()), ((leftL nodes (m.map (·.2))).take (k + 1), ())) := by
 have hml : (m.map (·.2)).length = m.length := List.length_map ..
 have hkl := (List.getElem?_eq_some_iff.1 hx).1
 have hz : SmallR 0 zeroR := ⟨pos_zero, by simp [zeroR]⟩
 refine loop_run0 m.length (small_lt (by omega)) (fun i => ((((), (), (i : Int), ()), ((leftL nodes (m.map (·.2))).take k, accM zeroR k ((m.map (·.2)).take i), ())) : ((Unit × (Unit × (Int × Unit))) × ((List Res) × (Res × Unit))))) _ (by simp [accM, zeroR]) (fun i hi nx => ?_) (fun nx => ?_)
 · have hp := hA m[i] (List.getElem_mem hi)
   have g1 : (m.map (·.2))[i]? = some m[i].2 := by simp [hi]
   obtain ⟨d1, d2⟩ := r_d hp k
   have hs1 : SmallR (0 + 67108864 * (m.take i).length) (accM zeroR k ((m.map (·.2)).take i)) := by
     rw [← List.map_take]
     exact accM_small (m.take i) zeroR (fun q hq => hA q (List.mem_of_mem_take hq)) hz
   have hti : (m.take i).length ≤ 1000 := by rw [List.length_take]; omega
   simp only [l54_0]
   rw [decide_eq_true (show (i : Int) < ((m.map (·.2)).length : Int) by omega), decide_eq_true (show (0 : Int) ≤ (i : Int) by omega), show Int.toNat (i : Int) = i by omega, g1]
   simp only [cond_true, Option.bind_some]
   rw [d1]
   simp only [Option.bind_some]
   rw [d2]
   simp only [Option.bind_some]
   rw [r_AddR (b := 67108864 * 1000) (by omega) (hs1.more (by omega)) ((hp.small k).more (by omega)), ← accM_take _ _ _ _ g1, wi (by omega) (by omega)]
   rfl
 · have e : (m.map (·.2)).take m.length = m.map (·.2) := List.take_of_length_le (by simp)
   have hs1 : SmallR (0 + 67108864 * m.length) (accM zeroR k (m.map (·.2))) := accM_small m zeroR hA hz
   have ez : accM zeroR k (m.map (·.2)) = sumM (m.map (·.2)) k := by rw [accM_eq]; simp [addR, zeroR]
   rw [ez] at hs1
   have hll : (leftL nodes (m.map (·.2))).length = nodes.length := by simp [leftL]
   have hlk : (leftL nodes (m.map (·.2)))[k]? = some (subR x (sumM (m.map (·.2)) k)) := by
     unfold leftL
     rw [List.getElem?_mapIdx, hx]
     rfl
   have ht : (leftL nodes (m.map (·.2))).take (k + 1) = (leftL nodes (m.map (·.2))).take k ++ [subR x (sumM (m.map (·.2)) k)] := by
     rw [List.take_add_one, hlk]
     rfl
   have hfa : fitAt nodes (m.map (·.2)) k = fitB (sumM (m.map (·.2)) k) x := by unfold fitAt; rw [hx]
   have hsm : smallB (((leftL nodes (m.map (·.2))).take k).length + 1) 32 = true := by
     simp only [smallB, Bool.and_eq_true, decide_eq_true_eq, List.length_take]
     omega
   simp only [l54_0]
   rw [decide_eq_false (show ¬ ((m.length : Int) < ((m.map (·.2)).length : Int)) by omega), e, ez, ht, decide_eq_true (show (0 : Int) ≤ (k : Int) by omega), show Int.toNat (k : Int) = k by omega, hx]
   simp only [cond_false, cond_true, Option.bind_some]
   rw [r_FitsR, r_SubR (b := 67108864 * 1000) (by omega) ((ok_small hxo).more (by omega)) (hs1.more (by omega)), hsm, wi (by omega) (by omega)]
   simp only [Option.bind_some, cond_true]
   cases hf : fitTo nodes (m.map (·.2)) k with
   | true =>
     simp only [fitTo, hf, hfa, Bool.true_and, cond_true]
     rfl
   | false =>
     simp only [fitTo, hf, hfa, Bool.false_and, cond_false]
     rfl
theorem r_LeftL {n : Int} {nodes : List Res} {m : List (Int × Alloc)} (hA : ∀ p ∈ m, AlOk n p) (hm : m.length ≤ 1000) (hnl : nodes.length ≤ 1000) (hno : ∀ x ∈ nodes, okR x = true) : f54 nodes (m.map (·.2)) = some (leftL nodes (m.map (·.2)), (fitTo nodes (m.map (·.2)) nodes.length, ())) := by
 unfold f54 F54
 refine loop_run0 nodes.length (small_lt (by omega)) (fun k => ((((), fitTo nodes (m.map (·.2)) k, (k : Int), ()), ((leftL nodes (m.map (·.2))).take k, ())) : ((Unit × (Bool × (Int × Unit))) × ((List Res) × Unit)))) _ (by simp [fitTo]) (fun k hk nx => ?_) (fun nx => ?_)
 · have hx : nodes[k]? = some nodes[k] := List.getElem?_eq_getElem hk
   simp only [l54_1]
   rw [decide_eq_true (show (k : Int) < (nodes.length : Int) by omega)]
   simp only [cond_true]
   exact left_in hA hm hnl hx (hno _ (List.getElem_mem hk)) nx
 · have e : (leftL nodes (m.map (·.2))).take nodes.length = leftL nodes (m.map (·.2)) := List.take_of_length_le (by simp [leftL])
   simp only [l54_1]
   rw [decide_eq_false (by omega), e]
   rfl
theorem left_fr {nodes fr : List Res} {m : List (Int × Alloc)} {B : Nat} (I : LInv nodes fr m B) : leftL nodes (m.map (·.2)) = fr := by
 apply List.ext_getElem?
 intro k
 unfold leftL
 rw [List.getElem?_mapIdx]
 cases hx : fr[k]? with
 | none =>
   have : nodes[k]? = none := by
     rw [List.getElem?_eq_none_iff] at hx ⊢
     rw [← I.len]
     exact hx
   rw [this]
   rfl
 | some x =>
   rw [I.sum k x hx]
   simp only [Option.map_some]
   congr 1
   unfold subR addR
   simp
theorem fitTo_iff (nodes : List Res) (w : List Alloc) : ∀ K, fitTo nodes w K = true ↔ ∀ k, k < K → fitAt nodes w k = true
 | 0 => by simp [fitTo]
 | K + 1 => by
   simp only [fitTo, Bool.and_eq_true, fitTo_iff nodes w K]
   constructor
   · rintro ⟨h1, h2⟩ k hk
     rcases Nat.lt_or_ge k K with h | h
     · exact h1 k h
     · rw [show k = K by omega]; exact h2
   · exact fun h => ⟨fun k hk => h k (by omega), h K (by omega)⟩
theorem fit_take {nodes fr : List Res} {m : List (Int × Alloc)} {B : Nat} (I : LInv nodes fr m B) {a : Alloc} (hA : AlOk (nodes.length : Int) (a.job, a)) (h : mget a.job m = none) :
   fitTo nodes ((mset a.job a m).map (·.2)) nodes.length = (opAll subR fr a.need a.shares).all okR := by
 rw [Bool.eq_iff_iff, fitTo_iff, List.all_eq_true]
 have key : ∀ k x, fr[k]? = some x → (fitAt nodes ((mset a.job a m).map (·.2)) k = true ↔ okR (subR x (mulR a.need (onS a.shares k))) = true) := fun k x hx => by
   have hxo := I.ok x (List.mem_of_getElem? hx)
   have hd : posR (mulR a.need (onS a.shares k)) := hA.pos k
   unfold fitAt
   rw [I.sum k x hx, sum_put (mgetN h), okR_iff]
   rw [okR_iff] at hxo
   simp only [fitB, Bool.and_eq_true, decide_eq_true_eq]
   simp only [addR, subR, dA]
   unfold posR at hd
   omega
 constructor
 · intro hf y hy
   obtain ⟨k, hk⟩ := List.getElem?_of_mem hy
   rw [opAll_get, Option.map_eq_some_iff] at hk
   obtain ⟨x, hx, rfl⟩ := hk
   exact (key k x hx).1 (hf k (by have := (List.getElem?_eq_some_iff.1 hx).1; rw [← I.len]; exact this))
 · intro hf k hk
   have hx : fr[k]? = some (fr[k]'(by rw [I.len]; exact hk)) := List.getElem?_eq_getElem _
   refine (key k _ hx).2 (hf _ ?_)
   apply List.mem_of_getElem? (i := k)
   rw [opAll_get, hx]
   rfl
theorem mset_split {k : Int} {v : Alloc} : ∀ {m : List (Int × Alloc)}, AscM m → mget k m = none → ∃ i, i ≤ m.length ∧ mset k v m = m.take i ++ (k, v) :: m.drop i ∧ (∀ (j : Nat) (p : Int × Alloc), j < i → m[j]? = some p → p.1 < k) ∧ (∀ p : Int × Alloc, m[i]? = some p → ¬ p.1 < k)
 | [], _, _ => ⟨0, Nat.le_refl _, rfl, fun j p hj _ => by omega, fun p hp => by simp at hp⟩
 | q :: m, ha, h => by
   obtain ⟨g1, g2⟩ := List.pairwise_cons.1 ha
   have hq : q.1 ≠ k := mgetN h q (by simp)
   have hn : mget k m = none := by
     simp only [mget] at h
     rw [decide_eq_false hq] at h
     exact h
   simp only [mset]
   by_cases h1 : k < q.1
   · rw [decide_eq_true h1]
     exact ⟨0, Nat.zero_le _, rfl, fun j p hj _ => by omega, fun p hp => by simp at hp; subst hp; omega⟩
   · rw [decide_eq_false h1, decide_eq_false hq]
     obtain ⟨i, hi, he, h2, h3⟩ := mset_split (v := v) g2 hn
     refine ⟨i + 1, by simp; omega, by simp [he], fun j p hj hp => ?_, fun p hp => h3 p (by simpa using hp)⟩
     cases j with
     | zero => simp at hp; subst hp; omega
     | succ j => exact h2 j p (by omega) (by simpa using hp)
theorem r_TakeL {nodes fr : List Res} {m : List (Int × Alloc)} {B : Nat} (I : LInv nodes fr m B) (hB : B ≤ 900) {a : Alloc} (hf : a.shares.length ≤ 40) :
   f53 nodes (m.map (·.2)) a = some ((takeL a fr m).2.2.map (·.2), (takeL a fr m).1, ()) := by
 have hm := I.cnt
 have hnn := I.nn
 have hfl := I.len
 have hk : ∀ p ∈ m, p.2.job = p.1 := fun p hp => (I.al p hp).key
 unfold f53 F53 takeL
 cases ht : takeB (fr.length : Int) a with
 | false =>
   unfold takeB at ht
   by_cases h1 : a.job < 1
   · rw [decide_eq_true h1]; rfl
   rw [decide_eq_false h1]
   rw [decide_eq_true (show 1 ≤ a.job by omega)] at ht
   simp only [cond_false, Bool.true_and] at ht ⊢
   by_cases h2 : 1048576 < a.job
   · rw [decide_eq_true h2]; rfl
   rw [decide_eq_false h2]
   rw [decide_eq_true (show a.job ≤ 1048576 by omega)] at ht
   simp only [cond_false, Bool.true_and] at ht ⊢
   by_cases h3 : a.shares = []
   · rw [decide_eq_true (show ((a.shares.length : Int) = 0) by rw [h3]; rfl)]; rfl
   rw [decide_eq_false (show ¬ ((a.shares.length : Int) = 0) from fun h => h3 (List.eq_nil_of_length_eq_zero (by omega)))]
   rw [decide_eq_true h3] at ht
   simp only [cond_false, Bool.true_and] at ht ⊢
   rw [r_Right11 _ (by omega), ← hfl]
   simp only [Option.bind_some]
   cases h4 : shB (fr.length : Int) (-1) a.shares with
   | false => rfl
   | true =>
     rw [h4] at ht
     simp only [Bool.not_true, cond_false, Bool.true_and] at ht ⊢
     rw [r_vecRight]
     simp only [Option.bind_some]
     rw [resOk_okR, ht]
     rfl
 | true =>
   have hA := takeB_ok ht hf
   rw [hfl] at hA
   have a1 := hA.lo
   have a2 := hA.hi
   simp only at a1 a2
   rw [decide_eq_false (show ¬ a.job < 1 by omega), decide_eq_false (show ¬ 1048576 < a.job by omega), decide_eq_false (show ¬ ((a.shares.length : Int) = 0) from fun h => hA.some (List.eq_nil_of_length_eq_zero (by simp only; omega))),
     r_Right11 _ (by omega), show shB (nodes.length : Int) (-1) a.shares = true from hA.sh]
   simp only [cond_false, Option.bind_some, Bool.not_true]
   rw [r_vecRight]
   simp only [Option.bind_some]
   rw [resOk_okR, show okR a.need = true from hA.need]
   simp only [Bool.not_true, cond_false, cond_true]
   cases h : mget a.job m with
   | some b =>
     obtain ⟨i, hi, hfi⟩ := r_FindS I.asc hk (by omega) h
     rw [hfi]
     simp only [Option.bind_some]
     rw [decide_eq_true (show (0 : Int) ≤ (i : Int) by omega)]
     rfl
   | none =>
     rw [r_FindN hk (by omega) h]
     simp only [Option.bind_some]
     rw [decide_eq_false (show ¬ ((0 : Int) ≤ -1) by omega)]
     simp only [cond_false, Option.isSome_none]
     obtain ⟨i, hi, he, hlt, hge⟩ := mset_split (v := a) I.asc h
     have hml : (m.map (·.2)).length = m.length := List.length_map ..
     have hA' : ∀ p ∈ mset a.job a m, AlOk (nodes.length : Int) p := fun p hp => by
       rcases mset_mem hp with rfl | hp
       · exact hA
       · exact I.al p hp
     have hset : ((m.map (·.2)).take i ++ [a]) ++ (m.map (·.2)).drop i = (mset a.job a m).map (·.2) := by
       rw [he]
       simp
     have hleft := r_LeftL hA' (by have := mset_len (k := a.job) (v := a) (m := m); omega) (show nodes.length ≤ 1000 by omega) I.nok
     rw [fit_take I hA h] at hleft
     have tail : ∀ {r : Option ((List Alloc) × (Int × Unit))}, (r = Option.bind (f54 nodes ((([] ++ ((m.map (·.2)).take i)) ++ [a]) ++ ((m.map (·.2)).drop i))) fun r11 => cond (!r11.2.1) (some (m.map (·.2), 20, ())) (some ((([] ++ ((m.map (·.2)).take i)) ++ [a]) ++ ((m.map (·.2)).drop i), 0, ()))) →
         r = some ((cond ((opAll subR fr a.need a.shares).all okR) (0, (opAll subR fr a.need a.shares, mset a.job a m)) (20, (fr, m)) : Int × (List Res × List (Int × Alloc))).2.2.map (·.2), (cond ((opAll subR fr a.need a.shares).all okR) (0, (opAll subR fr a.need a.shares, mset a.job a m)) (20, (fr, m)) : Int × (List Res × List (Int × Alloc))).1, ()) := fun hr => by
       rw [hr, List.nil_append, hset, hleft]
       simp only [Option.bind_some]
       cases (opAll subR fr a.need a.shares).all okR <;> rfl
     refine loop_run0 i (small_lt (by omega)) (fun j => ((((), (j : Int), ()), (a, ())) : ((Unit × (Int × Unit)) × (Alloc × Unit)))) _ (by simp) (fun j hj nx => ?_) (fun nx => ?_)
     · have hx : m[j]? = some m[j] := List.getElem?_eq_getElem (by omega)
       have hlt' := hlt j _ hj hx
       have hkj := hk _ (List.mem_of_getElem? hx)
       simp only [l53_0]
       rw [decide_eq_true (show (j : Int) < ((m.map (·.2)).length : Int) by omega), decide_eq_true (show (0 : Int) ≤ (j : Int) by omega), show Int.toNat (j : Int) = j by omega, val_at hx]
       simp only [cond_true, Option.bind_some]
       rw [decide_eq_true (show m[j].2.job < a.job by omega), wi (by omega) (by omega)]
       rfl
     · simp only [l53_0]
       have s1 : smallB ((m.map (·.2)).take i).length 64 = true := sm_ok (by rw [List.length_take]; omega)
       have s2 : smallB ((([] : List Alloc) ++ (m.map (·.2)).take i).length + 1) 64 = true := sm_ok (by rw [List.nil_append, List.length_take]; omega)
       have s3 : smallB (((([] : List Alloc) ++ (m.map (·.2)).take i) ++ [a]).length + ((m.map (·.2)).drop i).length) 64 = true := sm_ok (by simp only [List.nil_append, List.length_append, List.length_take, List.length_drop, List.length_singleton]; omega)
       by_cases hlast : i < m.length
       · have hx : m[i]? = some m[i] := List.getElem?_eq_getElem hlast
         have hge' := hge _ hx
         have hkj := hk _ (List.mem_of_getElem? hx)
         rw [decide_eq_true (show (i : Int) < ((m.map (·.2)).length : Int) by omega), decide_eq_true (show (0 : Int) ≤ (i : Int) by omega), show Int.toNat (i : Int) = i by omega, val_at hx]
         simp only [cond_true, Option.bind_some]
         rw [decide_eq_false (show ¬ m[i].2.job < a.job by omega), decide_eq_true (show i ≤ (m.map (·.2)).length by omega), s1, s2, s3]
         simp only [cond_true, cond_false]
         exact tail rfl
       · rw [decide_eq_false (show ¬ ((i : Int) < ((m.map (·.2)).length : Int)) by omega), decide_eq_true (show (0 : Int) ≤ (i : Int) by omega), show Int.toNat (i : Int) = i by omega]
         simp only [cond_true, cond_false]
         rw [decide_eq_true (show i ≤ (m.map (·.2)).length by omega), s1, s2, s3]
         simp only [cond_true, cond_false]
         exact tail rfl
end NM
end Go.Proofs.Ytfelhbeiegppgaa
end
section
namespace Go.Proofs.Ytfelhbeiegppgaa
namespace NM
open AM
theorem p_SameS (l : List Share) (hl : l.length ≤ 1000) : f82 l l = some true := by
 unfold f82 F82
 rw [decide_eq_true rfl]
 simp only [Bool.not_true, cond_false]
 refine loop_run0 l.length (small_lt (by omega)) (fun i => ((((i : Int), ()), ()) : ((Int × Unit) × Unit))) _ (by simp) (fun i hi next => ?_) (fun next => ?_)
 · have hx : l[i]? = some l[i] := List.getElem?_eq_getElem hi
   simp only [l82_0]
   rw [decide_eq_true (show (i : Int) < (l.length : Int) by omega), decide_eq_true (show (0 : Int) ≤ (i : Int) by omega), show Int.toNat (i : Int) = i by omega, hx, wi (by omega) (by omega)]
   simp only [cond_true, Option.bind_some, decide_true, Bool.and_self, Bool.not_true, cond_false]
   rfl
 · simp only [l82_0]
   rw [decide_eq_false (by omega)]
   rfl
theorem p_SameA (l : List Alloc) (hl : l.length ≤ 1000) (hs : ∀ a ∈ l, a.shares.length ≤ 1000) : f56 l l = some true := by
 unfold f56 F56
 rw [decide_eq_true rfl]
 simp only [Bool.not_true, cond_false]
 refine loop_run0 l.length (small_lt (by omega)) (fun i => ((((i : Int), ()), ()) : ((Int × Unit) × Unit))) _ (by simp) (fun i hi next => ?_) (fun next => ?_)
 · have hx : l[i]? = some l[i] := List.getElem?_eq_getElem hi
   simp only [l56_0]
   rw [decide_eq_true (show (i : Int) < (l.length : Int) by omega), decide_eq_true (show (0 : Int) ≤ (i : Int) by omega), show Int.toNat (i : Int) = i by omega, hx, wi (by omega) (by omega)]
   simp only [cond_true, Option.bind_some, decide_true, Bool.and_self, Bool.not_true, cond_false]
   rw [p_SameS _ (hs _ (List.getElem_mem hi))]
   rfl
 · simp only [l56_0]
   rw [decide_eq_false (by omega)]
   rfl
theorem p_Vecs (l : List Res) (hl : l.length ≤ 1000) : f57 l l = some true := by
 unfold f57 F57
 rw [decide_eq_true rfl]
 simp only [Bool.not_true, cond_false]
 refine loop_run0 l.length (small_lt (by omega)) (fun i => ((((i : Int), ()), ()) : ((Int × Unit) × Unit))) _ (by simp) (fun i hi next => ?_) (fun next => ?_)
 · have hx : l[i]? = some l[i] := List.getElem?_eq_getElem hi
   simp only [l57_0]
   rw [decide_eq_true (show (i : Int) < (l.length : Int) by omega), decide_eq_true (show (0 : Int) ≤ (i : Int) by omega), show Int.toNat (i : Int) = i by omega, hx, wi (by omega) (by omega)]
   simp only [cond_true, Option.bind_some, decide_true, Bool.and_self, Bool.not_true, cond_false]
   rfl
 · simp only [l57_0]
   rw [decide_eq_false (by omega)]
   rfl
theorem p_OfL {nodes fr : List Res} {m : List (Int × Alloc)} {B : Nat} (I : LInv nodes fr m B) {job : Int} (hj : I64 job) : f26_1 job fr m = some (((mget job m).getD zMap, (mget job m).isSome, ()), ((fr, (), ()), m, ())) := by
 unfold f26_1 F26_1
 have hl : fM1 job m = some (((mget job m).getD zMap, ((mget job m).isSome, ())), (m, ())) := by
   show mlook1 zMap job m = _
   unfold mlook1
   rw [kOk_of hj.1 hj.2]
   rfl
 rw [hl]
 simp only [Option.bind_some]
 have hs : ((mget job m).getD zMap).shares.length ≤ 1000 := by
   cases h : mget job m with
   | none => simp
   | some a => have := (I.al _ (mget_mem h)).few; simp only [Option.getD_some] at this ⊢; omega
 rw [p_own _ hs]
 rfl
theorem p_CloneL {nodes fr : List Res} {m : List (Int × Alloc)} {B : Nat} (I : LInv nodes fr m B) : f27_1 fr m = some ((), ((fr, (), ()), m, (fr, (), ()), m, ())) := by
 have hn := I.nn
 have hl := I.len
 unfold f27_1 F27_1
 rw [p_CloneR fr (by omega)]
 have hc : f51 m = some ((), (m, (m, ()))) := rfl
 rw [Option.bind_some, hc]
 rfl
theorem p_alike {s : Spec} {fr : List Res} {m : List (Int × Alloc)} {B : Nat} (I : LInv s.nodes fr m B) (hB : B ≤ 900) {job : Int} (hj : I64 job) : f29 s (m.map (·.2)) job fr m = some (true, ((fr, (), ()), m, ())) := by
 have hm := I.cnt
 have hn := I.nn
 have hl := I.len
 have hk : ∀ p ∈ m, p.2.job = p.1 := fun p hp => (I.al p hp).key
 have hsh : ∀ a ∈ m.map (·.2), a.shares.length ≤ 1000 := fun a ha => by
   obtain ⟨p, hp, rfl⟩ := List.mem_map.1 ha
   have := (I.al p hp).few
   omega
 have hml : (m.map (·.2)).length = m.length := List.length_map ..
 have hend : Option.bind (f20_1 fr m) (fun r11 => Option.bind (f57 r11.1 fr) fun r12 => cond r12 (Option.bind (f21 r11.2.1.1 r11.2.2.1) fun r13 => Option.bind (f56 r13.1 (m.map (·.2))) fun r14 => some (r14, ((r13.2.1.1, (), ()), r13.2.2.1, ()))) (some (false, ((r11.2.1.1, (), ()), r11.2.2.1, ())))) = some (true, ((fr, (), ()), m, ())) := by
   rw [p_FreeL _ _ (by omega)]
   simp only [Option.bind_some]
   rw [p_Vecs _ (by omega)]
   simp only [Option.bind_some, cond_true]
   rw [p_AllL I (by omega)]
   simp only [Option.bind_some]
   rw [p_SameA _ (by omega) hsh]
   rfl
 unfold f29 F29
 rw [r_LeftL I.al (by omega) (by omega) I.nok, left_fr I]
 simp only [Option.bind_some]
 rw [p_OfL I hj]
 simp only [Option.bind_some]
 cases h : mget job m with
 | none =>
   rw [r_FindN hk (by omega) h]
   simp only [Option.bind_some, Option.isSome_none, cond_false]
   rw [decide_eq_false (show ¬ ((0 : Int) ≤ -1) by omega)]
   exact hend
 | some a =>
   obtain ⟨i, hi, hf⟩ := r_FindS I.asc hk (by omega) h
   have hil := (List.getElem?_eq_some_iff.1 hi).1
   rw [hf]
   simp only [Option.bind_some, Option.isSome_some, cond_true, Option.getD_some]
   have hcut : ((m.map (·.2)).take (i + 1)).drop i = [a] := by
     have hv := val_at hi
     rw [List.take_add_one, hv]
     exact List.drop_left' (by rw [List.length_take]; omega)
   rw [decide_eq_true (show (0 : Int) ≤ (i : Int) by omega), wi (show (-9223372036854775808 : Int) ≤ (i : Int) + 1 by omega) (by omega), decide_eq_true (show (0 : Int) ≤ (i : Int) + 1 by omega), show Int.toNat (i : Int) = i by omega, show Int.toNat ((i : Int) + 1) = i + 1 by omega,
     decide_eq_true (show i ≤ i + 1 by omega), decide_eq_true (show i + 1 ≤ (m.map (·.2)).length by omega)]
   simp only [cond_true, Bool.and_self, beq_self_eq_true, Bool.not_true, cond_false]
   rw [hcut, p_SameA [a] (by simp) (fun b hb => by simp at hb; subst hb; have := (I.al _ (mget_mem h)).few; simp only at this; omega)]
   exact hend
theorem p_run {s : Spec} (todo : List (Bool × Alloc)) (hl : todo.length ≤ 30) (hs : ∀ x ∈ todo, x.2.shares.length ≤ 40) (hj : ∀ x ∈ todo, I64 x.2.job) {fr : List Res} {m : List (Int × Alloc)} {B : Nat} (I : LInv s.nodes fr m B) (hB : B ≤ 100) :
   ∃ fr' m', LInv s.nodes fr' m' (B + todo.length) ∧ f28 s (m.map (·.2)) todo fr m = some ((m'.map (·.2), true, ()), ((fr', (), ()), m', ())) := by
 unfold f28 F28
 refine inv_loop (G := fun r => ∃ fr' m', LInv s.nodes fr' m' (B + todo.length) ∧ r = some ((m'.map (·.2), true, ()), ((fr', (), ()), m', ()))) (f := fun (s5 : ((Unit × ((List Alloc) × (Unit × (Int × Unit)))) × (((List Res) × (Unit × Unit)) × ((List (Int × Alloc)) × (Spec × Unit))))) nx6 => l28_0 f52 f18_1 f29 f53 f19_1 todo nx6 s5.1.2.1 s5.1.2.2.2.1 s5.2.1.1 s5.2.2.1 s5.2.2.2.1) todo.length (small_lt (by omega))
   (fun (b : List Res × List (Int × Alloc)) i => ((((), b.2.map (·.2), (), (i : Int), ()), ((b.1, (), ()), b.2, s, ())) : ((Unit × ((List Alloc) × (Unit × (Int × Unit)))) × (((List Res) × (Unit × Unit)) × ((List (Int × Alloc)) × (Spec × Unit))))))
   (fun b i => LInv s.nodes b.1 b.2 (B + i)) (fun b hb => ⟨_, ⟨b.1, b.2, hb, rfl⟩, fun nx => ?_⟩) (fun b i hi hb => .inl ?_) (fr, m) I
 · simp only [l28_0]
   rw [decide_eq_false (by omega)]
   rfl
 · have hx : todo[i]? = some todo[i] := List.getElem?_eq_getElem hi
   have hfew := hs todo[i] (List.getElem_mem hi)
   have hjob := hj todo[i] (List.getElem_mem hi)
   have hk : ∀ p ∈ b.2, p.2.job = p.1 := fun p hp => (hb.al p hp).key
   have hcnt := hb.cnt
   cases hg : todo[i].1 with
   | true =>
     have I' := inv_give hb (job := todo[i].2.job)
     refine ⟨(giveL todo[i].2.job b.1 b.2).2, I', fun nx => ?_⟩
     simp only [l28_0]
     rw [decide_eq_true (show (i : Int) < (todo.length : Int) by omega), decide_eq_true (show (0 : Int) ≤ (i : Int) by omega), show Int.toNat (i : Int) = i by omega, hx]
     simp only [cond_true, Option.bind_some, hg]
     rw [r_GiveL hb.asc hk (by omega) b.1, p_GiveL hb (by omega) hjob]
     simp only [Option.bind_some, decide_true, Bool.not_true, cond_false]
     rw [p_alike I' (by omega) hjob, wi (by omega) (by omega)]
     rfl
   | false =>
     have I' := inv_take hb hfew
     refine ⟨(takeL todo[i].2 b.1 b.2).2, I', fun nx => ?_⟩
     simp only [l28_0]
     rw [decide_eq_true (show (i : Int) < (todo.length : Int) by omega), decide_eq_true (show (0 : Int) ≤ (i : Int) by omega), show Int.toNat (i : Int) = i by omega, hx]
     simp only [cond_true, cond_false, Option.bind_some, hg]
     rw [r_TakeL hb (by omega) hfew, p_TakeL hb (by omega) hfew]
     simp only [Option.bind_some, decide_true, Bool.not_true, cond_false]
     rw [p_alike I' (by omega) hjob, wi (by omega) (by omega)]
     rfl
theorem law_LedgerDoes (s : Spec) (a b : List (Bool × Alloc)) (hs : Rng.P s) (ha : ∀ x ∈ a, I64 x.2.job) (hb : ∀ x ∈ b, I64 x.2.job) : f5 s a b = some true := by
 unfold f5 F5
 rw [awake14]
 have n1 : f26 1 = some (Alloc.mk 0 (Res.mk 0 0 0 0) [], false, ()) := rfl
 have n2 : f19 (Alloc.mk 0 (Res.mk 0 0 0 0) []) = some 1 := rfl
 have n3 : f18 1 = some 1 := rfl
 have n4 : f20 = some [] := rfl
 have n5 : f21_1 = some [] := rfl
 have n6 : f27 = some () := rfl
 have n7 : decide ((0 : Int) < IntKind.wrap .i64 ((([] : List Res).length : Int) + (([] : List Alloc).length : Int))) = false := by decide
 simp only [Option.bind_some, Bool.not_true, cond_false, n1, n2, n3, n4, n5, n6, decide_true]
 rw [n7, r_Few s hs]
 simp only [Option.bind_some, cond_false]
 cases h1 : fewB s with
 | false => rfl
 | true =>
   simp only [Bool.not_true, cond_false]
   rw [p_Few14]
   simp only [Option.bind_some]
   cases h2 : fewD a with
   | false => rfl
   | true =>
     simp only [Bool.not_true, cond_false]
     rw [p_Few14]
     simp only [Option.bind_some]
     cases h3 : fewD b with
     | false => rfl
     | true =>
       simp only [Bool.not_true, cond_false]
       simp only [fewD, Bool.and_eq_true, decide_eq_true_eq, List.all_eq_true] at h2 h3
       cases h4 : specOk s with
       | false =>
         rw [p_NewN s hs h4]
         simp only [Option.bind_some, Sum.elim_inl]
         rw [r_Right s hs, h4]
         rfl
       | true =>
         rw [p_NewL s hs h4]
         simp only [Option.bind_some, Sum.elim_inr]
         rw [r_Right s hs, h4]
         simp only [Option.bind_some, decide_true, Bool.not_true, cond_false]
         obtain ⟨fr1, m1, I1, e1⟩ := p_run a h2.1 h2.2 ha (inv_new h4) (by omega)
         have e1 : f28 s [] a s.nodes [] = some ((m1.map (·.2), true, ()), ((fr1, (), ()), m1, ())) := e1
         rw [e1]
         simp only [Option.bind_some, Bool.not_true, cond_false]
         rw [p_CloneL I1]
         simp only [Option.bind_some]
         obtain ⟨fr2, m2, I2, e2⟩ := p_run b h3.1 h3.2 hb I1 (by omega)
         rw [e2]
         simp only [Option.bind_some, cond_true]
         rw [p_alike I1 (by omega) (job := 1) ⟨by omega, by omega⟩]
         simp only [Option.bind_some, cond_true]
         rw [p_alike I2 (by omega) (job := 1) ⟨by omega, by omega⟩]
         rfl
end NM
namespace ledgerDoes
open NM AM
theorem walk (x0 : Spec) (x1 x2 : List (Bool × Alloc)) (v0 v1 v2 : Value) (W : World) (h0 : V W (Lt W.heap.size) x0 v0) (h1 : V W (Lt W.heap.size) x1 v1) (h2 : V W (Lt W.heap.size) x2 v2) :
   Calls Try.prog 5 #[v0, v1, v2] W fun e w' => e = .returned (.bool true) ∧ Go.RowKit.Below W.heap.size W w' :=
 nlaw_walk NM.ok5 (x := (NEnc.f x0, NEnc.f x1, NEnc.f x2, ())) (law_LedgerDoes _ _ _ (Rng.ok h0.1) (fun y hy => by
   obtain ⟨x, hx, rfl⟩ := List.mem_map.1 (show y ∈ List.map _ x1 from hy)
   exact ((Rng.ok h1.1).2 x hx).2.1) (fun y hy => by
   obtain ⟨x, hx, rfl⟩ := List.mem_map.1 (show y ∈ List.map _ x2 from hy)
   exact ((Rng.ok h2.1).2 x hx).2.1)) (arg_cons x0 (arg_cons x1 (arg_cons x2 arg_nil))) rfl (fun j a v ha hv => by
   match j with
   | 0 => simp at ha hv; subst ha; subst hv; exact h0.vr (fun _ h => h) _
   | 1 => simp at ha hv; subst ha; subst hv; exact h1.vr (fun _ h => h) _
   | 2 => simp at ha hv; subst ha; subst hv; exact h2.vr (fun _ h => h) _)
end ledgerDoes
end Go.Proofs.Ytfelhbeiegppgaa
end
section
namespace Go.Proofs.Ytfelhbeiegppgaa.ledgerDoes
open Go.ChangeShapes Go.WideShapes Go.ChangeAt Go.RowKit
theorem own : ownKnob Try.prog.godebug = none := by kernel_rfl
theorem laidOut : laidOutB Try.prog = true := by kernel_rfl
set_option maxRecDepth 100000 in
theorem lifted (os : Os) (started : os.Started) (H : Type) (enc : TypeId × Value → H) :
   ReturnsInHanded {} Try.checked os 5 .any (Rows.ledgerDoesSpec.pre6 enc Try.prog Try.f5 Rows.ledgerDoesRow.domain false) (Rows.ledgerDoesSpec.post enc Try.prog Try.f5 false true false false) := by
 refine returnsInHanded_of_change (C := Try.checked) own started (by kernel_rfl) Try.func5
   (ChangeSpec.witness6 (enc := enc) (C := Try.checked) false ⟨#[], #[.agg #[.slice none 0 0, .slice none 0 0, .slice none 0 0, .int .i64 0, .int .i64 0, .int .i64 0, .int .i64 0, .int .i64 0, .int .i64 0, .int .i64 0, .int .i64 0, .int .i64 0, .int .i64 0, .int .i64 0, .int .i64 0, .int .i64 0, .int .i64 0, .int .i64 0], .slice none 0 0, .slice none 0 0], []⟩ 8 (by kernel_rfl) (by kernel_rfl) (by kernel_rfl) (by kernel_rfl)) ?_
 intro W base args ds gs before hval0 hW _ _
 have hval : ∀ (j : Nat) t v, Try.f5.params[j]? = some t → args[j]? = some v → Value.okWide Try.prog W .any base t v := hval0
 have hW' := hW
 obtain ⟨p, q, hA0, hV, rfl, hfz, hnd⟩ := hW
 have hA : DataW.TrodAll enc Try.prog W 0 (fun _ => true) true Try.f5.params.toList args.toList ds p := hA0
 rw [Try.params5] at hA hval
 obtain ⟨v0, vs0, d0, ds0, p0, q0, hargs, rfl, rfl, h0, r0⟩ := trodAll_cons hA
 obtain ⟨v1, vs1, d1, ds1, p1, q1, rfl, rfl, rfl, h1, r1⟩ := trodAll_cons r0
 obtain ⟨v2, vs2, d2, ds2, p2, q2, rfl, rfl, rfl, h2, r2⟩ := trodAll_cons r1
 obtain ⟨rfl, rfl, rfl⟩ := trodAll_nil r2
 obtain rfl : args = #[v0, v1, v2] := by cases args; simp_all
 obtain ⟨rfl, rfl⟩ := trodVars_none hV
 have lt0 : ∀ x ∈ p0, x.block < W.heap.size := by obtain ⟨m, hm⟩ := h0; exact DataW.trod_lt m _ _ _ hm
 obtain ⟨x0, a0⟩ : ∃ x : Spec, V W (Lt W.heap.size) x v0 := arg_of rd_Spec h0 (agg_struct Try.underlying48 (hval 0 48 v0 rfl rfl))
 have lt1 : ∀ x ∈ p1, x.block < W.heap.size := by obtain ⟨m, hm⟩ := h1; exact DataW.trod_lt m _ _ _ hm
 obtain ⟨x1, a1⟩ : ∃ x : (List (Bool × Alloc)), V W (Lt W.heap.size) x v1 := arg_of (rd_slice Try.underlying49 (by kernel_rfl) (rd_struct Try.underlying59 (by kernel_rfl) (RdF.cons (rd_bool Try.underlying4) rfl (by kernel_rfl) rfl (RdF.last rd_Alloc rfl (by kernel_rfl))))) h1 (agg_slice Try.underlying49 (hval 1 49 v1 rfl rfl))
 have lt2 : ∀ x ∈ p2, x.block < W.heap.size := by obtain ⟨m, hm⟩ := h2; exact DataW.trod_lt m _ _ _ hm
 obtain ⟨x2, a2⟩ : ∃ x : (List (Bool × Alloc)), V W (Lt W.heap.size) x v2 := arg_of (rd_slice Try.underlying49 (by kernel_rfl) (rd_struct Try.underlying59 (by kernel_rfl) (RdF.cons (rd_bool Try.underlying4) rfl (by kernel_rfl) rfl (RdF.last rd_Alloc rfl (by kernel_rfl))))) h2 (agg_slice Try.underlying49 (hval 2 49 v2 rfl rfl))
 clear hA0 hval0
 refine (walk x0 x1 x2 v0 v1 v2 W a0 a1 a2).mono fun e W' ⟨he, bel⟩ => ?_
 subst he
 exact ⟨_, rfl, _, _, _, [], _, [], hW', trodAll_mk1 (shut_bool Try.underlying4 _), (trodAll_cons_mk (Below.trod laidOut (by kernel_rfl) (of_decide_eq_true (by kernel_rfl)) h0 bel lt0) (trodAll_cons_mk (Below.trod laidOut (by kernel_rfl) (of_decide_eq_true (by kernel_rfl)) h1 bel lt1) (trodAll_cons_mk (Below.trod laidOut (by kernel_rfl) (of_decide_eq_true (by kernel_rfl)) h2 bel lt2) trodAll_mk0))), rfl, bel.frame _, fun h => by cases h⟩
theorem over : Rows.ledgerDoesRow.holds Try.pinned (OpenSpec.ofChange Rows.ledgerDoesSpec) :=
 OpenClaim.holds_of_wide 5 Try.f5 rfl rfl rfl rfl rfl rfl rfl ⟨rfl, rfl, rfl, rfl, rfl⟩ rfl rfl rfl rfl rfl (by kernel_rfl) Try.func5 (by kernel_rfl)
   (of_decide_eq_true (by kernel_rfl)) (by unfold Func.isWrapper; first | (rw [if_pos (by decide +kernel)]; kernel_rfl) | (rw [if_neg (by decide +kernel)]; exact ⟨rfl, rfl⟩))
   (fun os started H enc _ => lifted os started H enc)
theorem proved : Rows.LedgerDoesSaid :=
 over
end Go.Proofs.Ytfelhbeiegppgaa.ledgerDoes
end
