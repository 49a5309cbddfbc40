/-
  What the proof of LotSays leans on, part 23. (Many texts laid together by program.)
-/
import Derived.Test.YtpogjlhgbdpnbaaGreatDoorPkSv
set_option linter.unnecessarySimpa false
set_option linter.unusedSimpArgs false
set_option linter.unusedVariables false
section
namespace Go.Proofs.YtpogjlhgbdpnbaaGreatDoor
namespace NM
open AM
theorem LN_succ {σ ω : Type} (f : σ → (σ → Option ω) → Option ω) (s : σ) : LN LOOPS f s = f s (loopN f (LOOPS - 1)) := by
 show loopN f LOOPS s = _
 rw [show LOOPS = (LOOPS - 1) + 1 by unfold LOOPS; omega]
 rfl
theorem loop_one {σ ω : Type} (f : σ → (σ → Option ω) → Option ω) (s : σ) : loopN f (LOOPS - 1) s = f s (loopN f (LOOPS - 2)) := by
 rw [show LOOPS - 1 = (LOOPS - 2) + 1 by unfold LOOPS; omega]
 rfl
theorem loop_two {σ ω : Type} (f : σ → (σ → Option ω) → Option ω) (s : σ) : loopN f (LOOPS - 2) s = f s (loopN f (LOOPS - 3)) := by
 rw [show LOOPS - 2 = (LOOPS - 3) + 1 by unfold LOOPS; omega]
 rfl
def toI (l : List UInt8) : List Int := l.map fun c => (c.toNat : Int)
theorem bytes_toI : ∀ l : List UInt8, nbytes (toI l) = some l
 | [] => rfl
 | c :: l => by
   have ih := bytes_toI l
   unfold nbytes toI at *
   have hc := UInt8.toNat_lt c
   have h1 : nbyte (c.toNat : Int) = some c := by
     unfold nbyte
     rw [if_pos ⟨by omega, by omega⟩]
     simp
   simp only [List.map_cons, allOf, h1, ih]
def cutL (c : UInt8) : List UInt8 → List UInt8 × (List UInt8 × Bool)
 | [] => ([], ([], false))
 | x :: l => if x = c then ([], (l, true)) else (x :: (cutL c l).1, (cutL c l).2)
theorem cut_idx (c : UInt8) : ∀ s : List UInt8, ((cutL c s).2.2 = true ∧ Lib.indexByte s c = ((cutL c s).1.length : Int) ∧ s = (cutL c s).1 ++ c :: (cutL c s).2.1) ∨ ((cutL c s).2.2 = false ∧ Lib.indexByte s c = -1 ∧ (cutL c s).1 = s ∧ (cutL c s).2.1 = [])
 | [] => .inr ⟨rfl, rfl, rfl, rfl⟩
 | x :: l => by
   by_cases h : x = c
   · refine .inl ?_
     simp [cutL, h, Lib.indexByte]
   · have hb : (x == c) = false := by simp [h]
     rcases cut_idx c l with ⟨h1, h2, h3⟩ | ⟨h1, h2, h3, h4⟩
     · refine .inl ⟨by simp [cutL, h, h1], ?_, by simp only [cutL, h, if_false, List.cons_append]; rw [← h3]⟩
       simp only [cutL, h, if_false, Lib.indexByte, hb, Bool.false_eq_true]
       rw [h2, if_neg (by simp)]
       simp
     · refine .inr ⟨by simp [cutL, h, h1], ?_, by simp [cutL, h, h3], by simp [cutL, h, h4]⟩
       simp only [Lib.indexByte, hb, Bool.false_eq_true, if_false]
       rw [h2]
       try rfl
theorem cut_len (c : UInt8) (s : List UInt8) : (cutL c s).2.1.length ≤ s.length := by
 rcases cut_idx c s with ⟨_, _, h⟩ | ⟨_, _, _, h⟩
 · have := congrArg List.length h; simp at this; omega
 · rw [h]; simp
theorem p_Cut (s : List UInt8) (c : UInt8) (hs : s.length ≤ maxLen) : f49 s [c] = some ((cutL c s).1, (cutL c s).2.1, (cutL c s).2.2, ()) := by
 have hml : maxLen = 9223372036854775807 := rfl
 unfold f49 F49 f87 F87 f124
 simp only [strIdx, Option.bind_some, List.length_singleton]
 rcases cut_idx c s with ⟨h1, h2, h3⟩ | ⟨h1, h2, h3, h4⟩
 · have hl : s.length = (cutL c s).1.length + 1 + (cutL c s).2.1.length := by
     have := congrArg List.length h3; simp at this; omega
   have ew : IntKind.wrap .i64 (((cutL c s).1.length : Int) + ((1 : Nat) : Int)) = ((cutL c s).1.length : Int) + ((1 : Nat) : Int) := wi (by omega) (by omega)
   have e1 : Int.toNat ((cutL c s).1.length : Int) = (cutL c s).1.length := by omega
   have e2 : Int.toNat (((cutL c s).1.length : Int) + ((1 : Nat) : Int)) = (cutL c s).1.length + 1 := by omega
   have d1 : (0 : Int) ≤ ((cutL c s).1.length : Int) := by omega
   have d2 : (cutL c s).1.length ≤ s.length := by omega
   have d3 : (0 : Int) ≤ ((cutL c s).1.length : Int) + ((1 : Nat) : Int) := by omega
   have d4 : (cutL c s).1.length + 1 ≤ s.length := by omega
   simp only [h2, ew, e1, e2, d1, d2, d3, d4, decide_true, cond_true, Option.bind_some, h1]
   clear ew e1 e2 d1 d2 d3 d4 h1 h2 hl
   generalize cutL c s = p at *
   obtain ⟨a, b, e⟩ := p
   simp only at h3 ⊢
   subst h3
   simp
 · rw [h2, decide_eq_false (by omega)]
   simp only [cond_false, Option.bind_some, h1, h3, h4]
theorem cut_at (c : UInt8) : ∀ (a b : List UInt8), c ∉ a → cutL c (a ++ c :: b) = (a, (b, true))
 | [], b, _ => by simp [cutL]
 | x :: a, b, h => by
   have hx : ¬ x = c := fun e => h (by simp [e])
   have := cut_at c a b (fun hm => h (by simp [hm]))
   simp [cutL, hx, this]
theorem dec_small {n : Nat} (h : n < 10) : Lib.decDigits n = [UInt8.ofNat (48 + n)] := Lib.decDigits_one h
theorem dec_big {n : Nat} (h : ¬ n < 10) : Lib.decDigits n = Lib.decDigits (n / 10) ++ [UInt8.ofNat (48 + n % 10)] := by rw [Lib.decDigits, dif_neg h]
theorem dec_len : ∀ (k n : Nat), n < 10 ^ (k + 1) → (Lib.decDigits n).length ≤ k + 1
 | 0, n, h => by rw [dec_small (by simpa using h)]; simp
 | k + 1, n, h => by
   by_cases h0 : n < 10
   · rw [dec_small h0]; simp
   · rw [dec_big h0, List.length_append]
     have := dec_len k (n / 10) (by rw [Nat.pow_succ] at h; omega)
     simp
     omega
theorem dec_ne (n : Nat) : Lib.decDigits n ≠ [] := by
 by_cases h : n < 10
 · rw [dec_small h]; simp
 · rw [dec_big h]; simp
def digB (c : UInt8) : Prop := 48 ≤ c.toNat ∧ c.toNat ≤ 57
theorem dig_of {d : Nat} (h : d < 10) : digB (UInt8.ofNat (48 + d)) ∧ (UInt8.ofNat (48 + d)).toNat = 48 + d := by
 have : (UInt8.ofNat (48 + d)).toNat = 48 + d := by rw [UInt8.toNat_ofNat']; omega
 exact ⟨⟨by omega, by omega⟩, this⟩
theorem dec_dig (n : Nat) : ∀ c ∈ Lib.decDigits n, digB c := by
 induction n using Nat.strongRecOn with
 | _ n ih =>
   intro c hc
   by_cases h : n < 10
   · rw [dec_small h] at hc
     rw [List.mem_singleton.1 hc]
     exact (dig_of h).1
   · rw [dec_big h, List.mem_append] at hc
     rcases hc with hc | hc
     · exact ih (n / 10) (by omega) c hc
     · rw [List.mem_singleton.1 hc]
       exact (dig_of (by omega)).1
theorem num_fwd (n : Nat) : 1 ≤ n → n ≤ 1048576 → ∀ l, numGo (Lib.decDigits n ++ l) true 0 = numGo l false (n : Int) := by
 induction n using Nat.strongRecOn with
 | _ n ih =>
   intro h1 h2 l
   by_cases h : n < 10
   · rw [dec_small h]
     obtain ⟨h3, h4⟩ := dig_of h
     simp only [List.cons_append, List.nil_append, numGo, h4]
     rw [if_neg (by omega), if_neg (by omega), if_neg (by omega)]
     congr 1
     omega
   · rw [dec_big h, List.append_assoc, ih (n / 10) (by omega) (by omega) (by omega)]
     obtain ⟨h3, h4⟩ := dig_of (d := n % 10) (by omega)
     simp only [List.cons_append, List.nil_append, numGo, h4]
     rw [if_neg (by omega), if_neg (by simp), if_neg (by omega)]
     congr 1
     omega
theorem num_dec (n : Nat) (h1 : 1 ≤ n) (h2 : n ≤ 1048576) : numGo (Lib.decDigits n) true 0 = (n : Int) := by
 have := num_fwd n h1 h2 []
 rwa [List.append_nil] at this
theorem itoa_nat (n : Nat) : Lib.itoa (n : Int) = Lib.decDigits n := by
 unfold Lib.itoa
 rw [if_neg (by omega)]
 simp
theorem p_Itoa (n : Nat) (h : n ≤ 281474976710656) : f82 (n : Int) = some (Lib.decDigits n) := by
 unfold f82 itoaF
 rw [decide_eq_true (by omega), decide_eq_true (by omega), itoa_nat]
 rfl
theorem wu8 {x : Int} (h0 : 0 ≤ x) (h1 : x < 256) : IntKind.wrap .u8 x = x := by
 simp only [IntKind.wrap, IntKind.signed, IntKind.bits]
 exact Int.emod_eq_of_lt h0 (by omega)
theorem r_Digits (n : Nat) (h : n ≤ 281474976710656) : f77 (n : Int) = some (Lib.decDigits n) := by
 unfold f77 F77
 have p10 : ∀ k, k < 15 → (10 : Nat) ^ (15 - k) = 10 * 10 ^ (15 - (k + 1)) := fun k hk => by
   rw [show 15 - k = (15 - (k + 1)) + 1 by omega, Nat.pow_succ]; omega
 have key := loop_eq (ω := List UInt8) (f := fun (s1 : ((Int × ((List UInt8) × Unit)) × Unit)) nx2 => l77_0 nx2 s1.1.1 s1.1.2.1)
   (fun s => ∃ (m : Nat), s.1.1 = (m : Int) ∧ m ≤ 281474976710656 ∧ s.1.2.1.length ≤ 15 ∧ m < 10 ^ (15 - s.1.2.1.length))
   (fun s => s.1.1.toNat + (if s.1.2.1 = [] then 1 else 0))
   (fun s => some (if s.1.2.1 = [] ∨ 0 < s.1.1 then Lib.decDigits s.1.1.toNat ++ s.1.2.1 else s.1.2.1))
   (fun s next hI ih => by
     obtain ⟨⟨z, zs, u⟩, u'⟩ := s
     obtain ⟨m, hm, hk, hl, hp⟩ := hI
     simp only at hm hk hl hp ih ⊢
     subst hm
     have e1 : IntKind.wrap .u8 (IntKind.wrap .i64 (48 + Int.tmod (m : Int) 10)) = (((UInt8.ofNat (48 + m % 10)).toNat : Nat) : Int) := by
       rw [(dig_of (by omega)).2, Int.tmod_eq_emod_of_nonneg (by omega), wi (by omega) (by omega), wu8 (by omega) (by omega)]
       omega
     have e2 : IntKind.wrap .i64 (Int.tdiv (m : Int) 10) = ((m / 10 : Nat) : Int) := by
       rw [Int.tdiv_eq_ediv_of_nonneg (by omega), wi (by omega) (by omega)]
       omega
     have e3 : nbytes [(((UInt8.ofNat (48 + m % 10)).toNat : Nat) : Int)] = some [UInt8.ofNat (48 + m % 10)] := bytes_toI [UInt8.ofNat (48 + m % 10)]
     have hlen : ([UInt8.ofNat (48 + m % 10)] : List UInt8).length + zs.length ≤ 4294967296 := by simp; omega
     simp only [l77_0, e1, e2, e3, Option.bind_some, hlen, decide_true, cond_true]
     have hnext : (zs = [] ∨ 0 < (m : Int)) → (zs.length = 0 ∨ 0 < m) → next (((((m / 10 : Nat) : Int), [UInt8.ofNat (48 + m % 10)] ++ zs, ()), ())) = some (Lib.decDigits m ++ zs) := fun hz hz2 => by
       have hlt : zs.length < 15 := by
         rcases hz2 with h0 | h0
         · omega
         · apply Classical.byContradiction
           intro hn
           have : zs.length = 15 := by omega
           rw [this] at hp
           simp at hp
           omega
       rw [ih (((((m / 10 : Nat) : Int), [UInt8.ofNat (48 + m % 10)] ++ zs, ()), ())) ⟨m / 10, rfl, by omega, by simp only [List.length_append, List.length_singleton]; omega, by
         have := p10 zs.length hlt
         simp only [List.length_append, List.length_singleton]
         rw [show 1 + zs.length = zs.length + 1 by omega]
         omega⟩ (by
         have : ¬ ([UInt8.ofNat (48 + m % 10)] ++ zs = []) := by simp
         simp only [this, if_false]
         rcases hz with hz | hz
         · rw [if_pos hz]; omega
         · split <;> omega)]
       refine congrArg some ?_
       dsimp only
       by_cases h10 : m < 10
       · rw [if_neg (by simp; omega), dec_small h10, Nat.mod_eq_of_lt h10]
       · rw [if_pos (.inr (by omega)), show (((m / 10 : Nat) : Int)).toNat = m / 10 by omega, dec_big h10]
         simp
     by_cases hz : zs = []
     · subst hz
       simp only [decide_true, cond_true, true_or, if_true]
       exact hnext (.inl rfl) (.inl rfl)
     · rw [decide_eq_false hz]
       by_cases h0 : 0 < (m : Int)
       · rw [decide_eq_true h0, if_pos (.inr h0)]
         exact hnext (.inr h0) (.inr (by omega))
       · rw [decide_eq_false h0, if_neg (by rintro (h | h); exact hz h; exact h0 h)]
         rfl)
   (s := (((n : Int), ([] : List UInt8), ()), ())) ⟨n, rfl, h, by simp, by simp; omega⟩ (by
     have : ((n : Int)).toNat = n := by omega
     simp only [this, if_true]
     unfold LOOPS
     omega)
 rw [key]
 simp
theorem loop_run {σ ω : Type} {f : σ → (σ → Option ω) → Option ω} {r : Option ω} (n : Nat) (hn : n < LOOPS) (s : Nat → σ) (hs : ∀ i, i < n → ∀ next, f (s i) next = next (s (i + 1))) (hend : ∀ next, f (s n) next = r) : LN LOOPS f (s 0) = r := by
 have key : ∀ m i, i ≤ n → n - i < m → loopN f m (s i) = r := by
   intro m
   induction m with
   | zero => intro i _ h; omega
   | succ m ih =>
     intro i hi hm
     simp only [loopN]
     rcases Nat.lt_or_ge i n with h | h
     · rw [hs i h]
       exact ih (i + 1) h (by omega)
     · have : i = n := by omega
       subst this
       exact hend _
 exact key LOOPS 0 (Nat.zero_le _) (by omega)
theorem four_lt : 4 < LOOPS := by unfold LOOPS; omega
def wd : Nat → List UInt8
 | 0 => [99, 112, 117]
 | 1 => [109, 101, 109]
 | 2 => [103, 112, 117]
 | _ => [108, 105, 99]
def item (k n : Nat) : List UInt8 := wd k ++ 61 :: Lib.decDigits n
def itemsF (r : Nat → Nat) : Nat → List (List UInt8)
 | 0 => []
 | m + 1 => if r (3 - m) = 0 then itemsF r m else item (3 - m) (r (3 - m)) :: itemsF r m
def resF (r : Nat → Nat) : Res := Res.mk (r 0) (r 1) (r 2) (r 3)
def noneB : List UInt8 := [110, 111, 110, 101]
def txtU (r : Nat → Nat) : List UInt8 := if itemsF r 4 = [] then noneB else Lib.join (itemsF r 4) [44]
def Small4 (r : Nat → Nat) : Prop := ∀ j, j < 4 → r j ≤ 1048576
def preF (r : Nat → Nat) : Nat → List (List UInt8)
 | 0 => []
 | i + 1 => if r i = 0 then preF r i else preF r i ++ [item i (r i)]
theorem pre_len (r : Nat → Nat) : ∀ i, (preF r i).length ≤ i
 | 0 => Nat.le_refl _
 | i + 1 => by
   have := pre_len r i
   simp only [preF]
   split
   · omega
   · simp; omega
theorem pre_items (r : Nat → Nat) : preF r 4 = itemsF r 4 := by
 simp only [preF, itemsF, Nat.sub_self, show 3 - 0 = 3 from rfl, show 3 - 1 = 2 from rfl, show 3 - 2 = 1 from rfl]
 by_cases h0 : r 0 = 0 <;> by_cases h1 : r 1 = 0 <;> by_cases h2 : r 2 = 0 <;> by_cases h3 : r 3 = 0 <;> simp [h0, h1, h2, h3]
theorem item_len (k n : Nat) (hn : n ≤ 1048576) : (item k n).length ≤ 11 ∧ (Lib.decDigits n).length ≤ 7 := by
 have := dec_len 6 n (by have : (10 : Nat) ^ 7 = 10000000 := by decide
                         omega)
 have hw : (wd k).length = 3 := by unfold wd; split <;> rfl
 simp only [item, List.length_append, List.length_cons, hw]
 omega
theorem join_snoc (sep x : List UInt8) : ∀ (l : List (List UInt8)), l ≠ [] → Lib.join (l ++ [x]) sep = Lib.join l sep ++ sep ++ x
 | [], h => absurd rfl h
 | y :: l, _ => by
   rw [List.cons_append, Lib.join_cons, Lib.join_cons]
   simp [Lib.joinTail]
theorem p_right (n : Int) : f69 n = some (decide (0 ≤ n ∧ n ≤ 1048576)) := by
 unfold f69 F69
 by_cases h : 0 ≤ n <;> simp [h]
def rightP (a : Res) : Prop := (0 ≤ a.cpu ∧ a.cpu ≤ 1048576) ∧ (0 ≤ a.mem ∧ a.mem ≤ 1048576) ∧ (0 ≤ a.gpu ∧ a.gpu ≤ 1048576) ∧ (0 ≤ a.lic ∧ a.lic ≤ 1048576)
instance (a : Res) : Decidable (rightP a) := by unfold rightP; infer_instance
theorem r_Right (a : Res) : f35 a = some (decide (rightP a)) := by
 unfold f35 F35 rightP
 simp only [p_right, Option.bind_some]
 by_cases h0 : 0 ≤ a.cpu ∧ a.cpu ≤ 1048576 <;> by_cases h1 : 0 ≤ a.mem ∧ a.mem ≤ 1048576 <;> by_cases h2 : 0 ≤ a.gpu ∧ a.gpu ≤ 1048576 <;> simp [h0, h1, h2]
theorem p_vRight (a : Res) : f59 a = some (decide (rightP a)) := by
 unfold f59 F59 f97 F97
 simp only [Option.bind_some]
 by_cases h0 : a.cpu < 0
 · rw [decide_eq_true h0, decide_eq_false (show ¬ rightP a by unfold rightP; omega)]; rfl
 by_cases h1 : 1048576 < a.cpu
 · rw [decide_eq_false h0, decide_eq_true h1, decide_eq_false (show ¬ rightP a by unfold rightP; omega)]; rfl
 by_cases h2 : a.mem < 0
 · rw [decide_eq_false h0, decide_eq_false h1, decide_eq_true h2, decide_eq_false (show ¬ rightP a by unfold rightP; omega)]; rfl
 by_cases h3 : 1048576 < a.mem
 · rw [decide_eq_false h0, decide_eq_false h1, decide_eq_false h2, decide_eq_true h3, decide_eq_false (show ¬ rightP a by unfold rightP; omega)]; rfl
 by_cases h4 : a.gpu < 0
 · rw [decide_eq_false h0, decide_eq_false h1, decide_eq_false h2, decide_eq_false h3, decide_eq_true h4, decide_eq_false (show ¬ rightP a by unfold rightP; omega)]; rfl
 by_cases h5 : 1048576 < a.gpu
 · rw [decide_eq_false h0, decide_eq_false h1, decide_eq_false h2, decide_eq_false h3, decide_eq_false h4, decide_eq_true h5, decide_eq_false (show ¬ rightP a by unfold rightP; omega)]; rfl
 by_cases h6 : a.lic < 0
 · rw [decide_eq_false h0, decide_eq_false h1, decide_eq_false h2, decide_eq_false h3, decide_eq_false h4, decide_eq_false h5, decide_eq_true h6, decide_eq_false (show ¬ rightP a by unfold rightP; omega)]; rfl
 by_cases h7 : 1048576 < a.lic
 · rw [decide_eq_false h0, decide_eq_false h1, decide_eq_false h2, decide_eq_false h3, decide_eq_false h4, decide_eq_false h5, decide_eq_false h6, decide_eq_true h7, decide_eq_false (show ¬ rightP a by unfold rightP; omega)]; rfl
 rw [decide_eq_false h0, decide_eq_false h1, decide_eq_false h2, decide_eq_false h3, decide_eq_false h4, decide_eq_false h5, decide_eq_false h6, decide_eq_false h7, decide_eq_true (show rightP a by unfold rightP; omega)]; rfl
theorem right_of (r : Nat → Nat) (h : Small4 r) : rightP (resF r) := by
 have h0 := h 0 (by omega); have h1 := h 1 (by omega); have h2 := h 2 (by omega); have h3 := h 3 (by omega)
 unfold rightP resF
 simp only
 omega
theorem p_Join (l : List (List UInt8)) (h0 : l ≠ []) (h1 : l.length ≤ 4) (h2 : ∀ x ∈ l, x.length ≤ 11) : f26 l [44] = some (Lib.join l [44]) := by
 unfold f26 joinF
 match l, h0 with
 | x :: l, _ =>
   have hlen := Lib.join_length x l [44]
   have hl : ∀ (l : List (List UInt8)), (∀ x ∈ l, x.length ≤ 11) → Lib.lens l ≤ 11 * l.length := by
     intro l
     induction l with
     | nil => intro _; simp [Lib.lens]
     | cons x l ih =>
       intro h
       have a1 := ih (fun y hy => h y (by simp [hy]))
       have a2 := h x (by simp)
       simp only [Lib.lens, List.map_cons, List.sum_cons, List.length_cons] at a1 ⊢
       omega
   have a3 := hl (x :: l) h2
   simp only [List.length_cons, List.length_singleton, List.length_nil, Nat.zero_add, Nat.one_mul] at hlen h1 a3
   simp only
   rw [decide_eq_true (by simp only [List.length_cons]; omega), decide_eq_true (by rw [hlen]; omega)]
   rfl
theorem items_len (r : Nat → Nat) (hr : Small4 r) : ∀ m, m ≤ 4 → ∀ x ∈ itemsF r m, x.length ≤ 11
 | 0, _, x, hx => by simp [itemsF] at hx
 | m + 1, hm, x, hx => by
   simp only [itemsF] at hx
   split at hx
   · exact items_len r hr m (by omega) x hx
   · rcases List.mem_cons.1 hx with rfl | hx
     · exact (item_len _ _ (hr _ (by omega))).1
     · exact items_len r hr m (by omega) x hx
theorem p_Text (r : Nat → Nat) (hr : Small4 r) : f46 (resF r) = some (txtU r, 0, ()) := by
 unfold f46 F46 f81 F81
 rw [p_vRight, decide_eq_true (right_of r hr)]
 simp only [Option.bind_some, Bool.not_true, cond_false]
 refine loop_run (f := fun (s3 : ((Unit × (Int × Unit)) × ((List (List UInt8)) × Unit))) nx4 => l46_0 f82 f26 (resF r) _ nx4 s3.1.2.1 s3.2.1) 4 four_lt (fun i => (((), (i : Int), ()), (preF r i, ()))) (fun i hi next => ?_) (fun next => ?_)
 · have hl := pre_len r i
   have hs : smallB ((preF r i).length + 1) 16 = true := by simp [smallB]; omega
   have hd := (item_len i (r i) (hr i hi)).2
   have hI := p_Itoa (r i) (Nat.le_trans (hr i hi) (by decide))
   have w1 : IntKind.wrap .i64 1 = 1 := rfl
   have w2 : IntKind.wrap .i64 2 = 2 := rfl
   have w3 : IntKind.wrap .i64 3 = 3 := rfl
   have w4 : IntKind.wrap .i64 4 = 4 := rfl
   have hd4 : 4 + (Lib.decDigits (r i)).length ≤ 4294967296 := by omega
   have hp : preF r (i + 1) = if r i = 0 then preF r i else preF r i ++ [item i (r i)] := rfl
   rw [hp]
   clear hp
   generalize preF r i = p at hl hs ⊢
   have hs1 : (p.length + 1) * 16 ≤ 1099511627776 := by omega
   have hs2 : p.length ≤ 4294967295 := by omega
   by_cases hz : r i = 0
   · rcases (show i = 0 ∨ i = 1 ∨ i = 2 ∨ i = 3 by omega) with rfl | rfl | rfl | rfl <;> simp [l46_0, resF, hz, w1, w2, w3, w4]
   · rcases (show i = 0 ∨ i = 1 ∨ i = 2 ∨ i = 3 by omega) with rfl | rfl | rfl | rfl <;> simp [l46_0, resF, hz, hs1, hs2, hI, item, wd, w1, w2, w3, w4, hd4]
 · have hl := pre_len r 4
   simp only [l46_0]
   rw [pre_items] at hl ⊢
   unfold txtU
   by_cases h0 : itemsF r 4 = []
   · rw [if_pos h0, h0]; rfl
   · rw [if_neg h0]
     have : ¬ ((itemsF r 4).length : Int) = 0 := fun h => h0 (List.length_eq_zero_iff.1 (by omega))
     rw [decide_eq_false (show ¬ ((4 : Nat) : Int) < 4 by omega), decide_eq_false this, p_Join _ h0 hl (items_len r hr 4 (Nat.le_refl _))]
     rfl
def strS (r : Nat → Nat) : Nat → List UInt8
 | 0 => []
 | i + 1 => if r i = 0 then strS r i else if strS r i = [] then item i (r i) else strS r i ++ 44 :: item i (r i)
theorem strS_len (r : Nat → Nat) (hr : Small4 r) : ∀ i, i ≤ 4 → (strS r i).length ≤ 12 * i
 | 0, _ => by simp [strS]
 | i + 1, hi => by
   have h1 := strS_len r hr i (by omega)
   have h2 := (item_len i (r i) (hr i (by omega))).1
   simp only [strS]
   split
   · omega
   · split
     · omega
     · simp only [List.length_append, List.length_cons]; omega
theorem strS_join (r : Nat → Nat) : ∀ i, strS r i = Lib.join (preF r i) [44] ∧ (preF r i = [] → strS r i = []) ∧ (preF r i ≠ [] → strS r i ≠ [])
 | 0 => ⟨rfl, fun _ => rfl, fun h => absurd rfl h⟩
 | i + 1 => by
   obtain ⟨h1, h2, h3⟩ := strS_join r i
   have hne : item i (r i) ≠ [] := by simp [item]
   simp only [strS, preF]
   by_cases hz : r i = 0
   · rw [if_pos hz, if_pos hz]; exact ⟨h1, h2, h3⟩
   · rw [if_neg hz, if_neg hz]
     by_cases hp : preF r i = []
     · rw [if_pos (h2 hp), hp]
       exact ⟨by rw [List.nil_append, Lib.join_one], fun h => by simp at h, fun _ => hne⟩
     · rw [if_neg (h3 hp), join_snoc _ _ _ hp, ← h1]
       refine ⟨by simp, fun h => by simp at h, fun _ => by simp⟩
theorem r_Text (r : Nat → Nat) (hr : Small4 r) : f51 (resF r) = some (txtU r) := by
 unfold f51 F51
 refine loop_run (f := fun (s1 : ((Unit × (Unit × ((List UInt8) × (Int × Unit)))) × ((List Int) × ((List (List UInt8)) × Unit)))) nx2 => l51_0 f77 nx2 s1.1.2.2.1 s1.1.2.2.2.1 s1.2.1 s1.2.2.1) 4 four_lt
   (fun i => (((), (), strS r i, (i : Int), ()), ([(r 0 : Int), (r 1 : Int), (r 2 : Int), (r 3 : Int)], [([99, 112, 117] : List UInt8), ([109, 101, 109] : List UInt8), ([103, 112, 117] : List UInt8), ([108, 105, 99] : List UInt8)], ()))) (fun i hi next => ?_) (fun next => ?_)
 · have hl := strS_len r hr i (by omega)
   have hd := (item_len i (r i) (hr i hi)).2
   have hI := r_Digits (r i) (Nat.le_trans (hr i hi) (by decide))
   have w1 : IntKind.wrap .i64 1 = 1 := rfl
   have w2 : IntKind.wrap .i64 2 = 2 := rfl
   have w3 : IntKind.wrap .i64 3 = 3 := rfl
   have w4 : IntKind.wrap .i64 4 = 4 := rfl
   have hp : strS r (i + 1) = if r i = 0 then strS r i else if strS r i = [] then item i (r i) else strS r i ++ 44 :: item i (r i) := rfl
   rw [hp]
   clear hp
   generalize strS r i = p at hl ⊢
   have b1 : p.length + 1 ≤ 4294967296 := by omega
   have b7 : p.length ≤ 4294967295 := by omega
   have b8 : p.length ≤ 4294967292 := by omega
   have b9 : p.length ≤ 4294967291 := by omega
   have b2 : p.length + 4 ≤ 4294967296 := by omega
   have b3 : p.length + 5 ≤ 4294967296 := by omega
   have b4 : p.length + (5 + (Lib.decDigits (r i)).length) ≤ 4294967296 := by omega
   have b5 : 4 + (Lib.decDigits (r i)).length ≤ 4294967296 := by omega
   have b6 : p.length + 5 + (Lib.decDigits (r i)).length ≤ 4294967296 := by omega
   by_cases hz : r i = 0
   · rcases (show i = 0 ∨ i = 1 ∨ i = 2 ∨ i = 3 by omega) with rfl | rfl | rfl | rfl <;> simp [l51_0, hz, w1, w2, w3, w4]
   · by_cases hp : p = []
     · subst hp
       rcases (show i = 0 ∨ i = 1 ∨ i = 2 ∨ i = 3 by omega) with rfl | rfl | rfl | rfl <;> simp [l51_0, hz, hI, item, wd, w1, w2, w3, w4, b5]
     · rcases (show i = 0 ∨ i = 1 ∨ i = 2 ∨ i = 3 by omega) with rfl | rfl | rfl | rfl <;> simp [l51_0, hz, hp, hI, item, wd, w1, w2, w3, w4, b1, b2, b3, b4, b6, b7, b8, b9]
 · obtain ⟨h1, h2, h3⟩ := strS_join r 4
   rw [pre_items] at h1 h2 h3
   simp only [l51_0]
   rw [decide_eq_false (show ¬ ((4 : Nat) : Int) < 4 by omega)]
   unfold txtU
   by_cases h0 : itemsF r 4 = []
   · rw [if_pos h0, h2 h0]; rfl
   · rw [if_neg h0, decide_eq_false (h3 h0), h1]; rfl
theorem cut_none (c : UInt8) : ∀ a : List UInt8, c ∉ a → cutL c a = (a, ([], false))
 | [], _ => rfl
 | x :: a, h => by
   have hx : ¬ x = c := fun e => h (by simp [e])
   have := cut_none c a (fun hm => h (by simp [hm]))
   simp [cutL, hx, this]
theorem cut_len1 (c : UInt8) (s : List UInt8) : (cutL c s).1.length ≤ s.length := by
 rcases cut_idx c s with ⟨_, _, h⟩ | ⟨_, _, h, _⟩
 · have := congrArg List.length h; simp at this; omega
 · rw [h]; exact Nat.le_refl _
theorem wd_inj : ∀ i j : Fin 4, wd i.val = wd j.val → i = j := by decide
theorem wd_no : ∀ i : Fin 4, (61 : UInt8) ∉ wd i.val ∧ (44 : UInt8) ∉ wd i.val := by decide
theorem zero_items (r : Nat → Nat) : ∀ m, m ≤ 4 → itemsF r m = [] → ∀ j, 4 - m ≤ j → j < 4 → r j = 0
 | 0, _, _, j, h1, h2 => by omega
 | m + 1, hm, h, j, h1, h2 => by
   simp only [itemsF] at h
   split at h
   · rename_i hz
     by_cases hj : j = 3 - m
     · rw [hj]; exact hz
     · exact zero_items r m (by omega) h j (by omega) h2
   · cases h
theorem items_at (r : Nat → Nat) (i : Nat) (hi : i < 4) (hr : r i ≠ 0) : ∀ d k, k + d = i → (∀ j, k ≤ j → j < i → r j = 0) → itemsF r (4 - k) = item i (r i) :: itemsF r (3 - i)
 | 0, k, hk, _ => by
   have : k = i := by omega
   subst this
   rw [show 4 - k = (3 - k) + 1 by omega]
   simp only [itemsF]
   rw [show 3 - (3 - k) = k by omega, if_neg hr]
 | d + 1, k, hk, h => by
   rw [show 4 - k = (3 - k) + 1 by omega]
   simp only [itemsF]
   rw [show 3 - (3 - k) = k by omega, if_pos (h k (by omega) (by omega)), show 3 - k = 4 - (k + 1) by omega]
   exact items_at r i hi hr d (k + 1) (by omega) fun j h1 h2 => h j (by omega) h2
theorem join_two (x : List UInt8) (l : List (List UInt8)) (h : l ≠ []) : Lib.join (x :: l) [44] = x ++ 44 :: Lib.join l [44] := by
 match l, h with
 | y :: l, _ =>
   rw [Lib.join_cons, Lib.join_cons]
   simp [Lib.joinTail]
def words4 : List (List UInt8) := [([99, 112, 117] : List UInt8), ([109, 101, 109] : List UInt8), ([103, 112, 117] : List UInt8), ([108, 105, 99] : List UInt8)]
theorem words_at (k : Nat) (hk : k < 4) : words4[k]? = some (wd k) := by
 rcases (show k = 0 ∨ k = 1 ∨ k = 2 ∨ k = 3 by omega) with rfl | rfl | rfl | rfl <;> rfl
theorem p_find (k : Nat) (hk : k ≤ 4) (word : List UInt8) :
   (∃ i, k ≤ i ∧ i < 4 ∧ word = wd i ∧ f125 words4 (k : Int) word = some (i : Int)) ∨ ((∀ i, k ≤ i → i < 4 → word ≠ wd i) ∧ f125 words4 (k : Int) word = some (-1)) := by
 unfold f125 F125
 have key : ∀ n k, k ≤ 4 → 4 - k < n → (∃ i, k ≤ i ∧ i < 4 ∧ word = wd i ∧ loopN (fun (s3 : ((Int × Unit) × Unit)) nx4 => l125_0 words4 word nx4 s3.1.1) n ((((k : Nat) : Int), ()), ()) = some (i : Int)) ∨ ((∀ i, k ≤ i → i < 4 → word ≠ wd i) ∧ loopN (fun (s3 : ((Int × Unit) × Unit)) nx4 => l125_0 words4 word nx4 s3.1.1) n ((((k : Nat) : Int), ()), ()) = some (-1)) := by
   intro n
   induction n with
   | zero => intro k _ h; omega
   | succ n ih =>
     intro k hk h
     simp only [loopN, l125_0]
     have hl : words4.length = 4 := rfl
     rw [hl]
     rcases Nat.lt_or_ge k 4 with h4 | h4
     · rw [decide_eq_true (show ((k : Nat) : Int) < ((4 : Nat) : Int) by omega), decide_eq_true (show (0 : Int) ≤ (k : Int) by omega), show Int.toNat ((k : Nat) : Int) = k by omega, words_at k h4]
       simp only [cond_true, Option.bind_some]
       by_cases hw : wd k = word
       · refine .inl ⟨k, Nat.le_refl _, h4, hw.symm, ?_⟩
         rw [decide_eq_true hw]
         rfl
       · rw [decide_eq_false hw, wi (by omega) (by omega)]
         simp only [cond_false]
         rcases ih (k + 1) (by omega) (by omega) with ⟨i, h1, h2, h3, h5⟩ | ⟨h1, h2⟩
         · exact .inl ⟨i, by omega, h2, h3, h5⟩
         · refine .inr ⟨fun i h3 h5 => ?_, h2⟩
           by_cases e : i = k
           · subst e; exact fun e => hw e.symm
           · exact h1 i (by omega) h5
     · rw [decide_eq_false (show ¬ ((k : Nat) : Int) < ((4 : Nat) : Int) by omega)]
       exact .inr ⟨fun i h1 h2 => by omega, rfl⟩
 exact key LOOPS k hk (by unfold LOOPS; omega)
def tupF (v : Nat → Nat) : Int × (Int × (Int × Int)) := ((v 0 : Int), ((v 1 : Int), ((v 2 : Int), (v 3 : Int))))
def updF (v : Nat → Nat) (i n : Nat) : Nat → Nat := fun j => if j = i then n else v j
abbrev StU := (((List UInt8) × (Unit × (Unit × (Int × (Bool × Unit))))) × (Res × ((Int × (Int × (Int × Int))) × Unit)))
def stU (zs : List UInt8) (k : Nat) (more : Bool) (v : Nat → Nat) : StU := ((zs, (), (), (k : Int), more, ()), (Res.mk 0 0 0 0, (tupF v, ())))
def stepU : StU → (StU → Option (Res × (Int × Unit))) → Option (Res × (Int × Unit)) := fun s2 nx3 => l88_0 f49 f125 f126 words4 nx3 s2.1.1 s2.1.2.2.2.1 s2.1.2.2.2.2.1 s2.2.1 s2.2.2.1
def badU : Option (Res × (Int × Unit)) := some (Res.mk 0 0 0 0, 11, ())
theorem step_u (zs : List UInt8) (hz : zs.length ≤ 4294967296) (k : Nat) (hk : k ≤ 4) (v : Nat → Nat) (next) :
   (∃ i n, k ≤ i ∧ i < 4 ∧ 1 ≤ n ∧ (cutL 61 (cutL 44 zs).1).1 = wd i ∧ numGo (cutL 61 (cutL 44 zs).1).2.1 true 0 = ((n : Nat) : Int) ∧ stepU (stU zs k true v) next = next (stU (cutL 44 zs).2.1 (i + 1) (cutL 44 zs).2.2 (updF v i n))) ∨
   ((∀ i, k ≤ i → i < 4 → (cutL 61 (cutL 44 zs).1).1 = wd i → numGo (cutL 61 (cutL 44 zs).1).2.1 true 0 < 1) ∧ stepU (stU zs k true v) next = badU) := by
 have hm : maxLen = 9223372036854775807 := rfl
 have c1 := p_Cut zs 44 (by omega)
 have c2 := p_Cut (cutL 44 zs).1 61 (by have := cut_len1 44 zs; omega)
 simp only [stepU, stU, l88_0, cond_true, c1, c2, Option.bind_some]
 clear c1 c2
 generalize cutL 44 zs = c
 generalize cutL 61 c.1 = d
 have hn : f126 d.2.1 = some (numGo d.2.1 true 0) := rfl
 rw [hn]
 simp only [Option.bind_some]
 clear hn
 generalize numGo d.2.1 true 0 = m
 rcases p_find k hk d.1 with ⟨i, h1, h2, h3, h4⟩ | ⟨h1, h2⟩
 · rw [h4]
   simp only [Option.bind_some]
   rw [decide_eq_false (show ¬ (i : Int) < 0 by omega), wi (show -9223372036854775808 ≤ (i : Int) + 1 by omega) (by omega)]
   by_cases hm : m < 1
   · refine .inr ⟨fun _ _ _ _ => hm, ?_⟩
     rw [decide_eq_true hm]
     rfl
   · refine .inl ⟨i, m.toNat, h1, h2, by omega, h3, by omega, ?_⟩
     rw [decide_eq_false hm]
     have e : ((m.toNat : Nat) : Int) = m := by omega
     rcases (show i = 0 ∨ i = 1 ∨ i = 2 ∨ i = 3 by omega) with rfl | rfl | rfl | rfl <;> simp [updF, tupF, e]
 · refine .inr ⟨fun i h3 h4 h5 => absurd h5 (h1 i h3 h4), ?_⟩
   rw [h2]
   rfl
theorem first_nz (r : Nat → Nat) : ∀ d k, k + d = 4 → itemsF r (4 - k) ≠ [] → ∃ i, k ≤ i ∧ i < 4 ∧ r i ≠ 0 ∧ ∀ j, k ≤ j → j < i → r j = 0
 | 0, k, hk, h => by
   have : k = 4 := by omega
   subst this
   exact absurd rfl h
 | d + 1, k, hk, h => by
   by_cases h0 : r k = 0
   · have hi : itemsF r (4 - k) = itemsF r (4 - (k + 1)) := by
       rw [show 4 - k = (4 - (k + 1)) + 1 by omega]
       simp only [itemsF]
       rw [show 3 - (4 - (k + 1)) = k by omega, if_pos h0]
     obtain ⟨i, h1, h2, h3, h4⟩ := first_nz r d (k + 1) (by omega) (by rw [← hi]; exact h)
     refine ⟨i, by omega, h2, h3, fun j h5 h6 => ?_⟩
     by_cases e : j = k
     · rw [e]; exact h0
     · exact h4 j (by omega) h6
   · exact ⟨k, Nat.le_refl _, by omega, h0, fun j h1 h2 => by omega⟩
theorem dig_no (n : Nat) : (44 : UInt8) ∉ Lib.decDigits n := fun h => by
 have := dec_dig n _ h
 exact absurd this.1 (by decide)
theorem wd_no' (i : Nat) (hi : i < 4) : (61 : UInt8) ∉ wd i ∧ (44 : UInt8) ∉ wd i := wd_no ⟨i, hi⟩
theorem wd_inj' (i j : Nat) (hi : i < 4) (hj : j < 4) (h : wd i = wd j) : i = j := congrArg Fin.val (wd_inj ⟨i, hi⟩ ⟨j, hj⟩ h)
theorem item_no (i n : Nat) (hi : i < 4) : (44 : UInt8) ∉ item i n := fun h => by
 simp only [item, List.mem_append, List.mem_cons] at h
 rcases h with h | h | h
 · exact (wd_no' i hi).2 h
 · exact absurd h (by decide)
 · exact dig_no n h
theorem item_cut (i n : Nat) (hi : i < 4) : cutL 61 (item i n) = (wd i, (Lib.decDigits n, true)) := cut_at 61 _ _ (wd_no' i hi).1
theorem read_fwd (r : Nat → Nat) (hr : Small4 r) : ∀ n k v, k ≤ 4 → 4 - k < n → (∀ j, j < k → v j = r j) → (∀ j, k ≤ j → v j = 0) → itemsF r (4 - k) ≠ [] → (Lib.join (itemsF r (4 - k)) [44]).length ≤ 4294967296 →
   loopN stepU (n + 1) (stU (Lib.join (itemsF r (4 - k)) [44]) k true v) = some (resF r, 0, ())
 | 0, k, v, hk, hn, _, _, _, _ => by omega
 | n + 1, k, v, hk, hn, hv, hz, hne, hlen => by
   obtain ⟨i, h1, h2, h3, h4⟩ := first_nz r (4 - k) k (by omega) hne
   have hit := items_at r i h2 h3 (i - k) k (by omega) h4
   have hsame : ∀ j, j < i + 1 → updF v i (r i) j = r j := fun j hj => by
     unfold updF
     split
     · rename_i e; rw [e]
     · rcases Nat.lt_or_ge j k with h | h
       · exact hv j h
       · rw [hz j h, h4 j h (by omega)]
   have hzero : ∀ j, i + 1 ≤ j → updF v i (r i) j = 0 := fun j hj => by
     unfold updF
     rw [if_neg (by omega)]
     exact hz j (by omega)
   have hgo : ∀ rest more, cutL 44 (Lib.join (itemsF r (4 - k)) [44]) = (item i (r i), (rest, more)) →
       loopN stepU (n + 1 + 1) (stU (Lib.join (itemsF r (4 - k)) [44]) k true v) = loopN stepU (n + 1) (stU rest (i + 1) more (updF v i (r i))) := by
     intro rest more hc
     rcases step_u (Lib.join (itemsF r (4 - k)) [44]) hlen k hk v (loopN stepU (n + 1)) with ⟨i', n', g1, g2, g3, g4, g5, g6⟩ | ⟨g1, g2⟩
     · rw [hc] at g4 g5 g6
       rw [item_cut i _ h2] at g4 g5
       have e := wd_inj' i i' h2 g2 g4
       subst e
       rw [num_dec _ (by omega) (hr i h2)] at g5
       have : n' = r i := by omega
       subst this
       exact g6
     · have := g1 i h1 h2
       rw [hc, item_cut i _ h2] at this
       have := this rfl
       rw [num_dec _ (by omega) (hr i h2)] at this
       omega
   by_cases hrest : itemsF r (3 - i) = []
   · rw [hgo [] false (by rw [hit, hrest, Lib.join_one, cut_none _ _ (item_no i _ h2)])]
     show some (resF _, 0, ()) = _
     have hz2 := zero_items r (3 - i) (by omega) hrest
     have hall : ∀ j, j < 4 → updF v i (r i) j = r j := fun j hj => by
       rcases Nat.lt_or_ge j (i + 1) with h | h
       · exact hsame j h
       · rw [hzero j h, hz2 j (by omega) hj]
     unfold resF
     rw [hall 0 (by omega), hall 1 (by omega), hall 2 (by omega), hall 3 (by omega)]
   · have hj : Lib.join (itemsF r (4 - k)) [44] = item i (r i) ++ 44 :: Lib.join (itemsF r (3 - i)) [44] := by rw [hit, join_two _ _ hrest]
     rw [hgo (Lib.join (itemsF r (3 - i)) [44]) true (by rw [hj, cut_at _ _ _ (item_no i _ h2)])]
     have e : 3 - i = 4 - (i + 1) := by omega
     rw [e] at hrest hj ⊢
     refine read_fwd r hr n (i + 1) _ (by omega) (by omega) hsame hzero hrest ?_
     have := congrArg List.length hj
     simp only [List.length_append, List.length_cons] at this
     omega
theorem join_none (r : Nat → Nat) (h : itemsF r 4 ≠ []) : Lib.join (itemsF r 4) [44] ≠ noneB := fun e => by
 have h0 : (61 : UInt8) ∈ Lib.join (itemsF r 4) [44] := by
   obtain ⟨i, h1, h2, h3, h4⟩ := first_nz r 4 0 rfl h
   have hit := items_at r i h2 h3 i 0 (by omega) h4
   rw [hit, Lib.join_cons]
   simp [item]
 rw [e] at h0
 exact absurd h0 (by decide)
theorem txt_len (r : Nat → Nat) (hr : Small4 r) : (txtU r).length ≤ 48 := by
 unfold txtU
 split
 · simp [noneB]
 · have := strS_len r hr 4 (Nat.le_refl _)
   rw [(strS_join r 4).1, pre_items] at this
   exact this
theorem loops_one : LOOPS = (LOOPS - 1) + 1 := by unfold LOOPS; omega
theorem LN_one {σ ω : Type} (f : σ → (σ → Option ω) → Option ω) (s : σ) : LN LOOPS f s = loopN f (LOOPS - 1 + 1) s :=
 congrArg (fun n => loopN f n s) loops_one
theorem read_loop (s : List UInt8) (h : s ≠ noneB) : f88 s = loopN stepU (LOOPS - 1 + 1) (stU s 0 true (fun _ => 0)) := by
 unfold f88 F88
 rw [decide_eq_false (show ¬ s = ([110, 111, 110, 101] : List UInt8) from h), ← LN_one]
 have e : f81 = some words4 := rfl
 rw [e]
 simp only [cond_false, Option.bind_some]
 generalize LOOPS = m
 rfl
theorem p_Read_txt (r : Nat → Nat) (hr : Small4 r) : f88 (txtU r) = some (resF r, 0, ()) := by
 have hl := txt_len r hr
 unfold txtU at hl ⊢
 by_cases h : itemsF r 4 = []
 · rw [if_pos h]
   have hz := zero_items r 4 (Nat.le_refl _) h
   unfold resF
   rw [hz 0 (by omega) (by omega), hz 1 (by omega) (by omega), hz 2 (by omega) (by omega), hz 3 (by omega) (by omega)]
   rfl
 · rw [if_neg h] at hl ⊢
   rw [read_loop _ (join_none r h)]
   exact read_fwd r hr (LOOPS - 1) 0 (fun _ => 0) (by omega) (by unfold LOOPS; omega) (fun j hj => by omega) (fun j hj => rfl) h (by rw [show 4 - 0 = 4 from rfl]; omega)
end NM
end Go.Proofs.YtpogjlhgbdpnbaaGreatDoor
end
section
namespace Go.Proofs.YtpogjlhgbdpnbaaGreatDoor
namespace NM
open AM
def dd (k : Nat) : List UInt8 := [UInt8.ofNat (48 + k / 10), UInt8.ofNat (48 + k % 10)]
def hd (h : Nat) : List UInt8 := if h < 10 then [UInt8.ofNat (48 + h)] else dd h
def txt (n : Nat) : List UInt8 := hd (n / 3600) ++ 58 :: (dd (n % 3600 / 60) ++ 58 :: dd (n % 60))
theorem app_h : ∀ h : Fin 19, f152 (h.val : Int) 10 = some ((), (toI (hd h.val), ())) := by decide +kernel
theorem pair_fin : ∀ k : Fin 60, ([58, IntKind.wrap .u8 (48 + (IntKind.wrap .u8 (IntKind.wrap .i64 (Int.tdiv (k.val : Int) 10)))), IntKind.wrap .u8 (48 + (IntKind.wrap .u8 (Int.tmod (k.val : Int) 10)))] : List Int) = toI (58 :: dd k.val) := by decide +kernel
theorem hd_len (h : Nat) : 1 ≤ (hd h).length ∧ (hd h).length ≤ 2 := by unfold hd dd; split <;> simp
theorem p_Parts (n : Nat) (h : n ≤ 65536) : f150 (n : Int) = some (((n / 3600 : Nat) : Int), ((n % 3600 / 60 : Nat) : Int), ((n % 60 : Nat) : Int), ()) := by
 unfold f150 F150
 have e1 : IntKind.wrap .i64 (Int.tdiv (n : Int) 3600) = ((n / 3600 : Nat) : Int) := by
   rw [Int.tdiv_eq_ediv_of_nonneg (by omega), wi (by omega) (by omega)]; omega
 have e2 : IntKind.wrap .i64 (Int.tdiv (Int.tmod (n : Int) 3600) 60) = ((n % 3600 / 60 : Nat) : Int) := by
   rw [Int.tmod_eq_emod_of_nonneg (by omega), Int.tdiv_eq_ediv_of_nonneg (by omega), wi (by omega) (by omega)]; omega
 have e3 : Int.tmod (n : Int) 60 = ((n % 60 : Nat) : Int) := by
   rw [Int.tmod_eq_emod_of_nonneg (by omega)]; omega
 rw [e1, e2, e3, decide_eq_false (by omega)]
 rfl
theorem p_pairs (m r : Nat) (hm : m < 60) (hr : r < 60) (a : List UInt8) (ha : a.length ≤ 2) : f151 (m : Int) (r : Int) (toI a) = some ((), ((), (toI (a ++ 58 :: (dd m ++ 58 :: dd r)), ()))) := by
 have e1 := pair_fin ⟨m, hm⟩
 have e2 := pair_fin ⟨r, hr⟩
 simp only at e1 e2
 unfold f151 F151
 simp only
 rw [e1, e2]
 have hl : (toI a).length = a.length := by simp [toI]
 have s1 : smallB ((toI a).length + 3) 1 = true := by rw [hl]; simp [smallB]; omega
 have s2 : smallB ((toI a ++ toI (58 :: dd m)).length + 3) 1 = true := by
   have : (toI (58 :: dd m)).length = 3 := rfl
   rw [List.length_append, this, hl]; simp [smallB]; omega
 rw [s1, s2]
 simp [toI, dd]
theorem sp_Text (n : Nat) (h : n ≤ 65536) : f131 (n : Int) = some (txt n, 0, ()) := by
 unfold f131 F131
 rw [decide_eq_false (show ¬ (n : Int) < 0 by omega), decide_eq_false (show ¬ (65536 : Int) < (n : Int) by omega)]
 have h1 := app_h ⟨n / 3600, by omega⟩
 simp only at h1
 simp only [cond_false, p_Parts n h, Option.bind_some, h1, p_pairs (n % 3600 / 60) (n % 60) (by omega) (by omega) (hd (n / 3600)) (hd_len _).2, bytes_toI]
 rfl
theorem sp_Text_no (n : Int) (h : n < 0 ∨ 65536 < n) : f131 n = some ([], 2, ()) := by
 unfold f131 F131
 rcases h with h | h
 · rw [decide_eq_true h]; rfl
 · rw [decide_eq_false (show ¬ n < 0 by omega), decide_eq_true h]; rfl
def numI : List UInt8 → Int
 | [] => 0
 | [a] => (a.toNat : Int) - 48
 | [a, b] => 10 * ((a.toNat : Int) - 48) + ((b.toNat : Int) - 48)
 | _ => 0
theorem numI_le (l : List UInt8) : -10000 ≤ numI l ∧ numI l ≤ 10000 := by
 unfold numI
 split
 · omega
 · rename_i a; have := UInt8.toNat_lt a; omega
 · rename_i a b; have := UInt8.toNat_lt a; have := UInt8.toNat_lt b; omega
 · omega
theorem sp_number (l : List UInt8) (h : l.length ≤ 2) : f154 l = some (numI l) := by
 unfold f154 F154
 match l, h with
 | [], _ => rw [LN_succ]; rfl
 | [a], _ =>
   have := UInt8.toNat_lt a
   have w1 : IntKind.wrap .i64 (0 + 1) = 1 := rfl
   have w2 : IntKind.wrap .i64 (IntKind.wrap .i64 (IntKind.wrap .i64 (10 * 0) + IntKind.wrap .i64 (a.toNat : Int)) - 48) = (a.toNat : Int) - 48 := by
     rw [wi (x := 10 * 0) (by omega) (by omega), wi (x := (a.toNat : Int)) (by omega) (by omega), wi (x := 10 * 0 + (a.toNat : Int)) (by omega) (by omega), wi (by omega) (by omega)]; omega
   have c0 : (decide ((0 : Int) < ((1 : Nat) : Int))) = true := rfl
   have c1 : (decide ((1 : Int) < ((1 : Nat) : Int))) = false := rfl
   have c2 : (decide ((0 : Int) ≤ 0)) = true := rfl
   rw [LN_succ]
   simp only [l154_0, List.length_singleton, c0, c2, cond_true, show Int.toNat 0 = 0 from rfl, List.getElem?_cons_zero, Option.bind_some, w1, w2]
   rw [loop_one]
   simp only [l154_0, List.length_singleton, c1, cond_false, numI]
 | [a, b], _ =>
   have := UInt8.toNat_lt a
   have := UInt8.toNat_lt b
   have w1 : IntKind.wrap .i64 (0 + 1) = 1 := rfl
   have w2 : IntKind.wrap .i64 (IntKind.wrap .i64 (IntKind.wrap .i64 (10 * 0) + IntKind.wrap .i64 (a.toNat : Int)) - 48) = (a.toNat : Int) - 48 := by
     rw [wi (x := 10 * 0) (by omega) (by omega), wi (x := (a.toNat : Int)) (by omega) (by omega), wi (x := 10 * 0 + (a.toNat : Int)) (by omega) (by omega), wi (by omega) (by omega)]; omega
   have w3 : IntKind.wrap .i64 (1 + 1) = 2 := rfl
   have w4 : IntKind.wrap .i64 (IntKind.wrap .i64 (IntKind.wrap .i64 (10 * ((a.toNat : Int) - 48)) + IntKind.wrap .i64 (b.toNat : Int)) - 48) = 10 * ((a.toNat : Int) - 48) + ((b.toNat : Int) - 48) := by
     rw [wi (x := 10 * ((a.toNat : Int) - 48)) (by omega) (by omega), wi (x := (b.toNat : Int)) (by omega) (by omega), wi (x := 10 * ((a.toNat : Int) - 48) + (b.toNat : Int)) (by omega) (by omega), wi (by omega) (by omega)]; omega
   have hl : ([a, b].length : Int) = 2 := rfl
   have c0 : (decide ((0 : Int) < 2)) = true := rfl
   have c1 : (decide ((1 : Int) < 2)) = true := rfl
   have c3 : (decide ((2 : Int) < 2)) = false := rfl
   have c2 : (decide ((0 : Int) ≤ 0)) = true := rfl
   have c4 : (decide ((0 : Int) ≤ 1)) = true := rfl
   rw [LN_succ]
   simp only [l154_0, hl, c0, c2, cond_true, show Int.toNat 0 = 0 from rfl, List.getElem?_cons_zero, Option.bind_some, w1, w2]
   rw [loop_one]
   simp only [l154_0, hl, c1, c4, cond_true, show Int.toNat 1 = 1 from rfl, List.getElem?_cons_succ, List.getElem?_cons_zero, Option.bind_some, w3, w4]
   rw [loop_two]
   simp only [l154_0, hl, c3, cond_false, numI]
def formI (s : List UInt8) : Prop := (cutL 58 s).1.length ≤ 2 ∧ (cutL 58 (cutL 58 s).2.1).1.length = 2 ∧ (cutL 58 (cutL 58 s).2.1).2.1.length = 2
def candI (s : List UInt8) : Int := numI (cutL 58 s).1 * 3600 + numI (cutL 58 (cutL 58 s).2.1).1 * 60 + numI (cutL 58 (cutL 58 s).2.1).2.1
theorem sp_Read (s : List UInt8) (hs : s.length ≤ maxLen) :
   (formI s ∧ 0 ≤ candI s ∧ candI s ≤ 65536 ∧ txt (candI s).toNat = s ∧ f135 s = some (candI s, 0, ())) ∨ (¬ (formI s ∧ 0 ≤ candI s ∧ candI s ≤ 65536 ∧ txt (candI s).toNat = s) ∧ f135 s = some (0, 11, ())) := by
 have hl := cut_len 58 s
 unfold f135 F135
 simp only [p_Cut s 58 hs, p_Cut (cutL 58 s).2.1 58 (by omega), Option.bind_some]
 by_cases h1 : (cutL 58 s).1.length ≤ 2
 · rw [decide_eq_false (show ¬ (2 : Int) < ((cutL 58 s).1.length : Int) by omega)]
   by_cases h2 : (cutL 58 (cutL 58 s).2.1).1.length = 2
   · rw [decide_eq_true (show ((cutL 58 (cutL 58 s).2.1).1.length : Int) = 2 by omega)]
     by_cases h3 : (cutL 58 (cutL 58 s).2.1).2.1.length = 2
     · rw [decide_eq_true (show ((cutL 58 (cutL 58 s).2.1).2.1.length : Int) = 2 by omega)]
       simp only [cond_false, Bool.not_true, sp_number _ h1, sp_number _ (Nat.le_of_eq h2), sp_number _ (Nat.le_of_eq h3), Option.bind_some]
       have n1 := numI_le (cutL 58 s).1
       have n2 := numI_le (cutL 58 (cutL 58 s).2.1).1
       have n3 := numI_le (cutL 58 (cutL 58 s).2.1).2.1
       have hw : IntKind.wrap .i64 (IntKind.wrap .i64 (IntKind.wrap .i64 (numI (cutL 58 s).1 * 3600) + IntKind.wrap .i64 (numI (cutL 58 (cutL 58 s).2.1).1 * 60)) + numI (cutL 58 (cutL 58 s).2.1).2.1) = candI s := by
         unfold candI
         rw [wi (x := numI (cutL 58 s).1 * 3600) (by omega) (by omega), wi (x := numI (cutL 58 (cutL 58 s).2.1).1 * 60) (by omega) (by omega), wi (x := numI (cutL 58 s).1 * 3600 + _) (by omega) (by omega), wi (by omega) (by omega)]
       rw [hw]
       by_cases h4 : 0 ≤ candI s ∧ candI s ≤ 65536
       · obtain ⟨k, hk⟩ : ∃ k : Nat, candI s = (k : Int) := ⟨(candI s).toNat, by omega⟩
         rw [hk] at h4
         rw [hk, sp_Text k (by omega)]
         simp only [Option.bind_some, decide_true, Bool.not_true, cond_false]
         by_cases h5 : txt k = s
         · refine .inl ⟨⟨h1, h2, h3⟩, h4.1, h4.2, by simpa using h5, ?_⟩
           simp [h5]
         · refine .inr ⟨fun h => h5 (by simpa using h.2.2.2), ?_⟩
           simp [h5]
       · refine .inr ⟨fun h => h4 ⟨h.2.1, h.2.2.1⟩, ?_⟩
         rw [sp_Text_no _ (by omega)]
         rfl
     · rw [decide_eq_false (show ¬ ((cutL 58 (cutL 58 s).2.1).2.1.length : Int) = 2 by omega)]
       exact .inr ⟨fun h => h3 h.1.2.2, rfl⟩
   · rw [decide_eq_false (show ¬ ((cutL 58 (cutL 58 s).2.1).1.length : Int) = 2 by omega)]
     exact .inr ⟨fun h => h2 h.1.2.1, rfl⟩
 · rw [decide_eq_true (show (2 : Int) < ((cutL 58 s).1.length : Int) by omega)]
   exact .inr ⟨fun h => h1 h.1.1, rfl⟩
theorem hd_fin : ∀ h : Fin 19, (58 : UInt8) ∉ hd h.val ∧ numI (hd h.val) = (h.val : Int) := by decide +kernel
theorem dd_fin : ∀ k : Fin 60, (58 : UInt8) ∉ dd k.val ∧ numI (dd k.val) = (k.val : Int) := by decide +kernel
theorem cand_txt (n : Nat) (h : n ≤ 65536) : formI (txt n) ∧ candI (txt n) = (n : Int) := by
 have e1 := hd_fin ⟨n / 3600, by omega⟩
 have e2 := dd_fin ⟨n % 3600 / 60, by omega⟩
 have e3 := dd_fin ⟨n % 60, by omega⟩
 simp only at e1 e2 e3
 have hc : cutL 58 (txt n) = (hd (n / 3600), (dd (n % 3600 / 60) ++ 58 :: dd (n % 60), true)) := cut_at _ _ _ e1.1
 unfold formI candI
 rw [hc]
 simp only
 rw [cut_at _ _ _ e2.1]
 simp only
 refine ⟨⟨(hd_len _).2, rfl, rfl⟩, ?_⟩
 rw [e1.2, e2.2, e3.2]
 omega
theorem sp_Read_txt (n : Nat) (h : n ≤ 65536) : f135 (txt n) = some ((n : Int), 0, ()) := by
 obtain ⟨h1, h2⟩ := cand_txt n h
 have hl : (txt n).length ≤ maxLen := by
   have := hd_len (n / 3600)
   have hml : maxLen = 9223372036854775807 := rfl
   simp only [txt, List.length_append, List.length_cons]
   have : (dd (n % 3600 / 60)).length = 2 := rfl
   have : (dd (n % 60)).length = 2 := rfl
   omega
 rcases sp_Read (txt n) hl with ⟨_, _, _, _, h3⟩ | ⟨h3, _⟩
 · rw [h3, h2]
 · exact absurd ⟨h1, by omega, by omega, by rw [h2]; rfl⟩ h3
theorem r_Parts (n : Nat) (h : n ≤ 65536) : f138 (n : Int) = some (((n / 3600 : Nat) : Int), ((n % 3600 / 60 : Nat) : Int), ((n % 60 : Nat) : Int), ()) := by
 unfold f138 F138
 have e1 : IntKind.wrap .i64 (Int.tdiv (n : Int) 3600) = ((n / 3600 : Nat) : Int) := by
   rw [Int.tdiv_eq_ediv_of_nonneg (by omega), wi (by omega) (by omega)]; omega
 have e0 : Int.tmod (n : Int) 3600 = ((n % 3600 : Nat) : Int) := by
   rw [Int.tmod_eq_emod_of_nonneg (by omega)]; omega
 have e2 : IntKind.wrap .i64 (Int.tdiv ((n % 3600 : Nat) : Int) 60) = ((n % 3600 / 60 : Nat) : Int) := by
   rw [Int.tdiv_eq_ediv_of_nonneg (by omega), wi (by omega) (by omega)]; omega
 have e3 : IntKind.wrap .i64 (((n % 3600 : Nat) : Int) - IntKind.wrap .i64 (60 * ((n % 3600 / 60 : Nat) : Int))) = ((n % 60 : Nat) : Int) := by
   rw [wi (x := 60 * ((n % 3600 / 60 : Nat) : Int)) (by omega) (by omega), wi (by omega) (by omega)]; omega
 simp only [e0, e1, e2, e3, decide_eq_false (show ¬ (n : Int) < 0 by omega), cond_false]
theorem dig_h : ∀ h : Fin 19, f77 (h.val : Int) = some (hd h.val) := by decide +kernel
theorem two_k : ∀ k : Fin 60, f139 (k.val : Int) = some (dd k.val) := by decide +kernel
theorem sr_Text (n : Nat) (h : n ≤ 65536) : f110 (n : Int) = some (txt n) := by
 have e1 := dig_h ⟨n / 3600, by omega⟩
 have e2 := two_k ⟨n % 3600 / 60, by omega⟩
 have e3 := two_k ⟨n % 60, by omega⟩
 simp only at e1 e2 e3
 have l1 := hd_len (n / 3600)
 have l2 : (dd (n % 3600 / 60)).length = 2 := rfl
 have l3 : (dd (n % 60)).length = 2 := rfl
 unfold f110 F110
 simp only [r_Parts n h, Option.bind_some, e1, e2, e3]
 simp only [List.length_append, List.length_cons, List.length_nil, l2, l3]
 rw [decide_eq_true (by omega), decide_eq_true (by omega), decide_eq_true (by omega), decide_eq_true (by omega)]
 simp [txt]
end NM
end Go.Proofs.YtpogjlhgbdpnbaaGreatDoor
end
section
namespace Go.Proofs.YtpogjlhgbdpnbaaGreatDoor
namespace NM
open AM
open Classical in
noncomputable def sameE (a b : (Int × (Int × (Request × ((List Int) × (Int × (Bool × (Int × Bool)))))))) : Bool := decide (a = b)
theorem sameE_iff (a b : (Int × (Int × (Request × ((List Int) × (Int × (Bool × (Int × Bool)))))))) : sameE a b = true ↔ a = b := by simp [sameE]
def byteL (l : List Int) : Prop := ∀ z ∈ l, 0 ≤ z ∧ z ≤ 255
theorem bytesOf_inj : ∀ {a b : List Int}, byteL a → byteL b → Lib.bytesOf a = Lib.bytesOf b → a = b
 | [], [], _, _, _ => rfl
 | [], y :: b, _, _, h => by simp [Lib.bytesOf] at h
 | x :: a, [], _, _, h => by simp [Lib.bytesOf] at h
 | x :: a, y :: b, ha, hb, h => by
   simp only [Lib.bytesOf, List.map_cons, List.cons.injEq] at h
   have h1 := ha x (by simp)
   have h2 := hb y (by simp)
   have e : x = y := by
     have := congrArg UInt8.toNat h.1
     rw [UInt8.toNat_ofNat', UInt8.toNat_ofNat'] at this
     omega
   rw [e, bytesOf_inj (fun z hz => ha z (by simp [hz])) (fun z hz => hb z (by simp [hz])) h.2]
theorem p_bytesEq (a b : List Int) (ha : byteL a) (hb : byteL b) : f28 a b = some (decide (a = b)) := by
 unfold f28 eqBytesF
 congr 1
 rw [Bool.eq_iff_iff, beq_iff_eq, decide_eq_true_eq]
 exact ⟨bytesOf_inj ha hb, fun e => by rw [e]⟩
def litE (e : (Int × (Int × (Request × ((List Int) × (Int × (Bool × (Int × Bool)))))))) : Prop := e.2.2.2.1.length ≤ 1000 ∧ e.2.2.1.after.length ≤ 20 ∧ byteL e.2.2.2.1
theorem p_SameE (a b : (Int × (Int × (Request × ((List Int) × (Int × (Bool × (Int × Bool)))))))) (ha : litE a) (hb : litE b) : f10 a b = some (sameE a b) := by
 obtain ⟨k, u, r, bs, n, kp, j, ok⟩ := a
 obtain ⟨k', u', r', bs', n', kp', j', ok'⟩ := b
 obtain ⟨a1, a2, a3⟩ := ha
 obtain ⟨b1, b2, b3⟩ := hb
 simp only at a1 a2 a3 b1 b2 b3
 unfold f10 F10
 simp only [p_bytesEq bs bs' a3 b3, p_sameAsk r r' (by omega), Option.bind_some, condSF]
 congr 1
 rw [Bool.eq_iff_iff, sameE_iff]
 simp only [Bool.and_eq_true, decide_eq_true_eq, beq_iff_eq, sameQ_iff, Prod.mk.injEq]
 constructor
 · rintro ⟨h1, h2, h3, h4, h5, h6, h7, h8⟩
   exact ⟨h1, h2, h8, h7, h3, h4, h5, h6⟩
 · rintro ⟨h1, h2, h8, h7, h3, h4, h5, h6⟩
   exact ⟨h1, h2, h3, h4, h5, h6, h7, h8⟩
theorem r_SameE (a b : (Int × (Int × (Request × ((List Int) × (Int × (Bool × (Int × Bool)))))))) (ha : litE a) : f11 a b = some (sameE a b) := by
 obtain ⟨k, u, r, bs, n, kp, j, ok⟩ := a
 obtain ⟨k', u', r', bs', n', kp', j', ok'⟩ := b
 obtain ⟨a1, a2, a3⟩ := ha
 simp only at a1 a2 a3
 unfold f11 F11
 simp only [r_BytesEq bs bs' (by omega), r_sameAsk r r' (by omega), Option.bind_some, condSF]
 congr 1
 rw [Bool.eq_iff_iff, sameE_iff]
 simp only [Bool.and_eq_true, decide_eq_true_eq, beq_iff_eq, sameQ_iff, Prod.mk.injEq]
def zQ : Request := Request.mk 0 0 0 0 0 0 (Res.mk 0 0 0 0) 0 0 [] 0 0 0 0
def zE : (Int × (Int × (Request × ((List Int) × (Int × (Bool × (Int × Bool))))))) := (0, (0, (Request.mk 0 0 0 0 0 0 (Res.mk 0 0 0 0) 0 0 [] 0 0 0 0, ([], (0, (false, (0, false)))))))
def onlyE (e : (Int × (Int × (Request × ((List Int) × (Int × (Bool × (Int × Bool)))))))) : (Int × (Int × (Request × ((List Int) × (Int × (Bool × (Int × Bool))))))) :=
 if e.1 = 1 then (e.1, e.2.1, e.2.2.1, [], 0, false, 0, false)
 else if e.1 = 2 then (e.1, e.2.1, zQ, e.2.2.2.1, 0, false, 0, false)
 else if e.1 = 3 ∨ e.1 = 9 then (e.1, e.2.1, zQ, [], e.2.2.2.2.1, e.2.2.2.2.2.1, 0, false)
 else if e.1 = 4 ∨ e.1 = 10 then (e.1, e.2.1, zQ, [], e.2.2.2.2.1, false, 0, false)
 else if e.1 = 8 then (e.1, 0, zQ, [], 0, false, e.2.2.2.2.2.2.1, e.2.2.2.2.2.2.2)
 else (e.1, 0, zQ, [], 0, false, 0, false)
theorem ten {k : Int} (h0 : 1 ≤ k) (h1 : k ≤ 10) : k = 1 ∨ k = 2 ∨ k = 3 ∨ k = 4 ∨ k = 5 ∨ k = 6 ∨ k = 7 ∨ k = 8 ∨ k = 9 ∨ k = 10 := by omega
theorem r_only (e : (Int × (Int × (Request × ((List Int) × (Int × (Bool × (Int × Bool)))))))) (h0 : 1 ≤ e.1) (h1 : e.1 ≤ 10) : f32 e = some (onlyE e) := by
 obtain ⟨k, u, r, bs, n, kp, j, ok⟩ := e
 simp only at h0 h1
 rcases ten h0 h1 with rfl | rfl | rfl | rfl | rfl | rfl | rfl | rfl | rfl | rfl <;> rfl
theorem only_lit (e : (Int × (Int × (Request × ((List Int) × (Int × (Bool × (Int × Bool)))))))) (h : litE e) : litE (onlyE e) := by
 obtain ⟨k, u, r, bs, n, kp, j, ok⟩ := e
 obtain ⟨h1, h2, h3⟩ := h
 have hz : byteL [] := fun z hz => by cases hz
 unfold onlyE
 split
 · exact ⟨by simp, h2, hz⟩
 split
 · exact ⟨h1, by simp [zQ], h3⟩
 split
 · exact ⟨by simp, by simp [zQ], hz⟩
 split
 · exact ⟨by simp, by simp [zQ], hz⟩
 split
 · exact ⟨by simp, by simp [zQ], hz⟩
 · exact ⟨by simp, by simp [zQ], hz⟩
noncomputable def canB (e : (Int × (Int × (Request × ((List Int) × (Int × (Bool × (Int × Bool)))))))) : Bool :=
 decide (1 ≤ e.1) && (decide (e.1 ≤ 10) && (sameE (onlyE e) e && (inN e.2.1 && (inN e.2.2.2.2.1 && (inN e.2.2.2.2.2.2.1 &&
   (if e.1 = 1 then rightQ e.2.2.1 && (decide (rightP e.2.2.1.need) && decide (e.2.2.1.wall ≤ 65536)) else if e.1 = 2 then decide (1 ≤ e.2.2.2.1.length) && decide (e.2.2.2.1.length ≤ 480) else true))))))
theorem p_inRange (n : Int) : f57 n = some (inN n) := by
 unfold f57 F57
 rw [condSF]
 rfl
theorem r_inN (n : Int) : f33 n = some (inN n) := by
 unfold f33 F33
 rw [condSF]
 rfl
theorem condNF (p : Bool) (K : Option Bool) : cond (!p) (some false) K = cond p K (some false) := by cases p <;> rfl
theorem r_Can (e : (Int × (Int × (Request × ((List Int) × (Int × (Bool × (Int × Bool)))))))) (h : litE e) : f12 e = some (canB e) := by
 unfold f12 F12
 by_cases h0 : e.1 < 1
 · simp [h0, canB, show ¬ 1 ≤ e.1 by omega]
 by_cases h1 : 10 < e.1
 · simp [h0, h1, canB, show ¬ e.1 ≤ 10 by omega]
 rw [decide_eq_false h0, decide_eq_false h1, r_only e (by omega) (by omega)]
 simp only [cond_false, Option.bind_some]
 rw [r_SameE _ _ (only_lit e h)]
 simp only [Option.bind_some, r_inN, r_rightAsk, r_Right, condNF, condSF, canB]
 rw [decide_eq_true (show 1 ≤ e.1 by omega), decide_eq_true (show e.1 ≤ 10 by omega)]
 simp only [Bool.true_and]
 cases sameE (onlyE e) e
 · rfl
 cases inN e.2.1
 · rfl
 cases inN e.2.2.2.2.1
 · rfl
 cases inN e.2.2.2.2.2.2.1
 · rfl
 simp only [cond_true, Bool.true_and]
 by_cases h2 : e.1 = 1
 · simp only [h2, decide_true, cond_true, if_true]
 · simp only [h2, decide_false, cond_false, if_false]
   by_cases h3 : e.1 = 2
   · simp only [h3, decide_true, Bool.not_true, cond_false, if_true]
     congr 1
     rw [Bool.eq_iff_iff]
     simp only [Bool.and_eq_true, decide_eq_true_eq]
     omega
   · simp only [h3, decide_false, Bool.not_false, cond_true, if_false]
theorem elimInr2 {α β γ : Type} (c : Bool) (K : Option (α ⊕ β)) (z : β) (f : α → Option γ) (g : β → Option γ) : Option.bind (cond c (some (.inr z)) K) (Sum.elim f g) = cond c (g z) (Option.bind K (Sum.elim f g)) := by cases c <;> rfl
theorem rest_can (e : (Int × (Int × (Request × ((List Int) × (Int × (Bool × (Int × Bool)))))))) (h1 : 1 ≤ e.1) (h2 : e.1 ≤ 10) : sameE (onlyE e) e = 
   (if e.1 = 1 then sameE (0, 0, zQ, e.2.2.2) zE
    else if e.1 = 2 then sameE (0, 0, e.2.2.1, [], e.2.2.2.2) zE
    else if e.1 = 3 ∨ e.1 = 9 then sameE (0, 0, e.2.2.1, e.2.2.2.1, 0, false, e.2.2.2.2.2.2) zE
    else if e.1 = 4 ∨ e.1 = 10 then sameE (0, 0, e.2.2.1, e.2.2.2.1, 0, e.2.2.2.2.2) zE
    else if e.1 = 8 then sameE (0, e.2.1, e.2.2.1, e.2.2.2.1, e.2.2.2.2.1, e.2.2.2.2.2.1, 0, false) zE
    else sameE (0, e.2) zE) := by
 obtain ⟨k, u, r, bs, n, kp, j, ok⟩ := e
 simp only at h1 h2
 rw [Bool.eq_iff_iff]
 rcases ten h1 h2 with rfl | rfl | rfl | rfl | rfl | rfl | rfl | rfl | rfl | rfl <;>
   simp only [onlyE, zE, zQ, Int.reduceEq, if_true, if_false, false_or, or_false, true_or, or_true, sameE_iff, Prod.mk.injEq, true_and, and_true] <;>
   simp only [eq_comm]
set_option maxHeartbeats 2000000 in
theorem p_expr (e : (Int × (Int × (Request × ((List Int) × (Int × (Bool × (Int × Bool)))))))) (h : litE e) : f25 e = some (canB e) := by
 unfold f25 F25
 by_cases h0 : e.1 < 1
 · simp [h0, canB, show ¬ 1 ≤ e.1 by omega]
 by_cases h1 : 10 < e.1
 · simp [h0, h1, canB, show ¬ e.1 ≤ 10 by omega]
 have hc := rest_can e (by omega) (by omega)
 unfold canB
 rw [decide_eq_true (show 1 ≤ e.1 by omega), decide_eq_true (show e.1 ≤ 10 by omega), hc]
 clear hc
 obtain ⟨k, u, r, bs, n, kp, j, ok⟩ := e
 obtain ⟨l1, l2, l3⟩ := h
 simp only at h0 h1 l1 l2 l3
 have lz : ∀ (r : Request) (bs : List Int) (n u : Int) (kp : Bool) (j : Int) (ok : Bool), bs.length ≤ 1000 → r.after.length ≤ 20 → byteL bs → f10 (0, u, r, bs, n, kp, j, ok) zE = some (sameE (0, u, r, bs, n, kp, j, ok) zE) := fun r bs n u kp j ok g1 g2 g3 => p_SameE _ _ ⟨g1, g2, g3⟩ ⟨by simp [zE], by simp [zE], fun z hz => by cases hz⟩
 have b0 : byteL [] := fun z hz => by cases hz
 have z0 : ∀ (bs : List Int) (n u : Int) (kp : Bool) (j : Int) (ok : Bool), bs.length ≤ 1000 → byteL bs → f10 (0, u, zQ, bs, n, kp, j, ok) zE = some (sameE (0, u, zQ, bs, n, kp, j, ok) zE) := fun bs n u kp j ok g1 g3 => lz _ _ _ _ _ _ _ g1 (by simp [zQ]) g3
 unfold zE at lz z0
 unfold zQ at z0
 unfold zE zQ
 rcases ten (show 1 ≤ k by omega) (show k ≤ 10 by omega) with rfl | rfl | rfl | rfl | rfl | rfl | rfl | rfl | rfl | rfl <;>
   simp only [Int.reduceLT, Int.reduceEq, if_true, if_false, false_or, or_false, true_or, or_true, decide_true, decide_false, cond_true, cond_false, p_inRange, p_rightAsk, p_vRight, Option.bind_some, condNot, elimInr, elimInr2, Sum.elim_inl, Sum.elim_inr, lz, z0, l1, l2, l3, b0, Bool.true_and, List.length_nil, Nat.zero_le]
 · generalize sameE _ _ = s
   have e1 : decide (r.wall ≤ 65536) = !decide (65536 < r.wall) := by rw [Bool.eq_iff_iff]; simp only [decide_eq_true_eq, Bool.not_eq_true', decide_eq_false_iff_not]; omega
   rw [e1]
   cases inN u <;> cases inN n <;> cases inN j <;> cases rightQ r <;> cases decide (rightP r.need) <;> cases decide (65536 < r.wall) <;> simp
 · generalize sameE _ _ = s
   have e1 : decide (1 ≤ bs.length) = !decide ((bs.length : Int) < 1) := by rw [Bool.eq_iff_iff]; simp only [decide_eq_true_eq, Bool.not_eq_true', decide_eq_false_iff_not]; omega
   have e2 : decide (bs.length ≤ 480) = !decide (480 < (bs.length : Int)) := by rw [Bool.eq_iff_iff]; simp only [decide_eq_true_eq, Bool.not_eq_true', decide_eq_false_iff_not]; omega
   rw [e1, e2]
   cases inN u <;> cases inN n <;> cases inN j <;> cases decide ((bs.length : Int) < 1) <;> cases decide (480 < (bs.length : Int)) <;> simp
 all_goals
   generalize sameE _ _ = s
   cases inN u <;> cases inN n <;> cases inN j <;> simp
end NM
end Go.Proofs.YtpogjlhgbdpnbaaGreatDoor
end
