/-
  What the proof of SpecTexts leans on, part 22. (Many texts laid together by program.)
-/
import Derived.Test.YtjngkfdclcgfhaaGreatDoorPkTu
import Derived.KernelRfl
set_option linter.unnecessarySimpa false
set_option linter.unusedSimpArgs false
set_option linter.unusedVariables false
section
namespace Go.Proofs.YtjngkfdclcgfhaaGreatDoor
namespace NM
open AM
def toI (l : List UInt8) : List Int := l.map fun c => (c.toNat : Int)
theorem bytes_toI : ∀ l : List UInt8, nbytes (toI l) = some l
 | [] => rfl
 | c :: l => by
   have ih := bytes_toI l
   unfold nbytes toI at *
   have hc := UInt8.toNat_lt c
   have h1 : nbyte (c.toNat : Int) = some c := by
     unfold nbyte
     rw [if_pos ⟨by omega, by omega⟩]
     simp
   simp only [List.map_cons, allOf, h1, ih]
def cutL (c : UInt8) : List UInt8 → List UInt8 × (List UInt8 × Bool)
 | [] => ([], ([], false))
 | x :: l => if x = c then ([], (l, true)) else (x :: (cutL c l).1, (cutL c l).2)
theorem cut_idx (c : UInt8) : ∀ s : List UInt8, ((cutL c s).2.2 = true ∧ Lib.indexByte s c = ((cutL c s).1.length : Int) ∧ s = (cutL c s).1 ++ c :: (cutL c s).2.1) ∨ ((cutL c s).2.2 = false ∧ Lib.indexByte s c = -1 ∧ (cutL c s).1 = s ∧ (cutL c s).2.1 = [])
 | [] => .inr ⟨rfl, rfl, rfl, rfl⟩
 | x :: l => by
   by_cases h : x = c
   · refine .inl ?_
     simp [cutL, h, Lib.indexByte]
   · have hb : (x == c) = false := by simp [h]
     rcases cut_idx c l with ⟨h1, h2, h3⟩ | ⟨h1, h2, h3, h4⟩
     · refine .inl ⟨by simp [cutL, h, h1], ?_, by simp only [cutL, h, if_false, List.cons_append]; rw [← h3]⟩
       simp only [cutL, h, if_false, Lib.indexByte, hb, Bool.false_eq_true]
       rw [h2, if_neg (by simp)]
       simp
     · refine .inr ⟨by simp [cutL, h, h1], ?_, by simp [cutL, h, h3], by simp [cutL, h, h4]⟩
       simp only [Lib.indexByte, hb, Bool.false_eq_true, if_false]
       rw [h2]
       try rfl
theorem cut_len (c : UInt8) (s : List UInt8) : (cutL c s).2.1.length ≤ s.length := by
 rcases cut_idx c s with ⟨_, _, h⟩ | ⟨_, _, _, h⟩
 · have := congrArg List.length h; simp at this; omega
 · rw [h]; simp
theorem p_Cut (s : List UInt8) (c : UInt8) (hs : s.length ≤ maxLen) : f18 s [c] = some ((cutL c s).1, (cutL c s).2.1, (cutL c s).2.2, ()) := by
 have hml : maxLen = 9223372036854775807 := rfl
 unfold f18 F18 f33 F33 f56
 simp only [strIdx, Option.bind_some, List.length_singleton]
 rcases cut_idx c s with ⟨h1, h2, h3⟩ | ⟨h1, h2, h3, h4⟩
 · have hl : s.length = (cutL c s).1.length + 1 + (cutL c s).2.1.length := by
     have := congrArg List.length h3; simp at this; omega
   have ew : IntKind.wrap .i64 (((cutL c s).1.length : Int) + ((1 : Nat) : Int)) = ((cutL c s).1.length : Int) + ((1 : Nat) : Int) := wi (by omega) (by omega)
   have e1 : Int.toNat ((cutL c s).1.length : Int) = (cutL c s).1.length := by omega
   have e2 : Int.toNat (((cutL c s).1.length : Int) + ((1 : Nat) : Int)) = (cutL c s).1.length + 1 := by omega
   have d1 : (0 : Int) ≤ ((cutL c s).1.length : Int) := by omega
   have d2 : (cutL c s).1.length ≤ s.length := by omega
   have d3 : (0 : Int) ≤ ((cutL c s).1.length : Int) + ((1 : Nat) : Int) := by omega
   have d4 : (cutL c s).1.length + 1 ≤ s.length := by omega
   simp only [h2, ew, e1, e2, d1, d2, d3, d4, decide_true, cond_true, Option.bind_some, h1]
   clear ew e1 e2 d1 d2 d3 d4 h1 h2 hl
   generalize cutL c s = p at *
   obtain ⟨a, b, e⟩ := p
   simp only at h3 ⊢
   subst h3
   simp
 · rw [h2, decide_eq_false (by omega)]
   simp only [cond_false, Option.bind_some, h1, h3, h4]
theorem cut_at (c : UInt8) : ∀ (a b : List UInt8), c ∉ a → cutL c (a ++ c :: b) = (a, (b, true))
 | [], b, _ => by simp [cutL]
 | x :: a, b, h => by
   have hx : ¬ x = c := fun e => h (by simp [e])
   have := cut_at c a b (fun hm => h (by simp [hm]))
   simp [cutL, hx, this]
theorem dec_small {n : Nat} (h : n < 10) : Lib.decDigits n = [UInt8.ofNat (48 + n)] := Lib.decDigits_one h
theorem dec_big {n : Nat} (h : ¬ n < 10) : Lib.decDigits n = Lib.decDigits (n / 10) ++ [UInt8.ofNat (48 + n % 10)] := by rw [Lib.decDigits, dif_neg h]
theorem dec_len : ∀ (k n : Nat), n < 10 ^ (k + 1) → (Lib.decDigits n).length ≤ k + 1
 | 0, n, h => by rw [dec_small (by simpa using h)]; simp
 | k + 1, n, h => by
   by_cases h0 : n < 10
   · rw [dec_small h0]; simp
   · rw [dec_big h0, List.length_append]
     have := dec_len k (n / 10) (by rw [Nat.pow_succ] at h; omega)
     simp
     omega
theorem dec_ne (n : Nat) : Lib.decDigits n ≠ [] := by
 by_cases h : n < 10
 · rw [dec_small h]; simp
 · rw [dec_big h]; simp
def digB (c : UInt8) : Prop := 48 ≤ c.toNat ∧ c.toNat ≤ 57
theorem dig_of {d : Nat} (h : d < 10) : digB (UInt8.ofNat (48 + d)) ∧ (UInt8.ofNat (48 + d)).toNat = 48 + d := by
 have : (UInt8.ofNat (48 + d)).toNat = 48 + d := by rw [UInt8.toNat_ofNat']; omega
 exact ⟨⟨by omega, by omega⟩, this⟩
theorem dec_dig (n : Nat) : ∀ c ∈ Lib.decDigits n, digB c := by
 induction n using Nat.strongRecOn with
 | _ n ih =>
   intro c hc
   by_cases h : n < 10
   · rw [dec_small h] at hc
     rw [List.mem_singleton.1 hc]
     exact (dig_of h).1
   · rw [dec_big h, List.mem_append] at hc
     rcases hc with hc | hc
     · exact ih (n / 10) (by omega) c hc
     · rw [List.mem_singleton.1 hc]
       exact (dig_of (by omega)).1
theorem num_fwd (n : Nat) : 1 ≤ n → n ≤ 1048576 → ∀ l, numGo (Lib.decDigits n ++ l) true 0 = numGo l false (n : Int) := by
 induction n using Nat.strongRecOn with
 | _ n ih =>
   intro h1 h2 l
   by_cases h : n < 10
   · rw [dec_small h]
     obtain ⟨h3, h4⟩ := dig_of h
     simp only [List.cons_append, List.nil_append, numGo, h4]
     rw [if_neg (by omega), if_neg (by omega), if_neg (by omega)]
     congr 1
     omega
   · rw [dec_big h, List.append_assoc, ih (n / 10) (by omega) (by omega) (by omega)]
     obtain ⟨h3, h4⟩ := dig_of (d := n % 10) (by omega)
     simp only [List.cons_append, List.nil_append, numGo, h4]
     rw [if_neg (by omega), if_neg (by simp), if_neg (by omega)]
     congr 1
     omega
theorem num_dec (n : Nat) (h1 : 1 ≤ n) (h2 : n ≤ 1048576) : numGo (Lib.decDigits n) true 0 = (n : Int) := by
 have := num_fwd n h1 h2 []
 rwa [List.append_nil] at this
theorem u8_of {c : UInt8} {d : Nat} (h : c.toNat = 48 + d) (hd : d < 10) : UInt8.ofNat (48 + d) = c := by
 apply UInt8.toNat_inj.1
 rw [(dig_of hd).2, h]
theorem num_bwd : ∀ (l : List UInt8) (acc : Nat), 1 ≤ acc → acc ≤ 1048576 → numGo l false (acc : Int) ≥ 1 → ∃ n : Nat, numGo l false (acc : Int) = (n : Int) ∧ n ≤ 1048576 ∧ Lib.decDigits n = Lib.decDigits acc ++ l
 | [], acc, h1, h2, _ => ⟨acc, rfl, h2, by simp⟩
 | c :: l, acc, h1, h2, h => by
   simp only [numGo] at h ⊢
   by_cases hc : c.toNat < 48 ∨ 57 < c.toNat
   · rw [if_pos hc] at h; omega
   · rw [if_neg hc, if_neg (by simp)] at h
     rw [if_neg hc, if_neg (by simp)]
     by_cases hb : 1048576 < 10 * (acc : Int) + ((c.toNat : Int) - 48)
     · rw [if_pos hb] at h; omega
     · rw [if_neg hb] at h
       rw [if_neg hb]
       have e : (10 * (acc : Int) + ((c.toNat : Int) - 48)) = ((10 * acc + (c.toNat - 48) : Nat) : Int) := by omega
       rw [e] at h ⊢
       obtain ⟨n, hn1, hn2, hn3⟩ := num_bwd l (10 * acc + (c.toNat - 48)) (by omega) (by omega) h
       refine ⟨n, hn1, hn2, ?_⟩
       rw [hn3, dec_big (n := 10 * acc + (c.toNat - 48)) (by omega), show (10 * acc + (c.toNat - 48)) / 10 = acc by omega, show (10 * acc + (c.toNat - 48)) % 10 = c.toNat - 48 by omega, u8_of (c := c) (d := c.toNat - 48) (by omega) (by omega)]
       simp
theorem num_inv (l : List UInt8) (h : 1 ≤ numGo l true 0) : ∃ n : Nat, numGo l true 0 = (n : Int) ∧ 1 ≤ n ∧ n ≤ 1048576 ∧ l = Lib.decDigits n := by
 match l, h with
 | [], h => simp [numGo] at h
 | c :: l, h =>
   simp only [numGo] at h ⊢
   by_cases hc : c.toNat < 48 ∨ 57 < c.toNat
   · rw [if_pos hc] at h; omega
   · rw [if_neg hc] at h
     rw [if_neg hc]
     by_cases h0 : c.toNat = 48
     · rw [if_pos ⟨by simp, h0⟩] at h; omega
     · rw [if_neg (fun e => h0 e.2)] at h
       rw [if_neg (fun e => h0 e.2)]
       rw [if_neg (by omega)] at h
       rw [if_neg (by omega)]
       have e : (10 * 0 + ((c.toNat : Int) - 48)) = ((c.toNat - 48 : Nat) : Int) := by omega
       rw [e] at h ⊢
       obtain ⟨n, hn1, hn2, hn3⟩ := num_bwd l (c.toNat - 48) (by omega) (by omega) h
       refine ⟨n, hn1, by omega, hn2, ?_⟩
       rw [hn3, dec_small (by omega), u8_of (c := c) (d := c.toNat - 48) (by omega) (by omega)]
       rfl
theorem itoa_nat (n : Nat) : Lib.itoa (n : Int) = Lib.decDigits n := by
 unfold Lib.itoa
 rw [if_neg (by omega)]
 simp
theorem p_Itoa (n : Nat) (h : n ≤ 1048576) : f27 (n : Int) = some (Lib.decDigits n) := by
 unfold f27 itoaF
 rw [decide_eq_true (by omega), decide_eq_true (by omega), itoa_nat]
 rfl
theorem wu8 {x : Int} (h0 : 0 ≤ x) (h1 : x < 256) : IntKind.wrap .u8 x = x := by
 simp only [IntKind.wrap, IntKind.signed, IntKind.bits]
 exact Int.emod_eq_of_lt h0 (by omega)
theorem r_Digits (n : Nat) (h : n ≤ 1048576) : f37 (n : Int) = some (Lib.decDigits n) := by
 unfold f37 F37
 have key := loop_eq (ω := List UInt8) (f := fun (s1 : ((Int × ((List UInt8) × Unit)) × Unit)) nx2 => l37_0 nx2 s1.1.1 s1.1.2.1)
   (fun s => ∃ (m : Nat), s.1.1 = (m : Int) ∧ m ≤ 1048576 ∧ s.1.2.1.length + m ≤ 1048676)
   (fun s => s.1.1.toNat + (if s.1.2.1 = [] then 1 else 0))
   (fun s => some (if s.1.2.1 = [] ∨ 0 < s.1.1 then Lib.decDigits s.1.1.toNat ++ s.1.2.1 else s.1.2.1))
   (fun s next hI ih => by
     obtain ⟨⟨z, zs, u⟩, u'⟩ := s
     obtain ⟨m, hm, hk, hl⟩ := hI
     simp only at hm hk hl ih ⊢
     subst hm
     have e1 : IntKind.wrap .u8 (IntKind.wrap .i64 (48 + Int.tmod (m : Int) 10)) = (((UInt8.ofNat (48 + m % 10)).toNat : Nat) : Int) := by
       rw [(dig_of (by omega)).2, Int.tmod_eq_emod_of_nonneg (by omega), wi (by omega) (by omega), wu8 (by omega) (by omega)]
       omega
     have e2 : IntKind.wrap .i64 (Int.tdiv (m : Int) 10) = ((m / 10 : Nat) : Int) := by
       rw [Int.tdiv_eq_ediv_of_nonneg (by omega), wi (by omega) (by omega)]
       omega
     have e3 : nbytes [(((UInt8.ofNat (48 + m % 10)).toNat : Nat) : Int)] = some [UInt8.ofNat (48 + m % 10)] := bytes_toI [UInt8.ofNat (48 + m % 10)]
     have hlen : ([UInt8.ofNat (48 + m % 10)] : List UInt8).length + zs.length ≤ 4294967296 := by simp; omega
     simp only [l37_0, e1, e2, e3, Option.bind_some, hlen, decide_true, cond_true]
     have hnext : (zs = [] ∨ 0 < (m : Int)) → (zs.length = 0 ∨ 0 < m) → next (((((m / 10 : Nat) : Int), [UInt8.ofNat (48 + m % 10)] ++ zs, ()), ())) = some (Lib.decDigits m ++ zs) := fun hz hz2 => by
       rw [ih (((((m / 10 : Nat) : Int), [UInt8.ofNat (48 + m % 10)] ++ zs, ()), ())) ⟨m / 10, rfl, by omega, by simp only [List.length_append, List.length_singleton]; omega⟩ (by
         have : ¬ ([UInt8.ofNat (48 + m % 10)] ++ zs = []) := by simp
         simp only [this, if_false]
         rcases hz with hz | hz
         · rw [if_pos hz]; omega
         · split <;> omega)]
       refine congrArg some ?_
       dsimp only
       by_cases h10 : m < 10
       · rw [if_neg (by simp; omega), dec_small h10, Nat.mod_eq_of_lt h10]
       · rw [if_pos (.inr (by omega)), show (((m / 10 : Nat) : Int)).toNat = m / 10 by omega, dec_big h10]
         simp
     by_cases hz : zs = []
     · subst hz
       simp only [decide_true, cond_true, true_or, if_true]
       exact hnext (.inl rfl) (.inl rfl)
     · rw [decide_eq_false hz]
       by_cases h0 : 0 < (m : Int)
       · rw [decide_eq_true h0, if_pos (.inr h0)]
         exact hnext (.inr h0) (.inr (by omega))
       · rw [decide_eq_false h0, if_neg (by rintro (h | h); exact hz h; exact h0 h)]
         rfl)
   (s := (((n : Int), ([] : List UInt8), ()), ())) ⟨n, rfl, h, by simp; omega⟩ (by
     have : ((n : Int)).toNat = n := by omega
     simp only [this, if_true]
     unfold LOOPS
     omega)
 rw [key]
 simp
end NM
end Go.Proofs.YtjngkfdclcgfhaaGreatDoor
end
section
namespace Go.Proofs.YtjngkfdclcgfhaaGreatDoor
namespace NM
open AM
theorem loop_run {σ ω : Type} {f : σ → (σ → Option ω) → Option ω} {r : Option ω} (n : Nat) (hn : n < LOOPS) (s : Nat → σ) (hs : ∀ i, i < n → ∀ next, f (s i) next = next (s (i + 1))) (hend : ∀ next, f (s n) next = r) : LN LOOPS f (s 0) = r := by
 have key : ∀ m i, i ≤ n → n - i < m → loopN f m (s i) = r := by
   intro m
   induction m with
   | zero => intro i _ h; omega
   | succ m ih =>
     intro i hi hm
     simp only [loopN]
     rcases Nat.lt_or_ge i n with h | h
     · rw [hs i h]
       exact ih (i + 1) h (by omega)
     · have : i = n := by omega
       subst this
       exact hend _
 exact key LOOPS 0 (Nat.zero_le _) (by omega)
theorem four_lt : 4 < LOOPS := by unfold LOOPS; omega
def wd : Nat → List UInt8
 | 0 => [99, 112, 117]
 | 1 => [109, 101, 109]
 | 2 => [103, 112, 117]
 | _ => [108, 105, 99]
def item (k n : Nat) : List UInt8 := wd k ++ 61 :: Lib.decDigits n
def itemsF (r : Nat → Nat) : Nat → List (List UInt8)
 | 0 => []
 | m + 1 => if r (3 - m) = 0 then itemsF r m else item (3 - m) (r (3 - m)) :: itemsF r m
def resF (r : Nat → Nat) : Res := Res.mk (r 0) (r 1) (r 2) (r 3)
def noneB : List UInt8 := [110, 111, 110, 101]
def txtU (r : Nat → Nat) : List UInt8 := if itemsF r 4 = [] then noneB else Lib.join (itemsF r 4) [44]
def Small4 (r : Nat → Nat) : Prop := ∀ j, j < 4 → r j ≤ 1048576
def preF (r : Nat → Nat) : Nat → List (List UInt8)
 | 0 => []
 | i + 1 => if r i = 0 then preF r i else preF r i ++ [item i (r i)]
theorem pre_len (r : Nat → Nat) : ∀ i, (preF r i).length ≤ i
 | 0 => Nat.le_refl _
 | i + 1 => by
   have := pre_len r i
   simp only [preF]
   split
   · omega
   · simp; omega
theorem pre_items (r : Nat → Nat) : preF r 4 = itemsF r 4 := by
 simp only [preF, itemsF, Nat.sub_self, show 3 - 0 = 3 from rfl, show 3 - 1 = 2 from rfl, show 3 - 2 = 1 from rfl]
 by_cases h0 : r 0 = 0 <;> by_cases h1 : r 1 = 0 <;> by_cases h2 : r 2 = 0 <;> by_cases h3 : r 3 = 0 <;> simp [h0, h1, h2, h3]
theorem item_len (k n : Nat) (hn : n ≤ 1048576) : (item k n).length ≤ 11 ∧ (Lib.decDigits n).length ≤ 7 := by
 have := dec_len 6 n (by have : (10 : Nat) ^ 7 = 10000000 := by decide
                         omega)
 have hw : (wd k).length = 3 := by unfold wd; split <;> rfl
 simp only [item, List.length_append, List.length_cons, hw]
 omega
theorem join_snoc (sep x : List UInt8) : ∀ (l : List (List UInt8)), l ≠ [] → Lib.join (l ++ [x]) sep = Lib.join l sep ++ sep ++ x
 | [], h => absurd rfl h
 | y :: l, _ => by
   rw [List.cons_append, Lib.join_cons, Lib.join_cons]
   simp [Lib.joinTail]
def rightP (a : Res) : Prop := (0 ≤ a.cpu ∧ a.cpu ≤ 1048576) ∧ (0 ≤ a.mem ∧ a.mem ≤ 1048576) ∧ (0 ≤ a.gpu ∧ a.gpu ≤ 1048576) ∧ (0 ≤ a.lic ∧ a.lic ≤ 1048576)
instance (a : Res) : Decidable (rightP a) := by unfold rightP; infer_instance
theorem p_vRight (a : Res) : f25 a = some (decide (rightP a)) := by
 unfold f25 F25 f49 F49
 simp only [Option.bind_some]
 by_cases h0 : a.cpu < 0
 · rw [decide_eq_true h0, decide_eq_false (show ¬ rightP a by unfold rightP; omega)]; rfl
 by_cases h1 : 1048576 < a.cpu
 · rw [decide_eq_false h0, decide_eq_true h1, decide_eq_false (show ¬ rightP a by unfold rightP; omega)]; rfl
 by_cases h2 : a.mem < 0
 · rw [decide_eq_false h0, decide_eq_false h1, decide_eq_true h2, decide_eq_false (show ¬ rightP a by unfold rightP; omega)]; rfl
 by_cases h3 : 1048576 < a.mem
 · rw [decide_eq_false h0, decide_eq_false h1, decide_eq_false h2, decide_eq_true h3, decide_eq_false (show ¬ rightP a by unfold rightP; omega)]; rfl
 by_cases h4 : a.gpu < 0
 · rw [decide_eq_false h0, decide_eq_false h1, decide_eq_false h2, decide_eq_false h3, decide_eq_true h4, decide_eq_false (show ¬ rightP a by unfold rightP; omega)]; rfl
 by_cases h5 : 1048576 < a.gpu
 · rw [decide_eq_false h0, decide_eq_false h1, decide_eq_false h2, decide_eq_false h3, decide_eq_false h4, decide_eq_true h5, decide_eq_false (show ¬ rightP a by unfold rightP; omega)]; rfl
 by_cases h6 : a.lic < 0
 · rw [decide_eq_false h0, decide_eq_false h1, decide_eq_false h2, decide_eq_false h3, decide_eq_false h4, decide_eq_false h5, decide_eq_true h6, decide_eq_false (show ¬ rightP a by unfold rightP; omega)]; rfl
 by_cases h7 : 1048576 < a.lic
 · rw [decide_eq_false h0, decide_eq_false h1, decide_eq_false h2, decide_eq_false h3, decide_eq_false h4, decide_eq_false h5, decide_eq_false h6, decide_eq_true h7, decide_eq_false (show ¬ rightP a by unfold rightP; omega)]; rfl
 rw [decide_eq_false h0, decide_eq_false h1, decide_eq_false h2, decide_eq_false h3, decide_eq_false h4, decide_eq_false h5, decide_eq_false h6, decide_eq_false h7, decide_eq_true (show rightP a by unfold rightP; omega)]; rfl
theorem right_of (r : Nat → Nat) (h : Small4 r) : rightP (resF r) := by
 have h0 := h 0 (by omega); have h1 := h 1 (by omega); have h2 := h 2 (by omega); have h3 := h 3 (by omega)
 unfold rightP resF
 simp only
 omega
theorem p_Join (l : List (List UInt8)) (h0 : l ≠ []) (h1 : l.length ≤ 4) (h2 : ∀ x ∈ l, x.length ≤ 11) : f28 l [44] = some (Lib.join l [44]) := by
 unfold f28 joinF
 match l, h0 with
 | x :: l, _ =>
   have hlen := Lib.join_length x l [44]
   have hl : ∀ (l : List (List UInt8)), (∀ x ∈ l, x.length ≤ 11) → Lib.lens l ≤ 11 * l.length := by
     intro l
     induction l with
     | nil => intro _; simp [Lib.lens]
     | cons x l ih =>
       intro h
       have a1 := ih (fun y hy => h y (by simp [hy]))
       have a2 := h x (by simp)
       simp only [Lib.lens, List.map_cons, List.sum_cons, List.length_cons] at a1 ⊢
       omega
   have a3 := hl (x :: l) h2
   simp only [List.length_cons, List.length_singleton, List.length_nil, Nat.zero_add, Nat.one_mul] at hlen h1 a3
   simp only
   rw [decide_eq_true (by simp only [List.length_cons]; omega), decide_eq_true (by rw [hlen]; omega)]
   rfl
theorem items_len (r : Nat → Nat) (hr : Small4 r) : ∀ m, m ≤ 4 → ∀ x ∈ itemsF r m, x.length ≤ 11
 | 0, _, x, hx => by simp [itemsF] at hx
 | m + 1, hm, x, hx => by
   simp only [itemsF] at hx
   split at hx
   · exact items_len r hr m (by omega) x hx
   · rcases List.mem_cons.1 hx with rfl | hx
     · exact (item_len _ _ (hr _ (by omega))).1
     · exact items_len r hr m (by omega) x hx
theorem p_Text (r : Nat → Nat) (hr : Small4 r) : f15 (resF r) = some (txtU r, 0, ()) := by
 unfold f15 F15 f26 F26
 rw [p_vRight, decide_eq_true (right_of r hr)]
 simp only [Option.bind_some, Bool.not_true, cond_false]
 refine loop_run (f := fun (s3 : ((Unit × (Int × Unit)) × ((List (List UInt8)) × Unit))) nx4 => l15_0 f27 f28 (resF r) _ nx4 s3.1.2.1 s3.2.1) 4 four_lt (fun i => (((), (i : Int), ()), (preF r i, ()))) (fun i hi next => ?_) (fun next => ?_)
 · have hl := pre_len r i
   have hs : smallB ((preF r i).length + 1) 16 = true := by simp [smallB]; omega
   have hd := (item_len i (r i) (hr i hi)).2
   have hI := p_Itoa (r i) (hr i hi)
   have w1 : IntKind.wrap .i64 1 = 1 := rfl
   have w2 : IntKind.wrap .i64 2 = 2 := rfl
   have w3 : IntKind.wrap .i64 3 = 3 := rfl
   have w4 : IntKind.wrap .i64 4 = 4 := rfl
   have hd4 : 4 + (Lib.decDigits (r i)).length ≤ 4294967296 := by omega
   have hp : preF r (i + 1) = if r i = 0 then preF r i else preF r i ++ [item i (r i)] := rfl
   rw [hp]
   clear hp
   generalize preF r i = p at hl hs ⊢
   have hs1 : (p.length + 1) * 16 ≤ 1099511627776 := by omega
   have hs2 : p.length ≤ 4294967295 := by omega
   by_cases hz : r i = 0
   · rcases (show i = 0 ∨ i = 1 ∨ i = 2 ∨ i = 3 by omega) with rfl | rfl | rfl | rfl <;> simp [l15_0, resF, hz, w1, w2, w3, w4]
   · rcases (show i = 0 ∨ i = 1 ∨ i = 2 ∨ i = 3 by omega) with rfl | rfl | rfl | rfl <;> simp [l15_0, resF, hz, hs1, hs2, hI, item, wd, w1, w2, w3, w4, hd4]
 · have hl := pre_len r 4
   simp only [l15_0]
   rw [pre_items] at hl ⊢
   unfold txtU
   by_cases h0 : itemsF r 4 = []
   · rw [if_pos h0, h0]; rfl
   · rw [if_neg h0]
     have : ¬ ((itemsF r 4).length : Int) = 0 := fun h => h0 (List.length_eq_zero_iff.1 (by omega))
     rw [decide_eq_false (show ¬ ((4 : Nat) : Int) < 4 by omega), decide_eq_false this, p_Join _ h0 hl (items_len r hr 4 (Nat.le_refl _))]
     rfl
def strS (r : Nat → Nat) : Nat → List UInt8
 | 0 => []
 | i + 1 => if r i = 0 then strS r i else if strS r i = [] then item i (r i) else strS r i ++ 44 :: item i (r i)
theorem strS_len (r : Nat → Nat) (hr : Small4 r) : ∀ i, i ≤ 4 → (strS r i).length ≤ 12 * i
 | 0, _ => by simp [strS]
 | i + 1, hi => by
   have h1 := strS_len r hr i (by omega)
   have h2 := (item_len i (r i) (hr i (by omega))).1
   simp only [strS]
   split
   · omega
   · split
     · omega
     · simp only [List.length_append, List.length_cons]; omega
theorem strS_join (r : Nat → Nat) : ∀ i, strS r i = Lib.join (preF r i) [44] ∧ (preF r i = [] → strS r i = []) ∧ (preF r i ≠ [] → strS r i ≠ [])
 | 0 => ⟨rfl, fun _ => rfl, fun h => absurd rfl h⟩
 | i + 1 => by
   obtain ⟨h1, h2, h3⟩ := strS_join r i
   have hne : item i (r i) ≠ [] := by simp [item]
   simp only [strS, preF]
   by_cases hz : r i = 0
   · rw [if_pos hz, if_pos hz]; exact ⟨h1, h2, h3⟩
   · rw [if_neg hz, if_neg hz]
     by_cases hp : preF r i = []
     · rw [if_pos (h2 hp), hp]
       exact ⟨by rw [List.nil_append, Lib.join_one], fun h => by simp at h, fun _ => hne⟩
     · rw [if_neg (h3 hp), join_snoc _ _ _ hp, ← h1]
       refine ⟨by simp, fun h => by simp at h, fun _ => by simp⟩
theorem r_Text (r : Nat → Nat) (hr : Small4 r) : f20 (resF r) = some (txtU r) := by
 unfold f20 F20
 refine loop_run (f := fun (s1 : ((Unit × (Unit × ((List UInt8) × (Int × Unit)))) × ((List Int) × ((List (List UInt8)) × Unit)))) nx2 => l20_0 f37 nx2 s1.1.2.2.1 s1.1.2.2.2.1 s1.2.1 s1.2.2.1) 4 four_lt
   (fun i => (((), (), strS r i, (i : Int), ()), ([(r 0 : Int), (r 1 : Int), (r 2 : Int), (r 3 : Int)], [([99, 112, 117] : List UInt8), ([109, 101, 109] : List UInt8), ([103, 112, 117] : List UInt8), ([108, 105, 99] : List UInt8)], ()))) (fun i hi next => ?_) (fun next => ?_)
 · have hl := strS_len r hr i (by omega)
   have hd := (item_len i (r i) (hr i hi)).2
   have hI := r_Digits (r i) (hr i hi)
   have w1 : IntKind.wrap .i64 1 = 1 := rfl
   have w2 : IntKind.wrap .i64 2 = 2 := rfl
   have w3 : IntKind.wrap .i64 3 = 3 := rfl
   have w4 : IntKind.wrap .i64 4 = 4 := rfl
   have hp : strS r (i + 1) = if r i = 0 then strS r i else if strS r i = [] then item i (r i) else strS r i ++ 44 :: item i (r i) := rfl
   rw [hp]
   clear hp
   generalize strS r i = p at hl ⊢
   have b1 : p.length + 1 ≤ 4294967296 := by omega
   have b7 : p.length ≤ 4294967295 := by omega
   have b8 : p.length ≤ 4294967292 := by omega
   have b9 : p.length ≤ 4294967291 := by omega
   have b2 : p.length + 4 ≤ 4294967296 := by omega
   have b3 : p.length + 5 ≤ 4294967296 := by omega
   have b4 : p.length + (5 + (Lib.decDigits (r i)).length) ≤ 4294967296 := by omega
   have b5 : 4 + (Lib.decDigits (r i)).length ≤ 4294967296 := by omega
   have b6 : p.length + 5 + (Lib.decDigits (r i)).length ≤ 4294967296 := by omega
   by_cases hz : r i = 0
   · rcases (show i = 0 ∨ i = 1 ∨ i = 2 ∨ i = 3 by omega) with rfl | rfl | rfl | rfl <;> simp [l20_0, hz, w1, w2, w3, w4]
   · by_cases hp : p = []
     · subst hp
       rcases (show i = 0 ∨ i = 1 ∨ i = 2 ∨ i = 3 by omega) with rfl | rfl | rfl | rfl <;> simp [l20_0, hz, hI, item, wd, w1, w2, w3, w4, b5]
     · rcases (show i = 0 ∨ i = 1 ∨ i = 2 ∨ i = 3 by omega) with rfl | rfl | rfl | rfl <;> simp [l20_0, hz, hp, hI, item, wd, w1, w2, w3, w4, b1, b2, b3, b4, b6, b7, b8, b9]
 · obtain ⟨h1, h2, h3⟩ := strS_join r 4
   rw [pre_items] at h1 h2 h3
   simp only [l20_0]
   rw [decide_eq_false (show ¬ ((4 : Nat) : Int) < 4 by omega)]
   unfold txtU
   by_cases h0 : itemsF r 4 = []
   · rw [if_pos h0, h2 h0]; rfl
   · rw [if_neg h0, decide_eq_false (h3 h0), h1]; rfl
end NM
end Go.Proofs.YtjngkfdclcgfhaaGreatDoor
end
section
namespace Go.Proofs.YtjngkfdclcgfhaaGreatDoor
namespace NM
open AM
theorem cut_none (c : UInt8) : ∀ a : List UInt8, c ∉ a → cutL c a = (a, ([], false))
 | [], _ => rfl
 | x :: a, h => by
   have hx : ¬ x = c := fun e => h (by simp [e])
   have := cut_none c a (fun hm => h (by simp [hm]))
   simp [cutL, hx, this]
theorem cut_len1 (c : UInt8) (s : List UInt8) : (cutL c s).1.length ≤ s.length := by
 rcases cut_idx c s with ⟨_, _, h⟩ | ⟨_, _, h, _⟩
 · have := congrArg List.length h; simp at this; omega
 · rw [h]; exact Nat.le_refl _
theorem wd_inj : ∀ i j : Fin 4, wd i.val = wd j.val → i = j := by decide
theorem wd_no : ∀ i : Fin 4, (61 : UInt8) ∉ wd i.val ∧ (44 : UInt8) ∉ wd i.val := by decide
theorem items_zero (r : Nat → Nat) : ∀ m, m ≤ 4 → (∀ j, 4 - m ≤ j → j < 4 → r j = 0) → itemsF r m = []
 | 0, _, _ => rfl
 | m + 1, hm, h => by
   simp only [itemsF]
   rw [if_pos (h (3 - m) (by omega) (by omega))]
   exact items_zero r m (by omega) fun j h1 h2 => h j (by omega) h2
theorem zero_items (r : Nat → Nat) : ∀ m, m ≤ 4 → itemsF r m = [] → ∀ j, 4 - m ≤ j → j < 4 → r j = 0
 | 0, _, _, j, h1, h2 => by omega
 | m + 1, hm, h, j, h1, h2 => by
   simp only [itemsF] at h
   split at h
   · rename_i hz
     by_cases hj : j = 3 - m
     · rw [hj]; exact hz
     · exact zero_items r m (by omega) h j (by omega) h2
   · cases h
theorem items_at (r : Nat → Nat) (i : Nat) (hi : i < 4) (hr : r i ≠ 0) : ∀ d k, k + d = i → (∀ j, k ≤ j → j < i → r j = 0) → itemsF r (4 - k) = item i (r i) :: itemsF r (3 - i)
 | 0, k, hk, _ => by
   have : k = i := by omega
   subst this
   rw [show 4 - k = (3 - k) + 1 by omega]
   simp only [itemsF]
   rw [show 3 - (3 - k) = k by omega, if_neg hr]
 | d + 1, k, hk, h => by
   rw [show 4 - k = (3 - k) + 1 by omega]
   simp only [itemsF]
   rw [show 3 - (3 - k) = k by omega, if_pos (h k (by omega) (by omega)), show 3 - k = 4 - (k + 1) by omega]
   exact items_at r i hi hr d (k + 1) (by omega) fun j h1 h2 => h j (by omega) h2
theorem join_two (x : List UInt8) (l : List (List UInt8)) (h : l ≠ []) : Lib.join (x :: l) [44] = x ++ 44 :: Lib.join l [44] := by
 match l, h with
 | y :: l, _ =>
   rw [Lib.join_cons, Lib.join_cons]
   simp [Lib.joinTail]
def words4 : List (List UInt8) := [([99, 112, 117] : List UInt8), ([109, 101, 109] : List UInt8), ([103, 112, 117] : List UInt8), ([108, 105, 99] : List UInt8)]
theorem words_at (k : Nat) (hk : k < 4) : words4[k]? = some (wd k) := by
 rcases (show k = 0 ∨ k = 1 ∨ k = 2 ∨ k = 3 by omega) with rfl | rfl | rfl | rfl <;> rfl
theorem p_find (k : Nat) (hk : k ≤ 4) (word : List UInt8) :
   (∃ i, k ≤ i ∧ i < 4 ∧ word = wd i ∧ f57 words4 (k : Int) word = some (i : Int)) ∨ ((∀ i, k ≤ i → i < 4 → word ≠ wd i) ∧ f57 words4 (k : Int) word = some (-1)) := by
 unfold f57 F57
 have key : ∀ n k, k ≤ 4 → 4 - k < n → (∃ i, k ≤ i ∧ i < 4 ∧ word = wd i ∧ loopN (fun (s3 : ((Int × Unit) × Unit)) nx4 => l57_0 words4 word nx4 s3.1.1) n ((((k : Nat) : Int), ()), ()) = some (i : Int)) ∨ ((∀ i, k ≤ i → i < 4 → word ≠ wd i) ∧ loopN (fun (s3 : ((Int × Unit) × Unit)) nx4 => l57_0 words4 word nx4 s3.1.1) n ((((k : Nat) : Int), ()), ()) = some (-1)) := by
   intro n
   induction n with
   | zero => intro k _ h; omega
   | succ n ih =>
     intro k hk h
     simp only [loopN, l57_0]
     have hl : words4.length = 4 := rfl
     rw [hl]
     rcases Nat.lt_or_ge k 4 with h4 | h4
     · rw [decide_eq_true (show ((k : Nat) : Int) < ((4 : Nat) : Int) by omega), decide_eq_true (show (0 : Int) ≤ (k : Int) by omega), show Int.toNat ((k : Nat) : Int) = k by omega, words_at k h4]
       simp only [cond_true, Option.bind_some]
       by_cases hw : wd k = word
       · refine .inl ⟨k, Nat.le_refl _, h4, hw.symm, ?_⟩
         rw [decide_eq_true hw]
         rfl
       · rw [decide_eq_false hw, wi (by omega) (by omega)]
         simp only [cond_false]
         rcases ih (k + 1) (by omega) (by omega) with ⟨i, h1, h2, h3, h5⟩ | ⟨h1, h2⟩
         · exact .inl ⟨i, by omega, h2, h3, h5⟩
         · refine .inr ⟨fun i h3 h5 => ?_, h2⟩
           by_cases e : i = k
           · subst e; exact fun e => hw e.symm
           · exact h1 i (by omega) h5
     · rw [decide_eq_false (show ¬ ((k : Nat) : Int) < ((4 : Nat) : Int) by omega)]
       exact .inr ⟨fun i h1 h2 => by omega, rfl⟩
 exact key LOOPS k hk (by unfold LOOPS; omega)
def tupF (v : Nat → Nat) : Int × (Int × (Int × Int)) := ((v 0 : Int), ((v 1 : Int), ((v 2 : Int), (v 3 : Int))))
def updF (v : Nat → Nat) (i n : Nat) : Nat → Nat := fun j => if j = i then n else v j
abbrev StU := (((List UInt8) × (Unit × (Unit × (Int × (Bool × Unit))))) × (Res × ((Int × (Int × (Int × Int))) × Unit)))
def stU (zs : List UInt8) (k : Nat) (more : Bool) (v : Nat → Nat) : StU := ((zs, (), (), (k : Int), more, ()), (Res.mk 0 0 0 0, (tupF v, ())))
def stepU : StU → (StU → Option (Res × (Int × Unit))) → Option (Res × (Int × Unit)) := fun s2 nx3 => l34_0 f18 f57 f58 words4 nx3 s2.1.1 s2.1.2.2.2.1 s2.1.2.2.2.2.1 s2.2.1 s2.2.2.1
def badU : Option (Res × (Int × Unit)) := some (Res.mk 0 0 0 0, 11, ())
theorem step_u (zs : List UInt8) (hz : zs.length ≤ 4294967296) (k : Nat) (hk : k ≤ 4) (v : Nat → Nat) (next) :
   (∃ i n, k ≤ i ∧ i < 4 ∧ 1 ≤ n ∧ (cutL 61 (cutL 44 zs).1).1 = wd i ∧ numGo (cutL 61 (cutL 44 zs).1).2.1 true 0 = ((n : Nat) : Int) ∧ stepU (stU zs k true v) next = next (stU (cutL 44 zs).2.1 (i + 1) (cutL 44 zs).2.2 (updF v i n))) ∨
   ((∀ i, k ≤ i → i < 4 → (cutL 61 (cutL 44 zs).1).1 = wd i → numGo (cutL 61 (cutL 44 zs).1).2.1 true 0 < 1) ∧ stepU (stU zs k true v) next = badU) := by
 have hm : maxLen = 9223372036854775807 := rfl
 have c1 := p_Cut zs 44 (by omega)
 have c2 := p_Cut (cutL 44 zs).1 61 (by have := cut_len1 44 zs; omega)
 simp only [stepU, stU, l34_0, cond_true, c1, c2, Option.bind_some]
 clear c1 c2
 generalize cutL 44 zs = c
 generalize cutL 61 c.1 = d
 have hn : f58 d.2.1 = some (numGo d.2.1 true 0) := rfl
 rw [hn]
 simp only [Option.bind_some]
 clear hn
 generalize numGo d.2.1 true 0 = m
 rcases p_find k hk d.1 with ⟨i, h1, h2, h3, h4⟩ | ⟨h1, h2⟩
 · rw [h4]
   simp only [Option.bind_some]
   rw [decide_eq_false (show ¬ (i : Int) < 0 by omega), wi (show -9223372036854775808 ≤ (i : Int) + 1 by omega) (by omega)]
   by_cases hm : m < 1
   · refine .inr ⟨fun _ _ _ _ => hm, ?_⟩
     rw [decide_eq_true hm]
     rfl
   · refine .inl ⟨i, m.toNat, h1, h2, by omega, h3, by omega, ?_⟩
     rw [decide_eq_false hm]
     have e : ((m.toNat : Nat) : Int) = m := by omega
     rcases (show i = 0 ∨ i = 1 ∨ i = 2 ∨ i = 3 by omega) with rfl | rfl | rfl | rfl <;> simp [updF, tupF, e]
 · refine .inr ⟨fun i h3 h4 h5 => absurd h5 (h1 i h3 h4), ?_⟩
   rw [h2]
   rfl
theorem first_nz (r : Nat → Nat) : ∀ d k, k + d = 4 → itemsF r (4 - k) ≠ [] → ∃ i, k ≤ i ∧ i < 4 ∧ r i ≠ 0 ∧ ∀ j, k ≤ j → j < i → r j = 0
 | 0, k, hk, h => by
   have : k = 4 := by omega
   subst this
   exact absurd rfl h
 | d + 1, k, hk, h => by
   by_cases h0 : r k = 0
   · have hi : itemsF r (4 - k) = itemsF r (4 - (k + 1)) := by
       rw [show 4 - k = (4 - (k + 1)) + 1 by omega]
       simp only [itemsF]
       rw [show 3 - (4 - (k + 1)) = k by omega, if_pos h0]
     obtain ⟨i, h1, h2, h3, h4⟩ := first_nz r d (k + 1) (by omega) (by rw [← hi]; exact h)
     refine ⟨i, by omega, h2, h3, fun j h5 h6 => ?_⟩
     by_cases e : j = k
     · rw [e]; exact h0
     · exact h4 j (by omega) h6
   · exact ⟨k, Nat.le_refl _, by omega, h0, fun j h1 h2 => by omega⟩
theorem dig_no (n : Nat) : (44 : UInt8) ∉ Lib.decDigits n := fun h => by
 have := dec_dig n _ h
 exact absurd this.1 (by decide)
theorem wd_no' (i : Nat) (hi : i < 4) : (61 : UInt8) ∉ wd i ∧ (44 : UInt8) ∉ wd i := wd_no ⟨i, hi⟩
theorem wd_inj' (i j : Nat) (hi : i < 4) (hj : j < 4) (h : wd i = wd j) : i = j := congrArg Fin.val (wd_inj ⟨i, hi⟩ ⟨j, hj⟩ h)
theorem item_no (i n : Nat) (hi : i < 4) : (44 : UInt8) ∉ item i n := fun h => by
 simp only [item, List.mem_append, List.mem_cons] at h
 rcases h with h | h | h
 · exact (wd_no' i hi).2 h
 · exact absurd h (by decide)
 · exact dig_no n h
theorem item_cut (i n : Nat) (hi : i < 4) : cutL 61 (item i n) = (wd i, (Lib.decDigits n, true)) := cut_at 61 _ _ (wd_no' i hi).1
theorem read_fwd (r : Nat → Nat) (hr : Small4 r) : ∀ n k v, k ≤ 4 → 4 - k < n → (∀ j, j < k → v j = r j) → (∀ j, k ≤ j → v j = 0) → itemsF r (4 - k) ≠ [] → (Lib.join (itemsF r (4 - k)) [44]).length ≤ 4294967296 →
   loopN stepU (n + 1) (stU (Lib.join (itemsF r (4 - k)) [44]) k true v) = some (resF r, 0, ())
 | 0, k, v, hk, hn, _, _, _, _ => by omega
 | n + 1, k, v, hk, hn, hv, hz, hne, hlen => by
   obtain ⟨i, h1, h2, h3, h4⟩ := first_nz r (4 - k) k (by omega) hne
   have hit := items_at r i h2 h3 (i - k) k (by omega) h4
   have hsame : ∀ j, j < i + 1 → updF v i (r i) j = r j := fun j hj => by
     unfold updF
     split
     · rename_i e; rw [e]
     · rcases Nat.lt_or_ge j k with h | h
       · exact hv j h
       · rw [hz j h, h4 j h (by omega)]
   have hzero : ∀ j, i + 1 ≤ j → updF v i (r i) j = 0 := fun j hj => by
     unfold updF
     rw [if_neg (by omega)]
     exact hz j (by omega)
   have hgo : ∀ rest more, cutL 44 (Lib.join (itemsF r (4 - k)) [44]) = (item i (r i), (rest, more)) →
       loopN stepU (n + 1 + 1) (stU (Lib.join (itemsF r (4 - k)) [44]) k true v) = loopN stepU (n + 1) (stU rest (i + 1) more (updF v i (r i))) := by
     intro rest more hc
     rcases step_u (Lib.join (itemsF r (4 - k)) [44]) hlen k hk v (loopN stepU (n + 1)) with ⟨i', n', g1, g2, g3, g4, g5, g6⟩ | ⟨g1, g2⟩
     · rw [hc] at g4 g5 g6
       rw [item_cut i _ h2] at g4 g5
       have e := wd_inj' i i' h2 g2 g4
       subst e
       rw [num_dec _ (by omega) (hr i h2)] at g5
       have : n' = r i := by omega
       subst this
       exact g6
     · have := g1 i h1 h2
       rw [hc, item_cut i _ h2] at this
       have := this rfl
       rw [num_dec _ (by omega) (hr i h2)] at this
       omega
   by_cases hrest : itemsF r (3 - i) = []
   · rw [hgo [] false (by rw [hit, hrest, Lib.join_one, cut_none _ _ (item_no i _ h2)])]
     show some (resF _, 0, ()) = _
     have hz2 := zero_items r (3 - i) (by omega) hrest
     have hall : ∀ j, j < 4 → updF v i (r i) j = r j := fun j hj => by
       rcases Nat.lt_or_ge j (i + 1) with h | h
       · exact hsame j h
       · rw [hzero j h, hz2 j (by omega) hj]
     unfold resF
     rw [hall 0 (by omega), hall 1 (by omega), hall 2 (by omega), hall 3 (by omega)]
   · have hj : Lib.join (itemsF r (4 - k)) [44] = item i (r i) ++ 44 :: Lib.join (itemsF r (3 - i)) [44] := by rw [hit, join_two _ _ hrest]
     rw [hgo (Lib.join (itemsF r (3 - i)) [44]) true (by rw [hj, cut_at _ _ _ (item_no i _ h2)])]
     have e : 3 - i = 4 - (i + 1) := by omega
     rw [e] at hrest hj ⊢
     refine read_fwd r hr n (i + 1) _ (by omega) (by omega) hsame hzero hrest ?_
     have := congrArg List.length hj
     simp only [List.length_append, List.length_cons] at this
     omega
theorem num_none : numGo [] true 0 = 0 := rfl
theorem read_bwd : ∀ n k zs v, zs.length ≤ 4294967296 → k ≤ 4 → 4 - k < n → (∀ j, k ≤ j → v j = 0) →
   loopN stepU (n + 1) (stU zs k true v) = badU ∨ ∃ r : Nat → Nat, (∀ j, j < k → r j = v j) ∧ (∀ j, k ≤ j → j < 4 → r j ≤ 1048576) ∧ itemsF r (4 - k) ≠ [] ∧ zs = Lib.join (itemsF r (4 - k)) [44] ∧ loopN stepU (n + 1) (stU zs k true v) = some (resF r, 0, ())
 | 0, k, zs, v, _, hk, hn, _ => by omega
 | n + 1, k, zs, v, hlen, hk, hn, hz => by
   rcases step_u zs hlen k hk v (loopN stepU (n + 1)) with ⟨i, m, g1, g2, g3, g4, g5, g6⟩ | ⟨g1, g2⟩
   · have g6 : loopN stepU (n + 1 + 1) (stU zs k true v) = loopN stepU (n + 1) (stU (cutL 44 zs).2.1 (i + 1) (cutL 44 zs).2.2 (updF v i m)) := g6
     obtain ⟨m', q1, q2, q3, q4⟩ := num_inv _ (show 1 ≤ numGo (cutL 61 (cutL 44 zs).1).2.1 true 0 by omega)
     have : m' = m := by omega
     subst this
     have hitem : (cutL 44 zs).1 = item i m' := by
       rcases cut_idx 61 (cutL 44 zs).1 with ⟨a1, a2, a3⟩ | ⟨a1, a2, a3, a4⟩
       · rw [a3, g4, q4]; rfl
       · rw [a4, num_none] at q1; omega
     have hk' : ∀ j, j < k → updF v i m' j = v j := fun j hj => by unfold updF; rw [if_neg (by omega)]
     have hz' : ∀ j, i + 1 ≤ j → updF v i m' j = 0 := fun j hj => by
       unfold updF
       rw [if_neg (by omega)]
       exact hz j (by omega)
     rcases cut_idx 44 zs with ⟨a1, a2, a3⟩ | ⟨a1, a2, a3, a4⟩
     · rw [a1] at g6
       have hl2 := cut_len 44 zs
       rcases read_bwd n (i + 1) (cutL 44 zs).2.1 (updF v i m') (by omega) (by omega) (by omega) hz' with h | ⟨r, b1, b2, b3, b4, b5⟩
       · exact .inl (g6.trans h)
       · refine .inr ⟨r, fun j hj => (b1 j (by omega)).trans (hk' j hj), fun j h1 h2 => ?_, ?_, ?_, g6.trans b5⟩
         · rcases Nat.lt_or_ge j (i + 1) with h | h
           · rw [b1 j h]
             unfold updF
             split
             · exact q3
             · rw [hz j h1]; omega
           · exact b2 j h h2
         all_goals
           have e1 : r i = m' := by rw [b1 i (by omega)]; unfold updF; rw [if_pos rfl]
           have hit := items_at r i g2 (by omega) (i - k) k (by omega) (fun j h1 h2 => by
             rw [b1 j (by omega)]
             unfold updF
             rw [if_neg (by omega)]
             exact hz j h1)
         · rw [hit]; simp
         · rw [hit, show 3 - i = 4 - (i + 1) by omega, join_two _ _ b3, ← b4, e1, ← hitem]
           exact a3
     · rw [a1] at g6
       refine .inr ⟨updF v i m', hk', fun j h1 h2 => ?_, ?_, ?_, g6⟩
       · unfold updF
         split
         · exact q3
         · rw [hz j h1]; omega
       all_goals
         have e1 : updF v i m' i = m' := by unfold updF; rw [if_pos rfl]
         have hit := items_at (updF v i m') i g2 (by omega) (i - k) k (by omega) (fun j h1 h2 => by
           unfold updF
           rw [if_neg (by omega)]
           exact hz j h1)
         rw [items_zero _ (3 - i) (by omega) (fun j h1 h2 => hz' j (by omega)), e1] at hit
       · rw [hit]; simp
       · rw [hit, Lib.join_one, ← hitem, a3]
   · exact .inl g2
theorem join_none (r : Nat → Nat) (h : itemsF r 4 ≠ []) : Lib.join (itemsF r 4) [44] ≠ noneB := fun e => by
 have h0 : (61 : UInt8) ∈ Lib.join (itemsF r 4) [44] := by
   obtain ⟨i, h1, h2, h3, h4⟩ := first_nz r 4 0 rfl h
   have hit := items_at r i h2 h3 i 0 (by omega) h4
   rw [hit, Lib.join_cons]
   simp [item]
 rw [e] at h0
 exact absurd h0 (by decide)
theorem txt_len (r : Nat → Nat) (hr : Small4 r) : (txtU r).length ≤ 48 := by
 unfold txtU
 split
 · simp [noneB]
 · have := strS_len r hr 4 (Nat.le_refl _)
   rw [(strS_join r 4).1, pre_items] at this
   exact this
theorem loops_one : LOOPS = (LOOPS - 1) + 1 := by unfold LOOPS; omega
theorem LN_one {σ ω : Type} (f : σ → (σ → Option ω) → Option ω) (s : σ) : LN LOOPS f s = loopN f (LOOPS - 1 + 1) s :=
 congrArg (fun n => loopN f n s) loops_one
theorem read_loop (s : List UInt8) (h : s ≠ noneB) : f34 s = loopN stepU (LOOPS - 1 + 1) (stU s 0 true (fun _ => 0)) := by
 unfold f34 F34
 rw [decide_eq_false (show ¬ s = ([110, 111, 110, 101] : List UInt8) from h), ← LN_one]
 have e : f26 = some words4 := rfl
 rw [e]
 simp only [cond_false, Option.bind_some]
 generalize LOOPS = m
 rfl
theorem p_Read_txt (r : Nat → Nat) (hr : Small4 r) : f34 (txtU r) = some (resF r, 0, ()) := by
 have hl := txt_len r hr
 unfold txtU at hl ⊢
 by_cases h : itemsF r 4 = []
 · rw [if_pos h]
   have hz := zero_items r 4 (Nat.le_refl _) h
   unfold resF
   rw [hz 0 (by omega) (by omega), hz 1 (by omega) (by omega), hz 2 (by omega) (by omega), hz 3 (by omega) (by omega)]
   rfl
 · rw [if_neg h] at hl ⊢
   rw [read_loop _ (join_none r h)]
   exact read_fwd r hr (LOOPS - 1) 0 (fun _ => 0) (by omega) (by unfold LOOPS; omega) (fun j hj => by omega) (fun j hj => rfl) h (by rw [show 4 - 0 = 4 from rfl]; omega)
theorem p_Read (s : List UInt8) (hs : s.length ≤ 4294967296) : (∃ r, Small4 r ∧ s = txtU r) ∨ ((∀ r, Small4 r → s ≠ txtU r) ∧ f34 s = badU) := by
 by_cases hn : s = noneB
 · refine .inl ⟨fun _ => 0, fun j hj => Nat.zero_le _, ?_⟩
   rw [hn]
   rfl
 · have hread := read_loop s hn
   rcases read_bwd (LOOPS - 1) 0 s (fun _ => 0) hs (by omega) (by unfold LOOPS; omega) (fun _ _ => rfl) with h | ⟨r, b1, b2, b3, b4, b5⟩
   · refine .inr ⟨fun r hr e => ?_, hread.trans h⟩
     have h2 := hread.trans h
     rw [e, p_Read_txt r hr] at h2
     exact absurd (congrArg (fun o => o.map fun p => p.2.1) h2) (by simp [badU])
   · refine .inl ⟨r, fun j hj => b2 j (by omega) hj, ?_⟩
     unfold txtU
     rw [if_neg b3]
     exact b4
end NM
end Go.Proofs.YtjngkfdclcgfhaaGreatDoor
end
section
namespace Go.Proofs.YtjngkfdclcgfhaaGreatDoor
namespace NM
open AM
def resOk (a : Res) : Bool := decide (0 ≤ a.cpu ∧ a.cpu ≤ 1048576 ∧ 0 ≤ a.mem ∧ a.mem ≤ 1048576 ∧ 0 ≤ a.gpu ∧ a.gpu ≤ 1048576 ∧ 0 ≤ a.lic ∧ a.lic ≤ 1048576)
def asc (e : Int) : Int → List Int → Bool
 | _, [] => true
 | a, n :: l => decide (a < n) && decide (n < e) && asc e n l
def nodesOk (s : Spec) : Bool := decide (1 ≤ s.nodes.length ∧ s.nodes.length ≤ 16) && s.nodes.all resOk
def partsOk (s : Spec) : Bool := decide (1 ≤ s.parts.length ∧ s.parts.length ≤ 8) && s.parts.all fun p => decide (1 ≤ p.length) && asc s.nodes.length (-1) p
def queueOk (s : Spec) (q : Queue) : Bool := decide (0 ≤ q.part ∧ q.part < s.parts.length) && asc s.users (-1) q.users && decide (1 ≤ q.maxJobs ∧ q.maxJobs ≤ 256 ∧ 1 ≤ q.maxRun ∧ q.maxRun ≤ 256 ∧ 1 ≤ q.maxUser ∧ q.maxUser ≤ 256 ∧ 0 ≤ q.qos ∧ q.qos ≤ 100)
def queuesOk (s : Spec) : Bool := decide (1 ≤ s.queues.length ∧ s.queues.length ≤ 8) && s.queues.all (queueOk s)
def weightsOk (w : Weights) : Bool := decide (0 ≤ w.age ∧ w.age ≤ 1000 ∧ 0 ≤ w.size ∧ w.size ≤ 1000 ∧ 0 ≤ w.qos ∧ w.qos ≤ 1000 ∧ 0 ≤ w.share ∧ w.share ≤ 1000)
theorem p_numbers (a : Res) : f49 a = some (a.cpu, a.mem, a.gpu, a.lic) := rfl
theorem p_vecRight (a : Res) : f25 a = some (resOk a) := by
 unfold f25 F25
 simp only [p_numbers, Option.bind_some, cond_somes]
 congr 1
 rw [Bool.eq_iff_iff]
 simp [resOk]
theorem p_nodesRight (s : Spec) (hs : Rng.P s) : f40 s = some (nodesOk s) := by
 unfold f40 F40
 rw [all_loop s.nodes (fun z => ((z, ()), ())) resOk true hs.1.1]
 · simp only [cond_somes, nodesOk, Bool.and_true]
   congr 1
   cases s.nodes.all resOk <;> rw [Bool.eq_iff_iff] <;> simp <;> omega
 · intro next
   simp [l40_0]
 · intro z x next h0 h1 h2 h3
   simp only [l40_0, h0, h1, h2, h3, decide_true, cond_true, Option.bind_some, p_vecRight]
   cases resOk x <;> rfl
theorem p_ascending (l : List Int) (hl : l.length ≤ maxLen) (e : Int) : f61 l e = some (asc e (-1) l) := by
 unfold f61 F61
 rw [list_loop l (fun b z => ((b, z, ()), ())) (fun b x => cond (decide (x ≤ b) || decide (e ≤ x)) (.inr (some false)) (.inl x)) (fun _ => some true) hl]
 · generalize (-1 : Int) = a
   clear hl
   induction l generalizing a with
   | nil => rfl
   | cons n l ih =>
     simp only [runL, asc]
     by_cases h1 : n ≤ a
     · simp [h1]; omega
     · by_cases h2 : e ≤ n
       · simp [h1, h2]; omega
       · have h3 : a < n := by omega
         have h4 : n < e := by omega
         simp [h1, h2, h3, h4, ih]
 · intro b next
   simp [l61_0]
 · intro b z x next h0 h1 h2 h3
   simp only [l61_0, h0, h1, h2, h3, decide_true, cond_true, Option.bind_some]
   by_cases h4 : x ≤ b <;> by_cases h5 : e ≤ x <;> simp [h4, h5]
theorem p_partsRight (s : Spec) (hs : Rng.P s) : f42 s = some (partsOk s) := by
 unfold f42 F42
 rw [all_loop s.parts (fun z => (((), z, ()), (s, ()))) (fun p => decide (1 ≤ p.length) && asc s.nodes.length (-1) p) true hs.2.1.1]
 · simp only [cond_somes, partsOk, Bool.and_true]
   congr 1
   cases s.parts.all _ <;> rw [Bool.eq_iff_iff] <;> simp <;> omega
 · intro next
   simp [l42_0]
 · intro z x next h0 h1 h2 h3
   have hx := (hs.2.1.2 x (List.mem_of_getElem? h2)).1
   simp only [l42_0, h0, h1, h2, h3, decide_true, cond_true, Option.bind_some, p_ascending x hx]
   by_cases h4 : x.length < 1
   · have : x = [] := List.eq_nil_of_length_eq_zero (by omega)
     simp [this]
   · have h5 : 1 ≤ x.length := by omega
     have h6 : ¬ ((x.length : Int) < 1) := by omega
     simp only [h5, h6, decide_true, decide_false, cond_false, Bool.true_and]
     cases asc s.nodes.length (-1) x <;> rfl
theorem p_queuesRight (s : Spec) (hs : Rng.P s) : f45 s = some (queuesOk s) := by
 unfold f45 F45
 rw [all_loop s.queues (fun z => (((), z, ()), (s, ()))) (queueOk s) true hs.2.2.1.1]
 · simp only [cond_somes, queuesOk, Bool.and_true]
   congr 1
   cases s.queues.all _ <;> rw [Bool.eq_iff_iff] <;> simp <;> omega
 · intro next
   simp [l45_0]
 · intro z x next h0 h1 h2 h3
   have hx : x.users.length ≤ maxLen := (hs.2.2.1.2 x (List.mem_of_getElem? h2)).2.1.1
   simp only [l45_0, h0, h1, h2, h3, decide_true, cond_true, Option.bind_some, p_ascending _ hx, chk0 next, chk1]
   congr 1
   simp only [queueOk]
   cases asc s.users (-1) x.users <;> rw [Bool.eq_iff_iff] <;> simp <;> omega
theorem p_weightsRight (w : Weights) : f47 w = some (weightsOk w) := by
 unfold f47 F47
 simp only [cond_somes]
 congr 1
 rw [Bool.eq_iff_iff]
 simp [weightsOk]
def inB (n lo hi : Int) : Bool := decide (lo ≤ n) && decide (n ≤ hi)
theorem p_c1 (s : Spec) (hs : Rng.P s) : f39 s.nodes s.parts s.queues s.users s.weights.age s.weights.size s.weights.qos s.weights.share s.decay s.mode s.jobs s.ids s.versions s.linger s.keep s.inn s.out s.cache = some (nodesOk s) := (congrArg (fun o => Option.bind o fun r => some r) (p_nodesRight s hs)).trans rfl
theorem p_c2 (s : Spec) (hs : Rng.P s) : f41 s.nodes s.parts s.queues s.users s.weights.age s.weights.size s.weights.qos s.weights.share s.decay s.mode s.jobs s.ids s.versions s.linger s.keep s.inn s.out s.cache = some (partsOk s) := (congrArg (fun o => Option.bind o fun r => some r) (p_partsRight s hs)).trans rfl
theorem p_c3 (s : Spec) (hs : Rng.P s) : f44 s.nodes s.parts s.queues s.users s.weights.age s.weights.size s.weights.qos s.weights.share s.decay s.mode s.jobs s.ids s.versions s.linger s.keep s.inn s.out s.cache = some (queuesOk s) := (congrArg (fun o => Option.bind o fun r => some r) (p_queuesRight s hs)).trans rfl
theorem p_c4 (s : Spec) : f46 s.nodes s.parts s.queues s.users s.weights.age s.weights.size s.weights.qos s.weights.share s.decay s.mode s.jobs s.ids s.versions s.linger s.keep s.inn s.out s.cache = some (weightsOk s.weights) := (congrArg (fun o => Option.bind o fun r => some r) (p_weightsRight s.weights)).trans rfl
theorem p_c5 (s : Spec) : f48 s.nodes s.parts s.queues s.users s.weights.age s.weights.size s.weights.qos s.weights.share s.decay s.mode s.jobs s.ids s.versions s.linger s.keep s.inn s.out s.cache = some (decide (s.mode = 1) || decide (s.mode = 2)) := by
 unfold f48 F48
 simp only [cond_somes, Bool.cond_true_left]
theorem p_within (lo n hi : Int) : f62 lo n hi = some (inB n lo hi) := by
 unfold f62 F62
 simp only [cond_somes, Bool.cond_false_right, inB]
def flaw (s : Spec) : List UInt8 := cond (!(nodesOk s)) [78, 111, 100, 101, 115] (cond (!(partsOk s)) [80, 97, 114, 116, 115] (cond (!(inB s.users 1 8)) [85, 115, 101, 114, 115] (cond (!(queuesOk s)) [81, 117, 101, 117, 101, 115] (cond (!(weightsOk s.weights)) [87, 101, 105, 103, 104, 116, 115] (cond (!(inB s.decay 1 16)) [68, 101, 99, 97, 121] (cond (!(decide (s.mode = 1) || decide (s.mode = 2))) [77, 111, 100, 101] (cond (!(inB s.jobs 1 256)) [74, 111, 98, 115] (cond (!(inB s.ids 1 1048576)) [73, 100, 115] (cond (!(inB s.versions 1 65536)) [86, 101, 114, 115, 105, 111, 110, 115] (cond (!(inB s.linger 0 65536)) [76, 105, 110, 103, 101, 114] (cond (!(inB s.keep 1 16)) [75, 101, 101, 112] (cond (!(inB s.inn 1 8)) [73, 110] (cond (!(inB s.out 1 16)) [79, 117, 116] (cond (!(inB s.cache 0 16)) [67, 97, 99, 104, 101] ([])))))))))))))))
def specOk (s : Spec) : Bool := nodesOk s && (partsOk s && (inB s.users 1 8 && (queuesOk s && (weightsOk s.weights && (inB s.decay 1 16 && ((decide (s.mode = 1) || decide (s.mode = 2)) && (inB s.jobs 1 256 && (inB s.ids 1 1048576 && (inB s.versions 1 65536 && (inB s.linger 0 65536 && (inB s.keep 1 16 && (inB s.inn 1 8 && (inB s.out 1 16 && (inB s.cache 0 16))))))))))))))
theorem p_Flaw (s : Spec) (hs : Rng.P s) : f14 s = some (flaw s) := by
 unfold f14 F14
 rw [show f24 s = some _ from rfl]
 simp only [Option.bind_some, p_c1 s hs, p_c2 s hs, p_c3 s hs, p_c4 s, p_c5 s, p_within, cond_somes]
 rfl
theorem flaw_bits (b0 b1 b2 b3 b4 b5 b6 b7 b8 b9 b10 b11 b12 b13 b14 : Bool) : decide (cond (!b0) [78, 111, 100, 101, 115] (cond (!b1) [80, 97, 114, 116, 115] (cond (!b2) [85, 115, 101, 114, 115] (cond (!b3) [81, 117, 101, 117, 101, 115] (cond (!b4) [87, 101, 105, 103, 104, 116, 115] (cond (!b5) [68, 101, 99, 97, 121] (cond (!b6) [77, 111, 100, 101] (cond (!b7) [74, 111, 98, 115] (cond (!b8) [73, 100, 115] (cond (!b9) [86, 101, 114, 115, 105, 111, 110, 115] (cond (!b10) [76, 105, 110, 103, 101, 114] (cond (!b11) [75, 101, 101, 112] (cond (!b12) [73, 110] (cond (!b13) [79, 117, 116] (cond (!b14) [67, 97, 99, 104, 101] ([]))))))))))))))) = ([] : List UInt8)) = (b0 && (b1 && (b2 && (b3 && (b4 && (b5 && (b6 && (b7 && (b8 && (b9 && (b10 && (b11 && (b12 && (b13 && (b14))))))))))))))) := by
 cases b0; exact rfl
 cases b1; exact rfl
 cases b2; exact rfl
 cases b3; exact rfl
 cases b4; exact rfl
 cases b5; exact rfl
 cases b6; exact rfl
 cases b7; exact rfl
 cases b8; exact rfl
 cases b9; exact rfl
 cases b10; exact rfl
 cases b11; exact rfl
 cases b12; exact rfl
 cases b13; exact rfl
 cases b14; exact rfl
 rfl
theorem p_Right (s : Spec) (hs : Rng.P s) : f12 s = some (specOk s) := by
 unfold f12 F12
 rw [p_Flaw s hs]
 simp only [Option.bind_some, flaw, specOk]
 exact congrArg some (flaw_bits _ _ _ _ _ _ _ _ _ _ _ _ _ _ _)
theorem r_in (n lo hi : Int) : f29 n lo hi = some (inB n lo hi) := by
 unfold f29 F29
 simp only [cond_somes, Bool.cond_false_right, inB]
theorem r_right1 (n : Int) : f66 n = some (inB n 0 1048576) := by
 unfold f66 F66
 simp only [cond_somes, Bool.cond_false_right, inB]
theorem r_vecRight (a : Res) : f54 a = some (resOk a) := by
 unfold f54 F54
 simp only [r_right1, Option.bind_some, cond_somes, Bool.cond_false_right]
 congr 1
 rw [Bool.eq_iff_iff]
 simp [resOk, inB, and_assoc]
theorem r_nodes (s : Spec) (hs : Rng.P s) : f30 s = some (nodesOk s) := by
 unfold f30 F30
 rw [all_loop s.nodes (fun z => (((), z, ()), (s, ()))) resOk (inB s.nodes.length 1 16) hs.1.1]
 · congr 1
   rw [nodesOk, Bool.and_comm]
   congr 1
   rw [Bool.eq_iff_iff]
   simp [inB]
   omega
 · intro next
   simp [l30_0, r_in]
 · intro z x next h0 h1 h2 h3
   simp only [l30_0, h0, h1, h2, h3, decide_true, cond_true, Option.bind_some, r_vecRight]
   cases resOk x <;> rfl
theorem r_Rising (l : List Int) (hl : l.length ≤ maxLen) (e : Int) : f55 l e = some (asc e (-1) l) := by
 unfold f55 F55
 have hml : maxLen = 9223372036854775807 := rfl
 rw [list_loopI (β := Int) l (fun b z => ((z, ()), ())) (fun a z => (z = 0 ∧ a = -1) ∨ (0 < z ∧ l[(z - 1).toNat]? = some a ∧ 0 ≤ a)) (fun b x => cond (decide (x ≤ b) || decide (e ≤ x)) (.inr (some false)) (.inl x)) (fun _ => some true) hl ?_ ?_ (-1) (.inl ⟨rfl, rfl⟩)]
 · generalize (-1 : Int) = a
   clear hl
   induction l generalizing a with
   | nil => rfl
   | cons n l ih =>
     simp only [runL, asc]
     by_cases h1 : n ≤ a
     · simp [h1]; omega
     · by_cases h2 : e ≤ n
       · simp [h1, h2]; omega
       · have h3 : a < n := by omega
         have h4 : n < e := by omega
         simp [h1, h2, h3, h4, ih]
 · intro b next _
   simp [l55_0]
 · intro b z x next hI h0 h1 h2 h3
   simp only [l55_0, h0, h1, h2, h3, decide_true, cond_true, Option.bind_some]
   have hw : IntKind.wrap .i64 (z - 1) = z - 1 := wi (by omega) (by omega)
   rw [hw]
   by_cases h5 : e ≤ x
   · simp only [h5, decide_true, Bool.or_true, cond_true]
     by_cases h6 : x < 0 <;> simp [h6]
   · have h5' : decide (e ≤ x) = false := by simp [h5]
     rcases hI with ⟨rfl, rfl⟩ | ⟨hz, ha, hn⟩
     · by_cases h6 : x < 0
       · have h7 : x ≤ -1 := by omega
         simp [h6, h7]
       · have h7 : ¬ (x ≤ -1) := by omega
         simp [h5, h6, h7]
         exact ⟨by simpa using h2, by omega⟩
     · have hz1 : 0 ≤ z - 1 := by omega
       have hzz : z + 1 - 1 = z := by omega
       by_cases h6 : x ≤ b
       · by_cases h7 : x < 0
         · simp [h6, h7]
         · simp only [h6, h7, h5, hz, hz1, ha, decide_true, decide_false, cond_true, cond_false, Option.bind_some, Bool.true_or]
       · have h7 : ¬ (x < 0) := by omega
         simp only [h6, h7, h5, hz, hz1, ha, decide_true, decide_false, cond_true, cond_false, Option.bind_some, Bool.or_false]
         refine ⟨.inr ⟨by omega, ?_, by omega⟩, trivial⟩
         rw [hzz]; exact h2
theorem r_parts (s : Spec) (hs : Rng.P s) : f31 s = some (partsOk s) := by
 unfold f31 F31
 rw [all_loop s.parts (fun z => (((), z, ()), (s, ()))) (fun p => decide (1 ≤ p.length) && asc s.nodes.length (-1) p) (inB s.parts.length 1 8) hs.2.1.1]
 · congr 1
   rw [partsOk, Bool.and_comm]
   congr 1
   rw [Bool.eq_iff_iff]
   simp [inB]
   omega
 · intro next
   simp [l31_0, r_in]
 · intro z x next h0 h1 h2 h3
   have hx : x.length ≤ maxLen := (hs.2.1.2 x (List.mem_of_getElem? h2)).1
   simp only [l31_0, h0, h1, h2, h3, decide_true, cond_true, Option.bind_some, r_Rising x hx, chk0 next, chk1]
   congr 1
   cases asc s.nodes.length (-1) x <;> rw [Bool.eq_iff_iff] <;> simp <;> omega
theorem r_queues (s : Spec) (hs : Rng.P s) : f32 s = some (queuesOk s) := by
 unfold f32 F32
 rw [all_loop s.queues (fun z => (((), z, ()), (s, ()))) (queueOk s) (inB s.queues.length 1 8) hs.2.2.1.1]
 · congr 1
   rw [queuesOk, Bool.and_comm]
   congr 1
   rw [Bool.eq_iff_iff]
   simp [inB]
   omega
 · intro next
   simp [l32_0, r_in]
 · intro z x next h0 h1 h2 h3
   have hx : x.users.length ≤ maxLen := (hs.2.2.1.2 x (List.mem_of_getElem? h2)).2.1.1
   simp only [l32_0, h0, h1, h2, h3, decide_true, cond_true, Option.bind_some, r_Rising _ hx, r_in, chk0 next, chk1]
   congr 1
   simp only [queueOk, inB]
   cases asc s.users (-1) x.users <;> rw [Bool.eq_iff_iff] <;> simp <;> omega
theorem mode_in (n : Int) : inB n 1 2 = (decide (n = 1) || decide (n = 2)) := by
 rw [Bool.eq_iff_iff]; simp [inB]; omega
theorem weights_in (w : Weights) : cond (inB w.age 0 1000) (cond (inB w.size 0 1000) (cond (inB w.qos 0 1000) (inB w.share 0 1000) false) false) false = weightsOk w := by
 rw [Bool.eq_iff_iff]; simp [inB, weightsOk]; omega
theorem r_Flaw (s : Spec) (hs : Rng.P s) : f17 s = some (flaw s) := by
 unfold f17 F17
 simp only [r_in, Option.bind_some, cond_somes, cond_mk, cond_self, weights_in, mode_in, r_nodes s hs, r_parts s hs, r_queues s hs]
 rfl
theorem r_specRight (s : Spec) (hs : Rng.P s) : f7 s = some (specOk s) := by
 unfold f7 F7
 rw [r_Flaw s hs]
 simp only [Option.bind_some, flaw, specOk]
 exact congrArg some (flaw_bits _ _ _ _ _ _ _ _ _ _ _ _ _ _ _)
def fewB (s : Spec) : Bool := decide (s.nodes.length ≤ 40 ∧ s.parts.length ≤ 20 ∧ s.queues.length ≤ 20) && (s.parts.all (fun p => decide (p.length ≤ 40)) && s.queues.all (fun q => decide (q.users.length ≤ 40)))
theorem r_Few (s : Spec) (hs : Rng.P s) : f5 s = some (fewB s) := by
 unfold f5 F5
 rw [all_loop s.parts (fun z => (((), z, ()), (s, ()))) (fun p => decide (p.length ≤ 40)) (s.queues.all (fun q => decide (q.users.length ≤ 40))) hs.2.1.1]
 · simp only [cond_somes, fewB]
   congr 1
   cases s.parts.all _ <;> cases s.queues.all _ <;> rw [Bool.eq_iff_iff] <;> simp <;> omega
 · intro next
   simp only [l5_1, Int.lt_irrefl, decide_false, cond_false]
   rw [all_loop s.queues (fun z => ((z, ()), ())) (fun q => decide (q.users.length ≤ 40)) true hs.2.2.1.1]
   · simp
   · intro next
     simp [l5_0]
   · intro z x next h0 h1 h2 h3
     simp only [l5_0, h0, h1, h2, h3, decide_true, cond_true, Option.bind_some, chk0 next]
     congr 1
     rw [Bool.eq_iff_iff]; simp; omega
 · intro z x next h0 h1 h2 h3
   simp only [l5_1, h0, h1, h2, h3, decide_true, cond_true, Option.bind_some, chk0 next]
   congr 1
   rw [Bool.eq_iff_iff]; simp; omega
end NM
end Go.Proofs.YtjngkfdclcgfhaaGreatDoor
end
section
namespace Go.Proofs.YtjngkfdclcgfhaaGreatDoor
namespace NM
open AM
theorem cond_le {α : Type} {n : Nat} {x y : α} (h : n ≤ 4294967296) : cond (decide (n ≤ 4294967296)) x y = x := by rw [decide_eq_true h]; rfl
def numsS : List Nat → List UInt8
 | [] => []
 | n :: l => 32 :: (Lib.decDigits n ++ numsS l)
def toZ (l : List Nat) : List Int := l.map fun n : Nat => (n : Int)
theorem numsS_len (l : List Nat) (h : ∀ n ∈ l, n ≤ 1048576) : (numsS l).length ≤ 8 * l.length := by
 induction l with
 | nil => exact Nat.le_refl _
 | cons n l ih =>
   have h1 := dec_len 6 n (by have := h n List.mem_cons_self; omega)
   have h2 := ih fun m hm => h m (List.mem_cons_of_mem _ hm)
   simp only [numsS, List.length_cons, List.length_append]
   omega
theorem numsS_snoc (l : List Nat) (n : Nat) : numsS (l ++ [n]) = numsS l ++ 32 :: Lib.decDigits n := by
 induction l with
 | nil => simp [numsS]
 | cons m l ih => simp [numsS, ih]
theorem numsS_app (l m : List Nat) : numsS (l ++ m) = numsS l ++ numsS m := by
 induction l with
 | nil => rfl
 | cons x l ih => simp [numsS, ih]
theorem numsS_take (l : List Nat) (i : Nat) (hi : i < l.length) : numsS (l.take (i + 1)) = numsS (l.take i) ++ 32 :: Lib.decDigits l[i] := by
 rw [← numsS_snoc, List.take_succ_eq_append_getElem hi]
theorem wrap_succ {i : Nat} (h : i ≤ 1000000) : IntKind.wrap .i64 ((i : Int) + 1) = ((i + 1 : Nat) : Int) := by
 have h1 : IntKind.wrap .i64 ((i : Int) + 1) = (i : Int) + 1 := by rw [IntKind.wrap_i64]; omega
 rw [h1]; omega
theorem toZ_at (l : List Nat) (i : Nat) (hi : i < l.length) : (toZ l)[i]? = some ((l[i] : Nat) : Int) := by
 simp [toZ, hi]
theorem toZ_len (l : List Nat) : (toZ l).length = l.length := by simp [toZ]
theorem LOOPS_big {n : Nat} (h : n ≤ 100000) : n < LOOPS := by unfold LOOPS; omega
theorem loop_run0 {σ ω : Type} {f : σ → (σ → Option ω) → Option ω} {r : Option ω} (n : Nat) (hn : n < LOOPS) (s : Nat → σ) {s0 : σ} (h0 : s 0 = s0) (hs : ∀ i, i < n → ∀ next, f (s i) next = next (s (i + 1))) (hend : ∀ next, f (s n) next = r) : LN LOOPS f s0 = r := by
 rw [← h0]
 exact loop_run n hn s hs hend
theorem p_line (w : List UInt8) (l : List Nat) (hw : w.length ≤ 1000) (hl : l.length ≤ 1000) (h : ∀ n ∈ l, n ≤ 1048576) : f16 w (toZ l) = some (w ++ numsS l ++ [10]) := by
 unfold f16 F16
 refine loop_run0 (f := fun (s2 : (((List UInt8) × (Int × Unit)) × Unit)) nx3 => l16_0 f27 (toZ l) nx3 s2.1.1 s2.1.2.1) l.length (LOOPS_big (by omega))
   (fun i => ((w ++ numsS (l.take i), (i : Int), ()), ())) (by simp [numsS]) (fun i hi next => ?_) (fun next => ?_)
 · have hn : l[i] ≤ 1048576 := h _ (List.getElem_mem hi)
   have hI := p_Itoa l[i] hn
   have hd := dec_len 6 l[i] (by omega)
   have hk := numsS_len (l.take i) fun n hn => h n (List.mem_of_mem_take hn)
   have hk2 : (l.take i).length ≤ l.length := by simp; omega
   simp only [l16_0, toZ_len, Int.toNat_natCast, toZ_at l i hi, hI, Option.bind_some]
   rw [decide_eq_true (show (i : Int) < (l.length : Int) by omega), decide_eq_true (show (0 : Int) ≤ i by omega), numsS_take l i hi, wrap_succ (by omega)]
   simp only [cond_true]
   rw [cond_le (by simp; omega), cond_le (by simp; omega)]
   simp
 · have hk := numsS_len l h
   simp only [l16_0, toZ_len, List.take_length]
   rw [decide_eq_false (show ¬ (l.length : Int) < (l.length : Int) by omega), cond_false, cond_le (by simp; omega)]
theorem r_nums (l : List Nat) (hl : l.length ≤ 1000) (h : ∀ n ∈ l, n ≤ 1048576) : f21 (toZ l) = some (numsS l) := by
 unfold f21 F21
 refine loop_run0 (f := fun (s1 : (((List UInt8) × (Int × Unit)) × Unit)) nx2 => l21_0 f37 (toZ l) nx2 s1.1.1 s1.1.2.1) l.length (LOOPS_big (by omega))
   (fun i => ((numsS (l.take i), (i : Int), ()), ())) (by simp [numsS]) (fun i hi next => ?_) (fun next => ?_)
 · have hn : l[i] ≤ 1048576 := h _ (List.getElem_mem hi)
   have hI := r_Digits l[i] hn
   have hd := dec_len 6 l[i] (by omega)
   have hk := numsS_len (l.take i) fun n hn => h n (List.mem_of_mem_take hn)
   have hk2 : (l.take i).length ≤ l.length := by simp; omega
   simp only [l21_0, toZ_len, Int.toNat_natCast, toZ_at l i hi, hI, Option.bind_some]
   rw [decide_eq_true (show (i : Int) < (l.length : Int) by omega), decide_eq_true (show (0 : Int) ≤ i by omega), numsS_take l i hi, wrap_succ (by omega)]
   simp only [cond_true]
   rw [cond_le (by simp; omega), cond_le (by simp; omega)]
   simp
 · simp only [l21_0, toZ_len, List.take_length]
   rw [decide_eq_false (show ¬ (l.length : Int) < (l.length : Int) by omega), cond_false]
end NM
end Go.Proofs.YtjngkfdclcgfhaaGreatDoor
end
