/-
  The codec, and the document's, in plain form.
-/
import Derived.Test.YtgpejfddaelobaaPPut
set_option linter.unusedVariables false
set_option linter.unusedSimpArgs false
namespace Go.Proofs.Ytgpejfddaelobaa
namespace NM
open AM

/- the document's bytes -/
theorem r_BytesN : ∀ (k : Nat) (n : Nat) (z : Int), k < n → k ≤ 8 → 0 ≤ z → z.toNat < 128 ^ (k + 1) → r113 n z = some (vb k z.toNat)
  | k, 0, z, h, _, _, _ => by omega
  | 0, n + 1, z, _, _, h0, h1 => by
    simp at h1
    show F113 (@LN LOOPS) (r113 n) z = _
    unfold F113
    simp only [show z < 128 by omega, decide_true, cond_true, u8_id h0 (by omega), vb]
    congr 2
    omega
  | k + 1, n + 1, z, hk, h8, h0, h1 => by
    have e9 : (128 : Nat) ^ (8 + 2) = 1180591620717411303424 := by decide
    have hle : (128 : Nat) ^ (k + 1 + 1) ≤ 128 ^ (8 + 1) := Nat.pow_le_pow_right (by omega) (by omega)
    rw [pow8] at hle
    show F113 (@LN LOOPS) (r113 n) z = _
    unfold F113
    by_cases h : z < 128
    · simp only [h, decide_true, cond_true, u8_id h0 (by omega), vb, if_pos (show z.toNat < 128 by omega)]
      congr 2
      omega
    · have hq : IntKind.wrap .i64 (Int.tdiv z 128) = z / 128 := by rw [tdiv_pos h0]; exact wi (by omega) (by omega)
      have ih := r_BytesN k n (z / 128) (by omega) (by omega) (by omega) (by rw [Nat.pow_succ] at h1; omega)
      have hl := vb_len9 k (z / 128).toNat
      have hd : IntKind.wrap .u8 (IntKind.wrap .i64 (128 + Int.tmod z 128)) = ((z.toNat % 128 + 128 : Nat) : Int) := by
        rw [tmod_pos h0, wi (by omega) (by omega), u8_id (by omega) (by omega)]
        omega
      simp only [h, decide_false, cond_false, hq, ih, Option.bind_some, small_ok' 1 (by decide) (show 1 + (vb k (z / 128).toNat).length ≤ 4294967295 by omega), cond_true, hd, vb, if_neg (show ¬ z.toNat < 128 by omega)]
      rw [show (z / 128).toNat = z.toNat / 128 by omega]
      rfl
theorem r_Bytes {z : Int} (h : inN z = true) : f113 z = some (bytesI z) := by
  simp only [inN, Bool.and_eq_true, decide_eq_true_eq] at h
  have := r_BytesN 8 RDEEP z (by decide) (Nat.le_refl _) h.1 (by rw [pow8]; omega)
  exact this
theorem r_Right5 (z : Int) : f34 z = some (inN z) := by
  unfold f34 F34 inN
  by_cases h1 : 0 ≤ z <;> by_cases h2 : z ≤ 281474976710656 <;> simp [h1, h2]

/- the document's numbers -/
def numR (bs : List Int) : Int × (Int × (Int × Unit)) := if (numI bs).2.2 = 0 then ((numI bs).1, ((bs.length : Int) - (numI bs).2.1.length, (0, ()))) else (0, (0, ((numI bs).2.2, ())))
theorem val_drop (q : List Int) (i : Nat) (x : Int) (h : q[i]? = some x) : val (q.drop i) = x.toNat % 128 + 128 * val (q.drop (i + 1)) := by
  obtain ⟨hi, hx⟩ := List.getElem?_eq_some_iff.1 h
  rw [List.drop_eq_getElem_cons hi, hx]
  rfl
theorem val_le (q : List Int) (i : Nat) : val (q.drop i) ≤ val q := by
  induction q generalizing i with
  | nil => simp
  | cons x q ih =>
    cases i with
    | zero => simp
    | succ i => have := ih i; simp only [List.drop_succ_cons, val]; omega
theorem r_horner (b : List Int) (at1 : Nat) (k : Nat) (q r : List Int) (hb : b = b.take at1 ++ (q ++ r)) (hat : at1 ≤ b.length) (hbl : b.length ≤ 9007199254740992) (hq : q.length = k + 1) (hk : k < 8) (hq8 : Bytes8 q) :
    LN LOOPS (fun (s : ((Int × (Int × Unit)) × Unit)) next => l112_0 f34 f113 b (at1 : Int) (k : Int) next s.1.1 s.1.2.1) ((0, IntKind.wrap .i64 ((IntKind.wrap .i64 ((k : Int) + 1)) - 1), ()), ()) =
      some (if inN (val q : Int) = true then (if ((bytesI (val q : Int)).length : Int) = (k : Int) + 1 then ((val q : Int), (k : Int) + 1, 0, ()) else (0, 0, 11, ())) else (0, 0, 11, ())) := by
  have hv : val q < 72057594037927936 := by
    have h1 := val_lt q
    have h2 : (128 : Nat) ^ q.length ≤ 128 ^ 8 := Nat.pow_le_pow_right (by omega) (by omega)
    have h3 : (128 : Nat) ^ 8 = 72057594037927936 := by decide
    omega
  rw [wi (show -9223372036854775808 ≤ (k : Int) + 1 by omega) (by omega), wi (by omega) (by omega)]
  have hs := loop_run' (f := fun (s : ((Int × (Int × Unit)) × Unit)) next => l112_0 f34 f113 b (at1 : Int) (k : Int) next s.1.1 s.1.2.1)
    (r := some (if inN (val q : Int) = true then (if ((bytesI (val q : Int)).length : Int) = (k : Int) + 1 then ((val q : Int), (k : Int) + 1, 0, ()) else (0, 0, 11, ())) else (0, 0, 11, ())))
    (k + 1) (loops_gt _ (by omega)) (fun j => (((val (q.drop (k + 1 - j)) : Int), (k : Int) - (j : Int), ()), ())) (fun j hj next => ?_) (fun next => ?_)
  · rw [← hs]
    congr 3
    · simp [← hq, val]
    · simp
  · obtain ⟨x, hx⟩ : ∃ x, q[k - j]? = some x := ⟨_, List.getElem?_eq_getElem (by omega)⟩
    have hxb := hq8 x (List.mem_of_getElem? hx)
    have hget : b[(((at1 : Int) + ((k : Int) - (j : Int)))).toNat]? = some x := by
      rw [show ((at1 : Int) + ((k : Int) - (j : Int))).toNat = at1 + (k - j) by omega, hb, List.getElem?_append_right (by simp [List.length_take]; omega), List.length_take, Nat.min_eq_left hat, show at1 + (k - j) - at1 = k - j by omega, List.getElem?_append_left (by omega)]
      exact hx
    have hw1 : IntKind.wrap .i64 ((at1 : Int) + ((k : Int) - (j : Int))) = (at1 : Int) + ((k : Int) - (j : Int)) := wi (by omega) (by omega)
    have hle1 := val_le q (k + 1 - j)
    have hle2 := val_le q (k - j)
    have hvd := val_drop q (k - j) x hx
    rw [show k - j + 1 = k + 1 - j by omega] at hvd
    have hu : IntKind.wrap .i64 x = x := wi (by omega) (by omega)
    have hm1 : IntKind.wrap .i64 (128 * ((val (q.drop (k + 1 - j)) : Nat) : Int)) = 128 * ((val (q.drop (k + 1 - j)) : Nat) : Int) := wi (by omega) (by omega)
    have hm2 : IntKind.wrap .i64 (128 * ((val (q.drop (k + 1 - j)) : Nat) : Int) + x % 128) = ((val (q.drop (k - j)) : Nat) : Int) := by
      rw [wi (by omega) (by omega)]; omega
    have hi : IntKind.wrap .i64 ((k : Int) - (j : Int) - 1) = (k : Int) - ((j + 1 : Nat) : Int) := by
      rw [wi (by omega) (by omega)]; omega
    simp only [l112_0, show (0 : Int) ≤ (k : Int) - (j : Int) by omega, decide_true, cond_true, hw1, show (0 : Int) ≤ (at1 : Int) + ((k : Int) - (j : Int)) by omega, hget, Option.bind_some, hu, tmod_pos hxb.1, hm1, hm2, hi]
    rw [show k + 1 - (j + 1) = k - j by omega]
  · have hng : ¬ (0 : Int) ≤ (k : Int) - ((k + 1 : Nat) : Int) := by omega
    simp only [l112_0, hng, decide_false, cond_false, Nat.sub_self, List.drop_zero, r_Right5, Option.bind_some]
    cases hin : inN (val q : Int) with
    | false => simp
    | true =>
      have hw2 : IntKind.wrap .i64 ((k : Int) + 1) = (k : Int) + 1 := wi (by omega) (by omega)
      simp only [Bool.not_true, cond_false, r_Bytes hin, Option.bind_some, hw2, if_true]
      by_cases hl : ((bytesI (val q : Int)).length : Int) = (k : Int) + 1
      · simp [hl]
      · simp [hl]
theorem r_Number (b : List Int) (at1 : Nat) (hat : at1 ≤ b.length) (hbl : b.length ≤ 9007199254740992) (hb8 : Bytes8 b) : f112 b (at1 : Int) = some (numR (b.drop at1)) := by
  unfold f112 F112
  have hbs : Bytes8 (b.drop at1) := fun x hx => hb8 x (List.mem_of_mem_drop hx)
  have hsplit : b = b.take at1 ++ b.drop at1 := (List.take_append_drop at1 b).symm
  have hget : ∀ (i : Nat), b[(((at1 : Int) + (i : Int))).toNat]? = (b.drop at1)[i]? := fun i => by
    rw [List.getElem?_drop, show ((at1 : Int) + (i : Int)).toNat = at1 + i by omega]
  have hlen : (b.drop at1).length = b.length - at1 := List.length_drop
  have hw : ∀ i : Nat, i ≤ 8 → IntKind.wrap .i64 ((at1 : Int) + (i : Int)) = (at1 : Int) + (i : Int) := fun i hi => wi (by omega) (by omega)
  have hnx : ∀ i : Nat, i ≤ 8 → IntKind.wrap .i64 ((i : Int) + 1) = ((i + 1 : Nat) : Int) := fun i hi => by rw [wi (by omega) (by omega)]; omega
  -- while the digits go on
  have step : ∀ (p s : List Int), b.drop at1 = p ++ s → (∀ x, x ∈ p → 128 ≤ x ∧ x ≤ 255) → p.length ≤ 8 → ∀ i, i < p.length → ∀ next, l112_3 (@LN LOOPS) f34 f113 b (at1 : Int) next (i : Int) = next ((((i + 1 : Nat) : Int), ()), ()) := fun p s hps hp hp8 i hi next => by
    have hx : (b.drop at1)[i]? = some p[i] := by rw [hps, List.getElem?_append_left hi, List.getElem?_eq_getElem hi]
    have hxb := hp p[i] (List.getElem_mem hi)
    have hlt : (at1 : Int) + (i : Int) < (b.length : Int) := by
      have := congrArg List.length hps
      simp at this
      omega
    simp only [l112_3, hw i (by omega), hlt, decide_true, cond_true, show (0 : Int) ≤ (at1 : Int) + (i : Int) by omega, hget, hx, Option.bind_some, hxb.1, show (i : Int) < 8 by omega, hnx i (by omega)]
  unfold numR numI
  rcases split3 8 (b.drop at1) hbs with ⟨p, d, r, hpd, hp, h0, h1, hl⟩ | ⟨hp, hl⟩ | ⟨p, r, hpd, hp, hl⟩
  · refine loop_run' p.length (loops_gt _ (by omega)) (fun i => (((i : Int), ()), ())) (step p (d :: r) hpd hp (by omega)) fun next => ?_
    have hx : (b.drop at1)[p.length]? = some d := by rw [hpd]; simp
    have hlt : (at1 : Int) + (p.length : Int) < (b.length : Int) := by
      have := congrArg List.length hpd
      simp at this
      omega
    have hh := r_horner b at1 p.length (p ++ [d]) r (by rw [List.append_assoc, List.singleton_append, ← hpd]; exact hsplit) hat hbl (by simp) hl (fun x hx => by
      rcases List.mem_append.1 hx with hx | hx
      · have := hp x hx; omega
      · simp at hx; omega)
    have e1 : @l112_1 = @l112_0 := rfl
    simp only [l112_3, e1, hw p.length (by omega), hlt, decide_true, cond_true, show (0 : Int) ≤ (at1 : Int) + (p.length : Int) by omega, hget, hx, Option.bind_some, show ¬ (128 : Int) ≤ d by omega, decide_false, cond_false, show ¬ ((p.length : Int) = 8) by omega, show ¬ (b.length : Int) ≤ (at1 : Int) + (p.length : Int) by omega]
    refine hh.trans ?_
    rw [hpd, numGo_split p 8 0 0 d r hp h0 h1 hl]
    simp only [Nat.zero_add, Int.zero_add, Nat.mul_zero, Int.pow_zero, Int.mul_one]
    by_cases hbig : 281474976710656 < (val (p ++ [d]) : Int)
    · rw [if_neg (c := inN _ = true) (by simp [inN]; omega)]
      have hc : 0 < p.length ∧ d = 0 ∨ 281474976710656 < (val (p ++ [d]) : Int) := .inr hbig
      simp only [if_pos hc]
      rfl
    · rw [if_pos (c := inN _ = true) (by simp [inN]; omega)]
      by_cases hz : 0 < p.length ∧ d = 0
      · have hc : 0 < p.length ∧ d = 0 ∨ 281474976710656 < (val (p ++ [d]) : Int) := .inl hz
        simp only [if_pos hc]
        clear hc
        obtain ⟨hz1, rfl⟩ := hz
        have hlen2 : (bytesI (val (p ++ [0]) : Int)).length ≤ p.length := by
          rw [val_append_zero, bytesI, Int.toNat_natCast]
          have := vb_len 8 (val p) (p.length - 1) (by rw [show p.length - 1 + 1 = p.length by omega]; exact val_lt p)
          omega
        have hne : ¬ (((bytesI (val (p ++ [0]) : Int)).length : Int) = (p.length : Int) + 1) := by omega
        simp only [if_neg hne]
        rfl
      · have hc : ¬ (0 < p.length ∧ d = 0 ∨ 281474976710656 < (val (p ++ [d]) : Int)) := by rintro (h | h); exact hz h; exact hbig h
        simp only [if_neg hc]
        clear hc
        have hv : bytesI (val (p ++ [d]) : Int) = p ++ [d] := by
          rw [bytesI, Int.toNat_natCast]
          refine vb_val p 8 d hp h0 h1 ?_ (by omega)
          cases p with
          | nil => exact .inl rfl
          | cons x p => right; simp at hz; omega
        have he : ((p ++ [d]).length : Int) = (p.length : Int) + 1 := by simp
        simp only [hv, if_pos he, if_true, Option.some.injEq, Prod.mk.injEq, true_and, and_true]
        simp
        omega
  · refine loop_run' (b.drop at1).length (loops_gt _ (by omega)) (fun i => (((i : Int), ()), ())) (step (b.drop at1) [] (by simp) hp (by omega)) fun next => ?_
    have hge : ¬ (at1 : Int) + ((b.drop at1).length : Int) < (b.length : Int) := by omega
    simp only [l112_3, hw _ (show (b.drop at1).length ≤ 8 by omega), hge, decide_false, cond_false, show ¬ (((b.drop at1).length : Int) = 8) by omega, show (b.length : Int) ≤ (at1 : Int) + ((b.drop at1).length : Int) by omega, decide_true, cond_true]
    rw [numGo_short _ _ _ _ hp hl]
    rfl
  · refine loop_run' p.length (loops_gt _ (by omega)) (fun i => (((i : Int), ()), ())) (step p r hpd hp (by omega)) fun next => ?_
    rw [hpd, numGo_long _ _ _ _ _ hp hl]
    rw [hl]
    simp only [l112_3, hw 8 (by omega)]
    by_cases hlt : (at1 : Int) + ((8 : Nat) : Int) < (b.length : Int)
    · obtain ⟨y, hy⟩ : ∃ y, (b.drop at1)[8]? = some y := ⟨_, List.getElem?_eq_getElem (by omega)⟩
      simp only [hlt, decide_true, cond_true, show (0 : Int) ≤ (at1 : Int) + ((8 : Nat) : Int) by omega, hget, hy, Option.bind_some]
      by_cases h128 : (128 : Int) ≤ y <;> simp [h128]
    · simp only [hlt, decide_false, cond_false]
      simp

/- the document's reader: what is left, and what is wrong -/
def RdOk (B : List Int) (x : List Int × (Int × Int)) (bs : List Int) (e : Int) : Prop := x.1 = B ∧ x.2.2 = e ∧ (e = 0 → ∃ k : Nat, x.2.1 = (k : Int) ∧ k ≤ B.length ∧ bs = B.drop k)
theorem r_rNumber {B bs : List Int} {x : List Int × (Int × Int)} (hB : Bytes8 B) (hl : B.length ≤ 9007199254740992) (h : RdOk B x bs 0) : ∃ y, f75 x = some ((numI bs).1, (y, ())) ∧ RdOk B y (numI bs).2.1 (numI bs).2.2 := by
  obtain ⟨h1, h2, h3⟩ := h
  obtain ⟨k, hk, hkl, rfl⟩ := h3 rfl
  obtain ⟨b, a, e⟩ := x
  have h1 : b = B := h1
  have h2 : e = 0 := h2
  have hk : a = (k : Int) := hk
  subst h1; subst h2; subst hk
  have hb8 : Bytes8 (b.drop k) := fun x hx => hB x (List.mem_of_mem_drop hx)
  unfold f75 F75
  simp only [decide_true, Bool.not_true, cond_false, r_Number b k hkl hl hB, Option.bind_some]
  by_cases h0 : (numI (b.drop k)).2.2 = 0
  · have hok := (numI_ok hb8 h0).1
    have hlen := congrArg List.length hok
    simp only [List.length_append, List.length_drop] at hlen
    have hw : IntKind.wrap .i64 ((k : Int) + (((b.drop k).length : Int) - (numI (b.drop k)).2.1.length)) = ((k + (bytesI (numI (b.drop k)).1).length : Nat) : Int) := by
      rw [List.length_drop, wi (by omega) (by omega)]; omega
    refine ⟨(b, ((k + (bytesI (numI (b.drop k)).1).length : Nat) : Int), 0), ?_, rfl, by rw [h0], fun _ => ⟨_, rfl, by omega, ?_⟩⟩
    · simp only [numR, h0, if_true, hw]
    · rw [← List.drop_drop]
      have hd := congrArg (List.drop (bytesI (numI (b.drop k)).1).length) hok
      rw [List.drop_left] at hd
      exact hd.symm
  · refine ⟨(b, IntKind.wrap .i64 ((k : Int) + 0), (numI (b.drop k)).2.2), ?_, rfl, rfl, fun h => absurd h h0⟩
    simp only [numR, h0, if_false, (numI_bad hb8 h0).2.1]
theorem r_rNumber_bad {x : List Int × (Int × Int)} (h : x.2.2 ≠ 0) : f75 x = some (0, (x, ())) := by
  unfold f75 F75
  simp [h]
/-- a number within -/
def withinI (lo hi : Int) (bs : List Int) : Int × (List Int × Int) := if (numI bs).2.2 = 0 then (if (numI bs).1 < lo ∨ hi < (numI bs).1 then (0, [], 11) else numI bs) else (0, [], (numI bs).2.2)
theorem r_rWithin {B bs : List Int} {x : List Int × (Int × Int)} (lo hi : Int) (hB : Bytes8 B) (hl : B.length ≤ 9007199254740992) (h : RdOk B x bs 0) : ∃ y, f74 lo hi x = some ((withinI lo hi bs).1, (y, ())) ∧ RdOk B y (withinI lo hi bs).2.1 (withinI lo hi bs).2.2 := by
  obtain ⟨y, hy, hyo⟩ := r_rNumber hB hl h
  obtain ⟨y1, y2, y3⟩ := hyo
  have hbs : Bytes8 bs := by
    obtain ⟨_, _, h3⟩ := h
    obtain ⟨k, _, _, rfl⟩ := h3 rfl
    exact fun x hx => hB x (List.mem_of_mem_drop hx)
  unfold f74 F74 withinI
  simp only [hy, Option.bind_some]
  by_cases h0 : (numI bs).2.2 = 0
  · have ye : y.2.2 = 0 := y2.trans h0
    by_cases hlo : (numI bs).1 < lo
    · refine ⟨(y.1, (y.2.1, 11)), ?_, ?_⟩
      · simp [ye, hlo, h0]
      · simp only [h0, if_true, hlo, true_or]; exact ⟨y1, rfl, fun h => by cases h⟩
    · by_cases hhi : hi < (numI bs).1
      · refine ⟨(y.1, (y.2.1, 11)), ?_, ?_⟩
        · simp [ye, hlo, hhi, h0]
        · simp only [h0, if_true, hhi, or_true]; exact ⟨y1, rfl, fun h => by cases h⟩
      · refine ⟨y, ?_, ?_⟩
        · simp [ye, hlo, hhi, h0]
        · simp only [h0, if_true, hlo, hhi, or_self, if_false]; exact ⟨y1, ye, fun _ => y3 h0⟩
  · have ye : y.2.2 ≠ 0 := fun e => h0 (y2.symm.trans e)
    refine ⟨y, ?_, ?_⟩
    · simp [ye, h0]
    · simp only [h0, if_false]; exact ⟨y1, y2, fun h => absurd h h0⟩
theorem r_rWithin_bad {x : List Int × (Int × Int)} (lo hi : Int) (h : x.2.2 ≠ 0) : f74 lo hi x = some (0, (x, ())) := by
  unfold f74 F74
  simp [r_rNumber_bad h, h]

/- the codec's reader -/
theorem p_fail (e : Int) (x : List Int × Int) : f110 e x = some (0, (((), (e, ())), ())) := rfl
/-- the digits behind the first -/
theorem p_digits (l : List Int) (hb : Bytes8 l) (hl : l.length ≤ 9007199254740992) (i : Nat) (hi : 1 ≤ i) (acc : Int) (h0 : 0 ≤ acc) (hacc : acc < 2 ^ (7 * i)) (hi8 : i ≤ 8) (hil : i ≤ l.length) :
    LN LOOPS (fun (s : ((Unit × (Int × (Int × Unit))) × (((List Int) × Int) × Unit))) next => l72_0 f110 next s.1.2.1 s.1.2.2.1 s.2.1) (((), acc, (i : Int), ()), ((l, 0), ())) = some ((numGo (8 - i) i acc (l.drop i)).1, (((numGo (8 - i) i acc (l.drop i)).2.1, (numGo (8 - i) i acc (l.drop i)).2.2), ())) := by
  have key := loop_eq (f := fun (s : ((Unit × (Int × (Int × Unit))) × (((List Int) × Int) × Unit))) next => l72_0 f110 next s.1.2.1 s.1.2.2.1 s.2.1)
    (fun s => ∃ (i : Nat) (acc : Int), s = (((), acc, (i : Int), ()), ((l, 0), ())) ∧ 1 ≤ i ∧ i ≤ 8 ∧ i ≤ l.length ∧ 0 ≤ acc ∧ acc < 2 ^ (7 * i)) (fun s => 8 - s.1.2.2.1.toNat)
    (fun s => some ((numGo (8 - s.1.2.2.1.toNat) s.1.2.2.1.toNat s.1.2.1 (l.drop s.1.2.2.1.toNat)).1, (((numGo (8 - s.1.2.2.1.toNat) s.1.2.2.1.toNat s.1.2.1 (l.drop s.1.2.2.1.toNat)).2.1, (numGo (8 - s.1.2.2.1.toNat) s.1.2.2.1.toNat s.1.2.1 (l.drop s.1.2.2.1.toNat)).2.2), ()))) ?_
    (s := (((), acc, (i : Int), ()), ((l, 0), ()))) ⟨i, acc, rfl, hi, hi8, hil, h0, hacc⟩ (by unfold LOOPS; show 8 - _ < _; omega)
  · rw [key]
    simp only [Int.toNat_natCast]
  · rintro s next ⟨i, acc, rfl, hi, hi8, hil, h0, hacc⟩ hnext
    simp only [Int.toNat_natCast]
    by_cases e8 : i = 8
    · subst e8
      simp only [l72_0]
      simp [p_fail, numGo]
    · have hne : ¬ ((i : Int) = 8) := by omega
      obtain ⟨f, hf⟩ : ∃ f, 8 - i = f + 1 := ⟨7 - i, by omega⟩
      by_cases el : i = l.length
      · subst el
        rw [hf, List.drop_of_length_le (by omega), numGo]
        simp only [l72_0, hne, decide_false, decide_true, cond_false, cond_true, p_fail, Option.bind_some]
      · have hnl : ¬ ((i : Int) = (l.length : Int)) := by omega
        have hlt : i < l.length := by omega
        obtain ⟨d, hd⟩ : ∃ d, l[i]? = some d := ⟨_, List.getElem?_eq_getElem hlt⟩
        have hdb := hb d (List.mem_of_getElem? hd)
        have hdrop : l.drop i = d :: l.drop (i + 1) := by
          rw [List.drop_eq_getElem_cons hlt]
          congr 1
          rw [List.getElem?_eq_getElem hlt] at hd
          exact Option.some.inj hd
        have hp1 : (2 : Int) ^ (7 * (i + 1)) = 128 * 2 ^ (7 * i) := pow7 i
        have hp2 : (2 : Int) ^ (7 * (i + 1)) ≤ 72057594037927936 := by
          have h1 : (2 : Nat) ^ (7 * (i + 1)) ≤ 2 ^ 56 := Nat.pow_le_pow_right (by omega) (by omega)
          have h2 : (2 : Nat) ^ 56 = 72057594037927936 := by decide
          have h3 : ((2 ^ (7 * (i + 1)) : Nat) : Int) = (2 : Int) ^ (7 * (i + 1)) := by simp
          omega
        have hp0 : (0 : Int) < 2 ^ (7 * i) := Int.pow_pos (by omega)
        have hp3 : (2 : Int) ^ (7 * i) ≤ 72057594037927936 := by omega
        have hdm : 0 ≤ d % 128 ∧ d % 128 ≤ 127 := by omega
        have hmul : d % 128 * 2 ^ (7 * i) ≤ 127 * 2 ^ (7 * i) := Int.mul_le_mul_of_nonneg_right hdm.2 (by omega)
        have hmul0 : 0 ≤ d % 128 * 2 ^ (7 * i) := Int.mul_nonneg hdm.1 (by omega)
        have hu : IntKind.wrap .i64 d = d := wi (by omega) (by omega)
        have h7 : IntKind.wrap .i64 (7 * (i : Int)) = 7 * (i : Int) := wi (by omega) (by omega)
        have hmin : min (Int.toNat (7 * (i : Int))) 64 = 7 * i := by omega
        have hv : IntKind.wrap .i64 (Int.tmod d 128 * 2 ^ (7 * i)) = d % 128 * 2 ^ (7 * i) := by rw [tmod_pos hdb.1]; exact wi (by omega) (by omega)
        have hs : IntKind.wrap .i64 (acc + d % 128 * 2 ^ (7 * i)) = acc + d % 128 * 2 ^ (7 * i) := wi (by omega) (by omega)
        have hi1 : IntKind.wrap .i64 ((i : Int) + 1) = ((i + 1 : Nat) : Int) := by rw [wi (by omega) (by omega)]; omega
        rw [hf, hdrop, numGo]
        simp only [l72_0, hne, hnl, decide_false, cond_false, show (0 : Int) ≤ (i : Int) by omega, decide_true, cond_true, Int.toNat_natCast, hd, Option.bind_some, hu, h7, show ¬ (7 * (i : Int) < 0) by omega, hmin, hv, hs, hi1, p_fail]
        by_cases h128 : 128 ≤ d
        · simp only [h128, decide_true, cond_true, if_true]
          rw [hnext _ ⟨i + 1, _, rfl, by omega, by omega, by omega, by omega, by omega⟩ (by simp only [Int.toNat_natCast]; omega)]
          simp only [Int.toNat_natCast]
          rw [show 8 - (i + 1) = f by omega]
        · simp only [h128, decide_false, cond_false, if_false, show (1 : Int) < ((i + 1 : Nat) : Int) by omega, decide_true, cond_true]
          by_cases hz : d = 0
          · subst hz
            have hi0 : 0 < i := by omega
            simp [hi0]
          · by_cases hbig : 281474976710656 < acc + d % 128 * 2 ^ (7 * i)
            · simp [hz, hbig]
            · simp [hz, hbig, show i + 1 ≤ l.length by omega, show (0 : Int) ≤ (i : Int) + 1 by omega]
theorem p_rNumber (l : List Int) (hb : Bytes8 l) (hl : l.length ≤ 9007199254740992) : f72 (l, 0) = some ((numI l).1, (((numI l).2.1, (numI l).2.2), ())) := by
  unfold f72 F72 numI
  cases l with
  | nil => simp [p_fail, numGo]
  | cons d r =>
    have hdb := hb d List.mem_cons_self
    have hu : IntKind.wrap .i64 d = d := wi (by omega) (by omega)
    have hmin : min (Int.toNat 0) 64 = 0 := by decide
    have hv : IntKind.wrap .i64 (Int.tmod d 128 * 2 ^ 0) = d % 128 := by rw [tmod_pos hdb.1, Int.pow_zero, Int.mul_one]; exact wi (by omega) (by omega)
    have hs : IntKind.wrap .i64 (0 + d % 128) = d % 128 := by rw [Int.zero_add]; exact wi (by omega) (by omega)
    have hn0 : ¬ ((0 : Int) = (((d :: r).length : Nat) : Int)) := by simp; omega
    simp only [decide_true, Bool.not_true, cond_false, hn0, decide_false, List.getElem?_cons_zero, Option.bind_some, hu, hmin, hv, hs, p_fail]
    rw [numGo]
    by_cases h128 : 128 ≤ d
    · simp only [h128, decide_true, cond_true, if_true]
      have := p_digits (d :: r) hb hl 1 (by omega) (d % 128) (by omega) (by simp; omega) (by omega) (by simp)
      simp only [List.drop_succ_cons, List.drop_zero] at this
      rw [show ((1 : Nat) : Int) = 1 from rfl] at this
      rw [this]
      simp
    · have hnb : ¬ (281474976710656 < d % 128) := by omega
      simp [h128, hnb]
theorem p_rNumber_bad {x : List Int × Int} (h : x.2 ≠ 0) : f72 x = some (0, (x, ())) := by
  unfold f72 F72
  simp [h]
theorem p_rWithin (lo hi : Int) (l : List Int) (hb : Bytes8 l) (hl : l.length ≤ 9007199254740992) : f71 lo hi (l, 0) = some ((withinI lo hi l).1, (((withinI lo hi l).2.1, (withinI lo hi l).2.2), ())) := by
  unfold f71 F71 withinI
  simp only [p_rNumber l hb hl, Option.bind_some, p_fail]
  by_cases h0 : (numI l).2.2 = 0
  · by_cases hlo : (numI l).1 < lo
    · simp [h0, hlo]
    · by_cases hhi : hi < (numI l).1
      · simp [h0, hlo, hhi]
      · simp [h0, hlo, hhi]
  · simp [h0, (numI_bad hb h0).1]
theorem p_rWithin_bad (lo hi : Int) {x : List Int × Int} (h : x.2 ≠ 0) : f71 lo hi x = some (0, (x, ())) := by
  unfold f71 F71
  simp [p_rNumber_bad h, h]
theorem p_rEnd (x : List Int × Int) : f73 x = some (if x.2 = 0 then (if x.1.length = 0 then 0 else 11) else x.2, (x, ())) := by
  unfold f73 F73 f82 F82 f111 F111
  by_cases h : x.2 = 0
  · by_cases hl : x.1.length = 0
    · simp [h, hl]
    · have : (0 : Int) < (x.1.length : Int) := by omega
      simp only [Option.bind_some, h, decide_true, Bool.not_true, cond_false, this, cond_true, if_true, hl, if_false]
  · simp [h]
theorem p_bClone (l : List Int) (hl : l.length ≤ 4294967295) : f109 l = some ((), (l, ())) := by
  unfold f109 F109
  cases l with
  | nil => rfl
  | cons x l =>
    have hs := small_ok' 1 (by decide) hl
    simp only [cloneF, List.isEmpty_cons, cond_false, Nat.zero_add, hs, cond_true, List.nil_append]
theorem p_rNew (l : List Int) (hl : l.length ≤ 4294967295) : f69 l = some ((), ((l, 0), ())) := by
  unfold f69 F69
  simp [p_bClone l hl]

end NM
end Go.Proofs.Ytgpejfddaelobaa
