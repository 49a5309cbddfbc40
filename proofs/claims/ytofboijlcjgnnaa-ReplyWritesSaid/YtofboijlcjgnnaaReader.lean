import Derived.Test.YtofboijlcjgnnaaCodec
set_option linter.unusedVariables false
namespace Go.Proofs.Ytofboijlcjgnnaa
open Go.RowKit

/-- what a number's bytes say: the number, what is left, what is wrong -/
def numGo : Nat → Nat → Int → List UInt8 → Int × List UInt8 × Int
  | 0, _, _, _ => (0, [], 11)
  | _ + 1, _, _, [] => (0, [], 10)
  | f + 1, i, n, d :: rest =>
    if 128 ≤ d.toNat then numGo f (i + 1) (n + ((d.toNat : Int) % 128) * 2 ^ (7 * i)) rest
    else if (0 < i ∧ d.toNat = 0) ∨ 281474976710656 < n + ((d.toNat : Int) % 128) * 2 ^ (7 * i) then (0, [], 11)
    else (n + ((d.toNat : Int) % 128) * 2 ^ (7 * i), rest, 0)
def num (bs : List UInt8) : Int × List UInt8 × Int := numGo 8 0 0 bs

/-- block r is a reader of the bytes bs (which lie in blocks of S), with the error 'err' -/
def Rdr (w : World) (r : Nat) (S : Nat → Prop) (bs : List UInt8) (err : Int) : Prop :=
  ∃ A c, Blk w r 109 [.slice A bs.length c, .int .i64 err] ∧ bs.length ≤ c ∧ c ≤ maxLen ∧ Sl w S A bs ∧ ¬ S r

def FailPost (w : World) (r : Nat) (err : Int) (e : Ending) (w' : World) : Prop :=
  e = .returned (.int .i64 0) ∧ Blk w' r 109 [.slice none 0 0, .int .i64 err] ∧ w.grownBy w' (some r)

theorem grow_set {w : World} {r i : Nat} {u : Value} : w.grownBy (w.setCell ⟨r, i, none⟩ u) (some r) :=
  ⟨rfl, rfl, rfl, by simp [World.setCell], fun k _ hk => Below.heap_setCell _ _ _ _ (fun h => hk (by rw [h]))⟩

theorem fail_any (r : Nat) (err e0 : Int) (u : Value) (w : World) (hb : Blk w r 109 [u, .int .i64 e0]) :
    Calls Try.prog 85 #[.pointer (some ⟨r, 0, none⟩), .int .i64 err] w (FailPost w r err) := by
  have c0 := hb.cell 0; have c1 := hb.cell 1; have f0 := hb.frozen 0; have f1 := hb.frozen 1
  simp only [List.getElem?_cons_zero, List.getElem?_cons_succ] at c0 c1
  have HB := Lib.hid hb; clear hb
  go_enter Try.func85, Try.ntmps85
  go_wp2
  go_ret
  exact ⟨rfl, by simpa using (HB.out.set_ 1 (.int .i64 err)).set_ 0 (.slice none 0 0), grow_set.trans grow_set⟩

def NumPost (w : World) (r : Nat) (S : Nat → Prop) (x : Int × List UInt8 × Int) (e : Ending) (w' : World) : Prop :=
  e = .returned (.int .i64 x.1) ∧ Rdr w' r S x.2.1 x.2.2 ∧ w.grownBy w' (some r)

theorem numPost_fail {w : World} {r : Nat} {S : Nat → Prop} {x : Int × List UInt8 × Int} {err : Int} (hx : x = (0, [], err)) (hS : ¬ S r) : ∀ e w', FailPost w r err e w' → NumPost w r S x e w' := by
  subst hx
  rintro e w' ⟨h1, h2, h3⟩
  exact ⟨h1, ⟨none, 0, h2, Nat.le_refl _, Nat.zero_le _, Sl.nil, hS⟩, h3⟩

/-- at the label -/
def NumJ (r : Nat) (bs : List UInt8) (w : World) (a' : Act) (w' : World) : Prop :=
  w = w' ∧ ∃ (k : Nat) (n i : Int) (u5 u6 u7 u8 u9 u10 u11 u12 u13 u14 u15 u16 u17 u18 u19 u20 u21 u22 u23 u24 u25 u26 u27 u28 u29 u30 u31 u32 u33 u34 u35 u36 u37 u38 u39 u40 u41 u42 u43 u44 u45 u46 : Value), a' = { tmps := #[.pointer (some ⟨r, 0, none⟩), undef, .int .i64 0, .int .i64 n, .int .i64 i, u5, u6, u7, u8, u9, u10, u11, u12, u13, u14, u15, u16, u17, u18, u19, u20, u21, u22, u23, u24, u25, u26, u27, u28, u29, u30, u31, u32, u33, u34, u35, u36, u37, u38, u39, u40, u41, u42, u43, u44, u45, u46, undef, undef, undef, undef, undef, undef, undef, undef, undef, undef, undef, undef, undef, undef, undef, undef, undef, undef, undef, undef, undef, undef], defers := [] } ∧ i = k ∧ k ≤ 8 ∧ k ≤ bs.length ∧ 0 ≤ n ∧ n < 2 ^ (7 * k) ∧ numGo (8 - k) k n (bs.drop k) = num bs

theorem num_end {bs : List UInt8} {n : Int} (h : numGo (8 - bs.length) bs.length n (bs.drop bs.length) = num bs) (hk : bs.length < 8) : num bs = (0, [], 10) := by
  rw [← h, List.drop_length, show 8 - bs.length = (7 - bs.length) + 1 by omega, numGo]
theorem num_step {bs : List UInt8} {k : Nat} {n : Int} {d : UInt8} (h : numGo (8 - k) k n (bs.drop k) = num bs) (hk : k < 8) (hd : bs[k]? = some d) :
    num bs = if 128 ≤ d.toNat then numGo (8 - (k + 1)) (k + 1) (n + ((d.toNat : Int) % 128) * 2 ^ (7 * k)) (bs.drop (k + 1))
    else if (0 < k ∧ d.toNat = 0) ∨ 281474976710656 < n + ((d.toNat : Int) % 128) * 2 ^ (7 * k) then (0, [], 11)
    else (n + ((d.toNat : Int) % 128) * 2 ^ (7 * k), bs.drop (k + 1), 0) := by
  have hlt := (List.getElem?_eq_some_iff.1 hd).1
  have e : bs.drop k = d :: bs.drop (k + 1) := by
    rw [List.drop_eq_getElem_cons hlt]
    congr 1
    exact (List.getElem?_eq_some_iff.1 hd).2
  rw [← h, e, show 8 - k = (8 - (k + 1)) + 1 by omega, numGo]
/-- the powers of a digit's place -/
theorem pow_place {k : Nat} (hk : k < 8) : ∃ p : Int, (2 : Int) ^ (7 * k) = p ∧ 1 ≤ p ∧ p ≤ 562949953421312 ∧ (2 : Int) ^ (7 * (k + 1)) = 128 * p := by
  refine ⟨_, rfl, ?_, ?_, ?_⟩
  · have : (0 : Int) < 2 ^ (7 * k) := Int.pow_pos (by omega)
    omega
  · have h : (2 : Nat) ^ (7 * k) ≤ 2 ^ 49 := Nat.pow_le_pow_right (by omega) (by omega)
    have e : (2 : Nat) ^ 49 = 562949953421312 := by decide
    have : ((2 ^ (7 * k) : Nat) : Int) ≤ ((2 ^ 49 : Nat) : Int) := Int.ofNat_le.2 h
    rw [e] at this
    simpa using this
  · rw [show 7 * (k + 1) = 7 * k + 7 by omega, Int.pow_add]
    omega

set_option maxHeartbeats 2000000 in
set_option maxRecDepth 100000 in
theorem Number_any (r : Nat) (S : Nat → Prop) (bs : List UInt8) (w : World) (h : Rdr w r S bs 0) :
    Calls Try.prog 33 #[.pointer (some ⟨r, 0, none⟩)] w (NumPost w r S (num bs)) := by
  obtain ⟨A, c, hb, hlc, hcm, hs, hS⟩ := h
  have c0 := hb.cell 0; have c1 := hb.cell 1; have f0 := hb.frozen 0; have f1 := hb.frozen 1
  simp only [List.getElem?_cons_zero, List.getElem?_cons_succ] at c0 c1
  unfold maxLen at hcm
  have HB := Lib.hid hb; clear hb
  go_enter Try.func33, Try.ntmps33
  go_wp2
  refine wp_scope_once 0 (NumJ r bs w) (fun a' _ => 8 - (intOf (a'.tmps.getD 4 undef)).toNat) rfl ?_ ?_
  · rintro a' w' ⟨rfl, k, n, _, u5, u6, u7, u8, u9, u10, u11, u12, u13, u14, u15, u16, u17, u18, u19, u20, u21, u22, u23, u24, u25, u26, u27, u28, u29, u30, u31, u32, u33, u34, u35, u36, u37, u38, u39, u40, u41, u42, u43, u44, u45, u46, rfl, rfl, hk, hkl, hn0, hn1, hnum⟩
    have HN := Lib.hid hnum; clear hnum
    rcases Nat.lt_or_ge k 8 with hk8 | hk8
    · rcases Nat.lt_or_ge k bs.length with hkb | hkb
      · obtain ⟨ad, d, rfl, hd, hcd, hd2⟩ := hs.byte hkb
        have HD := Lib.hid hd; clear hd
        obtain ⟨p, hp, hp1, hp2, hp3⟩ := pow_place hk8
        have e1 : ((k : Int) == 8) = false := beq_eq_false_iff_ne.2 (by omega)
        have e2 : ((k : Int) == (bs.length : Int)) = false := beq_eq_false_iff_ne.2 (by omega)
        have hq : 0 ≤ (d.toNat : Int) % 128 * 2 ^ (7 * k) ∧ (d.toNat : Int) % 128 * 2 ^ (7 * k) ≤ 127 * 562949953421312 ∧ (d.toNat : Int) % 128 * 2 ^ (7 * k) + 2 ^ (7 * k) ≤ 2 ^ (7 * (k + 1)) := by
          rw [hp3, hp]
          have h1 : 0 ≤ (d.toNat : Int) % 128 := by omega
          have h2 : (d.toNat : Int) % 128 ≤ 127 := by omega
          have h3 := Int.mul_le_mul_of_nonneg_right h2 (show 0 ≤ p by omega)
          have h4 := Int.mul_nonneg h1 (show 0 ≤ p by omega)
          omega
        have HQ := Lib.hid hq
        obtain ⟨hq1, hq2, hq3⟩ := hq
        have hn2 : n < 562949953421312 := by rw [hp] at hn1; omega
        have HN1 := Lib.hid hn1
        clear hq3 hn1 hp hp3
        by_cases hbig : 128 ≤ d.toNat
        · have hbig' : (128 : Int) ≤ d.toNat := by omega
          go_wp2_with fail
          go_step3
          refine ⟨rfl, ⟨rfl, k + 1, n + (d.toNat : Int) % 128 * 2 ^ (7 * k), _, _, _, _, _, _, _, _, _, _, _, _, _, _, _, _, _, _, _, _, _, _, _, _, _, _, _, _, _, _, _, _, _, _, _, _, _, _, _, _, _, _, _, rfl, by omega, by omega, by omega, by omega, ?_, ?_⟩, ?_⟩
          · have := HQ.out; have := HN1.out; omega
          · rw [num_step HN.out hk8 HD.out, if_pos hbig]
          · simp [intOf]; omega
        · have hsm : ((d.toNat : Int) < 128) := by omega
          by_cases hbad : (0 < k ∧ d.toNat = 0) ∨ 281474976710656 < n + (d.toNat : Int) % 128 * 2 ^ (7 * k)
          · have hnum : num bs = (0, [], 11) := by rw [num_step HN.out hk8 HD.out, if_neg hbig, if_pos hbad]
            have HNN := Lib.hid hnum
            clear hnum
            rcases (by omega : (0 < k ∧ d.toNat = 0) ∨ ((k = 0 ∨ 0 < d.toNat) ∧ 281474976710656 < n + (d.toNat : Int) % 128 * 2 ^ (7 * k))) with ⟨h1, h2⟩ | ⟨h1, h2⟩
            · clear hbad
              go_wp2_with fail
              refine (fail_any r 11 0 _ _ HB.out).mono ?_
              rintro e w1 hf
              obtain rfl := hf.1
              have HF := Lib.hid hf; clear hf
              go_wp2
              simp only [Exit.jump]
              go_ret
              exact numPost_fail HNN.out hS _ _ HF.out
            · clear hbad
              rcases (by omega : k < 1 ∨ (1 ≤ k ∧ 0 < d.toNat)) with h1 | ⟨h3, h1⟩
              · skip
                go_wp2_with fail
                refine (fail_any r 11 0 _ _ HB.out).mono ?_
                rintro e w1 hf
                obtain rfl := hf.1
                have HF := Lib.hid hf; clear hf
                go_wp2
                simp only [Exit.jump]
                go_ret
                exact numPost_fail HNN.out hS _ _ HF.out
              · have h1' : ((d.toNat : Int) == 0) = false := beq_eq_false_iff_ne.2 (by omega)
                go_wp2_with fail
                refine (fail_any r 11 0 _ _ HB.out).mono ?_
                rintro e w1 hf
                obtain rfl := hf.1
                have HF := Lib.hid hf; clear hf
                go_wp2
                simp only [Exit.jump]
                go_ret
                exact numPost_fail HNN.out hS _ _ HF.out
          · have hnum : num bs = (n + (d.toNat : Int) % 128 * 2 ^ (7 * k), bs.drop (k + 1), 0) := by rw [num_step HN.out hk8 HD.out, if_neg hbig, if_neg hbad]
            have HNN := Lib.hid hnum
            clear hnum
            have hle : n + (d.toNat : Int) % 128 * 2 ^ (7 * k) ≤ 281474976710656 := by omega
            have hz : k = 0 ∨ 0 < d.toNat := by omega
            clear hbad
            have hfin : ∀ (A' : Option Addr) (c' : Nat), bs.length - (k + 1) ≤ c' → c' ≤ maxLen → Sl w S A' (bs.drop (k + 1)) → NumPost w r S (num bs) (.returned (.int .i64 (n + (d.toNat : Int) % 128 * 2 ^ (7 * k)))) (w.setCell ⟨r, 0, none⟩ (.slice A' (bs.length - (k + 1)) c')) := fun A' c' hc1 hc2 hA' => by
              rw [HNN.out]
              refine ⟨rfl, ⟨A', c', by simpa using HB.out.set_ 0 (.slice A' (bs.length - (k + 1)) c'), by simp; omega, hc2, hA'.keep (fun p hp => World.cell?_setCell_other w _ p _ (fun h => hS (by subst h; exact hp))), hS⟩, grow_set⟩
            have hcut := hs.cut (k := k + 1) hlc
            have HF := Lib.hid hfin; have HC := Lib.hid hcut
            clear hfin hcut
            have hcc : (((d.toNat : Int) == 0) = false ∧ 1 ≤ k) ∨ k < 1 := by
              rcases Nat.lt_or_ge k 1 with h | h
              · right; omega
              · left; exact ⟨beq_eq_false_iff_ne.2 (by omega), h⟩
            clear hz
            rcases Nat.lt_or_ge (k + 1) c with hck | hck
            · have hne : ¬ c = k + 1 := by omega
              rcases hcc with ⟨h1, h3⟩ | h1
              all_goals
                go_wp2_with fail
                simp only [Exit.jump]
                go_ret
                refine HF.out _ _ (by omega) (by unfold maxLen; omega) ?_
                have := HC.out
                simpa [hne, Lay.n, Addr.add] using this
            · obtain rfl : c = k + 1 := by omega
              rcases hcc with ⟨h1, h3⟩ | h1
              all_goals
                go_wp2_with fail
                simp only [Exit.jump]
                go_ret
                have hfx := HF.out (some ad) 0 (by omega) (by unfold maxLen; omega) (by have := HC.out; simpa [Lay.n, Addr.add] using this)
                rw [show bs.length - (k + 1) = 0 by omega] at hfx
                exact hfx
      · obtain rfl : k = bs.length := by omega
        go_wp2_with fail
        refine (fail_any r 10 0 _ _ HB.out).mono ?_
        rintro e w1 hf
        obtain rfl := hf.1
        have HF := Lib.hid hf; clear hf
        go_wp2
        simp only [Exit.jump]
        go_ret
        exact numPost_fail (num_end HN.out hk8) hS _ _ HF.out
    · obtain rfl : k = 8 := by omega
      go_wp2_with fail
      refine (fail_any r 11 0 _ _ HB.out).mono ?_
      rintro e w1 hf
      obtain rfl := hf.1
      have HF := Lib.hid hf; clear hf
      go_wp2
      simp only [Exit.jump]
      go_ret
      exact numPost_fail (by rw [← HN.out, Nat.sub_self, numGo]) hS _ _ HF.out
  · intro hp
    have HP := Lib.hid hp; clear hp
    go_wp2_with fail
    go_step3
    rename_i K hK
    refine hK _ _ (HP.out _ _ ?_)
    exact ⟨rfl, 0, 0, 0, _, _, _, _, _, _, _, _, _, _, _, _, _, _, _, _, _, _, _, _, _, _, _, _, _, _, _, _, _, _, _, _, _, _, _, _, _, _, _, _, _, _, rfl, rfl, by omega, by omega, by omega, by simp, rfl⟩

end Go.Proofs.Ytofboijlcjgnnaa
