import Derived.Test.YtofboijlcjgnnaaLaw05
set_option linter.unusedVariables false
namespace Go.Proofs.Ytofboijlcjgnnaa
open Go.RowKit

theorem own_byte {w : World} {g : Nat} {t : TypeId} {x : Int} (h : Blk w g t [.int .u8 x]) (h0 : 0 ≤ x) (h1 : x ≤ 255) {base : Nat} (hb : base ≤ g) : Own base t w No (.slice (some ⟨g, 0, none⟩) 1 1) [UInt8.ofNat x.toNat] :=
  Own.blk h (Rs.single (by show _ = [Value.int .u8 ((UInt8.ofNat x.toNat).toNat : Int)]; rw [UInt8.toNat_ofNat']; congr 2; omega)) hb (by simp [maxLen]) rfl

theorem refBytes_vb (k : Nat) : ∀ (n : Int) (w : World), k ≤ 8 → 0 ≤ n → n.toNat < 128 ^ (k + 1) → n ≤ 281474976710656 → Calls Try.prog 92 #[.int .i64 n] w (Fresh 5 w No (vb k n.toNat)) := by
  induction k with
  | zero =>
    intro n w hk8 h0 h1 h2
    simp at h1
    have h3 : n < 128 := by omega
    go_enter Try.func92, Try.ntmps92
    go_wp2_with fail
    go_ret
    exact ⟨_, rfl, own_byte (Blk.new' rfl) h0 (by omega) (Nat.le_refl _), (Below.refl _ _).alloc (Nat.le_refl _) _⟩
  | succ k ih =>
    intro n w hk8 h0 h1 h2
    have IH := Lib.hid ih; clear ih
    by_cases h3 : n < 128
    · have hv : vb (k + 1) n.toNat = [UInt8.ofNat n.toNat] := by rw [vb, if_pos (by omega)]
      rw [hv]
      clear hv
      go_enter Try.func92, Try.ntmps92
      go_wp2_with fail
      go_ret
      exact ⟨_, rfl, own_byte (Blk.new' rfl) h0 (by omega) (Nat.le_refl _), (Below.refl _ _).alloc (Nat.le_refl _) _⟩
    · have hv : vb (k + 1) n.toNat = UInt8.ofNat (128 + n % 128).toNat :: vb k (n / 128).toNat := by
        rw [vb, if_neg (by omega), show (128 + n % 128).toNat = n.toNat % 128 + 128 by omega, show (n / 128).toNat = n.toNat / 128 by omega]
      rw [hv]
      have hq : (n / 128).toNat < 128 ^ (k + 1) := by rw [Nat.pow_succ] at h1; omega
      have hlen := vb_length k (n / 128).toNat
      clear hv h1
      go_enter Try.func92, Try.ntmps92
      go_wp2_with (first | (go_at_call 92; refine (IH.out (n / 128) _ (by omega) (by omega) hq (by omega)).mono ?_; rintro e w1 ⟨v1, rfl, hown1, hb1⟩; obtain ⟨A1, c1, rfl, _, _, _, hs1⟩ := (hown1.val' no_lt).slice; have hown0 := (own_byte (w := w.alloc (.cells #[.int .u8 (128 + n % 128)] 5)) (Blk.new' rfl) (by omega) (by omega) (Nat.le_refl _)).below hb1 (by simp) (fun _ h => h.elim)) | (at_builtin; refine wpList_app _ rfl (.tmp 12) (.tmp 15) _ rfl el_bytes (v := .slice (some ⟨w.heap.size, 0, none⟩) 1 1) rfl hown0 rfl rfl hs1.srcF (fun _ h => h.elim) (by simp; omega) (by have := hb1.size; simp at this; omega) ?_; intro v2 w2 hown2 hg2 _))
      go_ret
      exact ⟨v2, rfl, by simpa using hown2, (((Below.refl w.heap.size w).alloc (Nat.le_refl _) _).trans (hb1.mono (by simp))).grown hg2 (by have := hb1.size; simp at this; omega) (fun k hk => by simp [Value.ownBlock] at hk; omega)⟩

theorem refBytes_any (n : Int) (w : World) (h0 : 0 ≤ n) (h : n ≤ 281474976710656) : Calls Try.prog 92 #[.int .i64 n] w (Fresh 5 w No (vbytes n)) := by
  have e : (128 : Nat) ^ (7 + 1) = 72057594037927936 := by decide
  have h1 : n.toNat < 128 ^ (7 + 1) := by omega
  unfold vbytes
  rw [vb_more 7 _ h1]
  exact refBytes_vb 7 n w (by omega) h0 h1 h

set_option maxRecDepth 100000 in
theorem refPut_any (A : Option Addr) (n c : Nat) (l : List Int) (w : World) (hn : n = l.length) (hl : Sl w (Lt w.heap.size) A l) (hk : PutOk l) (h2 : l.length ≤ 1048576) :
    Calls Try.prog 47 #[.slice A n c] w (Fresh 5 w No (puts l)) := by
  subst hn
  have HK := Lib.hid hk; clear hk
  go_enter Try.func47, Try.ntmps47
  go_wp2
  go_loopw [3, 4] (fun v i wr => ∃ k : Nat, k ≤ l.length ∧ i = .int .i64 k ∧ Own w.heap.size 5 wr No v (puts (l.take k)) ∧ Below w.heap.size w wr) (fun _ i _ => l.length - (intOf i).toNat)
  case atStart => exact ⟨0, Nat.zero_le _, rfl, Own.nil, Below.refl _ _⟩
  case round =>
    obtain ⟨k, hk, rfl, hown, hb⟩ := hrel
    have hsz := hb.size
    by_cases hlt : k < l.length
    · obtain ⟨ad, x, rfl, hx, hcx, hx1, hx2⟩ := (hl.below hb).int hlt
      have hxx := HK.out x (List.mem_of_getElem? hx)
      have hpl := puts_len (l.take k)
      have hkl : (l.take k).length ≤ k := List.length_take_le _ _
      have hvl := vb_length 8 x.toNat
      have HX := Lib.hid hx; clear hx
      go_wp2_with (first | (go_at_call 92; refine (refBytes_any x _ hxx.1 hxx.2).mono ?_; rintro e w1 ⟨v1, rfl, hown1, hb1⟩; obtain ⟨A1, c1, rfl, _, _, _, hs1⟩ := (hown1.val' no_lt).slice; have hown0 := hown.below hb1 (Nat.le_refl _) (fun _ h => h.elim)) | (at_builtin; refine wpList_app _ rfl (.tmp 11) (.tmp 16) _ rfl el_bytes (v := u3) rfl hown0 rfl rfl hs1.srcF (fun _ h => h.elim) (by unfold vbytes; omega) (by have := hb1.size; omega) ?_; intro v2 w2 hown2 hg2 _))
      have hb2 : Below w.heap.size w w2 := (hb.trans (hb1.mono hsz)).grown hg2 (by have := hb1.size; omega) hown0.at_
      go_roundw
      case rel =>
        refine ⟨k + 1, by omega, by go_num, ?_, hb2⟩
        rw [List.take_add_one, HX.out, Option.toList_some, puts_snoc]
        exact hown2
      case measure => simp [intOf]; omega
    · go_wp2
      go_ret
      rw [List.take_of_length_le (by omega)] at hown
      exact ⟨_, rfl, hown, hb⟩

theorem refRight_any (n : Int) (w : World) : Calls Try.prog 46 #[.int .i64 n] w fun e w' => e = .returned (.bool (decide (0 ≤ n) && decide (n ≤ 281474976710656))) ∧ w = w' := by
  go_enter Try.func46, Try.ntmps46
  go_wp2
  all_goals go_ret
  all_goals refine ⟨ret_bool ?_, rfl⟩
  all_goals (simp_all; try omega)

def endErr (bs : List UInt8) (err : Int) : Int := if err = 0 then (if bs.length = 0 then 0 else 11) else err
theorem End_any (r : Nat) (S : Nat → Prop) (bs : List UInt8) (err : Int) (w : World) (h : Rdr w r S bs err) :
    Calls Try.prog 48 #[.pointer (some ⟨r, 0, none⟩)] w fun e w' => e = .returned (.int .i64 (endErr bs err)) ∧ w = w' := by
  by_cases h0 : err = 0
  · by_cases hl : bs.length = 0
    · have e : endErr bs err = 0 := by simp [endErr, h0, hl]
      rw [e]
      have hl' : ¬ (0 < bs.length) := by omega
      subst h0
      clear hl e
      go_enter Try.func48, Try.ntmps48
      go_wp2_with (first | (go_at_call 32; refine (Left_any _ _ _ _ _ h).mono ?_; rintro e w' ⟨rfl, rfl⟩) | (go_at_call 34; refine (Err_any _ _ _ _ _ h).mono ?_; rintro e w' ⟨rfl, rfl⟩))
      go_ret
      exact ⟨rfl, rfl⟩
    · have e : endErr bs err = 11 := by simp [endErr, h0, hl]
      rw [e]
      have hl' : 0 < bs.length := by omega
      subst h0
      clear hl e
      go_enter Try.func48, Try.ntmps48
      go_wp2_with (first | (go_at_call 32; refine (Left_any _ _ _ _ _ h).mono ?_; rintro e w' ⟨rfl, rfl⟩) | (go_at_call 34; refine (Err_any _ _ _ _ _ h).mono ?_; rintro e w' ⟨rfl, rfl⟩))
      go_ret
      exact ⟨rfl, rfl⟩
  · have e : endErr bs err = err := by simp [endErr, h0]
    rw [e]
    have e0 : (err == 0) = false := beq_eq_false_iff_ne.2 h0
    have e1 : (err != 0) = true := bne_iff_ne.2 h0
    clear h0 e
    go_enter Try.func48, Try.ntmps48
    go_wp2_with (first | (go_at_call 32; refine (Left_any _ _ _ _ _ h).mono ?_; rintro e w' ⟨rfl, rfl⟩) | (go_at_call 34; refine (Err_any _ _ _ _ _ h).mono ?_; rintro e w' ⟨rfl, rfl⟩))
    go_ret
    exact ⟨rfl, rfl⟩

end Go.Proofs.Ytofboijlcjgnnaa
