import Derived.Test.YtofboijlcjgnnaaReader
set_option linter.unusedVariables false
namespace Go.Proofs.Ytofboijlcjgnnaa
open Go.RowKit

def NewPost (w : World) (bs : List UInt8) (e : Ending) (w' : World) : Prop :=
  ∃ r S, e = .returned (.pointer (some ⟨r, 0, none⟩)) ∧ Rdr w' r S bs 0 ∧ Below w.heap.size w w' ∧ w.heap.size ≤ r ∧ ∀ b, S b → w.heap.size ≤ b ∧ b < w'.heap.size

theorem New5_any (A : Option Addr) (n c : Nat) (bs : List UInt8) (w : World) (B : Nat → Prop) (hn : n = bs.length) (h : Sl w B A bs) (hl : bs.length ≤ 536870912) :
    Calls Try.prog 31 #[.slice A n c] w (NewPost w bs) := by
  subst hn
  go_enter Try.func31, Try.ntmps31
  go_wp2_with (go_at_call 84; refine (clone_bytes2 _ _ _ bs _ No rfl h.srcF no_lt hl).mono ?_; rintro e w1 ⟨v1, rfl, hown1, hb1⟩; obtain ⟨A1, c1, rfl, hl1, hm1, hz1, hg1⟩ := hown1.form)
  go_ret
  have hs := hown1.val (B' := fun b => w.heap.size ≤ b ∧ b < w1.heap.size) (fun _ h => h.elim) (fun g h1 h2 => ⟨h1, h2⟩)
  obtain ⟨A2, c2, e2, _, _, _, hs2⟩ := hs.slice
  injection e2 with e3 e4 e5
  subst e3 e5
  refine ⟨w1.heap.size, fun b => w.heap.size ≤ b ∧ b < w1.heap.size, rfl, ⟨A1, c1, Blk.new w1 _ [_, _], hl1, hm1, ?_, fun h => by omega⟩, hb1.alloc hb1.size _, hb1.size, fun b hb => ⟨hb.1, by simp; omega⟩⟩
  exact hs2.keep (fun p hp => World.cell?_alloc_lt w1 _ p hp.2)

theorem Left_any (r : Nat) (S : Nat → Prop) (bs : List UInt8) (err : Int) (w : World) (h : Rdr w r S bs err) :
    Calls Try.prog 32 #[.pointer (some ⟨r, 0, none⟩)] w fun e w' => e = .returned (.int .i64 bs.length) ∧ w = w' := by
  obtain ⟨A, c, hb, hlc, hcm, hs, hS⟩ := h
  have c0 := hb.cell 0
  simp only [List.getElem?_cons_zero] at c0
  unfold maxLen at hcm
  clear hb hs hS
  go_enter Try.func32, Try.ntmps32
  go_wp2
  go_ret
  exact ⟨rfl, rfl⟩

theorem Err_any (r : Nat) (S : Nat → Prop) (bs : List UInt8) (err : Int) (w : World) (h : Rdr w r S bs err) :
    Calls Try.prog 34 #[.pointer (some ⟨r, 0, none⟩)] w fun e w' => e = .returned (.int .i64 err) ∧ w = w' := by
  obtain ⟨A, c, hb, hlc, hcm, hs, hS⟩ := h
  have c1 := hb.cell 1
  simp only [List.getElem?_cons_zero, List.getElem?_cons_succ] at c1
  clear hb hs hS
  go_enter Try.func34, Try.ntmps34
  go_wp2
  go_ret
  exact ⟨rfl, rfl⟩

/-- two lists of bytes are the same -/
def sameBytes (a b : List UInt8) : Bool := decide (a = b)

theorem Bytes_any (A C : Option Addr) (n c m d : Nat) (a b : List UInt8) (w : World) (B1 B2 : Nat → Prop) (hn : n = a.length) (hm : m = b.length) (ha : Sl w B1 A a) (hb : Sl w B2 C b) (hl : a.length ≤ 1073741824) (hl2 : b.length ≤ 1073741824) :
    Calls Try.prog 36 #[.slice A n c, .slice C m d] w fun e w' => e = .returned (.bool (sameBytes a b)) ∧ ∃ q, w' = w.drewN q := by
  subst hn hm
  by_cases hlen : a.length = b.length
  · have e0 : ((a.length : Int) == (b.length : Int)) = true := by simp [hlen]
    have e1 : ((a.length : Int) != (b.length : Int)) = false := by simp [hlen]
    go_enter Try.func36, Try.ntmps36
    have HL := Lib.hid hlen; clear hlen
    go_wp2
    go_loopw [5] (fun i wr => ∃ k : Nat, k ≤ a.length ∧ i = .int .i64 k ∧ (∃ q, wr = w.drewN q) ∧ a.take k = b.take k) (fun i _ => a.length - (intOf i).toNat)
    case atStart => exact ⟨0, Nat.zero_le _, rfl, ⟨0, rfl⟩, rfl⟩
    case round =>
      obtain ⟨k, hk, rfl, ⟨q, rfl⟩, htk⟩ := hrel
      have HT := Lib.hid htk; clear htk
      by_cases hlt : k < a.length
      · obtain ⟨ad, x, rfl, hx, hcx, hx2⟩ := ha.byte hlt
        obtain ⟨ad2, y, rfl, hy, hcy, hy2⟩ := hb.byte (show k < b.length by rw [← HL.out]; exact hlt)
        have hlt2 : k < b.length := by have := HL.out; omega
        have HX := Lib.hid hx; have HY := Lib.hid hy; clear hx hy
        go_wp2
        go_quiet (fail)
        by_cases hxy : x = y
        · have e3 : ((x.toNat : Int) != (y.toNat : Int)) = false := by simp [hxy]
          have HXY := Lib.hid hxy; clear hxy
          go_wp2
          go_roundw
          case rel => exact ⟨k + 1, by omega, by go_num, ⟨_, rfl⟩, by rw [List.take_add_one, List.take_add_one, HX.out, HY.out, HT.out, HXY.out]⟩
          case measure => simp [intOf]; omega
        · have e3 : ((x.toNat : Int) != (y.toNat : Int)) = true := by
            rw [bne_iff_ne]; intro h; exact hxy (UInt8.toNat.inj (by omega))
          have HXY := Lib.hid hxy; clear hxy
          go_wp2
          go_ret
          exact ⟨ret_bool (by unfold sameBytes; rw [eq_comm, decide_eq_false_iff_not]; intro h; subst h; exact HXY.out (Option.some.inj (HX.out.symm.trans HY.out))), _, World.drewN_drewN _ _ _⟩
      · go_wp2
        go_ret
        refine ⟨ret_bool ?_, _, rfl⟩
        unfold sameBytes
        have := HT.out
        rw [List.take_of_length_le (by omega), List.take_of_length_le (by have := HL.out; omega)] at this
        simp [this]
  · have e0 : ((a.length : Int) == (b.length : Int)) = false := by simp; omega
    have e1 : ((a.length : Int) != (b.length : Int)) = true := by simp; omega
    go_enter Try.func36, Try.ntmps36
    have HL := Lib.hid hlen; clear hlen
    go_wp2
    go_ret
    exact ⟨ret_bool (by unfold sameBytes; rw [eq_comm, decide_eq_false_iff_not]; intro h; exact HL.out (by rw [h])), 0, rfl⟩

end Go.Proofs.Ytofboijlcjgnnaa
