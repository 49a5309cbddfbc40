import Derived.Test.YtofboijlcjgnnaaLib
set_option linter.unusedVariables false
namespace Go.Proofs.Ytofboijlcjgnnaa
open Go.RowKit

def hold (n lo hi : Int) : Int := if n < lo then lo else if hi < n then hi else n

theorem hold_in {n lo hi : Int} (h : lo ≤ hi) : lo ≤ hold n lo hi ∧ hold n lo hi ≤ hi := by unfold hold; repeat' split
                                                                                            all_goals omega

theorem Hold_any (n lo hi : Int) (w : World) : Calls Try.prog 80 #[.int .i64 n, .int .i64 lo, .int .i64 hi] w fun e w' => e = .returned (.int .i64 (hold n lo hi)) ∧ w = w' := by
  go_enter Try.func80, Try.ntmps80
  go_wp2
  all_goals go_ret
  all_goals refine ⟨ret_int ?_, rfl⟩
  all_goals (unfold hold; repeat' split)
  all_goals omega

theorem refHold_any (n lo hi : Int) (w : World) : Calls Try.prog 16 #[.int .i64 n, .int .i64 lo, .int .i64 hi] w fun e w' => e = .returned (.int .i64 (hold n lo hi)) ∧ w = w' := by
  go_enter Try.func16, Try.ntmps16
  go_wp2
  all_goals go_ret
  all_goals refine ⟨ret_int ?_, rfl⟩
  all_goals (unfold hold; repeat' split)
  all_goals omega

/-- what is left of a use -/
def decayed (m dd : Int) : Int := m - m / 2 ^ dd.toNat
theorem decayed_in {m dd : Int} (h : 0 ≤ m) : 0 ≤ m / 2 ^ dd.toNat ∧ m / 2 ^ dd.toNat ≤ m := by
  have hp : (0 : Int) < 2 ^ dd.toNat := Int.pow_pos (by omega)
  exact ⟨Int.ediv_nonneg h (by omega), Int.ediv_le_self _ h⟩

def most : Int := 1099511627776
def tick1 (n dd : Int) (c : Option Int) : Int :=
  let m := decayed (hold n 0 1099511627776) dd
  min (m + (match c with | some x => hold x 0 1099511627776 | none => 0)) 1099511627776

theorem tick1_some {zs ys : List Int} {k : Nat} {x y dd : Int} (hx : zs[k]? = some x) (hy : ys[k]? = some y) : tick1 (zs.getD k 0) dd ys[k]? = if 1099511627776 < hold x 0 1099511627776 - hold x 0 1099511627776 / 2 ^ dd.toNat + hold y 0 1099511627776 then 1099511627776 else hold x 0 1099511627776 - hold x 0 1099511627776 / 2 ^ dd.toNat + hold y 0 1099511627776 := by
  unfold tick1 decayed
  rw [List.getD_eq_getElem?_getD, hx, hy]
  simp only [Option.getD_some]
  split <;> omega
theorem tick1_none {zs ys : List Int} {k : Nat} {x dd : Int} (hx : zs[k]? = some x) (hy : ys.length ≤ k) : tick1 (zs.getD k 0) dd ys[k]? = hold x 0 1099511627776 - hold x 0 1099511627776 / 2 ^ dd.toNat := by
  have hh := hold_in (n := x) (lo := 0) (hi := 1099511627776) (by omega)
  have hdd := decayed_in (dd := dd) hh.1
  unfold tick1 decayed
  rw [List.getD_eq_getElem?_getD, hx, List.getElem?_eq_none hy]
  simp only [Option.getD_some]
  omega

theorem int_info : (Try.prog.info? 3).map (fun i => (i.zero, i.size, i.bytes)) = some (some (.int .i64 0), 1, 8) := by kernel_rfl

/-- the list so far, and noughts -/
def filled (f : Nat → Int) (n k : Nat) : List Value := (List.range k).map (fun i => Value.int .i64 (f i)) ++ List.replicate (n - k) (.int .i64 0)
theorem filled_zero (f : Nat → Int) (n : Nat) : filled f n 0 = List.replicate n (.int .i64 0) := by simp [filled]
theorem filled_full (f : Nat → Int) (n : Nat) : filled f n n = ((List.range n).map f).map (Value.int .i64) := by simp [filled]
theorem filled_step (f : Nat → Int) {n k : Nat} (h : k < n) : (filled f n k).set k (.int .i64 (f k)) = filled f n (k + 1) := by
  obtain ⟨m, rfl⟩ : ∃ m, n = k + 1 + m := ⟨n - k - 1, by omega⟩
  have e : k + 1 + m - k = m + 1 := by omega
  have e' : k + 1 + m - (k + 1) = m := by omega
  unfold filled
  rw [e, e', List.range_succ, List.replicate_succ]
  simp
theorem filled_length (f : Nat → Int) {n k : Nat} (h : k ≤ n) : (filled f n k).length = n := by simp [filled]; omega

set_option maxRecDepth 100000 in
theorem tick_any (A C : Option Addr) (zs ys : List Int) (c1 c2 : Nat) (d : Int) (w : World) (hz : Sl w w.heap.size A zs) (hy : Sl w w.heap.size C ys) (hn : zs.length ≤ 1000) :
   Calls Try.prog 17 #[.slice A zs.length c1, .slice C ys.length c2, .int .i64 d] w fun e w' => e = .returned (.slice (some ⟨w.heap.size, 0, none⟩) zs.length zs.length) ∧ Blk w' w.heap.size 3 (((List.range zs.length).map fun k => tick1 (zs.getD k 0) (hold d 1 16) ys[k]?).map (Value.int .i64)) ∧ Below w.heap.size w w' := by
  have hmk := run_make_row' (P := Try.prog) 25 3 (.int .i64 0) 8 Try.underlying25 int_info rfl .i64 .i64 zs.length (by omega) (by omega)
  have hd := hold_in (n := d) (lo := 1) (hi := 16) (by omega)
  go_enter Try.func17, Try.ntmps17
  go_wp2_with (go_at_call 80; refine (Hold_any _ _ _ _).mono ?_; rintro e w' ⟨rfl, rfl⟩)
  go_loopw [17] (fun i wr => ∃ k : Nat, k ≤ zs.length ∧ i = .int .i64 k ∧ Below w.heap.size w wr ∧ Blk wr w.heap.size 3 (filled (fun k => tick1 (zs.getD k 0) (hold d 1 16) ys[k]?) zs.length k)) (fun i _ => zs.length - (intOf i).toNat)
  case atStart => exact ⟨0, Nat.zero_le _, rfl, (Below.refl _ _).alloc (Nat.le_refl _) _, by rw [filled_zero, ← toList_madeCells_one]; exact Blk.new w 3 (madeCells #[.int .i64 0] zs.length).toList⟩
  case round =>
    clear hmk
    obtain ⟨k, hk, rfl, hb, hblk⟩ := hrel
    by_cases hlt : k < zs.length
    · obtain ⟨ad, x, rfl, hx, hcx, hx1, hx2⟩ := (hz.below hb).int hlt
      have hh := hold_in (n := x) (lo := 0) (hi := 1099511627776) (by omega)
      have hdd := decayed_in (dd := hold d 1 16) hh.1
      have hfr := hblk.frozen k
      obtain ⟨u, hu⟩ : ∃ u, wr.cell? ⟨w.heap.size, k, none⟩ = some u := by
        rw [hblk.cell]; exact ⟨_, List.getElem?_eq_getElem (by rw [filled_length _ hk]; exact hlt)⟩
      have HX := Lib.hid hx; clear hx
      have HB := Lib.hid hblk; clear hblk
      by_cases hlt2 : k < ys.length
      · obtain ⟨ad2, y, rfl, hy', hcy, hy1, hy2⟩ := (hy.below hb).int hlt2
        have hh2 := hold_in (n := y) (lo := 0) (hi := 1099511627776) (by omega)
        have HY := Lib.hid hy'; clear hy'
        go_wp2_with (go_at_call 80; refine (Hold_any _ _ _ _).mono ?_; rintro e w' ⟨rfl, rfl⟩)
        go_roundw
        case rel =>
          refine ⟨k + 1, by omega, by go_num, hb.setCell (Nat.le_refl _) _, ?_⟩
          have h := HB.out.set_ k (.int .i64 (tick1 (zs.getD k 0) (hold d 1 16) ys[k]?))
          rw [filled_step (fun k => tick1 (zs.getD k 0) (hold d 1 16) ys[k]?) hlt, tick1_some HX.out HY.out] at h
          exact h
        case measure => simp [intOf]; omega
      · go_wp2_with (go_at_call 80; refine (Hold_any _ _ _ _).mono ?_; rintro e w' ⟨rfl, rfl⟩)
        go_roundw
        case rel =>
          refine ⟨k + 1, by omega, by go_num, hb.setCell (Nat.le_refl _) _, ?_⟩
          have h := HB.out.set_ k (.int .i64 (tick1 (zs.getD k 0) (hold d 1 16) ys[k]?))
          rw [filled_step (fun k => tick1 (zs.getD k 0) (hold d 1 16) ys[k]?) hlt, tick1_none HX.out (by omega)] at h
          exact h
        case measure => simp [intOf]; omega
    · go_wp2
      go_ret
      obtain rfl : k = zs.length := by omega
      rw [filled_full] at hblk
      exact ⟨rfl, hblk, hb⟩

theorem right_any (A : Option Addr) (zs : List Int) (c : Nat) (w : World) (hz : Sl w w.heap.size A zs) (hn : zs.length ≤ 1000) (h : ∀ z ∈ zs, 0 ≤ z ∧ z ≤ 1099511627776) :
   Calls Try.prog 18 #[.slice A zs.length c] w fun e w' => e = .returned (.bool true) ∧ w = w' := by
  go_enter Try.func18, Try.ntmps18
  go_wp2
  go_loop [7] (fun i => ∃ k : Nat, k ≤ zs.length ∧ i = .int .i64 k) (fun i => zs.length - (intOf i).toNat)
  case atStart => exact ⟨0, Nat.zero_le _, rfl⟩
  case round =>
    obtain ⟨k, hk, rfl⟩ := hrel
    by_cases hlt : k < zs.length
    · obtain ⟨ad, x, rfl, hx, hcx, hx1, hx2⟩ := hz.int hlt
      have hb := h x (List.mem_of_getElem? hx)
      clear hx
      go_wp2
      go_round
      case rel => exact ⟨k + 1, by omega, by go_num⟩
      case measure => simp [intOf]; omega
    · go_wp2
      go_ret
      exact ⟨rfl, rfl⟩

theorem New_any (n : Int) (w : World) : Calls Try.prog 79 #[.int .i64 n] w fun e w' => e = .returned (.slice (some ⟨w.heap.size, 0, none⟩) (hold n 0 8).toNat (hold n 0 8).toNat) ∧ w' = w.alloc (.cells (madeCells #[.int .i64 0] (hold n 0 8).toNat) 3) := by
  have hh := hold_in (n := n) (lo := 0) (hi := 8) (by omega)
  have hmk := run_make_row' (P := Try.prog) 25 3 (.int .i64 0) 8 Try.underlying25 int_info rfl .i64 .i64 (hold n 0 8).toNat (by omega) (by omega)
  rw [show (((hold n 0 8).toNat : Nat) : Int) = hold n 0 8 from by omega] at hmk
  go_enter Try.func79, Try.ntmps79
  go_wp2_with (go_at_call 80; refine (Hold_any _ _ _ _).mono ?_; rintro e w' ⟨rfl, rfl⟩)
  go_ret
  exact ⟨rfl, rfl⟩

theorem Factor_any (n : Int) (w : World) : Calls Try.prog 78 #[.int .i64 n] w fun e w' => e = .returned (.int .i64 (min (hold n 0 1099511627776 / 16) 4096)) ∧ w = w' := by
  have hh := hold_in (n := n) (lo := 0) (hi := 1099511627776) (by omega)
  go_enter Try.func78, Try.ntmps78
  go_wp2_with (go_at_call 80; refine (Hold_any _ _ _ _).mono ?_; rintro e w' ⟨rfl, rfl⟩)
  all_goals (go_ret; refine ⟨ret_int ?_, rfl⟩; omega)

theorem awake20 (w : World) : Calls Try.prog 15 #[] w fun e w' => e = .returned (.bool true) ∧ Below w.heap.size w w' := by
  go_enter Try.func15, Try.ntmps15
  go_wp2_with fail
  refine (tick_any _ _ [100] [5] _ _ _ _ (Sl.blk (cells := [.int .i64 100]) (t := 3) ((Blk.new' (by simp)).alloc _) (by simp; omega) (rs_ints [100] (by simp [I64]))) (Sl.blk (cells := [.int .i64 5]) (t := 3) (Blk.new' (by simp)) (by simp) (rs_ints [5] (by simp [I64]))) (by simp)).mono ?_
  rintro e w' ⟨rfl, hb, hbel⟩
  have c0 := hb.cell 0
  have hbel' : Below w.heap.size w w' := (((Below.refl w.heap.size w).alloc (Nat.le_refl _) _).alloc (by simp) _).trans (hbel.mono (by simp; omega))
  clear hb hbel
  simp [tick1, decayed, hold] at c0
  go_wp2_with (first | (go_at_call 78; refine (Factor_any _ _).mono ?_; rintro e w' ⟨rfl, rfl⟩) | (go_at_call 79; refine (New_any _ _).mono ?_; rintro e w' ⟨rfl, rfl⟩))
  go_ret
  exact ⟨ret_bool (by decide), hbel'.alloc hbel'.size' _⟩

theorem tick_mono {a b dd : Int} (h : a ≤ b) (h0 : 0 ≤ a) (hd : 1 ≤ dd) : decayed a dd ≤ decayed b dd := by
  unfold decayed
  have hp : (2 : Int) ≤ 2 ^ dd.toNat := by
    obtain ⟨n, hn⟩ : ∃ n, dd.toNat = n + 1 := ⟨dd.toNat - 1, by omega⟩
    rw [hn, Int.pow_succ]
    have : (0 : Int) < 2 ^ n := Int.pow_pos (by omega)
    omega
  generalize (2 : Int) ^ dd.toNat = p at hp
  have h1 : b / p ≤ a / p + (b - a) := by
    have e1 := Int.mul_ediv_add_emod a p
    have e2 := Int.mul_ediv_add_emod b p
    have r1 := Int.emod_nonneg a (show p ≠ 0 by omega)
    have r2 := Int.emod_lt_of_pos a (show 0 < p by omega)
    have r3 := Int.emod_nonneg b (show p ≠ 0 by omega)
    have r4 := Int.emod_lt_of_pos b (show 0 < p by omega)
    rcases Int.lt_or_le (a / p + (b - a)) (b / p) with hc | hc
    · have : p * (a / p + (b - a) + 1) ≤ p * (b / p) := Int.mul_le_mul_of_nonneg_left (by omega) (by omega)
      have e3 : p * (a / p + (b - a) + 1) = p * (a / p) + p * (b - a) + p := by rw [Int.mul_add, Int.mul_add, Int.mul_one]
      have e4 : b - a ≤ p * (b - a) := by
        have := Int.mul_le_mul_of_nonneg_right (show (1 : Int) ≤ p by omega) (show 0 ≤ b - a by omega)
        omega
      omega
    · exact hc
  omega

theorem tickLaw (a b y z : Int) (h0 : 0 ≤ a) (h : a ≤ b) (hb : b ≤ 1099511627776) : 0 ≤ tick1 a (hold z 1 16) (some y) ∧ tick1 a (hold z 1 16) (some y) ≤ tick1 b (hold z 1 16) (some y) ∧ tick1 b (hold z 1 16) (some y) ≤ 1099511627776 ∧ 0 ≤ tick1 b (hold z 1 16) none ∧ tick1 b (hold z 1 16) none ≤ b := by
  have hd := hold_in (n := z) (lo := 1) (hi := 16) (by omega)
  have hy := hold_in (n := y) (lo := 0) (hi := 1099511627776) (by omega)
  have m := tick_mono (a := a) (b := b) (dd := hold z 1 16) h h0 hd.1
  have da := decayed_in (m := a) (dd := hold z 1 16) h0
  have db := decayed_in (m := b) (dd := hold z 1 16) (by omega)
  have ea : hold a 0 1099511627776 = a := by unfold hold; repeat' split
                                             all_goals omega
  have eb : hold b 0 1099511627776 = b := by unfold hold; repeat' split
                                             all_goals omega
  simp only [tick1, ea, eb]
  unfold decayed at m ⊢
  omega

theorem shareOrder.walk (x : Int × Int) (y z : Int) (v0 v1 v2 : Value) (w : World) (h0 : V w w.heap.size x v0) (h1 : V w w.heap.size y v1) (h2 : V w w.heap.size z v2) :
    Calls Try.prog 3 #[v0, v1, v2] w fun e w' => e = .returned (.bool true) ∧ Below w.heap.size w w' := by
  obtain ⟨rfl, hy⟩ := h1.int
  obtain ⟨rfl, hz⟩ := h2.int
  obtain ⟨x0, x1⟩ := x
  obtain ⟨cs, rfl, hR⟩ := h0.agg_eq rfl
  obtain ⟨c, d, e, ⟨rfl, _⟩, ⟨rfl, _⟩⟩ := hR
  obtain rfl : cs = #[.int .i64 x0, .int .i64 x1] := by rw [← Array.toArray_toList (xs := cs), e]; rfl
  have g0 := hold_in (n := x0) (lo := 0) (hi := 1099511627776) (by omega)
  have g1 := hold_in (n := x1) (lo := 0) (hi := 1099511627776) (by omega)
  clear e h0 h1 h2
  go_enter Try.func3, Try.ntmps3
  go_wp2_with (go_at_call 15; refine (awake20 _).mono ?_; rintro e w1 ⟨rfl, hb1⟩)
  have c0 : w1.cell? ⟨w.heap.size, 0, none⟩ = some (.int .i64 x0) := (hb1.cell (by simp)).trans (by simp)
  have c1 : w1.cell? ⟨w.heap.size, 1, none⟩ = some (.int .i64 x1) := (hb1.cell (by simp)).trans (by simp)
  have hb : Below w.heap.size w w1 := ((Below.refl w.heap.size w).alloc (Nat.le_refl _) _).trans (hb1.mono (by simp))
  clear hb1
  go_quiet ((go_at_call 16; exact quiet_left (refHold_any _ _ _ _)))
  by_cases hle : hold x1 0 1099511627776 < hold x0 0 1099511627776
  · go_wp2_with fail
    generalize hold x0 0 1099511627776 = b at *
    generalize hold x1 0 1099511627776 = a at *
    refine (tick_any _ _ [a, b, b] [y, y] _ _ _ _ (Sl.blk (cells := [.int .i64 a, .int .i64 b, .int .i64 b]) (t := 3) ((Blk.new' (by simp)).alloc _) (by simp; omega) (rs_ints [a, b, b] (by simp [I64]; omega))) (Sl.blk (cells := [.int .i64 y, .int .i64 y]) (t := 3) (Blk.new' (by simp)) (by simp) (rs_ints [y, y] (by simpa using hy))) (by simp)).mono ?_
    rintro e w2 ⟨rfl, hblk, hb2⟩
    have L := tickLaw a b y z (by omega) (by omega) (by omega)
    simp only [List.length_cons, List.length_nil, List.range_succ, List.range_zero, List.nil_append, List.cons_append, List.map_cons, List.map_nil, List.getD_cons_zero, List.getD_cons_succ, List.getElem?_cons_zero, List.getElem?_cons_succ, List.getElem?_nil] at hblk
    generalize tick1 a (hold z 1 16) (some y) = t0 at L hblk
    generalize tick1 b (hold z 1 16) (some y) = t1 at L hblk
    generalize tick1 b (hold z 1 16) none = t2 at L hblk
    have d0 : w2.cell? ⟨w1.heap.size + 1 + 1, 0, none⟩ = some (.int .i64 t0) := by have := hblk.cell 0; simpa using this
    have d1 : w2.cell? ⟨w1.heap.size + 1 + 1, 1, none⟩ = some (.int .i64 t1) := by have := hblk.cell 1; simpa using this
    have d2 : w2.cell? ⟨w1.heap.size + 1 + 1, 2, none⟩ = some (.int .i64 t2) := by have := hblk.cell 2; simpa using this
    have hb' : Below w.heap.size w w2 := (((below_drewN hb nq).alloc hb.size _).alloc (by have := hb.size; simp; omega) _).trans (hb2.mono (by have := hb.size; simp; omega))
    have hbs : Sl w2 w2.heap.size (some ⟨w1.heap.size + 1 + 1, 0, none⟩) [t0, t1, t2] := Sl.blk (cells := [.int .i64 t0, .int .i64 t1, .int .i64 t2]) (t := 3) (by simpa using hblk) (by have := hblk.lt; simpa using this) (rs_ints [t0, t1, t2] (by simp [I64]; omega))
    clear hblk hb2 c0 c1
    go_wp2_with fail
    go_quiet ((go_at_call 18; exact quiet_left (right_any _ [t0, t1, t2] _ _ hbs (by simp) (by simp; omega))))
    go_wp2
    go_ret
    exact ⟨rfl, below_drewN hb' _⟩
  · go_wp2_with fail
    generalize hold x0 0 1099511627776 = a at *
    generalize hold x1 0 1099511627776 = b at *
    refine (tick_any _ _ [a, b, b] [y, y] _ _ _ _ (Sl.blk (cells := [.int .i64 a, .int .i64 b, .int .i64 b]) (t := 3) ((Blk.new' (by simp)).alloc _) (by simp; omega) (rs_ints [a, b, b] (by simp [I64]; omega))) (Sl.blk (cells := [.int .i64 y, .int .i64 y]) (t := 3) (Blk.new' (by simp)) (by simp) (rs_ints [y, y] (by simpa using hy))) (by simp)).mono ?_
    rintro e w2 ⟨rfl, hblk, hb2⟩
    have L := tickLaw a b y z (by omega) (by omega) (by omega)
    simp only [List.length_cons, List.length_nil, List.range_succ, List.range_zero, List.nil_append, List.cons_append, List.map_cons, List.map_nil, List.getD_cons_zero, List.getD_cons_succ, List.getElem?_cons_zero, List.getElem?_cons_succ, List.getElem?_nil] at hblk
    generalize tick1 a (hold z 1 16) (some y) = t0 at L hblk
    generalize tick1 b (hold z 1 16) (some y) = t1 at L hblk
    generalize tick1 b (hold z 1 16) none = t2 at L hblk
    have d0 : w2.cell? ⟨w1.heap.size + 1 + 1, 0, none⟩ = some (.int .i64 t0) := by have := hblk.cell 0; simpa using this
    have d1 : w2.cell? ⟨w1.heap.size + 1 + 1, 1, none⟩ = some (.int .i64 t1) := by have := hblk.cell 1; simpa using this
    have d2 : w2.cell? ⟨w1.heap.size + 1 + 1, 2, none⟩ = some (.int .i64 t2) := by have := hblk.cell 2; simpa using this
    have hb' : Below w.heap.size w w2 := (((below_drewN hb nq).alloc hb.size _).alloc (by have := hb.size; simp; omega) _).trans (hb2.mono (by have := hb.size; simp; omega))
    have hbs : Sl w2 w2.heap.size (some ⟨w1.heap.size + 1 + 1, 0, none⟩) [t0, t1, t2] := Sl.blk (cells := [.int .i64 t0, .int .i64 t1, .int .i64 t2]) (t := 3) (by simpa using hblk) (by have := hblk.lt; simpa using this) (rs_ints [t0, t1, t2] (by simp [I64]; omega))
    clear hblk hb2 c0 c1
    go_wp2_with fail
    go_quiet ((go_at_call 18; exact quiet_left (right_any _ [t0, t1, t2] _ _ hbs (by simp) (by simp; omega))))
    go_wp2
    go_ret
    exact ⟨rfl, below_drewN hb' _⟩
end Go.Proofs.Ytofboijlcjgnnaa
