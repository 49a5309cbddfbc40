import Derived.Test.YtofboijlcjgnnaaReply4
import Derived.Deep.LoopGhost
import Derived.Deep.RegionHeld3
import Derived.Deep.RegionLaw
set_option linter.unusedVariables false
namespace Go.Proofs.Ytofboijlcjgnnaa
open Go.RowKit

def mx4 : Nat → Int | 0 => 1073741824 | 1 => 99 | _ => 281474976710656
/-- the first k of the four numbers: those read, what is left, what is wrong -/
def fourS (bs : List UInt8) : Nat → List Int × List UInt8 × Int
  | 0 => ([], bs, 0)
  | k + 1 => ((fourS bs k).1 ++ [(withinS (fourS bs k).2.1 (fourS bs k).2.2 0 (mx4 k)).1], (withinS (fourS bs k).2.1 (fourS bs k).2.2 0 (mx4 k)).2)
theorem fourS_len (bs : List UInt8) : ∀ k, (fourS bs k).1.length = k
  | 0 => rfl
  | k + 1 => by simp [fourS, fourS_len bs k]
/-- so many numbers more -/
def manyS : Nat → List UInt8 → Int → List Int × List UInt8 × Int
  | 0, bs, e => ([], bs, e)
  | k + 1, bs, e => ((manyS k bs e).1 ++ [(numS (manyS k bs e).2.1 (manyS k bs e).2.2).1], (numS (manyS k bs e).2.1 (manyS k bs e).2.2).2)
theorem manyS_len : ∀ (k : Nat) (bs : List UInt8) (e : Int), (manyS k bs e).1.length = k
  | 0, _, _ => rfl
  | k + 1, bs, e => by simp [manyS, manyS_len k bs e]

theorem numS_range (bs : List UInt8) (err : Int) : 0 ≤ (numS bs err).1 ∧ (numS bs err).1 ≤ 281474976710656 := by
  unfold numS
  split
  · exact num_range
  · simp
theorem withinS_range (bs : List UInt8) (err hi : Int) (h : 0 ≤ hi) : 0 ≤ (withinS bs err 0 hi).1 ∧ (withinS bs err 0 hi).1 ≤ hi := by
  unfold withinS
  split
  · split
    · simpa using h
    · omega
  · simpa using h

/-- a row of four ints -/
def row4 (l : List Int) : List Value := (l ++ List.replicate (4 - l.length) 0).map (Value.int .i64)
theorem row4_set (l : List Int) (x : Int) (h : l.length < 4) : (row4 l).set l.length (.int .i64 x) = row4 (l ++ [x]) := by
  obtain ⟨m, hm⟩ : ∃ m, 4 - l.length = m + 1 := ⟨3 - l.length, by omega⟩
  have e : 4 - (l ++ [x]).length = m := by simp; omega
  unfold row4
  rw [e, hm, List.replicate_succ]
  simp [List.map_append]
theorem row4_len (l : List Int) (h : l.length ≤ 4) : (row4 l).length = 4 := by simp [row4]; omega

theorem fourS_four (bs : List UInt8) : ∃ x0 x1 x2 x3 : Int, (fourS bs 4).1 = [x0, x1, x2, x3] ∧ (0 ≤ x0 ∧ x0 ≤ 1073741824) ∧ (0 ≤ x1 ∧ x1 ≤ 99) ∧ (0 ≤ x2 ∧ x2 ≤ 281474976710656) ∧ (0 ≤ x3 ∧ x3 ≤ 281474976710656) :=
  ⟨_, _, _, _, rfl, withinS_range _ _ _ (by decide), withinS_range _ _ _ (by decide), withinS_range _ _ _ (by decide), withinS_range _ _ _ (by decide)⟩

def readEnd (bs : List UInt8) : List UInt8 × Int := (withinS (fourS bs 4).2.1 (fourS bs 4).2.2 0 64).2
def readN (bs : List UInt8) : Nat := (withinS (fourS bs 4).2.1 (fourS bs 4).2.2 0 64).1.toNat
/-- what is wrong with a reply's bytes -/
def readErr (bs : List UInt8) : Int := endErr (manyS (readN bs) (readEnd bs).1 (readEnd bs).2).2.1 (manyS (readN bs) (readEnd bs).1 (readEnd bs).2).2.2
def readReply (bs : List UInt8) : Reply := ⟨(fourS bs 4).1.getD 0 0, (fourS bs 4).1.getD 1 0, (fourS bs 4).1.getD 2 0, (fourS bs 4).1.getD 3 0, (manyS (readN bs) (readEnd bs).1 (readEnd bs).2).1⟩

def ReadPost (bs : List UInt8) (w : World) (e : Ending) (w' : World) : Prop :=
  ∃ v, e = .returned (.tuple #[v, .int .i64 (readErr bs)]) ∧ V w' (Lt w'.heap.size) (if readErr bs = 0 then readReply bs else ⟨0, 0, 0, 0, []⟩) v ∧ Below w.heap.size w w'

set_option maxHeartbeats 2000000 in
set_option maxRecDepth 100000 in
theorem replyRead_any (A : Option Addr) (n c : Nat) (bs : List UInt8) (w : World) (hn : n = bs.length) (h : Sl w (Lt w.heap.size) A bs) (hl : bs.length ≤ 1048576) :
    Calls Try.prog 72 #[.slice A n c] w (ReadPost bs w) := by
  subst hn
  have i0 : ∀ (x y z t : Value) (u : World), (Instr.index 93 (.agg #[x, y, z, t]) (.int .i64 0)).run Try.prog u = .ok x u := fun _ _ _ _ _ => by kernel_rfl
  have i1 : ∀ (x y z t : Value) (u : World), (Instr.index 93 (.agg #[x, y, z, t]) (.int .i64 1)).run Try.prog u = .ok y u := fun _ _ _ _ _ => by kernel_rfl
  have i2 : ∀ (x y z t : Value) (u : World), (Instr.index 93 (.agg #[x, y, z, t]) (.int .i64 2)).run Try.prog u = .ok z u := fun _ _ _ _ _ => by kernel_rfl
  have i3 : ∀ (x y z t : Value) (u : World), (Instr.index 93 (.agg #[x, y, z, t]) (.int .i64 3)).run Try.prog u = .ok t u := fun _ _ _ _ _ => by kernel_rfl
  have hs0 := h.later ((Below.refl w.heap.size w).alloc (Nat.le_refl _) (.cells #[.int .i64 0, .int .i64 0, .int .i64 0, .int .i64 0, .slice none 0 0] 38))
  have HS0 := Lib.hid hs0; clear hs0
  go_enter Try.func72, Try.ntmps72
  go_wp2_with (first | (go_at_call 31; refine (New5_any _ _ _ bs _ _ rfl HS0.out (by omega)).mono ?_; rintro e w1 ⟨r, S, rfl, hr, hb1, hr1, hS⟩; have hz1 : w.heap.size < w1.heap.size := (by have := hb1.size; simp at this; omega); have hrl := hr.lt) | (go_at_call 82; refine (greatest_any _).mono ?_; rintro e w2 ⟨rfl, hb2⟩))
  simp at hr1
  have hB2 : Below w.heap.size w w2 := ((((Below.refl w.heap.size w).alloc (Nat.le_refl _) _).trans (hb1.mono (by simp))).alloc (by omega) _).trans (hb2.mono (by simp; omega))
  have hres : Blk w2 w.heap.size 38 [.int .i64 0, .int .i64 0, .int .i64 0, .int .i64 0, .slice none 0 0] := (((Blk.new' rfl).below hb1 (by simp)).alloc _).below hb2 (by simp; omega)
  have hrow : Blk w2 w1.heap.size 93 (row4 []) := (Blk.new' (cs := row4 []) rfl).below hb2 (by simp)
  have hr2 : Rdr w2 r S bs 0 := hr.keep ((hb2.block r (by simp; omega)).trans (Below.heap_alloc _ _ _ (by omega))) (fun b hb => (hb2.block b (by have := (hS b hb).2; simp; omega)).trans (Below.heap_alloc _ _ _ (hS b hb).2))
  have hz2 : w1.heap.size < w2.heap.size := by have := hb2.size; simp at this; omega
  have hSw : ∀ b, S b → b < w1.heap.size := fun b hb => (hS b hb).2
  have HSW := Lib.hid hSw; have HB2 := Lib.hid hB2; have HR2 := Lib.hid hr2; have HRES := Lib.hid hres; have HROW := Lib.hid hrow
  clear hr hS hb1 hb2 hB2 hr2 hres hrow hSw
  go_loopw [13] (fun i wr => ∃ k : Nat, k ≤ 4 ∧ i = .int .i64 k ∧ w2.heap.size ≤ wr.heap.size ∧ Below w.heap.size w wr ∧ Blk wr w.heap.size 38 [.int .i64 0, .int .i64 0, .int .i64 0, .int .i64 0, .slice none 0 0] ∧ Blk wr w1.heap.size 93 (row4 (fourS bs k).1) ∧ Rdr wr r S (fourS bs k).2.1 (fourS bs k).2.2) (fun i _ => 4 - (intOf i).toNat)
  case atStart => exact ⟨0, by omega, rfl, Nat.le_refl _, HB2.out, HRES.out, HROW.out, HR2.out⟩
  case round =>
    clear HROW HR2 HRES
    obtain ⟨k, hk, rfl, hzr, hB, hres, hrow, hr⟩ := hrel
    have fl := fourS_len bs k
    rcases Nat.lt_or_ge k 4 with hk4 | hk4
    · have hf := hrow.frozen k
      obtain ⟨u, hu⟩ : ∃ u, wr.cell? ⟨w1.heap.size, k, none⟩ = some u := by
        rw [hrow.cell]; exact ⟨_, List.getElem?_eq_getElem (by rw [row4_len _ (by omega)]; exact hk4)⟩
      have step : ∀ w3 : World, wr.grownBy w3 (some r) → Rdr w3 r S (withinS (fourS bs k).2.1 (fourS bs k).2.2 0 (mx4 k)).2.1 (withinS (fourS bs k).2.1 (fourS bs k).2.2 0 (mx4 k)).2.2 →
          w2.heap.size ≤ (w3.setCell ⟨w1.heap.size, k, none⟩ (.int .i64 (withinS (fourS bs k).2.1 (fourS bs k).2.2 0 (mx4 k)).1)).heap.size ∧ Below w.heap.size w (w3.setCell ⟨w1.heap.size, k, none⟩ (.int .i64 (withinS (fourS bs k).2.1 (fourS bs k).2.2 0 (mx4 k)).1)) ∧ Blk (w3.setCell ⟨w1.heap.size, k, none⟩ (.int .i64 (withinS (fourS bs k).2.1 (fourS bs k).2.2 0 (mx4 k)).1)) w.heap.size 38 [.int .i64 0, .int .i64 0, .int .i64 0, .int .i64 0, .slice none 0 0] ∧ Blk (w3.setCell ⟨w1.heap.size, k, none⟩ (.int .i64 (withinS (fourS bs k).2.1 (fourS bs k).2.2 0 (mx4 k)).1)) w1.heap.size 93 (row4 (fourS bs (k + 1)).1) ∧ Rdr (w3.setCell ⟨w1.heap.size, k, none⟩ (.int .i64 (withinS (fourS bs k).2.1 (fourS bs k).2.2 0 (mx4 k)).1)) r S (fourS bs (k + 1)).2.1 (fourS bs (k + 1)).2.2 := by
        intro w3 hg hr3
        refine ⟨by have := hg.size; simp [World.setCell]; omega, (hB.grown hg hB.size (fun g hg => by injection hg with hg; omega)).setCell (by show w.heap.size ≤ w1.heap.size; omega) _, ((hres.grown hg (fun h => by injection h with h; omega)).far (by show w.heap.size ≠ w1.heap.size; omega) _), ?_, ?_⟩
        · have := (hrow.grown hg (fun h => by injection h with h; omega)).set_ k (.int .i64 (withinS (fourS bs k).2.1 (fourS bs k).2.2 0 (mx4 k)).1)
          conv at this => rhs; rw [← fl]
          rw [fourS]
          rw [← row4_set _ _ (by omega), fl]
          rw [fl] at this
          exact this
        · exact hr3.keep (Below.heap_setCell _ _ _ _ (by show r ≠ w1.heap.size; omega)) (fun b hb => Below.heap_setCell _ _ _ _ (by show b ≠ w1.heap.size; have := HSW.out b hb; omega))
      have cells : ∀ w3 : World, wr.grownBy w3 (some r) → w3.cell? ⟨w1.heap.size, k, none⟩ = some u ∧ w3.frozen? ⟨w1.heap.size, k, none⟩ = false := fun w3 hg => by
        have := hrow.grown hg (fun h => by injection h with h; omega)
        exact ⟨by rw [this.cell, ← hrow.cell]; exact hu, this.frozen k⟩
      have STEP := Lib.hid step; have CELLS := Lib.hid cells
      clear step cells hres hrow hB hf hu
      rcases (by omega : k = 0 ∨ k = 1 ∨ k = 2 ∨ k = 3) with rfl | rfl | rfl | rfl
      · simp only [Int.natCast_zero]
        go_wp2_with (go_at_call 110; refine (Within_any _ _ _ _ _ 1073741824 _ hr).mono ?_; rintro e w3 ⟨rfl, hr3, hg3⟩; have k1 := (CELLS.out w3 hg3).1; have k2 := (CELLS.out w3 hg3).2)
        go_roundw
        case rel => exact ⟨1, by omega, rfl, STEP.out w3 hg3 hr3⟩
        case measure => simp [intOf]
      · simp only [Int.natCast_one]
        go_wp2_with (go_at_call 110; refine (Within_any _ _ _ _ _ 99 _ hr).mono ?_; rintro e w3 ⟨rfl, hr3, hg3⟩; have k1 := (CELLS.out w3 hg3).1; have k2 := (CELLS.out w3 hg3).2)
        go_roundw
        case rel => exact ⟨2, by omega, rfl, STEP.out w3 hg3 hr3⟩
        case measure => simp [intOf]
      · simp only [Int.cast_ofNat_Int]
        go_wp2_with (go_at_call 110; refine (Within_any _ _ _ _ _ 281474976710656 _ hr).mono ?_; rintro e w3 ⟨rfl, hr3, hg3⟩; have k1 := (CELLS.out w3 hg3).1; have k2 := (CELLS.out w3 hg3).2)
        go_roundw
        case rel => exact ⟨3, by omega, rfl, STEP.out w3 hg3 hr3⟩
        case measure => simp [intOf]
      · simp only [Int.cast_ofNat_Int]
        go_wp2_with (go_at_call 110; refine (Within_any _ _ _ _ _ 281474976710656 _ hr).mono ?_; rintro e w3 ⟨rfl, hr3, hg3⟩; have k1 := (CELLS.out w3 hg3).1; have k2 := (CELLS.out w3 hg3).2)
        go_roundw
        case rel => exact ⟨4, by omega, rfl, STEP.out w3 hg3 hr3⟩
        case measure => simp [intOf]
    · obtain rfl : k = 4 := by omega
      obtain ⟨wo, rfl⟩ : ∃ wo : World, wo = wr := ⟨_, rfl⟩
      simp only [Int.cast_ofNat_Int]
      obtain ⟨x0, x1, x2, x3, hx, q0, q1, q2, q3⟩ := fourS_four bs
      rw [hx] at hrow
      have r0 := hrow.cell 0; have r1 := hrow.cell 1; have r2 := hrow.cell 2; have r3 := hrow.cell 3
      simp [row4] at r0 r1 r2 r3
      have hb5 : Blk (wo.alloc (.cells #[.int .i64 x0, .int .i64 x1, .int .i64 x2, .int .i64 x3, .slice none 0 0] 38)) wo.heap.size 38 [.int .i64 x0, .int .i64 x1, .int .i64 x2, .int .i64 x3, .slice none 0 0] := Blk.new' rfl
      have hr5 : Rdr (wo.alloc (.cells #[.int .i64 x0, .int .i64 x1, .int .i64 x2, .int .i64 x3, .slice none 0 0] 38)) r S (fourS bs 4).2.1 (fourS bs 4).2.2 := hr.keep (Below.heap_alloc _ _ _ (by omega)) (fun b hb => Below.heap_alloc _ _ _ (by have := HSW.out b hb; omega))
      have hrng := withinS_range (fourS bs 4).2.1 (fourS bs 4).2.2 64 (by omega)
      have HX := Lib.hid hx
      have HB := Lib.hid hB; have HRES := Lib.hid hres; have HB5 := Lib.hid hb5
      clear hrow hr hB hres hx hb5 fl
      go_wp2_with (go_at_call 110; refine (Within_any _ _ _ _ _ 64 _ hr5).mono ?_; rintro e w3 ⟨rfl, hr6, hg6⟩)
      have hn : (withinS (fourS bs 4).2.1 (fourS bs 4).2.2 0 64).1 = ((readN bs : Nat) : Int) := by unfold readN; omega
      have hrN : readN bs ≤ 64 := by unfold readN; omega
      have hr7 : Rdr w3 r S (readEnd bs).1 (readEnd bs).2 := hr6
      have hz6 := hg6.size
      simp at hz6
      have hblk6 : Blk w3 wo.heap.size 38 [.int .i64 x0, .int .i64 x1, .int .i64 x2, .int .i64 x3, .slice none 0 0] := HB5.out.grown hg6 (fun h => by injection h with h; omega)
      have hres6 : Blk w3 w.heap.size 38 [.int .i64 0, .int .i64 0, .int .i64 0, .int .i64 0, .slice none 0 0] := (HRES.out.alloc _).grown hg6 (fun h => by injection h with h; omega)
      have hB6 : Below w.heap.size w w3 := (HB.out.alloc HB.out.size _).grown hg6 (by have := HB.out.size; simp; omega) (fun g hg => by injection hg with hg; omega)
      rw [hn]
      have HBK := Lib.hid hblk6; have HRS := Lib.hid hres6; have HB6 := Lib.hid hB6
      clear hn hr6 hg6 hblk6 hres6 hB6 r0 r1 r2 r3 hr5 HB HRES HB5
      go_loopw [34] (fun i wq => ∃ k : Nat, k ≤ readN bs ∧ i = .int .i64 k ∧ w3.heap.size ≤ wq.heap.size ∧ Below w.heap.size w wq ∧ Blk wq w.heap.size 38 [.int .i64 0, .int .i64 0, .int .i64 0, .int .i64 0, .slice none 0 0] ∧ Rdr wq r S (manyS k (readEnd bs).1 (readEnd bs).2).2.1 (manyS k (readEnd bs).1 (readEnd bs).2).2.2 ∧ ∃ A5 C5, Blk wq wo.heap.size 38 [.int .i64 x0, .int .i64 x1, .int .i64 x2, .int .i64 x3, .slice A5 k C5] ∧ Own (wo.heap.size + 1) 3 wq No (.slice A5 k C5) (manyS k (readEnd bs).1 (readEnd bs).2).1) (fun i _ => readN bs - (intOf i).toNat)
      case atStart => exact ⟨0, Nat.zero_le _, rfl, Nat.le_refl _, HB6.out, HRS.out, hr7, none, 0, HBK.out, Own.nil⟩
      case round =>
        clear hr7 HB6 HRS HBK
        obtain ⟨k, hk, rfl, hzq, hBq, hresq, hrq, A5, C5, hbq, hown⟩ := hrel
        have fl := manyS_len k (readEnd bs).1 (readEnd bs).2
        rcases Nat.lt_or_ge k (readN bs) with hlt | hge
        · have e4 := hbq.cell 4; have ef4 := hbq.frozen 4
          simp at e4
          have hrq' : Rdr wr.drew r S (manyS k (readEnd bs).1 (readEnd bs).2).2.1 (manyS k (readEnd bs).1 (readEnd bs).2).2.2 := hrq.keep rfl (fun _ _ => rfl)
          have hnr := numS_range (manyS k (readEnd bs).1 (readEnd bs).2).2.1 (manyS k (readEnd bs).1 (readEnd bs).2).2.2
          have HBQ := Lib.hid hbq; have HOWN := Lib.hid hown; have HRQ := Lib.hid hrq'; have HR0 := Lib.hid hresq; have HB0 := Lib.hid hBq
          clear hbq hown hrq hrq' hresq hBq
          have fin : ∀ (w4 w5 : World) (A6 : Option Addr) (C6 : Nat) (o : Obj), Rdr w4 r S (manyS (k + 1) (readEnd bs).1 (readEnd bs).2).2.1 (manyS (k + 1) (readEnd bs).1 (readEnd bs).2).2.2 → wr.drew.grownBy w4 (some r) → Own (wo.heap.size + 1) 3 w5 No (.slice A6 (k + 1) C6) (manyS (k + 1) (readEnd bs).1 (readEnd bs).2).1 → (w4.alloc o).grownBy w5 (Value.slice A5 k C5).ownBlock →
              w3.heap.size ≤ (w5.setCell ⟨wo.heap.size, 4, none⟩ (.slice A6 (k + 1) C6)).heap.size ∧ Below w.heap.size w (w5.setCell ⟨wo.heap.size, 4, none⟩ (.slice A6 (k + 1) C6)) ∧ Blk (w5.setCell ⟨wo.heap.size, 4, none⟩ (.slice A6 (k + 1) C6)) w.heap.size 38 [.int .i64 0, .int .i64 0, .int .i64 0, .int .i64 0, .slice none 0 0] ∧ Rdr (w5.setCell ⟨wo.heap.size, 4, none⟩ (.slice A6 (k + 1) C6)) r S (manyS (k + 1) (readEnd bs).1 (readEnd bs).2).2.1 (manyS (k + 1) (readEnd bs).1 (readEnd bs).2).2.2 ∧ ∃ A5 C5, Blk (w5.setCell ⟨wo.heap.size, 4, none⟩ (.slice A6 (k + 1) C6)) wo.heap.size 38 [.int .i64 x0, .int .i64 x1, .int .i64 x2, .int .i64 x3, .slice A5 (k + 1) C5] ∧ Own (wo.heap.size + 1) 3 (w5.setCell ⟨wo.heap.size, 4, none⟩ (.slice A6 (k + 1) C6)) No (.slice A5 (k + 1) C5) (manyS (k + 1) (readEnd bs).1 (readEnd bs).2).1 := by
            intro w4 w5 A6 C6 o hr4 hg4 hown5 hg5
            have z4 : wr.heap.size ≤ w4.heap.size := hg4.size
            have z5 := hg5.size
            simp at z5
            have hat := HOWN.out.at_
            have ne : ∀ b, b ≤ wo.heap.size → some b ≠ (Value.slice A5 k C5).ownBlock := fun b hb h => by have := hat b h.symm; omega
            have bb : ∀ b, b < wr.heap.size → b ≠ r → b ≠ wo.heap.size → b ≤ wo.heap.size → (w5.setCell ⟨wo.heap.size, 4, none⟩ (.slice A6 (k + 1) C6)).heap[b]? = wr.heap[b]? := fun b h1 h2 h3 h4 =>
              (Below.heap_setCell _ _ _ _ h3).trans ((hg5.block b (by simp; omega) (ne b h4)).trans ((Below.heap_alloc _ _ _ (by omega)).trans (hg4.block b h1 (fun h => h2 (by injection h)))))
            have hszr : wo.heap.size < wr.heap.size := by omega
            refine ⟨by simp [World.setCell]; omega, ?_, (bb w.heap.size (by omega) (by omega) (by omega) (by omega)).trans HR0.out, ?_, A6, C6, ?_, ?_⟩
            · refine HB0.out.trans ⟨?_, ?_, ?_, ?_, fun b hb => bb b (by omega) (by omega) (by omega) (by omega)⟩
              · exact hg5.os.trans hg4.os
              · exact hg5.tape.trans hg4.tape
              · exact hg5.output.trans hg4.output
              · simp [World.setCell]; omega
            · exact hr4.keep ((Below.heap_setCell _ _ _ _ (by show r ≠ wo.heap.size; omega)).trans ((hg5.block r (by simp; omega) (ne r (by omega))).trans (Below.heap_alloc _ _ _ (by omega)))) (fun b hb => (Below.heap_setCell _ _ _ _ (by show b ≠ wo.heap.size; have := HSW.out b hb; omega)).trans ((hg5.block b (by have := HSW.out b hb; simp; omega) (ne b (by have := HSW.out b hb; omega))).trans (Below.heap_alloc _ _ _ (by have := HSW.out b hb; omega))))
            · have hb5 : Blk w5 wo.heap.size 38 [.int .i64 x0, .int .i64 x1, .int .i64 x2, .int .i64 x3, .slice A5 k C5] := (((HBQ.out.drew).grown hg4 (fun h => by injection h with h; omega)).alloc _).grown hg5 (ne _ (Nat.le_refl _))
              simpa using hb5.set_ 4 (.slice A6 (k + 1) C6)
            · exact hown5.kept grow_set (.inr (fun h => by have := hown5.at_ _ h; omega)) (fun _ h => h.elim)
          have FIN := Lib.hid fin; clear fin
          go_wp2_with fail
          go_region_law
            (first | (go_simp; go_at_call 33; refine (NumberS_any r S _ _ _ HRQ.out).mono ?_; rintro e w4 ⟨rfl, hr4, hg4⟩; go_loud (have kp : w4.cell? ⟨wo.heap.size, 4, none⟩ = some (.slice A5 k C5) := (World.cell?_of_block (hg4.block _ (by show wo.heap.size < wr.heap.size; omega) (fun (h : some wo.heap.size = some r) => by injection h with h; omega))).trans e4); have hz4 : wo.heap.size < w4.heap.size := (by have h4 : wr.heap.size ≤ w4.heap.size := hg4.size; omega)) | (refine step_app _ (by rfl) (.tmp 37) (.tmp 40) _ (by rfl) el_ints (v := .slice A5 k C5) (by rfl) (((HOWN.out.drew).kept hg4 (.inr (fun h => by have := HOWN.out.at_ _ h; omega)) (fun _ h => h.elim)).alloc _ no_lt) (by rfl) (by rfl) (Src.blk (Blk.new' rfl) (rs_ints [(numS (manyS k (readEnd bs).1 (readEnd bs).2).2.1 (manyS k (readEnd bs).1 (readEnd bs).2).2.2).1] (by simp [I64]; omega))) (fun _ h => h.elim) (by simp; omega) (by have := hg4.size; simp at this ⊢; omega) ?_; intro v5 w5 hown5 hg5 _; obtain ⟨A6, C6, rfl, hl6, hm6, _, _⟩ := hown5.form; have hbq5 : Blk w5 wo.heap.size 38 [.int .i64 x0, .int .i64 x1, .int .i64 x2, .int .i64 x3, .slice A5 k C5] := (((HBQ.out.drew).grown hg4 (fun h => by injection h with h; omega)).alloc _).grown hg5 (fun h => by have := HOWN.out.at_ _ h.symm; omega); have kp2 := hbq5.cell 4; have kf2 := hbq5.frozen 4; simp only [List.getElem?_cons_zero, List.getElem?_cons_succ] at kp2; have HBQ5 := Lib.hid hbq5; clear hbq5) | fail)
          all_goals
            have hown6 : Own (wo.heap.size + 1) 3 w5 No (.slice A6 (k + 1) C6) (manyS (k + 1) (readEnd bs).1 (readEnd bs).2).1 := by
              have := hown5
              simp only [List.length_append, List.length_cons, List.length_nil, fl] at this
              exact this
            go_wp2
            go_roundw
            case rel => exact ⟨k + 1, by omega, by go_num, FIN.out w4 w5 A6 C6 _ hr4 hg4 hown6 hg5⟩
            case measure => simp [intOf]; omega
        · obtain rfl : k = readN bs := by omega
          have e0 := hbq.cell 0; have e1 := hbq.cell 1; have e2 := hbq.cell 2; have e3 := hbq.cell 3; have e4 := hbq.cell 4
          have g0 := hresq.cell 0; have g1 := hresq.cell 1; have g2 := hresq.cell 2; have g3 := hresq.cell 3; have g4 := hresq.cell 4
          have k0 := hresq.frozen 0; have k1 := hresq.frozen 1; have k2 := hresq.frozen 2; have k3 := hresq.frozen 3; have k4 := hresq.frozen 4
          simp only [List.getElem?_cons_zero, List.getElem?_cons_succ] at e0 e1 e2 e3 e4 g0 g1 g2 g3 g4
          by_cases he : readErr bs = 0
          · have he' := he
            unfold readErr at he'
            obtain ⟨wf, hwf⟩ : ∃ wf : World, wf = (((((wr.setCell ⟨w.heap.size, 0, none⟩ (.int .i64 x0)).setCell ⟨w.heap.size, 1, none⟩ (.int .i64 x1)).setCell ⟨w.heap.size, 2, none⟩ (.int .i64 x2)).setCell ⟨w.heap.size, 3, none⟩ (.int .i64 x3)).setCell ⟨w.heap.size, 4, none⟩ (.slice A5 (readN bs) C5)) := ⟨_, rfl⟩
            have hfb : Blk wf w.heap.size 38 [.int .i64 x0, .int .i64 x1, .int .i64 x2, .int .i64 x3, .slice A5 (readN bs) C5] := by
              rw [hwf]
              simpa using ((((hresq.set_ 0 (.int .i64 x0)).set_ 1 (.int .i64 x1)).set_ 2 (.int .i64 x2)).set_ 3 (.int .i64 x3)).set_ 4 (.slice A5 (readN bs) C5)
            have hfbel : Below w.heap.size w wf := by
              rw [hwf]
              exact ((((hBq.setCell (Nat.le_refl _) _).setCell (Nat.le_refl _) _).setCell (Nat.le_refl _) _).setCell (Nat.le_refl _) _).setCell (Nat.le_refl _) _
            have hgf : wr.grownBy wf (some w.heap.size) := by
              rw [hwf]
              exact (((grow_set.trans grow_set).trans grow_set).trans grow_set).trans grow_set
            have hownf : Own (wo.heap.size + 1) 3 wf No (.slice A5 (readN bs) C5) (manyS (readN bs) (readEnd bs).1 (readEnd bs).2).1 := hown.kept hgf (.inr (fun h => by have := hown.at_ _ h; omega)) (fun _ h => h.elim)
            have hval : V wf (Lt wf.heap.size) (readReply bs) (.agg #[.int .i64 x0, .int .i64 x1, .int .i64 x2, .int .i64 x3, .slice A5 (readN bs) C5]) := by
              obtain ⟨A7, C7, e7, l7, m7, n7, s7⟩ := (hownf.val' no_lt).slice
              injection e7 with e8 e9 e10
              subst e8 e10
              have ee : readReply bs = ⟨x0, x1, x2, x3, (manyS (readN bs) (readEnd bs).1 (readEnd bs).2).1⟩ := by unfold readReply; rw [HX.out]; rfl
              rw [ee]
              have := Reply.valMk (w := wf) (B := Lt wf.heap.size) (x := ⟨x0, x1, x2, x3, (manyS (readN bs) (readEnd bs).1 (readEnd bs).2).1⟩) (A4 := A5) (C4 := C5) (by unfold I64; show _ ≤ x0 ∧ x0 ≤ _; omega) (by unfold I64; show _ ≤ x1 ∧ x1 ≤ _; omega) (by unfold I64; show _ ≤ x2 ∧ x2 ≤ _; omega) (by unfold I64; show _ ≤ x3 ∧ x3 ≤ _; omega) l7 m7 n7 s7
              rwa [show (Reply.mk x0 x1 x2 x3 (manyS (readN bs) (readEnd bs).1 (readEnd bs).2).1).nums.length = readN bs from fl] at this
            have HE := Lib.hid he; have HE' := Lib.hid he'
            have HWF := Lib.hid hwf; have HFB := Lib.hid hfb
            clear he he' hbq hresq hgf hownf hown hwf hfb
            go_wp2_with (go_at_call 48; refine (End_any _ _ _ _ _ hrq).mono ?_; rw [HE'.out]; rintro e w9 ⟨rfl, rfl⟩)
            rw [← HWF.out]
            have c0 := HFB.out.cell 0; have c1 := HFB.out.cell 1; have c2 := HFB.out.cell 2; have c3 := HFB.out.cell 3; have c4 := HFB.out.cell 4
            simp only [List.getElem?_cons_zero, List.getElem?_cons_succ] at c0 c1 c2 c3 c4
            exact bodyPost_ret (v := .tuple #[.agg #[.int .i64 x0, .int .i64 x1, .int .i64 x2, .int .i64 x3, .slice A5 (readN bs) C5], .int .i64 0]) (by simp [results, Try.results72, go_sem, c0, c1, c2, c3, c4]) rfl ⟨_, by rw [HE.out], by rw [if_pos HE.out]; exact hval, hfbel⟩
          · obtain ⟨wf, hwf⟩ : ∃ wf : World, wf = (((((wr.setCell ⟨w.heap.size, 0, none⟩ (.int .i64 0)).setCell ⟨w.heap.size, 1, none⟩ (.int .i64 0)).setCell ⟨w.heap.size, 2, none⟩ (.int .i64 0)).setCell ⟨w.heap.size, 3, none⟩ (.int .i64 0)).setCell ⟨w.heap.size, 4, none⟩ (.slice none 0 0)) := ⟨_, rfl⟩
            have hfb : Blk wf w.heap.size 38 [.int .i64 0, .int .i64 0, .int .i64 0, .int .i64 0, .slice none 0 0] := by
              rw [hwf]
              simpa using ((((hresq.set_ 0 (.int .i64 0)).set_ 1 (.int .i64 0)).set_ 2 (.int .i64 0)).set_ 3 (.int .i64 0)).set_ 4 (.slice none 0 0)
            have hfbel : Below w.heap.size w wf := by
              rw [hwf]
              exact ((((hBq.setCell (Nat.le_refl _) _).setCell (Nat.le_refl _) _).setCell (Nat.le_refl _) _).setCell (Nat.le_refl _) _).setCell (Nat.le_refl _) _
            have hval : V wf (Lt wf.heap.size) (Reply.mk 0 0 0 0 []) (.agg #[.int .i64 0, .int .i64 0, .int .i64 0, .int .i64 0, .slice none 0 0]) := Reply.valMk (x := ⟨0, 0, 0, 0, []⟩) (A4 := none) (C4 := 0) (by simp [I64]) (by simp [I64]) (by simp [I64]) (by simp [I64]) (Nat.le_refl _) (Nat.zero_le _) (fun _ => rfl) Sl.nil
            generalize hE : readErr bs = E at he
            have hE' := hE
            unfold readErr at hE'
            have e5 : (E == 0) = false := beq_eq_false_iff_ne.2 he
            have e6 : (E != 0) = true := bne_iff_ne.2 he
            have HE := Lib.hid hE; have HE' := Lib.hid hE'; have HNE := Lib.hid he
            have HWF := Lib.hid hwf; have HFB := Lib.hid hfb
            clear he hE hE' hbq hresq hown hwf hfb
            go_wp2_with (go_at_call 48; refine (End_any _ _ _ _ _ hrq).mono ?_; rw [HE'.out]; rintro e w9 ⟨rfl, rfl⟩)
            rw [← HWF.out]
            have c0 := HFB.out.cell 0; have c1 := HFB.out.cell 1; have c2 := HFB.out.cell 2; have c3 := HFB.out.cell 3; have c4 := HFB.out.cell 4
            simp only [List.getElem?_cons_zero, List.getElem?_cons_succ] at c0 c1 c2 c3 c4
            exact bodyPost_ret (v := .tuple #[.agg #[.int .i64 0, .int .i64 0, .int .i64 0, .int .i64 0, .slice none 0 0], .int .i64 E]) (by simp [results, Try.results72, go_sem, c0, c1, c2, c3, c4]) rfl ⟨_, by rw [HE.out], by rw [HE.out, if_neg HNE.out]; exact hval, hfbel⟩

end Go.Proofs.Ytofboijlcjgnnaa
