/-
  stat.Text at its chapter's example: the walk.
-/
import Derived.Test.YtfelhbeiegppgaaDoorNStatA
import Derived.Deep.MidRow
set_option linter.unusedVariables false
set_option linter.unusedSimpArgs false
namespace Go.Proofs.YtfelhbeiegppgaaDoor
open Go Go.RowKit AM
namespace Stat
def nms : List (List UInt8) := ((globOf 0 globs).getD []).map fun c => match c with | .str s => s | _ => []
def digs (n : Int) : List UInt8 := bif decide (n = 0) then [48] else [49]
def line (k : Nat) : List UInt8 := bif decide (6 ≤ k) && decide (tz.getD k 0 = 0) then [] else nms.getD k [] ++ (32 :: digs (tz.getD k 0)) ++ [10]
def textTo : Nat → List UInt8
  | 0 => []
  | k + 1 => textTo k ++ line k
theorem itoa0 (w : World) : Calls Tryd.prog 17 #[.int .i64 0] w fun e w' => e = .returned (.string ⟨#[48]⟩) ∧ w' = w := by
  have h := Tryd.strconv_Itoa_small 0 (by decide) w
  rw [Lib.decDigits_one (by decide)] at h
  exact h
theorem itoa1 (w : World) : Calls Tryd.prog 17 #[.int .i64 1] w fun e w' => e = .returned (.string ⟨#[49]⟩) ∧ w' = w := by
  have h := Tryd.strconv_Itoa_small 1 (by decide) w
  rw [Lib.decDigits_one (by decide)] at h
  exact h
theorem idx (m k : Nat) (hk : k < 19) (u : World) : (Instr.index 49 (.agg (ptrs m).toArray) (.int .i64 (k : Int))).run Tryd.prog u = .ok (.pointer (some ⟨m, k, none⟩)) u := by
  have h := ptrs_at m k hk
  have h0 : 0 ≤ (k : Int) := Int.natCast_nonneg k
  have h1 : (k : Int) < 19 := by omega
  simp [Instr.index, run_underlying Tryd.underlying49, asIntOf, h0, h1, h, hk, part, Tryd.sizeOf48]
theorem line_end (k : Nat) (d : List UInt8) (h : line k = nms.getD k [] ++ (32 :: d) ++ [10]) : Lib.byteCells (textTo k) ++ Lib.strCells ⟨(nms.getD k []).toArray⟩ ++ [.int .u8 32] ++ Lib.strCells ⟨d.toArray⟩ ++ [.int .u8 10] = Lib.byteCells (textTo (k + 1)) := by
  have e : textTo (k + 1) = textTo k ++ line k := rfl
  rw [e, h]
  simp [Lib.byteCells, Lib.strCells]
theorem line_none (k : Nat) (h : line k = []) : textTo k = textTo (k + 1) := by
  have e : textTo (k + 1) = textTo k ++ line k := rfl
  rw [e, h, List.append_nil]
theorem short : ∀ k, k < 20 → (textTo k).length ≤ 100 := by
  intro k hk
  have h : (List.range 20).all (fun k => decide ((textTo k).length ≤ 100)) = true := by kernel_rfl
  exact of_decide_eq_true (List.all_eq_true.1 h k (List.mem_range.2 hk))
theorem shortN : ∀ k, k < 19 → (nms.getD k []).length ≤ 100 := by
  intro k hk
  have h : (List.range 19).all (fun k => decide ((nms.getD k []).length ≤ 100)) = true := by kernel_rfl
  exact of_decide_eq_true (List.all_eq_true.1 h k (List.mem_range.2 hk))
theorem name_at {w : World} {S : Nat → Prop} (hgl : GlobR w S) {k : Nat} (hk : k < 19) : w.cell? ⟨0, k, none⟩ = some (.string ⟨(nms.getD k []).toArray⟩) := by
  obtain ⟨h1, _, us, t, p, h3, h4⟩ := hgl 0 _ rfl
  have hc : ((globOf 0 globs).getD [])[k]? = some (.str (nms.getD k [])) := by
    rcases k with _ | _ | _ | _ | _ | _ | _ | _ | _ | _ | _ | _ | _ | _ | _ | _ | _ | _ | _ | k <;> first | rfl | omega
  cases h1 with
  | iptr cs off m o gv hm hcell hir =>
    have e1 := hcell k _ hc
    have e2 := hir k _ hc
    generalize gv k = v at e1 e2
    generalize nms.getD k [] = s at e2 ⊢
    cases e2
    rw [Nat.zero_add] at e1
    exact e1
set_option maxHeartbeats 4000000 in
set_option maxRecDepth 1000000 in
theorem text {w : World} {S : Nat → Prop} (hS : ∀ m, S m → m < w.heap.size) (hgl : GlobR w S) :
    Calls Tryd.prog 8 #[.agg tzV.toArray] w fun e w' => e = .returned (.tuple #[.string ⟨(textTo 19).toArray⟩, .int .i64 0]) ∧ Below w.heap.size w w' := by
  have hS1 : ∀ m, S m → m < (w.alloc (.cells tzV.toArray 27)).heap.size := fun m hm => by simpa using Nat.lt_succ_of_lt (hS m hm)
  have hgl1 : GlobR (w.alloc (.cells tzV.toArray 27)) S := hgl.mono (fun m hm => Below.heap_alloc _ _ _ (hS m hm)) fun _ h => h
  have Hc := Go.Lib.hid (right_calls hS1 hgl1)
  have hr0 : (w.alloc (.cells tzV.toArray 27)).rangeAt w.heap.size 0 tzV := fun j v hj => by
    rw [Nat.zero_add, cell_of_row _ _ j tzV.toArray _ (0, 0) (heap_alloc_new w _)]
    simpa using hj
  have Hr0 := Go.Lib.hid hr0
  clear hr0
  go_enter Tryd.func8, Tryd.ntmps8
  go_wp2_with (first
    | (with_reducible refine wpList_load_mid rfl 27 (.tmp 1) rfl w.heap.size 0 rfl tzV _ Hr0.out Tryd.underlying27 rfl (by kernel_rfl) ?_)
    | (go_at_call 10; refine (Hc.out).mono ?_))
  rintro e w1 ⟨rfl, hb1⟩
  have hm1 : w1.heap[w.heap.size]? = some (.cells tzV.toArray 27 (0, 0)) := (hb1.block _ (by simp)).trans (heap_alloc_new w _)
  have c6 : w1.cell? ⟨w.heap.size, 6, none⟩ = some (.int .i64 0) := by simp only [World.cell?, hm1]; rfl
  have Hb1 := Go.Lib.hid hb1
  have Hm1 := Go.Lib.hid hm1
  have hB : w.heap.size < w1.heap.size := by have := hb1.size; simp at this; omega
  have hgl2 : GlobR (w1.alloc (.cells #[.pointer none, .slice none 0 0] 57)) S := hgl1.mono (fun m hm => (Below.heap_alloc _ _ _ (by have := hS m hm; omega)).trans (hb1.block m (hS1 m hm))) fun _ h => h
  have hm2 : (w1.alloc (.cells #[.pointer none, .slice none 0 0] 57)).heap[w.heap.size]? = some (.cells tzV.toArray 27 (0, 0)) := (Below.heap_alloc _ _ _ hB).trans hm1
  have Hn := Go.Lib.hid (numbers_calls (fun k hk => by have := hS k hk; simp; omega) hgl2 (fun h => Nat.lt_irrefl _ (hS _ h)) hm2)
  clear hb1 hm1 hgl2 hm2
  go_wp2_with (go_at_call 11; refine (Hn.out).mono ?_)
  rintro e w2 ⟨rfl, ⟨o1, o2, o3, o4⟩, hsame, hcell⟩
  have hsz : (w1.alloc (.cells #[.pointer none, .slice none 0 0] 57)).heap.size = w1.heap.size + 1 := by simp
  have hbl : w2.heap[w1.heap.size]? = some (.cells #[.pointer none, .slice none 0 0] 57 (0, 0)) := (hsame _ (by omega) (by omega)).trans (heap_alloc_new w1 _)
  have Hb2 : Hid (Below w.heap.size w w2) := (by
    refine (((Below.refl w.heap.size w).alloc (Nat.le_refl _) _).trans (Hb1.out.mono (by simp))).trans ⟨?_, ?_, ?_, ?_, fun k hk => ?_⟩
    · exact o1
    · exact o2
    · exact o3
    · omega
    · exact (hsame k (by omega) (by omega)).trans (Below.heap_alloc _ _ _ (by omega)))
  have HI : Hid (Lib.IsBuilder 57 5 w1.heap.size w1.heap.size [] w2) := Go.Lib.hid (Or.inl ⟨Nat.le_refl _, .slice none 0 0, hbl, World.ownsRow_nil _ _ _ _, by simp [Value.ownBlock]⟩)
  have Hcell := Go.Lib.hid hcell
  have Hname : Hid (∀ k, k < 19 → w2.cell? ⟨0, k, none⟩ = some (.string ⟨(nms.getD k []).toArray⟩)) := Go.Lib.hid fun k hk => name_at (hgl.mono (fun m hm => Hb2.out.block m (hS m hm)) fun _ h => h) hk
  have hg0 : 0 < w.heap.size := hS _ (hgl 0 _ rfl).2.1
  have hB2 : w1.heap.size < w2.heap.size := by omega
  clear hsame hcell hbl o1 o2 o3 hsz Hn Hc Hr0 c6
  go_wp2_with fail
  go_loopw [17] (fun i wr => ∃ k : Nat, k ≤ 19 ∧ i = .int .i64 k ∧ Hid (Lib.IsBuilder 57 5 w1.heap.size w1.heap.size (Lib.byteCells (textTo k)) wr) ∧ Hid (Below w1.heap.size w2 wr)) (fun i _ => 19 - (intOf i).toNat)
  case atStart => exact ⟨0, Nat.zero_le _, rfl, HI, Go.Lib.hid (Below.refl _ _)⟩
  case round =>
    obtain ⟨k, hk, rfl, HK, HW⟩ := hrel
    have hBr : w1.heap.size ≤ wr.heap.size := Nat.le_trans (Nat.le_of_lt hB2) HW.out.size
    by_cases hk19 : k < 19
    · have hn : wr.cell? ⟨0, k, none⟩ = some (.string ⟨(nms.getD k []).toArray⟩) := (HW.out.cell (p := ⟨0, k, none⟩) (by show 0 < w1.heap.size; omega)).trans (Hname.out k hk19)
      have hc : ∀ x, tz[k]? = some x → wr.cell? ⟨w.heap.size, k, none⟩ = some (.int .i64 x) := fun x hx => (HW.out.cell (p := ⟨w.heap.size, k, none⟩) hB).trans (Hcell.out k x hx)
      have hlk := short k (by omega)
      have hls := shortN k hk19
      have hix := idx w.heap.size k hk19 wr
      obtain ⟨s, hs⟩ : ∃ s, nms.getD k [] = s := ⟨_, rfl⟩
      rw [hs] at hn hls
      have Hs := Go.Lib.hid hs
      have Hlk := Go.Lib.hid hlk
      have Hls := Go.Lib.hid hls
      have l0 : (Lib.byteCells (textTo k)).length + (⟨s.toArray⟩ : ByteArray).size ≤ 140737488355328 := by
        rw [Lib.byteCells_length]
        show _ + s.length ≤ _
        omega
      have l1 : (Lib.byteCells (textTo k) ++ Lib.strCells ⟨s.toArray⟩).length ≤ 200 := by
        rw [List.length_append, Lib.byteCells_length, Lib.strCells_length]
        show _ + s.length ≤ _
        omega
      have L1 := Go.Lib.hid l1
      clear hs hlk hls l1
      by_cases hp : k < 6 ∨ k = 7
      · rcases (by omega : k = 0 ∨ k = 1 ∨ k = 2 ∨ k = 3 ∨ k = 4 ∨ k = 5 ∨ k = 7) with rfl | rfl | rfl | rfl | rfl | rfl | rfl
        all_goals (
          have hc := hc _ rfl
          push_cast at hix
          go_wp2_with (go_at_call 15; refine (Bld.putText w1.heap.size w1.heap.size _ ⟨s.toArray⟩ wr HK.out l0 hBr).mono ?_)
          first | (rintro e w3 ⟨rfl, h3, b3⟩; have hsz3 := b3.size) | (rintro e w3 rfl h3 b3; have hsz3 := b3.size) | fail
          have hB3 : w1.heap.size ≤ w3.heap.size := Nat.le_trans hBr b3.size
          have hc3 := (b3.cell (p := ⟨w.heap.size, _, none⟩) hB).trans hc
          have H3 := Go.Lib.hid h3
          have B3 := Go.Lib.hid b3
          clear h3 b3 hc hn
          go_wp2_with (go_at_call 16; refine (Bld.putByte w1.heap.size w1.heap.size _ 32 w3 H3.out (by have := L1.out; omega) hB3).mono ?_)
          first | (rintro e w4 ⟨rfl, h4, b4⟩; have hsz4 := b4.size) | (rintro e w4 rfl h4 b4; have hsz4 := b4.size) | fail
          have hB4 : w1.heap.size ≤ w4.heap.size := Nat.le_trans hB3 b4.size
          have hc4 := (b4.cell (p := ⟨w.heap.size, _, none⟩) hB).trans hc3
          have H4 := Go.Lib.hid h4
          have B4 := Go.Lib.hid b4
          clear h4 b4 hc3
          go_wp2_with (go_at_call 17; first | refine (itoa0 w4).mono ?_ | refine (itoa1 w4).mono ?_)
          rintro e w5 ⟨rfl, rfl⟩
          go_wp2_with (go_at_call 15; refine (Bld.putText w1.heap.size w1.heap.size _ _ _ H4.out (by have := L1.out; rw [List.length_append]; show _ + 1 + 1 ≤ _; omega) hB4).mono ?_)
          first | (rintro e w6 ⟨rfl, h6, b6⟩; have hsz6 := b6.size) | (rintro e w6 rfl h6 b6; have hsz6 := b6.size) | fail
          have hB6 : w1.heap.size ≤ w6.heap.size := Nat.le_trans hB4 b6.size
          have H6 := Go.Lib.hid h6
          have B6 := Go.Lib.hid b6
          clear h6 b6 hc4
          go_wp2_with (go_at_call 16; refine (Bld.putByte w1.heap.size w1.heap.size _ 10 w6 H6.out (by have := L1.out; rw [List.length_append, List.length_append]; show _ + 1 + 1 + 1 ≤ _; omega) hB6).mono ?_)
          first | (rintro e w7 ⟨rfl, h7, b7⟩; have hsz7 := b7.size) | (rintro e w7 rfl h7 b7; have hsz7 := b7.size) | fail
          have H7 := Go.Lib.hid h7
          have B7 := Go.Lib.hid (((HW.out.trans B3.out).trans B4.out).trans (B6.out.trans b7))
          clear h7 b7
          go_wp2
          have h := H7.out
          have hs := Hs.out
          subst hs
          first | exact ⟨⟨1, by decide, rfl, Go.Lib.hid (line_end 0 [49] (by kernel_rfl) ▸ h), B7⟩, by simp [intOf]⟩ | exact ⟨⟨2, by decide, rfl, Go.Lib.hid (line_end 1 [48] (by kernel_rfl) ▸ h), B7⟩, by simp [intOf]⟩ | exact ⟨⟨3, by decide, rfl, Go.Lib.hid (line_end 2 [48] (by kernel_rfl) ▸ h), B7⟩, by simp [intOf]⟩ | exact ⟨⟨4, by decide, rfl, Go.Lib.hid (line_end 3 [49] (by kernel_rfl) ▸ h), B7⟩, by simp [intOf]⟩ | exact ⟨⟨5, by decide, rfl, Go.Lib.hid (line_end 4 [48] (by kernel_rfl) ▸ h), B7⟩, by simp [intOf]⟩ | exact ⟨⟨6, by decide, rfl, Go.Lib.hid (line_end 5 [48] (by kernel_rfl) ▸ h), B7⟩, by simp [intOf]⟩ | exact ⟨⟨8, by decide, rfl, Go.Lib.hid (line_end 7 [49] (by kernel_rfl) ▸ h), B7⟩, by simp [intOf]⟩)
      · rcases (by omega : k = 6 ∨ k = 8 ∨ k = 9 ∨ k = 10 ∨ k = 11 ∨ k = 12 ∨ k = 13 ∨ k = 14 ∨ k = 15 ∨ k = 16 ∨ k = 17 ∨ k = 18) with rfl | rfl | rfl | rfl | rfl | rfl | rfl | rfl | rfl | rfl | rfl | rfl
        all_goals (
          have hc := hc _ rfl
          push_cast at hix
          push_cast at hix
          go_wp2
          first | exact ⟨⟨7, by decide, rfl, Go.Lib.hid (line_none 6 (by kernel_rfl) ▸ HK.out), HW⟩, by simp [intOf]⟩ | exact ⟨⟨9, by decide, rfl, Go.Lib.hid (line_none 8 (by kernel_rfl) ▸ HK.out), HW⟩, by simp [intOf]⟩ | exact ⟨⟨10, by decide, rfl, Go.Lib.hid (line_none 9 (by kernel_rfl) ▸ HK.out), HW⟩, by simp [intOf]⟩ | exact ⟨⟨11, by decide, rfl, Go.Lib.hid (line_none 10 (by kernel_rfl) ▸ HK.out), HW⟩, by simp [intOf]⟩ | exact ⟨⟨12, by decide, rfl, Go.Lib.hid (line_none 11 (by kernel_rfl) ▸ HK.out), HW⟩, by simp [intOf]⟩ | exact ⟨⟨13, by decide, rfl, Go.Lib.hid (line_none 12 (by kernel_rfl) ▸ HK.out), HW⟩, by simp [intOf]⟩ | exact ⟨⟨14, by decide, rfl, Go.Lib.hid (line_none 13 (by kernel_rfl) ▸ HK.out), HW⟩, by simp [intOf]⟩ | exact ⟨⟨15, by decide, rfl, Go.Lib.hid (line_none 14 (by kernel_rfl) ▸ HK.out), HW⟩, by simp [intOf]⟩ | exact ⟨⟨16, by decide, rfl, Go.Lib.hid (line_none 15 (by kernel_rfl) ▸ HK.out), HW⟩, by simp [intOf]⟩ | exact ⟨⟨17, by decide, rfl, Go.Lib.hid (line_none 16 (by kernel_rfl) ▸ HK.out), HW⟩, by simp [intOf]⟩ | exact ⟨⟨18, by decide, rfl, Go.Lib.hid (line_none 17 (by kernel_rfl) ▸ HK.out), HW⟩, by simp [intOf]⟩ | exact ⟨⟨19, by decide, rfl, Go.Lib.hid (line_none 18 (by kernel_rfl) ▸ HK.out), HW⟩, by simp [intOf]⟩)
    · obtain rfl : k = 19 := by omega
      go_wp2_with (go_at_call 18; refine (Tryd.Builder_String_any w1.heap.size w1.heap.size _ wr HK.out hBr).mono ?_)
      rintro e w8 ⟨rfl, b8⟩
      have B8 := Go.Lib.hid (Hb2.out.trans ((HW.out.trans b8).mono (Nat.le_of_lt hB)))
      clear b8
      go_wp2
      go_ret2
      exact ⟨rfl, B8.out⟩
end Stat
end Go.Proofs.YtfelhbeiegppgaaDoor
