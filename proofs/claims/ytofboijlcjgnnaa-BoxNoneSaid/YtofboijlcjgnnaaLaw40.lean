import Derived.Test.YtofboijlcjgnnaaTypes
set_option linter.unusedVariables false
namespace Go.Proofs.Ytofboijlcjgnnaa
open Go.RowKit

theorem grow_set' {w : World} {r i : Nat} {u : Value} : w.grownBy (w.setCell ⟨r, i, none⟩ u) (some r) :=
  ⟨rfl, rfl, rfl, by simp [World.setCell], fun k _ hk => Below.heap_setCell _ _ _ _ (fun h => hk (by rw [h]))⟩

theorem boxNew (w : World) : Calls Try.prog 87 #[.int .i64 2] w fun e w' => e = .returned (.tuple #[.pointer (some ⟨w.heap.size, 0, none⟩), .int .i64 0]) ∧ w' = w.alloc (.cells #[.int .i64 2, .slice none 0 0] 148) := by
  go_enter Try.func87, Try.ntmps87
  go_wp2
  go_ret2
  exact ⟨rfl, rfl⟩

theorem el_strings : Elem Try.prog 33 9 16 ByteArray := Elem.of (.string .empty) Try.underlying33 (by kernel_rfl) rfl

/-- a box of texts -/
def BoxS (w : World) (r : Nat) (most : Int) (xs : List ByteArray) : Prop :=
  ∃ A c, Blk w r 148 [.int .i64 most, .slice A xs.length c] ∧ Own (r + 1) 9 w No (.slice A xs.length c) xs

theorem BoxS.drewN {w : World} {r : Nat} {most : Int} {xs : List ByteArray} (h : BoxS w r most xs) (n : Nat) : BoxS (w.drewN n) r most xs := by
  obtain ⟨A, c, hb, hown⟩ := h
  exact ⟨A, c, hb, hown.drewN n⟩

theorem boxPut_room (r : Nat) (most : Int) (xs : List ByteArray) (s : ByteArray) (w : World) (h : BoxS w r most xs) (hl : (xs.length : Int) < most) (hm : most ≤ 64) (hs : s.size ≤ maxLen) :
    Calls Try.prog 88 #[.pointer (some ⟨r, 0, none⟩), .string s] w fun e w' => e = .returned (.bool true) ∧ BoxS w' r most (xs ++ [s]) ∧ Below r w w' := by
  obtain ⟨A, c, hb, hown⟩ := h
  have c0 := hb.cell 0; have c1 := hb.cell 1; have f1 := hb.frozen 1
  simp only [List.getElem?_cons_zero, List.getElem?_cons_succ] at c0 c1
  have hlt := hb.lt
  have hat := hown.at_
  have HB := Lib.hid hb; have HAT := Lib.hid hat; clear hb hat
  go_enter Try.func88, Try.ntmps88
  go_wp2
  go_quiet (fail)
  go_wp2_with (at_builtin; refine wpList_app _ rfl (.tmp 23) (.tmp 25) _ rfl el_strings (v := .slice A xs.length c) rfl ((hown.drewN _).alloc _ no_lt) rfl rfl (Src.blk (Blk.new' rfl) (Rs.single (show Lay.R _ _ s [.string s] from ⟨rfl, hs⟩))) (fun _ h => h.elim) (by simp; omega) (by simp; omega) ?_; intro v2 w2 hown2 hg2 _; obtain ⟨A2, c2, rfl, hc2, hm2, _, _⟩ := hown2.form; have hb2 : Blk w2 r 148 [.int .i64 most, .slice A xs.length c] := ((HB.out.drewN _).alloc _).grown hg2 (fun h => by have := HAT.out r h.symm; omega); have d1 := hb2.cell 1; have g1 := hb2.frozen 1; simp only [List.getElem?_cons_zero, List.getElem?_cons_succ] at d1; have HB2 := Lib.hid hb2; clear hb2)
  go_ret
  refine ⟨rfl, ⟨A2, c2, by simpa using HB2.out.set_ 1 (.slice A2 (xs ++ [s]).length c2), ?_⟩, ?_⟩
  · exact hown2.kept grow_set' (.inr (fun h => by have := hown2.at_ _ h; omega)) (fun _ h => h.elim)
  · exact (((below_drewN (Below.refl r w) _).alloc (by simp; omega) _).grown hg2 (by simp; omega) (fun k hk => by have := HAT.out k hk; omega)).setCell (Nat.le_refl _) _

theorem boxPut_full (r : Nat) (most : Int) (xs : List ByteArray) (s : ByteArray) (w : World) (h : BoxS w r most xs) (hl : most ≤ (xs.length : Int)) :
    Calls Try.prog 88 #[.pointer (some ⟨r, 0, none⟩), .string s] w fun e w' => e = .returned (.bool false) ∧ ∃ q, w' = w.drewN q := by
  obtain ⟨A, c, hb, hown⟩ := h
  have c0 := hb.cell 0; have c1 := hb.cell 1
  simp only [List.getElem?_cons_zero, List.getElem?_cons_succ] at c0 c1
  clear hb hown
  go_enter Try.func88, Try.ntmps88
  go_wp2
  go_quiet (fail)
  go_wp2
  go_ret
  exact ⟨rfl, _, rfl⟩

theorem boxLen (r : Nat) (most : Int) (xs : List ByteArray) (w : World) (h : BoxS w r most xs) :
    Calls Try.prog 89 #[.pointer (some ⟨r, 0, none⟩)] w fun e w' => e = .returned (.int .i64 xs.length) ∧ w = w' := by
  obtain ⟨A, c, hb, hown⟩ := h
  have c1 := hb.cell 1
  simp only [List.getElem?_cons_zero, List.getElem?_cons_succ] at c1
  clear hb hown
  go_enter Try.func89, Try.ntmps89
  go_wp2
  go_ret
  exact ⟨rfl, rfl⟩

theorem awake40 (w : World) : Calls Try.prog 37 #[] w fun e w' => e = .returned (.bool true) ∧ Below w.heap.size w w' := by
  go_enter Try.func37, Try.ntmps37
  go_wp2_with (go_at_call 87; refine (boxNew _).mono ?_; rintro e w1 ⟨rfl, rfl⟩)
  have b0 : BoxS (w.alloc (.cells #[.int .i64 2, .slice none 0 0] 148)) w.heap.size 2 [] := ⟨none, 0, Blk.new w _ [_, _], Own.nil⟩
  refine (boxPut_room _ 2 [] _ _ b0 (by simp) (by omega) (by decide)).mono ?_
  rintro e w2 ⟨rfl, b2, hb2⟩
  go_wp2_with fail
  refine (boxPut_room _ 2 _ _ _ b2 (by simp) (by omega) (by decide)).mono ?_
  rintro e w3 ⟨rfl, b3, hb3⟩
  go_wp2_with fail
  refine (boxPut_full _ 2 _ _ _ b3 (by simp)).mono ?_
  rintro e w4 ⟨rfl, q, rfl⟩
  go_wp2_with (go_at_call 89; refine (boxLen _ 2 _ _ (b3.drewN q)).mono ?_; rintro e w5 ⟨rfl, rfl⟩)
  go_ret
  exact ⟨rfl, below_drewN ((((Below.refl w.heap.size w).alloc (Nat.le_refl _) _).trans hb2).trans hb3) q⟩

theorem putNil (i : Int) (w : World) : Calls Try.prog 40 #[.pointer none, .int .i64 i] w fun e w' => e = .returned (.bool false) ∧ ∃ q, w' = w.drewN q := by
  go_enter Try.func40, Try.ntmps40
  go_wp2
  go_quiet (fail)
  go_wp2
  go_ret
  exact ⟨rfl, _, rfl⟩

set_option maxRecDepth 100000 in
theorem boxNone.walk (i : Int) (v0 : Value) (w : World) (h0 : V w (Lt w.heap.size) i v0) :
    Calls Try.prog 7 #[v0] w fun e w' => e = .returned (.bool true) ∧ Below w.heap.size w w' := by
  obtain ⟨rfl, hi⟩ := h0.int
  clear h0
  go_enter Try.func7, Try.ntmps7
  go_wp2_with (first | (go_at_call 37; refine (awake40 _).mono ?_; rintro e w1 ⟨rfl, hb1⟩) | (go_at_call 40; refine (putNil _ _).mono ?_; rintro e w2 ⟨rfl, q, rfl⟩) | go_in)
  go_ret
  exact ⟨rfl, below_drewN hb1 q⟩

end Go.Proofs.Ytofboijlcjgnnaa
