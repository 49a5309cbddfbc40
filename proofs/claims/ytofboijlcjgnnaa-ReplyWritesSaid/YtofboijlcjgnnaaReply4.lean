import Derived.Test.YtofboijlcjgnnaaReply3
set_option linter.unusedVariables false
namespace Go.Proofs.Ytofboijlcjgnnaa
open Go.RowKit

set_option maxHeartbeats 1000000 in
set_option maxRecDepth 100000 in
theorem refRight9_any (r : Reply) (v : Value) (w : World) (hv : V w (Lt w.heap.size) r v) (hl : r.nums.length ≤ 1000) :
    Calls Try.prog 75 #[v] w (RightPost r w) := by
  obtain ⟨A4, C4, rfl, a0, a1, a2, a3, al, am, an, asl⟩ := Reply.val hv
  clear hv
  have hb0 : Below w.heap.size w (w.alloc (.cells #[.int .i64 r.key, .int .i64 r.err, .int .i64 r.job, .int .i64 r.version, .slice A4 r.nums.length C4] 38)) := (Below.refl w.heap.size w).alloc (Nat.le_refl _) _
  have asl2 := asl.below hb0
  have HB := Lib.hid hb0; clear hb0
  go_enter Try.func75, Try.ntmps75
  go_wp2
  go_loop [3] (fun i => ∃ k : Nat, k ≤ r.nums.length ∧ i = .int .i64 k ∧ PutOk (r.nums.take k)) (fun i => r.nums.length - (intOf i).toNat)
  case atStart => exact ⟨0, Nat.zero_le _, rfl, by simp [PutOk]⟩
  case round =>
    obtain ⟨k, hk, rfl, hok⟩ := hrel
    by_cases hlt : k < r.nums.length
    · obtain ⟨ad, x, rfl, hx, hcx, hx1, hx2⟩ := asl2.int hlt
      have HX := Lib.hid hx; have HOK := Lib.hid hok; clear hx hok
      by_cases hv : 0 ≤ x ∧ x ≤ 281474976710656
      · have hxa : (decide (0 ≤ x) && decide (x ≤ 281474976710656)) = true := by simpa using hv
        have HV := Lib.hid hv; clear hv
        go_wp2_with (go_at_call 46; refine (refRight_any _ _).mono ?_; rw [hxa]; rintro e w' ⟨rfl, rfl⟩)
        go_round
        case rel => exact ⟨k + 1, by omega, by go_num, putOk_step HOK.out HX.out HV.out⟩
        case measure => simp [intOf]; omega
      · have hxa : (decide (0 ≤ x) && decide (x ≤ 281474976710656)) = false := by
          rw [Bool.and_eq_false_iff]; simp; omega
        have hn : ¬ rightReply r := fun h => hv (h.2.2.2.2.2 x (List.mem_of_getElem? HX.out))
        have HN := Lib.hid hn; clear hn hv
        go_wp2_with (go_at_call 46; refine (refRight_any _ _).mono ?_; rw [hxa]; rintro e w' ⟨rfl, rfl⟩)
        go_ret
        exact rightPost_no HN.out HB.out
    · have hall : PutOk r.nums := by rwa [List.take_of_length_le (by omega)] at hok
      have HALL := Lib.hid hall; clear hok hall
      have fin : ∀ b : Bool, (b = true ↔ ((0 ≤ r.key ∧ r.key ≤ 1073741824) ∧ (0 ≤ r.err ∧ r.err ≤ 99) ∧ (0 ≤ r.job ∧ r.job ≤ 281474976710656) ∧ (0 ≤ r.version ∧ r.version ≤ 281474976710656) ∧ r.nums.length ≤ 64)) → RightPost r w (.returned (.bool b)) (w.alloc (.cells #[.int .i64 r.key, .int .i64 r.err, .int .i64 r.job, .int .i64 r.version, .slice A4 r.nums.length C4] 38)) := fun b h => by
        cases b
        · exact rightPost_no (fun hr => by simp at h; exact absurd hr.2.2.2.2.1 (by have := hr; unfold rightReply at this; omega)) HB.out
        · have := h.1 rfl
          exact rightPost_yes ⟨this.1, this.2.1, this.2.2.1, this.2.2.2.1, this.2.2.2.2, HALL.out⟩ HB.out
      have FIN := Lib.hid fin; clear fin
      go_wp2_with (go_at_call 46; refine (refRight_any _ _).mono ?_; rintro e w' ⟨rfl, rfl⟩)
      all_goals go_ret
      all_goals refine FIN.out _ ?_
      all_goals simp
      all_goals omega

theorem refWrite9_any (r : Reply) (v : Value) (w : World) (hv : V w (Lt w.heap.size) r v) (hr : rightReply r) :
    Calls Try.prog 77 #[v] w (Fresh 5 w No (replyBytes r)) := by
  obtain ⟨A4, C4, rfl, a0, a1, a2, a3, al, am, an, asl⟩ := Reply.val hv
  clear hv
  have hl : r.nums.length ≤ 64 := hr.2.2.2.2.1
  have hok : PutOk ([r.key, r.err, r.job, r.version, (r.nums.length : Int)] ++ r.nums) := by
    intro z hz
    rcases List.mem_append.1 hz with hz | hz
    · unfold rightReply at hr
      simp at hz
      rcases hz with rfl | rfl | rfl | rfl | rfl <;> omega
    · exact hr.2.2.2.2.2 z hz
  have e : replyBytes r = puts ([r.key, r.err, r.job, r.version, (r.nums.length : Int)] ++ r.nums) := by simp [replyBytes]
  rw [e]
  have HOK := Lib.hid hok
  clear hok e hr
  have hb1 : Below w.heap.size w ((w.alloc (.cells #[.int .i64 r.key, .int .i64 r.err, .int .i64 r.job, .int .i64 r.version, .slice A4 r.nums.length C4] 38)).alloc (.cells #[.int .i64 r.key, .int .i64 r.err, .int .i64 r.job, .int .i64 r.version, .int .i64 (r.nums.length : Int)] 3)) := ((Below.refl w.heap.size w).alloc (Nat.le_refl _) _).alloc (by simp) _
  have hown : Own (w.heap.size + 1) 3 ((w.alloc (.cells #[.int .i64 r.key, .int .i64 r.err, .int .i64 r.job, .int .i64 r.version, .slice A4 r.nums.length C4] 38)).alloc (.cells #[.int .i64 r.key, .int .i64 r.err, .int .i64 r.job, .int .i64 r.version, .int .i64 (r.nums.length : Int)] 3)) No (.slice (some ⟨w.heap.size + 1, 0, none⟩) 5 5) [r.key, r.err, r.job, r.version, (r.nums.length : Int)] :=
    Own.blk (cells := [.int .i64 r.key, .int .i64 r.err, .int .i64 r.job, .int .i64 r.version, .int .i64 (r.nums.length : Int)]) (Blk.new' (by simp)) (rs_ints _ (by simp; exact ⟨a0, a1, a2, a3, by unfold I64; omega⟩)) (Nat.le_refl _) (by simp [maxLen]) rfl
  have H1 := Lib.hid hb1; have H2 := Lib.hid hown; clear hb1 hown
  go_enter Try.func77, Try.ntmps77
  go_wp2_with (first | (at_builtin; refine wpList_app _ rfl (.tmp 16) (.tmp 18) _ rfl el_ints (v := .slice (some ⟨w.heap.size + 1, 0, none⟩) 5 5) rfl H2.out rfl rfl ((asl.below H1.out).srcF) (fun _ h => h.elim) (by simp; omega) (by simp) ?_; intro v2 w2 hown2 hg2 _; have hb2 : Below w.heap.size w w2 := H1.out.grown hg2 (by simp; omega) (fun k hk => by simp [Value.ownBlock] at hk; omega); obtain ⟨A5, C5, rfl, hl5, hm5, _, hs5⟩ := (hown2.val' no_lt).slice) | (go_at_call 47; refine (refPut_any _ _ _ _ _ (by simp) hs5 HOK.out (by simp; omega)).mono ?_; rintro e w3 ⟨v3, rfl, hown3, hb3⟩))
  go_ret
  exact ⟨v3, rfl, hown3.base_le hb2.size, hb2.trans (hb3.mono hb2.size)⟩

/-- the next number of a reader; and within two -/
def numS (bs : List UInt8) (err : Int) : Int × List UInt8 × Int := if err = 0 then num bs else (0, bs, err)
def withinS (bs : List UInt8) (err lo hi : Int) : Int × List UInt8 × Int :=
  if (numS bs err).2.2 = 0 then (if (numS bs err).1 < lo ∨ hi < (numS bs err).1 then (0, [], 11) else numS bs err) else (0, (numS bs err).2.1, (numS bs err).2.2)

theorem NumberS_any (r : Nat) (S : Nat → Prop) (bs : List UInt8) (err : Int) (w : World) (h : Rdr w r S bs err) :
    Calls Try.prog 33 #[.pointer (some ⟨r, 0, none⟩)] w (NumPost w r S (numS bs err)) := by
  by_cases h0 : err = 0
  · subst h0
    have e : numS bs 0 = num bs := by simp [numS]
    rw [e]
    exact Number_any r S bs w h
  · have e : numS bs err = (0, bs, err) := by simp [numS, h0]
    rw [e]
    have hh := h
    obtain ⟨A, c, hb, hlc, hcm, hs, hS⟩ := h
    have c1 := hb.cell 1
    simp only [List.getElem?_cons_zero, List.getElem?_cons_succ] at c1
    have e0 : (err == 0) = false := beq_eq_false_iff_ne.2 h0
    have e1 : (err != 0) = true := bne_iff_ne.2 h0
    have HH := Lib.hid hh
    clear hb hs hS hh e h0
    go_enter Try.func33, Try.ntmps33
    go_wp2
    refine wp_scope_jumps 0 (fun _ _ => False) (fun _ _ => 0) rfl ?_ (fun _ _ h => h.elim)
    go_wp2
    simp only [Exit.jump]
    go_ret
    exact ⟨rfl, HH.out, World.grownBy.refl _ _⟩

theorem withinPost {w w1 : World} {r : Nat} {S : Nat → Prop} {x : Int × List UInt8 × Int} (h : Rdr w1 r S x.2.1 x.2.2) (hg : w.grownBy w1 (some r)) : NumPost w r S x (.returned (.int .i64 x.1)) w1 := ⟨rfl, h, hg⟩

set_option maxRecDepth 100000 in
theorem Within_any (r : Nat) (S : Nat → Prop) (bs : List UInt8) (err lo hi : Int) (w : World) (h : Rdr w r S bs err) :
    Calls Try.prog 110 #[.pointer (some ⟨r, 0, none⟩), .int .i64 lo, .int .i64 hi] w (NumPost w r S (withinS bs err lo hi)) := by
  generalize hx : numS bs err = x
  have hw : withinS bs err lo hi = if x.2.2 = 0 then (if x.1 < lo ∨ hi < x.1 then (0, [], 11) else x) else (0, x.2.1, x.2.2) := by unfold withinS; rw [hx]
  rw [hw]
  have HX := Lib.hid hx
  clear hw hx
  by_cases h0 : x.2.2 = 0
  · by_cases h1 : x.1 < lo ∨ hi < x.1
    · rw [if_pos h0, if_pos h1]
      rcases (by omega : x.1 < lo ∨ (lo ≤ x.1 ∧ hi < x.1)) with h2 | ⟨h2, h3⟩
      all_goals
        clear h1
        go_enter Try.func110, Try.ntmps110
        go_wp2_with (first | (go_at_call 33; refine (NumberS_any _ _ _ _ _ h).mono ?_; rw [HX.out]; rintro e w1 ⟨rfl, hr1, hg1⟩; rw [h0] at hr1; obtain ⟨A, c, hb, hlc, hcm, hs, hS⟩ := hr1; have c1 := hb.cell 1; simp only [List.getElem?_cons_zero, List.getElem?_cons_succ] at c1; have HB := Lib.hid hb; clear hb) | (go_at_call 85; refine (fail_any _ 11 0 _ _ HB.out).mono ?_; rintro e w2 hf; obtain rfl := hf.1; have HF := Lib.hid hf; clear hf))
        go_ret
        obtain ⟨f1, f2, f3⟩ := HF.out
        exact ⟨rfl, ⟨none, 0, f2, Nat.le_refl _, Nat.zero_le _, Sl.nil, hS⟩, hg1.trans f3⟩
    · rw [if_pos h0, if_neg h1]
      have h2 : lo ≤ x.1 := by omega
      have h3 : x.1 ≤ hi := by omega
      clear h1
      go_enter Try.func110, Try.ntmps110
      go_wp2_with (go_at_call 33; refine (NumberS_any _ _ _ _ _ h).mono ?_; rw [HX.out]; rintro e w1 ⟨rfl, hr1, hg1⟩; have HR := Lib.hid hr1; rw [h0] at hr1; obtain ⟨A, c, hb, hlc, hcm, hs, hS⟩ := hr1; have c1 := hb.cell 1; simp only [List.getElem?_cons_zero, List.getElem?_cons_succ] at c1; clear hb)
      go_ret
      exact ⟨rfl, HR.out, hg1⟩
  · rw [if_neg h0]
    have e0 : (x.2.2 == 0) = false := beq_eq_false_iff_ne.2 h0
    have e1 : (x.2.2 != 0) = true := bne_iff_ne.2 h0
    clear h0
    go_enter Try.func110, Try.ntmps110
    go_wp2_with (go_at_call 33; refine (NumberS_any _ _ _ _ _ h).mono ?_; rw [HX.out]; rintro e w1 ⟨rfl, hr1, hg1⟩; have HR := Lib.hid hr1; obtain ⟨A, c, hb, hlc, hcm, hs, hS⟩ := hr1; have c1 := hb.cell 1; simp only [List.getElem?_cons_zero, List.getElem?_cons_succ] at c1; clear hb)
    go_ret
    exact ⟨rfl, HR.out, hg1⟩

end Go.Proofs.Ytofboijlcjgnnaa
