import Derived.Test.YtofboijlcjgnnaaRef05
set_option linter.unusedVariables false
namespace Go.Proofs.Ytofboijlcjgnnaa
open Go.RowKit

theorem eq4 (w : World) (a b c d a' b' c' d' : Int) :
    (Op.equalIn 10000 93 (.agg #[.int .i64 a, .int .i64 b, .int .i64 c, .int .i64 d]) (.agg #[.int .i64 a', .int .i64 b', .int .i64 c', .int .i64 d'])).run Try.prog w = .ok (a == a' && b == b' && c == c' && d == d') w := by
  obtain ⟨i, hi, hs⟩ : ∃ i, Try.prog.info? 3 = some i ∧ i.size = 1 := by
    have h : (Try.prog.info? 3).map (·.size) = some 1 := by kernel_rfl
    simpa using h
  have hag : ∀ u, (Go.isAgg 3).run Try.prog u = .ok false u := by intro u; kernel_rfl
  rw [show (10000 : Nat) = 9998 + 1 + 1 from rfl, Op.equalIn]
  simp only [Sem.run_bind, run_underlying Try.underlying93, Result.andThen_ok]
  simp [sizeOf, typeInfo, hi, hs, part, hag, List.range', run_equalIn_int w 9998 3 .i64 .i64 _ _ Try.underlying3]
  repeat' split
  all_goals simp_all

theorem greatest_any (w : World) : Calls Try.prog 82 #[] w fun en w' => en = .returned (.agg #[.int .i64 1073741824, .int .i64 99, .int .i64 281474976710656, .int .i64 281474976710656]) ∧ Below w.heap.size w w' := by
  go_enter Try.func82, Try.ntmps82
  go_wp2
  exact bodyPost_ret (v := .agg #[.int .i64 1073741824, .int .i64 99, .int .i64 281474976710656, .int .i64 281474976710656]) (by simp [results, Try.results82, go_sem]) rfl ⟨rfl, (Below.refl _ _).alloc (Nat.le_refl _) _⟩

theorem first_any (k e j n : Int) (u : Value) (w : World) : Calls Try.prog 83 #[.agg #[.int .i64 k, .int .i64 e, .int .i64 j, .int .i64 n, u]] w fun en w' => en = .returned (.agg #[.int .i64 k, .int .i64 e, .int .i64 j, .int .i64 n]) ∧ Below w.heap.size w w' := by
  go_enter Try.func83, Try.ntmps83
  go_wp2
  exact bodyPost_ret (v := .agg #[.int .i64 k, .int .i64 e, .int .i64 j, .int .i64 n]) (by simp [results, Try.results83, go_sem]) rfl ⟨rfl, ((Below.refl _ _).alloc (Nat.le_refl _) _).alloc (by simp) _⟩

def sameInts (a b : List Int) : Bool := decide (a = b)
theorem sameInts_iff {a b : List Int} : sameInts a b = true ↔ a = b := by simp [sameInts]

theorem eqInts_any (A C : Option Addr) (n c m d : Nat) (a b : List Int) (w : World) (B1 B2 : Nat → Prop) (hn : n = a.length) (hm : m = b.length) (ha : Sl w B1 A a) (hb : Sl w B2 C b) (hl : a.length ≤ 1073741824) (hl2 : b.length ≤ 1073741824) :
    Calls Try.prog 114 #[.slice A n c, .slice C m d] w fun e w' => e = .returned (.bool (sameInts a b)) ∧ ∃ q, w' = w.drewN q := by
  subst hn hm
  by_cases hlen : a.length = b.length
  · have e0 : ((a.length : Int) == (b.length : Int)) = true := by simp [hlen]
    have e1 : ((a.length : Int) != (b.length : Int)) = false := by simp [hlen]
    go_enter Try.func114, Try.ntmps114
    have HL := Lib.hid hlen; clear hlen
    go_wp2
    go_loopw [13] (fun i wr => ∃ k : Nat, k ≤ a.length ∧ i = .int .i64 k ∧ (∃ q, wr = w.drewN q) ∧ a.take k = b.take k) (fun i _ => a.length - (intOf i).toNat)
    case atStart => exact ⟨0, Nat.zero_le _, rfl, ⟨0, rfl⟩, rfl⟩
    case round =>
      obtain ⟨k, hk, rfl, ⟨q, rfl⟩, htk⟩ := hrel
      have HT := Lib.hid htk; clear htk
      by_cases hlt : k < a.length
      · obtain ⟨ad, x, rfl, hx, hcx, hx1, hx2⟩ := ha.int hlt
        obtain ⟨ad2, y, rfl, hy, hcy, hy1, hy2⟩ := hb.int (show k < b.length by rw [← HL.out]; exact hlt)
        have hlt2 : k < b.length := by have := HL.out; omega
        have HX := Lib.hid hx; have HY := Lib.hid hy; clear hx hy
        go_wp2
        go_quiet (fail)
        by_cases hxy : x = y
        · have e3 : (x != y) = false := by simp [hxy]
          have HXY := Lib.hid hxy; clear hxy
          go_wp2
          go_roundw
          case rel => exact ⟨k + 1, by omega, by go_num, ⟨_, rfl⟩, by rw [List.take_add_one, List.take_add_one, HX.out, HY.out, HT.out, HXY.out]⟩
          case measure => simp [intOf]; omega
        · have e3 : (x != y) = true := by rw [bne_iff_ne]; exact hxy
          have HXY := Lib.hid hxy; clear hxy
          go_wp2
          go_ret
          exact ⟨ret_bool (by unfold sameInts; rw [eq_comm, decide_eq_false_iff_not]; intro h; subst h; exact HXY.out (Option.some.inj (HX.out.symm.trans HY.out))), _, World.drewN_drewN _ _ _⟩
      · go_wp2
        go_ret
        refine ⟨ret_bool ?_, _, rfl⟩
        unfold sameInts
        have := HT.out
        rw [List.take_of_length_le (by omega), List.take_of_length_le (by have := HL.out; omega)] at this
        simp [this]
  · have e0 : ((a.length : Int) == (b.length : Int)) = false := by simp; omega
    have e1 : ((a.length : Int) != (b.length : Int)) = true := by simp; omega
    go_enter Try.func114, Try.ntmps114
    have HL := Lib.hid hlen; clear hlen
    go_wp2
    go_ret
    exact ⟨ret_bool (by unfold sameInts; rw [eq_comm, decide_eq_false_iff_not]; intro h; exact HL.out (by rw [h])), 0, rfl⟩

theorem refInts_any (A C : Option Addr) (n c m d : Nat) (a b : List Int) (w : World) (B1 B2 : Nat → Prop) (hn : n = a.length) (hm : m = b.length) (ha : Sl w B1 A a) (hb : Sl w B2 C b) (hl : a.length ≤ 1073741824) (hl2 : b.length ≤ 1073741824) :
    Calls Try.prog 81 #[.slice A n c, .slice C m d] w fun e w' => e = .returned (.bool (sameInts a b)) ∧ ∃ q, w' = w.drewN q := by
  subst hn hm
  by_cases hlen : a.length = b.length
  · have e0 : ((a.length : Int) == (b.length : Int)) = true := by simp [hlen]
    have e1 : ((a.length : Int) != (b.length : Int)) = false := by simp [hlen]
    go_enter Try.func81, Try.ntmps81
    have HL := Lib.hid hlen; clear hlen
    go_wp2
    go_loopw [5] (fun i wr => ∃ k : Nat, k ≤ a.length ∧ i = .int .i64 k ∧ (∃ q, wr = w.drewN q) ∧ a.take k = b.take k) (fun i _ => a.length - (intOf i).toNat)
    case atStart => exact ⟨0, Nat.zero_le _, rfl, ⟨0, rfl⟩, rfl⟩
    case round =>
      obtain ⟨k, hk, rfl, ⟨q, rfl⟩, htk⟩ := hrel
      have HT := Lib.hid htk; clear htk
      by_cases hlt : k < a.length
      · obtain ⟨ad, x, rfl, hx, hcx, hx1, hx2⟩ := ha.int hlt
        obtain ⟨ad2, y, rfl, hy, hcy, hy1, hy2⟩ := hb.int (show k < b.length by rw [← HL.out]; exact hlt)
        have hlt2 : k < b.length := by have := HL.out; omega
        have HX := Lib.hid hx; have HY := Lib.hid hy; clear hx hy
        go_wp2
        go_quiet (fail)
        by_cases hxy : x = y
        · have e3 : (x != y) = false := by simp [hxy]
          have HXY := Lib.hid hxy; clear hxy
          go_wp2
          go_roundw
          case rel => exact ⟨k + 1, by omega, by go_num, ⟨_, rfl⟩, by rw [List.take_add_one, List.take_add_one, HX.out, HY.out, HT.out, HXY.out]⟩
          case measure => simp [intOf]; omega
        · have e3 : (x != y) = true := by rw [bne_iff_ne]; exact hxy
          have HXY := Lib.hid hxy; clear hxy
          go_wp2
          go_ret
          exact ⟨ret_bool (by unfold sameInts; rw [eq_comm, decide_eq_false_iff_not]; intro h; subst h; exact HXY.out (Option.some.inj (HX.out.symm.trans HY.out))), _, World.drewN_drewN _ _ _⟩
      · go_wp2
        go_ret
        refine ⟨ret_bool ?_, _, rfl⟩
        unfold sameInts
        have := HT.out
        rw [List.take_of_length_le (by omega), List.take_of_length_le (by have := HL.out; omega)] at this
        simp [this]
  · have e0 : ((a.length : Int) == (b.length : Int)) = false := by simp; omega
    have e1 : ((a.length : Int) != (b.length : Int)) = true := by simp; omega
    go_enter Try.func81, Try.ntmps81
    have HL := Lib.hid hlen; clear hlen
    go_wp2
    go_ret
    exact ⟨ret_bool (by unfold sameInts; rw [eq_comm, decide_eq_false_iff_not]; intro h; exact HL.out (by rw [h])), 0, rfl⟩


def sameReply (a b : Reply) : Bool := decide (a.key = b.key ∧ a.err = b.err ∧ a.job = b.job ∧ a.version = b.version ∧ a.nums = b.nums)

set_option maxHeartbeats 1000000 in
theorem replySame_any (a b : Reply) (va vb : Value) (w : World) (ha : V w (Lt w.heap.size) a va) (hb : V w (Lt w.heap.size) b vb) (hla : a.nums.length ≤ 1000) (hlb : b.nums.length ≤ 1000) :
    Calls Try.prog 76 #[va, vb] w fun en w' => en = .returned (.bool (sameReply a b)) ∧ Below w.heap.size w w' := by
  obtain ⟨A4, C4, rfl, a0, a1, a2, a3, al, am, an, asl⟩ := Reply.val ha
  obtain ⟨B4, D4, rfl, b0, b1, b2, b3, bl, bm, bn, bsl⟩ := Reply.val hb
  clear ha hb
  have he4 := fun (u : World) => eq4 u a.key a.err a.job a.version b.key b.err b.job b.version
  generalize hq : (a.key == b.key && a.err == b.err && a.job == b.job && a.version == b.version) = q at he4
  have HQ := Lib.hid hq; clear hq
  cases q
  · go_enter Try.func76, Try.ntmps76
    go_wp2
    refine wp_region_late (by kernel_rfl) (by kernel_rfl) ?_
    repeat (first | go_big_quiet_step ((go_at_call 83; exact late_of (first_any _ _ _ _ _ _))) | quiet_step ((go_at_call 83; exact late_of (first_any _ _ _ _ _ _))))
    refine wpQuiet_nil ?_
    intro w1 hb1
    go_wp2
    go_ret
    refine ⟨ret_bool ?_, (((Below.refl w.heap.size w).alloc (Nat.le_refl _) _).alloc (by simp) _).trans (hb1.mono (by simp; omega))⟩
    have := HQ.out
    simp [sameReply] at this ⊢
    intro h1 h2 h3 h4
    exact absurd h4 (this h1 h2 h3)
  · have asl' : ∀ x : Late ((w.alloc (.cells #[.int .i64 a.key, .int .i64 a.err, .int .i64 a.job, .int .i64 a.version, .slice A4 a.nums.length C4] 38)).alloc (.cells #[.int .i64 b.key, .int .i64 b.err, .int .i64 b.job, .int .i64 b.version, .slice B4 b.nums.length D4] 38)), Below w.heap.size w x.val := fun x => (((Below.refl w.heap.size w).alloc (Nat.le_refl _) _).alloc (by simp) _).trans (x.below.mono (by simp; omega))
    go_enter Try.func76, Try.ntmps76
    go_wp2
    refine wp_region_late (by kernel_rfl) (by kernel_rfl) ?_
    repeat (first | go_big_quiet_step ((first | (go_at_call 83; exact late_of (first_any _ _ _ _ _ _)) | (go_at_call 114; exact late_drew (eqInts_any _ _ _ _ _ _ a.nums b.nums _ _ _ rfl rfl (asl.below (asl' _)) (bsl.below (asl' _)) (by omega) (by omega))))) | quiet_step ((first | (go_at_call 83; exact late_of (first_any _ _ _ _ _ _)) | (go_at_call 114; exact late_drew (eqInts_any _ _ _ _ _ _ a.nums b.nums _ _ _ rfl rfl (asl.below (asl' _)) (bsl.below (asl' _)) (by omega) (by omega))))))
    refine wpQuiet_nil ?_
    intro w1 hb1
    go_wp2
    go_ret
    refine ⟨ret_bool ?_, (((Below.refl w.heap.size w).alloc (Nat.le_refl _) _).alloc (by simp) _).trans (hb1.mono (by simp; omega))⟩
    have := HQ.out
    simp at this
    simp [sameReply, sameInts, this]
end Go.Proofs.Ytofboijlcjgnnaa
