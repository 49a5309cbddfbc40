import Derived.Test.YtofboijlcjgnnaaReplyRight
set_option linter.unusedVariables false
namespace Go.Proofs.Ytofboijlcjgnnaa
open Go.RowKit

set_option maxHeartbeats 1000000 in
set_option maxRecDepth 100000 in
theorem refSame_any (a b : Reply) (va vb : Value) (w : World) (ha : V w (Lt w.heap.size) a va) (hb : V w (Lt w.heap.size) b vb) (hla : a.nums.length ≤ 1000) (hlb : b.nums.length ≤ 1000) :
    Calls Try.prog 28 #[va, vb] w fun en w' => en = .returned (.bool (sameReply a b)) ∧ Below w.heap.size w w' := by
  obtain ⟨A4, C4, rfl, a0, a1, a2, a3, al, am, an, asl⟩ := Reply.val ha
  obtain ⟨B4, D4, rfl, b0, b1, b2, b3, bl, bm, bn, bsl⟩ := Reply.val hb
  clear ha hb
  have hbel : Below w.heap.size w ((w.alloc (.cells #[.int .i64 a.key, .int .i64 a.err, .int .i64 a.job, .int .i64 a.version, .slice A4 a.nums.length C4] 38)).alloc (.cells #[.int .i64 b.key, .int .i64 b.err, .int .i64 b.job, .int .i64 b.version, .slice B4 b.nums.length D4] 38)) := ((Below.refl w.heap.size w).alloc (Nat.le_refl _) _).alloc (by simp) _
  have HB := Lib.hid hbel; clear hbel
  by_cases h0 : a.key = b.key
  case neg =>
    have e0 : (a.key == b.key) = false := beq_eq_false_iff_ne.2 h0
    have H0 := Lib.hid h0; clear h0
    go_enter Try.func28, Try.ntmps28
    go_wp2_with (go_at_call 81; refine (refInts_any _ _ _ _ _ _ a.nums b.nums _ _ _ rfl rfl (asl.below HB.out) (bsl.below HB.out) (by omega) (by omega)).mono ?_; rintro e w' ⟨rfl, q, rfl⟩)
    go_ret
    exact ⟨ret_bool (by have := H0.out; simp [sameReply, this]), HB.out⟩
  have e0 : (a.key == b.key) = true := beq_iff_eq.2 h0
  have H0 := Lib.hid h0; clear h0
  by_cases h1 : a.err = b.err
  case neg =>
    have e1 : (a.err == b.err) = false := beq_eq_false_iff_ne.2 h1
    have H1 := Lib.hid h1; clear h1
    go_enter Try.func28, Try.ntmps28
    go_wp2_with (go_at_call 81; refine (refInts_any _ _ _ _ _ _ a.nums b.nums _ _ _ rfl rfl (asl.below HB.out) (bsl.below HB.out) (by omega) (by omega)).mono ?_; rintro e w' ⟨rfl, q, rfl⟩)
    go_ret
    exact ⟨ret_bool (by have := H1.out; simp [sameReply, this]), HB.out⟩
  have e1 : (a.err == b.err) = true := beq_iff_eq.2 h1
  have H1 := Lib.hid h1; clear h1
  by_cases h2 : a.job = b.job
  case neg =>
    have e2 : (a.job == b.job) = false := beq_eq_false_iff_ne.2 h2
    have H2 := Lib.hid h2; clear h2
    go_enter Try.func28, Try.ntmps28
    go_wp2_with (go_at_call 81; refine (refInts_any _ _ _ _ _ _ a.nums b.nums _ _ _ rfl rfl (asl.below HB.out) (bsl.below HB.out) (by omega) (by omega)).mono ?_; rintro e w' ⟨rfl, q, rfl⟩)
    go_ret
    exact ⟨ret_bool (by have := H2.out; simp [sameReply, this]), HB.out⟩
  have e2 : (a.job == b.job) = true := beq_iff_eq.2 h2
  have H2 := Lib.hid h2; clear h2
  by_cases h3 : a.version = b.version
  case neg =>
    have e3 : (a.version == b.version) = false := beq_eq_false_iff_ne.2 h3
    have H3 := Lib.hid h3; clear h3
    go_enter Try.func28, Try.ntmps28
    go_wp2_with (go_at_call 81; refine (refInts_any _ _ _ _ _ _ a.nums b.nums _ _ _ rfl rfl (asl.below HB.out) (bsl.below HB.out) (by omega) (by omega)).mono ?_; rintro e w' ⟨rfl, q, rfl⟩)
    go_ret
    exact ⟨ret_bool (by have := H3.out; simp [sameReply, this]), HB.out⟩
  have e3 : (a.version == b.version) = true := beq_iff_eq.2 h3
  have H3 := Lib.hid h3; clear h3
  go_enter Try.func28, Try.ntmps28
  go_wp2_with (go_at_call 81; refine (refInts_any _ _ _ _ _ _ a.nums b.nums _ _ _ rfl rfl (asl.below HB.out) (bsl.below HB.out) (by omega) (by omega)).mono ?_; rintro e w' ⟨rfl, q, rfl⟩)
  go_ret
  exact ⟨ret_bool (by have h0 := H0.out; have h1 := H1.out; have h2 := H2.out; have h3 := H3.out; simp [sameReply, sameInts, h0, h1, h2, h3]), below_drewN HB.out q⟩

theorem Refusal_any (k e : Int) (w : World) : Calls Try.prog 27 #[.int .i64 k, .int .i64 e] w fun en w' => en = .returned (.agg #[.int .i64 k, .int .i64 e, .int .i64 0, .int .i64 0, .slice none 0 0]) ∧ Below w.heap.size w w' := by
  go_enter Try.func27, Try.ntmps27
  go_wp2
  exact bodyPost_ret (v := .agg #[.int .i64 k, .int .i64 e, .int .i64 0, .int .i64 0, .slice none 0 0]) (by simp [results, Try.results27, go_sem]) rfl ⟨rfl, (Below.refl _ _).alloc (Nat.le_refl _) _⟩

def replyBytes (r : Reply) : List UInt8 := puts ([r.key, r.err, r.job, r.version] ++ [(r.nums.length : Int)] ++ r.nums)

def WritePost (r : Reply) (w : World) (e : Ending) (w' : World) : Prop :=
  (rightReply r ∧ ∃ v, e = .returned (.tuple #[v, .int .i64 0]) ∧ Own w.heap.size 5 w' No v (replyBytes r) ∧ Below w.heap.size w w') ∨
  (¬ rightReply r ∧ e = .returned (.tuple #[.slice none 0 0, .int .i64 2]) ∧ Below w.heap.size w w')

theorem putOk_four {r : Reply} (h : rightReply r) : PutOk [r.key, r.err, r.job, r.version] := by
  unfold rightReply at h
  intro z hz
  simp at hz
  rcases hz with rfl | rfl | rfl | rfl <;> omega

set_option maxHeartbeats 1000000 in
set_option maxRecDepth 100000 in
theorem replyWrite_any (r : Reply) (v : Value) (w : World) (hv : V w (Lt w.heap.size) r v) (hl : r.nums.length ≤ 1000) :
    Calls Try.prog 74 #[v] w (WritePost r w) := by
  obtain ⟨A4, C4, rfl, a0, a1, a2, a3, al, am, an, asl⟩ := Reply.val hv
  have hb0 : Below w.heap.size w (w.alloc (.cells #[.int .i64 r.key, .int .i64 r.err, .int .i64 r.job, .int .i64 r.version, .slice A4 r.nums.length C4] 38)) := (Below.refl w.heap.size w).alloc (Nat.le_refl _) _
  have hv0 := hv.later hb0
  have HV := Lib.hid hv0; have HB0 := Lib.hid hb0
  clear hv hv0 hb0
  by_cases hr : rightReply r
  · have HR := Lib.hid hr; clear hr
    go_enter Try.func74, Try.ntmps74
    go_wp2_with (first | (go_at_call 29; refine (replyRight_any r _ _ HV.out hl).mono ?_; rintro e w1 ⟨rfl, hb1⟩; rw [decide_eq_true HR.out]; have g0 : w1.cell? ⟨w.heap.size, 0, none⟩ = some (.int .i64 r.key) := (hb1.cell (by simp)).trans (by simp); have g1 : w1.cell? ⟨w.heap.size, 1, none⟩ = some (.int .i64 r.err) := (hb1.cell (by simp)).trans (by simp); have g2 : w1.cell? ⟨w.heap.size, 2, none⟩ = some (.int .i64 r.job) := (hb1.cell (by simp)).trans (by simp); have g3 : w1.cell? ⟨w.heap.size, 3, none⟩ = some (.int .i64 r.version) := (hb1.cell (by simp)).trans (by simp); have g4 : w1.cell? ⟨w.heap.size, 4, none⟩ = some (.slice A4 r.nums.length C4) := (hb1.cell (by simp)).trans (by simp); have hz1 : w.heap.size < w1.heap.size := by (have := hb1.size; simp at this; omega)) | (go_at_call 83; refine (first_any _ _ _ _ _ _).mono ?_; rintro e w2 ⟨rfl, hb2⟩; have hz2 := hb2.size))
    have hB2 : Below w.heap.size w w2 := (HB0.out.trans (hb1.mono (by simp))).trans (hb2.mono (by omega))
    have k4 : w2.cell? ⟨w.heap.size, 4, none⟩ = some (.slice A4 r.nums.length C4) := (hb2.cell (by exact hz1)).trans g4
    clear g0 g1 g2 g3 g4
    refine (Put_any _ _ _ _ _ _ [] [r.key, r.err, r.job, r.version] _ No rfl rfl Sl.nil (Sl.blk (cells := [.int .i64 r.key, .int .i64 r.err, .int .i64 r.job, .int .i64 r.version]) (t := 93) (Blk.new' (by simp)) (by simp [Lt]) (rs_ints _ (by simp; exact ⟨a0, a1, a2, a3⟩))) (by simp) (by simp)).mono ?_
    rintro e w3 (⟨_, v3, rfl, hown3, hb3⟩ | ⟨h, _⟩)
    case inr => exact absurd (putOk_four HR.out) h
    have hB3 : Below w.heap.size w w3 := (hB2.alloc hB2.size _).trans (hb3.mono (by have := hB2.size; simp; omega))
    have k5 : w3.cell? ⟨w.heap.size, 4, none⟩ = some (.slice A4 r.nums.length C4) := (hb3.cell (by simp; omega)).trans ((World.cell?_alloc_lt _ _ _ (by exact Nat.lt_of_lt_of_le hz1 hz2)).trans k4)
    have hz3 : w.heap.size < w3.heap.size := by have := hb3.size; simp at this; omega
    obtain ⟨A5, C5, rfl, hl5, hm5, _, hs5⟩ := (hown3.val' no_lt).slice
    clear hown3 k4
    go_wp2_with fail
    have hp4 := puts_len [r.key, r.err, r.job, r.version]
    simp at hp4
    refine (Put_any _ _ _ _ _ _ (puts [r.key, r.err, r.job, r.version]) [(r.nums.length : Int)] _ (Lt w3.heap.size) (by simp) rfl (by simpa using hs5.keep (fun p hp => World.cell?_alloc_lt w3 _ p hp)) (Sl.blk (cells := [.int .i64 (r.nums.length : Int)]) (t := 3) (Blk.new' (by simp)) (by simp [Lt]) (rs_ints _ (by simp [I64]; omega))) (by omega) (by simp)).mono ?_
    rintro e w4 (⟨_, v4, rfl, hown4, hb4⟩ | ⟨h, _⟩)
    case inr => exact absurd (by intro z hz; simp at hz; subst hz; omega) h
    have hB4 : Below w.heap.size w w4 := (hB3.alloc hB3.size _).trans (hb4.mono (by have := hB3.size; simp; omega))
    have k6 : w4.cell? ⟨w.heap.size, 4, none⟩ = some (.slice A4 r.nums.length C4) := (hb4.cell (by simp; omega)).trans ((World.cell?_alloc_lt _ _ _ hz3).trans k5)
    obtain ⟨A6, C6, rfl, hl6, hm6, _, hs6⟩ := (hown4.val' no_lt).slice
    have hp5 := puts_len [(r.nums.length : Int)]
    simp at hp5
    clear hown4 k5 hs5
    go_wp2_with fail
    refine (Put_any _ _ _ _ _ _ (puts [r.key, r.err, r.job, r.version] ++ puts [(r.nums.length : Int)]) r.nums _ (Lt w4.heap.size) (by simp) rfl hs6 ((asl.below hB4).mono (Lt.le hB4.size)) (by simp; omega) (by omega)).mono ?_
    rintro e w5 (⟨_, v5, rfl, hown5, hb5⟩ | ⟨h, _⟩)
    case inr => exact absurd HR.out.2.2.2.2.2 h
    go_wp2_with fail
    go_ret2
    refine .inl ⟨HR.out, v5, rfl, ?_, hB4.trans (hb5.mono hB4.size)⟩
    have : replyBytes r = puts [r.key, r.err, r.job, r.version] ++ puts [(r.nums.length : Int)] ++ puts r.nums := by simp [replyBytes, puts]
    rw [this]
    exact hown5.base_le hB4.size
  · have HR := Lib.hid hr; clear hr
    go_enter Try.func74, Try.ntmps74
    go_wp2_with (go_at_call 29; refine (replyRight_any r _ _ HV.out hl).mono ?_; rintro e w1 ⟨rfl, hb1⟩; rw [decide_eq_false HR.out])
    go_ret2
    exact .inr ⟨HR.out, rfl, HB0.out.trans (hb1.mono (by simp))⟩

theorem awake09 (w : World) : Calls Try.prog 26 #[] w fun e w' => e = .returned (.bool true) ∧ Below w.heap.size w w' := by
  go_enter Try.func26, Try.ntmps26
  go_wp2_with (go_at_call 27; refine (Refusal_any _ _ _).mono ?_; rintro e w1 ⟨rfl, hb1⟩)
  refine (replyWrite_any ⟨7, 50, 0, 0, []⟩ _ _ (Reply.valMk (x := ⟨7, 50, 0, 0, []⟩) (A4 := none) (C4 := 0) (by simp [I64]) (by simp [I64]) (by simp [I64]) (by simp [I64]) (Nat.le_refl _) (Nat.zero_le _) (fun _ => rfl) Sl.nil) (by simp)).mono ?_
  rintro e w2 (⟨_, v2, rfl, hown2, hb2⟩ | ⟨h, _⟩)
  case inr => exact absurd (by decide) h
  have hB2 : Below w.heap.size w w2 := hb1.trans (hb2.mono hb1.size)
  rw [show replyBytes ⟨7, 50, 0, 0, []⟩ = [7, 50, 0, 0, 0] from by decide] at hown2
  obtain ⟨A5, C5, rfl, hl5, hm5, _, hs5⟩ := (hown2.val' no_lt).slice
  go_wp2_with fail
  refine (Bytes_any _ _ _ _ _ _ [7, 50, 0, 0, 0] [7, 50, 0, 0, 0] _ (Lt w2.heap.size) (Lt (w2.heap.size + 1)) rfl rfl (hs5.keep (fun p hp => World.cell?_alloc_lt w2 _ p hp)) (Sl.blk (cells := [.int .u8 7, .int .u8 50, .int .u8 0, .int .u8 0, .int .u8 0]) (t := 5) (Blk.new' (by simp)) (by simp [Lt]) (by simpa using rs_bytes [7, 50, 0, 0, 0])) (by simp) (by simp)).mono ?_
  rintro e w3 ⟨rfl, q, rfl⟩
  rw [show sameBytes [7, 50, 0, 0, 0] [7, 50, 0, 0, 0] = true from by decide]
  go_wp2_with fail
  go_ret
  exact ⟨rfl, below_drewN (hB2.alloc hB2.size _) q⟩

end Go.Proofs.Ytofboijlcjgnnaa
