import Derived.Test.YtofboijlcjgnnaaRead09
import Derived.Test.YtofboijlcjgnnaaLaw09
import Derived.Deep.RegionWith
set_option linter.unusedVariables false
namespace Go.Proofs.Ytofboijlcjgnnaa
open Go.RowKit

theorem numS_vbytes {z : Int} (h0 : 0 ≤ z) (h : z ≤ 281474976710656) (rest : List UInt8) : numS (vbytes z ++ rest) 0 = (z, rest, 0) := by
  unfold numS
  rw [if_pos rfl, num_vbytes h0 h]
theorem withinS_vbytes {z hi : Int} (h0 : 0 ≤ z) (h : z ≤ 281474976710656) (hh : z ≤ hi) (rest : List UInt8) : withinS (vbytes z ++ rest) 0 0 hi = (z, rest, 0) := by
  unfold withinS
  rw [numS_vbytes h0 h, if_pos rfl, if_neg (by simp; omega)]
theorem manyS_puts (l : List Int) (hl : PutOk l) : ∀ k, k ≤ l.length → manyS k (puts l) 0 = (l.take k, puts (l.drop k), 0)
  | 0, _ => by simp [manyS]
  | k + 1, hk => by
    have ih := manyS_puts l hl k (by omega)
    have hx : l[k]? = some (l[k]'(by omega)) := List.getElem?_eq_getElem (by omega)
    have hb := hl _ (List.getElem_mem (by omega : k < l.length))
    rw [manyS, ih]
    simp only
    rw [puts_drop' hx, numS_vbytes hb.1 hb.2, List.take_add_one, hx]
    rfl
where
  puts_drop' {l : List Int} {k : Nat} {x : Int} (hx : l[k]? = some x) : puts (l.drop k) = vbytes x ++ puts (l.drop (k + 1)) := by
    have hlt := (List.getElem?_eq_some_iff.1 hx).1
    rw [List.drop_eq_getElem_cons hlt, (List.getElem?_eq_some_iff.1 hx).2]
    simp [puts]
theorem replyBytes_eq (r : Reply) : replyBytes r = vbytes r.key ++ (vbytes r.err ++ (vbytes r.job ++ (vbytes r.version ++ (vbytes (r.nums.length : Int) ++ puts r.nums)))) := by
  simp [replyBytes, puts]
theorem fourS_bytes {r : Reply} (h : rightReply r) : fourS (replyBytes r) 4 = ([r.key, r.err, r.job, r.version], vbytes (r.nums.length : Int) ++ puts r.nums, 0) := by
  have hh := h
  unfold rightReply at hh
  rw [replyBytes_eq]
  simp only [fourS, mx4]
  rw [withinS_vbytes (by omega) (by omega) (by omega)]
  simp only
  rw [withinS_vbytes (by omega) (by omega) (by omega)]
  simp only
  rw [withinS_vbytes (by omega) (by omega) (by omega)]
  simp only
  rw [withinS_vbytes (by omega) (by omega) (by omega)]
  simp
theorem read_back {r : Reply} (h : rightReply r) : readErr (replyBytes r) = 0 ∧ readReply (replyBytes r) = r := by
  have hh := h
  unfold rightReply at hh
  have e4 := fourS_bytes h
  have ew : withinS (fourS (replyBytes r) 4).2.1 (fourS (replyBytes r) 4).2.2 0 64 = ((r.nums.length : Int), puts r.nums, 0) := by
    rw [e4]; exact withinS_vbytes (by omega) (by omega) (by omega) _
  have em : manyS (readN (replyBytes r)) (readEnd (replyBytes r)).1 (readEnd (replyBytes r)).2 = (r.nums, [], 0) := by
    unfold readN readEnd
    rw [ew]
    simp only [Int.toNat_natCast]
    rw [manyS_puts _ h.2.2.2.2.2 _ (Nat.le_refl _)]
    simp [puts]
  refine ⟨by unfold readErr; rw [em]; rfl, ?_⟩
  unfold readReply
  rw [em, e4]
  rfl

set_option maxHeartbeats 2000000 in
set_option maxRecDepth 100000 in
theorem replyWrites.walk (r s : Reply) (v0 v1 : Value) (w : World) (h0 : V w (Lt w.heap.size) r v0) (h1 : V w (Lt w.heap.size) s v1) :
    Calls Try.prog 14 #[v0, v1] w fun en w' => en = .returned (.bool true) ∧ Below w.heap.size w w' := by
  obtain ⟨A4, C4, rfl, a0, a1, a2, a3, al, am, an, asl⟩ := Reply.val h0
  obtain ⟨B4, D4, rfl, b0, b1, b2, b3, bl, bm, bn, bsl⟩ := Reply.val h1
  unfold maxLen at am bm
  have hbel : Below w.heap.size w ((w.alloc (.cells #[.int .i64 r.key, .int .i64 r.err, .int .i64 r.job, .int .i64 r.version, .slice A4 r.nums.length C4] 38)).alloc (.cells #[.int .i64 s.key, .int .i64 s.err, .int .i64 s.job, .int .i64 s.version, .slice B4 s.nums.length D4] 38)) := ((Below.refl w.heap.size w).alloc (Nat.le_refl _) _).alloc (by simp) _
  have hr := h0.later hbel
  have hs := h1.later hbel
  have HB := Lib.hid hbel; have HR := Lib.hid hr; have HS := Lib.hid hs
  clear hbel hr hs h0 h1
  by_cases hbig : 200 < r.nums.length ∨ 200 < s.nums.length
  · rcases (by omega : 200 < r.nums.length ∨ (r.nums.length ≤ 200 ∧ 200 < s.nums.length)) with h | ⟨h, h'⟩
    all_goals
      clear hbig
      go_enter Try.func14, Try.ntmps14
      go_wp2_with (go_at_call 26; refine (awake09 _).mono ?_; rintro e w1 ⟨rfl, hb1⟩; have hc1 := bcell hb1)
      go_ret
      exact ⟨rfl, HB.out.trans (hb1.mono (by simp; omega))⟩
  · have hl1 : r.nums.length ≤ 200 := by omega
    have hl2 : s.nums.length ≤ 200 := by omega
    clear hbig
    go_enter Try.func14, Try.ntmps14
    go_wp2_with (go_at_call 26; refine (awake09 _).mono ?_; rintro e w1 ⟨rfl, hb1⟩; have hc1 := bcell hb1; have hz1 : w.heap.size + 1 < w1.heap.size := (by have := hb1.size; simp at this; omega); have hy1 : w.heap.size < w1.heap.size := (by omega))
    have hr1 := HR.out.later hb1
    have hs1 := HS.out.later hb1
    by_cases hok : rightReply r
    · refine (replyWrite_any r _ _ hr1 (by omega)).mono ?_
      rintro e w2 (⟨_, v2, rfl, hown2, hb2⟩ | ⟨h, _⟩)
      case inr => exact absurd hok h
      have HOK := Lib.hid hok; clear hok
      have hc2 := bcell hb2
      have hz2 : w.heap.size + 1 < w2.heap.size := by have := hb2.size; omega
      have hy2 : w.heap.size < w2.heap.size := by omega
      obtain ⟨A5, C5, rfl, hl5, hm5, _, hs5⟩ := (hown2.val' no_lt).slice
      go_wp2_with fail
      refine wp_region_late (by kernel_rfl) (by kernel_rfl) ?_
      have hr2 := hr1.later hb2
      have hs2 := hs1.later hb2
      have hsame : sameReply r r = true := by simp [sameReply]
      repeat (first | go_big_quiet_step ((first | (go_at_call 29; exact late_of (replyRight_any r _ _ (hr2.later (Late.below _)) (by omega))) | (go_at_call 75; exact late_of (refRight9_any r _ _ (hr2.later (Late.below _)) (by omega))) | (go_at_call 28; exact late_of (refSame_any r s _ _ _ (hr2.later (Late.below _)) (hs2.later (Late.below _)) (by omega) (by omega))) | (go_at_call_of 76 s.key; exact late_of (replySame_any r s _ _ _ (hr2.later (Late.below _)) (hs2.later (Late.below _)) (by omega) (by omega))) | (go_at_call 76; exact late_of (replySame_any r r _ _ _ (hr2.later (Late.below _)) (hr2.later (Late.below _)) (by omega) (by omega))) | fail)) | quiet_step ((first | (go_at_call 29; exact late_of (replyRight_any r _ _ (hr2.later (Late.below _)) (by omega))) | (go_at_call 75; exact late_of (refRight9_any r _ _ (hr2.later (Late.below _)) (by omega))) | (go_at_call 28; exact late_of (refSame_any r s _ _ _ (hr2.later (Late.below _)) (hs2.later (Late.below _)) (by omega) (by omega))) | (go_at_call_of 76 s.key; exact late_of (replySame_any r s _ _ _ (hr2.later (Late.below _)) (hs2.later (Late.below _)) (by omega) (by omega))) | (go_at_call 76; exact late_of (replySame_any r r _ _ _ (hr2.later (Late.below _)) (hr2.later (Late.below _)) (by omega) (by omega))) | fail)))
      refine wpQuiet_nil ?_
      intro w3 hb3
      have hr3 := hr2.later hb3
      have hc3 := bcell hb3
      have hz3 : w.heap.size + 1 < w3.heap.size := by have := hb3.size; omega
      have hy3 : w.heap.size < w3.heap.size := by omega
      have hB3 : Below w.heap.size w w3 := ((HB.out.trans (hb1.mono (by simp; omega))).trans (hb2.mono (by omega))).trans (hb3.mono (by omega))
      have HB3 := Lib.hid hB3
      clear hB3 hs2 hs1 hr1 hr2
      go_wp2_with (first | (go_at_call 75; refine (refRight9_any r _ _ hr3 (by omega)).mono ?_; rintro e w4 ⟨rfl, hb4⟩; rw [decide_eq_true HOK.out]; have hc4 := bcell hb4; have hs6 := (hs5.later hb3).later hb4; have hr4 := hr3.later hb4; have hy4 : w.heap.size < w4.heap.size := (by have := hb4.size; omega)))
      have hlb : (replyBytes r).length ≤ 1048576 := by
        have := puts_len ([r.key, r.err, r.job, r.version] ++ [(r.nums.length : Int)] ++ r.nums)
        unfold replyBytes
        simp at this ⊢
        omega
      refine (replyRead_any _ _ _ (replyBytes r) _ rfl hs6 hlb).mono ?_
      rintro e w5 ⟨v5, rfl, hv5, hb5⟩
      rw [(read_back HOK.out).1] at hv5 ⊢
      rw [if_pos rfl, (read_back HOK.out).2] at hv5
      obtain ⟨E4, F4, rfl, ce0, ce1, ce2, ce3, ce4, ce5, ce6, ce7⟩ := Reply.val hv5
      have hc5 := bcell hb5
      have hy5 : w.heap.size < w5.heap.size := by have := hb5.size; omega
      have hB5 : Below w.heap.size w w5 := (HB3.out.trans (hb4.mono (by omega))).trans (hb5.mono (by omega))
      have hr5 := (hr4.later hb5).later ((Below.refl _ _).alloc (Nat.le_refl _) (.cells #[.int .i64 r.key, .int .i64 r.err, .int .i64 r.job, .int .i64 r.version, .slice E4 r.nums.length F4] 38))
      have hv6 := hv5.later ((Below.refl _ _).alloc (Nat.le_refl _) (.cells #[.int .i64 r.key, .int .i64 r.err, .int .i64 r.job, .int .i64 r.version, .slice E4 r.nums.length F4] 38))
      have hs7 := (hs6.later hb5).later ((Below.refl _ _).alloc (Nat.le_refl _) (.cells #[.int .i64 r.key, .int .i64 r.err, .int .i64 r.job, .int .i64 r.version, .slice E4 r.nums.length F4] 38))
      clear hs5 hs6 hr3 hr4 hv5 hown2
      go_wp2_with (go_at_call 77; refine (refWrite9_any r _ _ hr5 HOK.out).mono ?_; rintro e w6 ⟨v6, rfl, hown6, hb6⟩; obtain ⟨A7, C7, rfl, hl7, hm7, _, hs8⟩ := (hown6.val' no_lt).slice; have hc6 := bcell hb6; have hy6 : w.heap.size < w6.heap.size := (by have := hb6.size; simp at this; omega); have hy7 : w5.heap.size < w6.heap.size := (by have := hb6.size; simp at this; omega))
      refine (Bytes_any _ _ _ _ _ _ (replyBytes r) (replyBytes r) _ _ _ rfl rfl (hs7.later hb6) hs8 (by omega) (by omega)).mono ?_
      rintro e w7 ⟨rfl, q, rfl⟩
      rw [show sameBytes (replyBytes r) (replyBytes r) = true from by simp [sameBytes]]
      have hr6 := (hr5.later hb6).later (below_drewN (Below.refl _ _) q)
      have hv7 := (hv6.later hb6).later (below_drewN (Below.refl _ _) q)
      go_wp2_with (go_at_call 28; refine (refSame_any r r _ _ _ hv7 hr6 (by omega) (by omega)).mono ?_; rw [show sameReply r r = true from by simp [sameReply]]; rintro e w8 ⟨rfl, hb8⟩)
      go_ret
      exact ⟨rfl, ((below_drewN ((hB5.alloc (by omega) _).trans (hb6.mono (by simp; omega))) q).trans (hb8.mono (by simp; omega)))⟩
    · refine (replyWrite_any r _ _ hr1 (by omega)).mono ?_
      rintro e w2 (⟨h, _⟩ | ⟨_, rfl, hb2⟩)
      case inl => exact absurd h hok
      have HOK := Lib.hid hok; clear hok
      have hc2 := bcell hb2
      have hz2 : w.heap.size + 1 < w2.heap.size := by have := hb2.size; omega
      have hy2 : w.heap.size < w2.heap.size := by omega
      go_wp2_with fail
      refine wp_region_late (by kernel_rfl) (by kernel_rfl) ?_
      have hr2 := hr1.later hb2
      have hs2 := hs1.later hb2
      have hsame : sameReply r r = true := by simp [sameReply]
      repeat (first | go_big_quiet_step ((first | (go_at_call 29; exact late_of (replyRight_any r _ _ (hr2.later (Late.below _)) (by omega))) | (go_at_call 75; exact late_of (refRight9_any r _ _ (hr2.later (Late.below _)) (by omega))) | (go_at_call 28; exact late_of (refSame_any r s _ _ _ (hr2.later (Late.below _)) (hs2.later (Late.below _)) (by omega) (by omega))) | (go_at_call_of 76 s.key; exact late_of (replySame_any r s _ _ _ (hr2.later (Late.below _)) (hs2.later (Late.below _)) (by omega) (by omega))) | (go_at_call 76; exact late_of (replySame_any r r _ _ _ (hr2.later (Late.below _)) (hr2.later (Late.below _)) (by omega) (by omega))) | fail)) | quiet_step ((first | (go_at_call 29; exact late_of (replyRight_any r _ _ (hr2.later (Late.below _)) (by omega))) | (go_at_call 75; exact late_of (refRight9_any r _ _ (hr2.later (Late.below _)) (by omega))) | (go_at_call 28; exact late_of (refSame_any r s _ _ _ (hr2.later (Late.below _)) (hs2.later (Late.below _)) (by omega) (by omega))) | (go_at_call_of 76 s.key; exact late_of (replySame_any r s _ _ _ (hr2.later (Late.below _)) (hs2.later (Late.below _)) (by omega) (by omega))) | (go_at_call 76; exact late_of (replySame_any r r _ _ _ (hr2.later (Late.below _)) (hr2.later (Late.below _)) (by omega) (by omega))) | fail)))
      refine wpQuiet_nil ?_
      intro w3 hb3
      have hr3 := hr2.later hb3
      have hc3 := bcell hb3
      have hz3 : w.heap.size + 1 < w3.heap.size := by have := hb3.size; omega
      have hy3 : w.heap.size < w3.heap.size := by omega
      have hB3 : Below w.heap.size w w3 := ((HB.out.trans (hb1.mono (by simp; omega))).trans (hb2.mono (by omega))).trans (hb3.mono (by omega))
      have HB3 := Lib.hid hB3
      clear hB3 hs2 hs1 hr1 hr2
      go_wp2_with (first | (go_at_call 75; refine (refRight9_any r _ _ hr3 (by omega)).mono ?_; rintro e w4 ⟨rfl, hb4⟩; rw [decide_eq_false HOK.out]; have hc4 := bcell hb4; have hr4 := hr3.later hb4; have hy4 : w.heap.size < w4.heap.size := (by have := hb4.size; omega)))
      go_ret
      exact ⟨rfl, HB3.out.trans (hb4.mono (by omega))⟩

end Go.Proofs.Ytofboijlcjgnnaa
