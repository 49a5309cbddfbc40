import Derived.Test.YtofboijlcjgnnaaRef05
set_option linter.unusedVariables false
namespace Go.Proofs.Ytofboijlcjgnnaa
open Go.RowKit

theorem puts_drop {l : List Int} {k : Nat} {x : Int} (hx : l[k]? = some x) : puts (l.drop k) = vbytes x ++ puts (l.drop (k + 1)) := by
  have hlt := (List.getElem?_eq_some_iff.1 hx).1
  rw [List.drop_eq_getElem_cons hlt, (List.getElem?_eq_some_iff.1 hx).2]
  simp [puts]

set_option maxHeartbeats 1000000 in
set_option maxRecDepth 100000 in
theorem codecPuts.walk (bs : List UInt8) (l : List Int) (v0 v1 : Value) (w : World) (h0 : V w (Lt w.heap.size) bs v0) (h1 : V w (Lt w.heap.size) l v1) :
    Calls Try.prog 8 #[v0, v1] w fun e w' => e = .returned (.bool true) ∧ Below w.heap.size w w' := by
  obtain ⟨A, c, rfl, hc, hcm, _, hs⟩ := h0.slice
  obtain ⟨C, d, rfl, hd, hdm, _, ht⟩ := h1.slice
  unfold maxLen at hcm hdm
  clear h0 h1
  by_cases hbig : 100 < bs.length ∨ 50 < l.length
  · rcases (by omega : 100 < bs.length ∨ (bs.length ≤ 100 ∧ 50 < l.length)) with h | ⟨h, h'⟩
    all_goals
      clear hbig
      go_enter Try.func8, Try.ntmps8
      go_wp2_with (go_at_call 30; refine (awake05 _).mono ?_; rintro e w1 ⟨rfl, hb1⟩)
      go_ret
      exact ⟨rfl, hb1⟩
  · have hl1 : bs.length ≤ 100 := by omega
    have hl2 : l.length ≤ 50 := by omega
    clear hbig
    by_cases hok : PutOk l
    · have HOK := Lib.hid hok; clear hok
      go_enter Try.func8, Try.ntmps8
      go_wp2_with (first | (go_at_call 30; refine (awake05 _).mono ?_; rintro e w1 ⟨rfl, hb1⟩; have hs1 := hs.later hb1; have ht1 := ht.later hb1) | (go_at_call 35; refine (Put_any _ _ _ _ _ _ bs l _ _ rfl rfl hs1 ht1 (by omega) (by omega)).mono ?_; rintro e w2 (⟨_, v2, rfl, hown2, hb2⟩ | ⟨h, _⟩); rotate_left; exact absurd HOK.out h; obtain ⟨A2, c2, rfl, hc2, hm2, _, hs2⟩ := (hown2.val' no_lt).slice))
      have hb2' : Below w.heap.size w w2 := hb1.trans (hb2.mono hb1.size)
      have ht2 := ht1.later hb2
      have hs2' := hs1.later hb2
      clear hs1 ht1
      go_loop [31] (fun i => ∃ k : Nat, k ≤ l.length ∧ i = .int .i64 k) (fun i => l.length - (intOf i).toNat)
      case atStart => exact ⟨0, Nat.zero_le _, rfl⟩
      case round =>
        obtain ⟨k, hk, rfl⟩ := hrel
        by_cases hlt : k < l.length
        · obtain ⟨ad, x, rfl, hx, hcx, hx1, hx2⟩ := ht2.int hlt
          have hxx := HOK.out x (List.mem_of_getElem? hx)
          have hxa : decide (0 ≤ x) = true := by simpa using hxx.1
          have hxb : decide (x ≤ 281474976710656) = true := by simpa using hxx.2
          have HX := Lib.hid hx; clear hx
          go_wp2_with (go_at_call 46; refine (refRight_any _ _).mono ?_; rintro e w' ⟨rfl, rfl⟩)
          go_round
          case rel => exact ⟨k + 1, by omega, by go_num⟩
          case measure => simp [intOf]; omega
        · have own0 : Own w2.heap.size 5 (w2.alloc (.cells #[] 5)) No (.slice (some ⟨w2.heap.size, 0, none⟩) 0 0) ([] : List UInt8) :=
            Own.blk (cells := []) (Blk.new' rfl) rfl (Nat.le_refl _) (Nat.zero_le _) rfl
          have HO := Lib.hid own0; clear own0
          go_wp2_with (first | (at_builtin; refine wpList_app _ rfl (.tmp 46) (.tmp 47) _ rfl el_bytes (v := .slice (some ⟨w2.heap.size, 0, none⟩) 0 0) rfl HO.out rfl rfl ((hs2'.keep (fun p hp => World.cell?_alloc_lt w2 _ p hp)).srcF) (fun _ h => h.elim) (by simp; omega) (by simp) ?_; intro v3 w3 hown3 hg3 _; have hb3 : Below w2.heap.size w2 w3 := ((Below.refl w2.heap.size w2).alloc (Nat.le_refl _) _).grown hg3 (by simp) (by simp [Value.ownBlock]); have ht3 := ht2.later hb3) | (go_at_call 47; refine (refPut_any _ _ _ l _ rfl ht3 HOK.out (by omega)).mono ?_; rintro e w4 ⟨v4, rfl, hown4, hb4⟩; obtain ⟨A4, c4, rfl, hc4, hm4, _, hs4⟩ := (hown4.val' no_lt).slice; have hown5 := hown3.below hb4 (Nat.le_refl _) (fun _ h => h.elim)) | (at_builtin; refine wpList_app _ rfl (.tmp 48) (.tmp 50) _ rfl el_bytes (v := v3) rfl hown5 rfl rfl hs4.srcF (fun _ h => h.elim) (by have := puts_len l; simp; omega) (by have := hb3.size; have := hb4.size; omega) ?_; intro v5 w5 hown6 hg5 _; obtain ⟨A5, c5, rfl, hc5, hm5, _, hs5⟩ := (hown6.val' no_lt).slice; have hb5 : Below w2.heap.size w2 w5 := (hb3.trans (hb4.mono hb3.size)).grown hg5 (by have := hb3.size; have := hb4.size; omega) hown5.at_; have hs6 := hs2.later hb5))
          refine (Bytes_any _ _ _ _ _ _ (bs ++ puts l) (bs ++ puts l) _ _ _ (by simp) (by simp) hs6 (by simpa using hs5) (by have := puts_len l; simp; omega) (by have := puts_len l; simp; omega)).mono ?_
          rintro e w6 ⟨rfl, q, rfl⟩
          rw [show sameBytes (bs ++ puts l) (bs ++ puts l) = true from by simp [sameBytes]]
          have hpl := puts_len l
          have hc2' : bs.length + (puts l).length ≤ c2 := by simpa using hc2
          unfold maxLen at hm2
          have hcut := run_cut el_bytes A2 (bs.length + (puts l).length) c2 bs.length (by omega) hc2'
          have hs7 : Sl (w5.drewN q) (Lt w5.heap.size) (cutAt A2 c2 bs.length (Lay.n UInt8)) (puts l) := by
            have := hs6.cutAt (k := bs.length) (c := c2) hc2
            rw [List.drop_left] at this
            exact this
          go_wp2_with (go_at_call 31; refine (New5_any _ _ _ (puts l) _ _ (by omega) hs7 (by omega)).mono ?_; rintro e w7 ⟨r, S, rfl, hr, hb7, hr1, hS⟩)
          clear hcut hs7 hs6 hs5 hs4 hs2 hs2' ht3 hown5
          have hb7' : Below w.heap.size w w7 := (below_drewN (hb2'.trans (hb5.mono hb2'.size)) q).trans (hb7.mono (by have := hb2'.size; have := hb5.size; simp; omega))
          have hrw : w.heap.size ≤ r := by have := hb2'.size; have := hb5.size; simp at hr1; omega
          go_loopw [67] (fun i wr => ∃ k : Nat, k ≤ l.length ∧ i = .int .i64 k ∧ Rdr wr r S (puts (l.drop k)) 0 ∧ w7.grownBy wr (some r)) (fun i _ => l.length - (intOf i).toNat)
          case atStart => exact ⟨0, Nat.zero_le _, rfl, hr, World.grownBy.refl _ _⟩
          case round =>
            clear hr
            obtain ⟨k, hk, rfl, hr, hg⟩ := hrel
            have hb8 : Below w.heap.size w wr := hb7'.grown hg hb7'.size (fun g hg => by injection hg with hg; omega)
            by_cases hlt : k < l.length
            · obtain ⟨ad, x, rfl, hx, hcx, hx1, hx2⟩ := (ht.below hb8).int hlt
              have hxx := HOK.out x (List.mem_of_getElem? hx)
              rw [puts_drop hx] at hr
              have HX := Lib.hid hx; clear hx
              have hnum := num_vbytes hxx.1 hxx.2 (puts (l.drop (k + 1)))
              have HN := Lib.hid hnum; clear hnum
              go_wp2_with (go_at_call 33; refine (Number_any _ _ _ _ hr).mono ?_; rw [HN.out]; rintro e w8 ⟨rfl, hr8, hg8⟩)
              go_roundw
              case rel => exact ⟨k + 1, by omega, by go_num, hr8, hg.trans hg8⟩
              case measure => simp [intOf]; omega
            · obtain rfl : k = l.length := by omega
              rw [List.drop_length] at hr
              go_wp2_with (first | (go_at_call 48; refine (End_any _ _ _ _ _ hr).mono ?_; rintro e w' ⟨rfl, rfl⟩) | (go_at_call 32; refine (Left_any _ _ _ _ _ hr).mono ?_; rintro e w' ⟨rfl, rfl⟩))
              go_ret
              exact ⟨rfl, hb8⟩
    · have HOK := Lib.hid hok; clear hok
      go_enter Try.func8, Try.ntmps8
      go_wp2_with (first | (go_at_call 30; refine (awake05 _).mono ?_; rintro e w1 ⟨rfl, hb1⟩; have hs1 := hs.later hb1; have ht1 := ht.later hb1) | (go_at_call 35; refine (Put_any _ _ _ _ _ _ bs l _ _ rfl rfl hs1 ht1 (by omega) (by omega)).mono ?_; rintro e w2 (⟨h, _⟩ | ⟨_, rfl, rfl⟩); exact absurd h HOK.out))
      go_loop [31] (fun i => ∃ k : Nat, k ≤ l.length ∧ i = .int .i64 k ∧ PutOk (l.take k)) (fun i => l.length - (intOf i).toNat)
      case atStart => exact ⟨0, Nat.zero_le _, rfl, by simp [PutOk]⟩
      case round =>
        obtain ⟨k, hk, rfl, hokk⟩ := hrel
        by_cases hlt : k < l.length
        · obtain ⟨ad, x, rfl, hx, hcx, hx1, hx2⟩ := ht1.int hlt
          have HX := Lib.hid hx; have HK := Lib.hid hokk; clear hx hokk
          by_cases hv : 0 ≤ x ∧ x ≤ 281474976710656
          · have hxa : decide (0 ≤ x) = true := by simpa using hv.1
            have hxb : decide (x ≤ 281474976710656) = true := by simpa using hv.2
            have HV := Lib.hid hv; clear hv
            go_wp2_with (go_at_call 46; refine (refRight_any _ _).mono ?_; rintro e w' ⟨rfl, rfl⟩)
            go_round
            case rel => exact ⟨k + 1, by omega, by go_num, putOk_step HK.out HX.out HV.out⟩
            case measure => simp [intOf]; omega
          · have hxa : (decide (0 ≤ x) && decide (x ≤ 281474976710656)) = false := by
              rw [Bool.and_eq_false_iff]; simp; omega
            clear hv
            go_wp2_with (go_at_call 46; refine (refRight_any _ _).mono ?_; rw [hxa]; rintro e w' ⟨rfl, rfl⟩)
            go_ret
            exact ⟨rfl, hb1⟩
        · exact absurd (by rwa [List.take_of_length_le (by omega)] at hokk) HOK.out

end Go.Proofs.Ytofboijlcjgnnaa
