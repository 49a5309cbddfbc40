import Derived.Test.YtofboijlcjgnnaaCodec2
import Derived.Test.YtofboijlcjgnnaaNum
import Derived.Deep.LoopGhost
set_option linter.unusedVariables false
namespace Go.Proofs.Ytofboijlcjgnnaa
open Go.RowKit

theorem Rdr.keep {w w' : World} {r : Nat} {S : Nat → Prop} {bs : List UInt8} {err : Int} (h : Rdr w r S bs err) (hr : w'.heap[r]? = w.heap[r]?) (hS : ∀ b, S b → w'.heap[b]? = w.heap[b]?) : Rdr w' r S bs err := by
  obtain ⟨A, c, hb, h1, h2, hs, h3⟩ := h
  exact ⟨A, c, hr.trans hb, h1, h2, hs.keep (fun p hp => World.cell?_of_block (hS _ hp)), h3⟩
theorem Rdr.lt {w : World} {r : Nat} {S : Nat → Prop} {bs : List UInt8} {err : Int} (h : Rdr w r S bs err) : r < w.heap.size := by
  obtain ⟨A, c, hb, _⟩ := h
  exact hb.lt
theorem Rdr.drewN {w : World} {r : Nat} {S : Nat → Prop} {bs : List UInt8} {err : Int} (h : Rdr w r S bs err) (n : Nat) : Rdr (w.drewN n) r S bs err := h.keep rfl (fun _ _ => rfl)
theorem Rdr.sl {w : World} {r : Nat} {S : Nat → Prop} {bs : List UInt8} {err : Int} (h : Rdr w r S bs err) : ∃ A, Sl w S A bs := by
  obtain ⟨A, c, hb, h1, h2, hs, h3⟩ := h
  exact ⟨A, hs⟩

theorem rs_bytes {w : World} {B : Nat → Prop} : ∀ (bs : List UInt8), Rs w B bs (bs.map fun x => Value.int .u8 (x.toNat : Int))
  | [] => rfl
  | z :: zs => ⟨[.int .u8 (z.toNat : Int)], _, rfl, rfl, rs_bytes zs⟩

theorem putOk_300 : PutOk [300] := by intro z hz; simp at hz; subst hz; omega
theorem puts_300 : ([9] : List UInt8) ++ puts [300] = [9, 172, 2] := by decide
theorem num_300 : num [172, 2] = (300, [], 0) := by decide

theorem awake05 (w : World) : Calls Try.prog 30 #[] w fun e w' => e = .returned (.bool true) ∧ Below w.heap.size w w' := by
  go_enter Try.func30, Try.ntmps30
  go_wp2_with fail
  refine (Put_any _ _ _ _ _ _ [9] [300] _ _ rfl rfl (Sl.blk (g := w.heap.size) (cells := [.int .u8 9]) (t := 5) (B := Lt (w.heap.size + 1)) ((Blk.new' (by simp)).alloc _) (by simp [Lt]) (by simpa using rs_bytes [9])) (Sl.blk (g := w.heap.size + 1) (cells := [.int .i64 300]) (t := 3) (Blk.new' (by simp)) (by simp [Lt]) (rs_ints [300] (by simp [I64]))) (by simp) (by simp)).mono ?_
  rintro e w1 (⟨_, v1, rfl, hown1, hb1⟩ | ⟨h, _⟩)
  case inr => exact absurd putOk_300 h
  have hb : Below w.heap.size w w1 := (((Below.refl w.heap.size w).alloc (Nat.le_refl _) _).alloc (by simp) _).trans (hb1.mono (by simp; omega))
  have hsz := hb.size
  have hs : V w1 (Lt w1.heap.size) (([9] : List UInt8) ++ puts [300]) v1 := hown1.val' no_lt
  rw [puts_300] at hs
  obtain ⟨A1, c1, rfl, _, _, _, hs1⟩ := hs.slice
  clear hown1 hb1 hs
  go_wp2_with fail
  refine (Bytes_any _ _ _ _ _ _ [9, 172, 2] [9, 172, 2] _ (Lt w1.heap.size) (Lt (w1.heap.size + 1)) rfl rfl (hs1.keep (fun p hp => World.cell?_alloc_lt w1 _ p hp)) (Sl.blk (cells := [.int .u8 9, .int .u8 172, .int .u8 2]) (t := 5) (Blk.new' (by simp)) (by simp [Lt]) (by simpa using rs_bytes [9, 172, 2])) (by simp) (by simp)).mono ?_
  rintro e w2 ⟨rfl, q, rfl⟩
  rw [show sameBytes [9, 172, 2] [9, 172, 2] = true from by decide]
  go_wp2_with fail
  refine (New5_any _ _ _ [172, 2] _ (Lt (w1.heap.size + 2)) rfl (Sl.blk (cells := [.int .u8 172, .int .u8 2]) (t := 5) (Blk.new' (by simp)) (by simp [Lt]) (by simpa using rs_bytes [172, 2])) (by simp)).mono ?_
  rintro e w3 ⟨r, S, rfl, hr, hb3, hr1, hS⟩
  go_wp2_with fail
  refine (Number_any _ _ _ _ hr).mono ?_
  rw [num_300]
  rintro e w4 ⟨rfl, hr4, hg4⟩
  go_wp2_with fail
  go_ret
  refine ⟨rfl, ?_⟩
  have hb' : Below w.heap.size w w3 := (((below_drewN (hb.alloc hsz _) q).alloc (by simp; omega) _).trans (hb3.mono (by simp; omega)))
  simp at hr1
  exact hb'.grown hg4 hb'.size (fun k hk => by injection hk with hk; omega)

/-- what has been read so far -/
def OnceRel (bs rest : List UInt8) (l : List Int) (err : Int) : Prop :=
  (err = 0 ∧ bs = puts l ++ rest ∧ PutOk l) ∨ (err ≠ 0 ∧ rest = [])
theorem OnceRel.step {bs rest : List UInt8} {l : List Int} {err : Int} (h : OnceRel bs rest l err) (hp : 0 < rest.length) : err = 0 ∧ OnceRel bs (num rest).2.1 (l ++ [(num rest).1]) (num rest).2.2 := by
  rcases h with ⟨h1, h2, h3⟩ | ⟨_, h⟩
  · refine ⟨h1, ?_⟩
    by_cases h0 : (num rest).2.2 = 0
    · obtain ⟨e, r1, r2⟩ := num_ok h0
      refine .inl ⟨h0, ?_, ?_⟩
      · rw [puts_snoc, List.append_assoc, ← e]; exact h2
      · intro z hz
        rcases List.mem_append.1 hz with hz | hz
        · exact h3 z hz
        · simp at hz; subst hz; exact ⟨r1, r2⟩
    · exact .inr ⟨h0, (num_bad h0).1⟩
  · subst h; simp at hp

set_option maxRecDepth 100000 in
theorem codecOnce.walk (bs : List UInt8) (v0 : Value) (w : World) (h0 : V w (Lt w.heap.size) bs v0) :
    Calls Try.prog 6 #[v0] w fun e w' => e = .returned (.bool true) ∧ Below w.heap.size w w' := by
  obtain ⟨A, c, rfl, hc, hcm, _, hs⟩ := h0.slice
  unfold maxLen at hcm
  clear h0
  by_cases hl : 200 < bs.length
  · go_enter Try.func6, Try.ntmps6
    go_wp2_with (go_at_call 30; refine (awake05 _).mono ?_; rintro e w1 ⟨rfl, hb1⟩)
    go_ret
    exact ⟨rfl, hb1⟩
  · go_enter Try.func6, Try.ntmps6
    go_wp2_with (first | (go_at_call 30; refine (awake05 _).mono ?_; rintro e w1 ⟨rfl, hb1⟩; have hs1 := hs.later hb1) | (go_at_call 31; refine (New5_any _ _ _ bs _ _ rfl hs1 (by omega)).mono ?_; rintro e w2 ⟨r, S, rfl, hr, hb2, hr1, hS⟩))
    have hb2' : Below w.heap.size w w2 := hb1.trans (hb2.mono hb1.size)
    have hrl := hr.lt
    go_loopg [4] bs.length (fun k v wr => ∃ (l : List Int) (rest : List UInt8) (err : Int), k = rest.length ∧ Own w2.heap.size 3 wr No v l ∧ Rdr wr r S rest err ∧ Below w.heap.size w wr ∧ w2.heap.size ≤ wr.heap.size ∧ OnceRel bs rest l err ∧ rest.length + l.length ≤ bs.length)
    case atStart => exact ⟨[], bs, 0, rfl, Own.nil, hr, hb2', Nat.le_refl _, .inl ⟨rfl, by simp [puts], by simp [PutOk]⟩, by simp⟩
    case round =>
      clear hr
      obtain ⟨l, rest, err, rfl, hown, hr, hb3, hsz, hrel, hlen⟩ := hrel
      have HREL := Lib.hid hrel; clear hrel
      by_cases hpos : 0 < rest.length
      · obtain ⟨rfl, hrel2⟩ := HREL.out.step hpos
        have hless := num_less hpos
        have hrange := num_range (bs := rest)
        have HR2 := Lib.hid hrel2; clear hrel2
        go_wp2_with (first | (go_at_call 32; refine (Left_any _ _ _ _ _ (by assumption)).mono ?_; rintro e w' ⟨rfl, rfl⟩) | (go_at_call 33; refine (Number_any _ _ _ _ hr).mono ?_; rintro e w3 ⟨rfl, hr3, hg3⟩; have hown3 := hown.kept hg3 (.inr (fun h => by have := hown.at_ _ h; omega)) (fun _ h => h.elim)) | (at_builtin; refine wpList_app _ rfl (.tmp 20) (.tmp 23) _ rfl el_ints (v := u4) rfl (hown3.alloc _ no_lt) rfl rfl (Src.blk (Blk.new' rfl) (rs_ints [(num rest).1] (by simp [I64]; omega))) (fun _ h => h.elim) (by simp; omega) (by have := hg3.size; simp; omega) ?_; intro v2 w4 hown4 hg4 _; have hr4 : Rdr w4 r S (num rest).2.1 (num rest).2.2 := hr3.keep ((hg4.block r (by have := hg3.size; simp; omega) (fun h => by have := hown.at_ _ h.symm; omega)).trans (Below.heap_alloc _ _ _ (by have := hg3.size; omega))) (fun b hb => (hg4.block b (by have := hg3.size; have := (hS b hb).2; simp; omega) (fun h => by have := hown.at_ _ h.symm; have := (hS b hb).2; omega)).trans (Below.heap_alloc _ _ _ (by have := hg3.size; have := (hS b hb).2; omega)))))
        have hb4 : Below w.heap.size w w4 := ((hb3.grown hg3 hb3.size (fun k hk => by injection hk with hk; have := hb1.size; omega)).alloc (by have := hg3.size; have := hb3.size; omega) _).grown hg4 (by have := hg3.size; have := hb3.size; simp; omega) (fun k hk => by have := hown.at_ _ hk; have := hb2'.size; omega)
        go_roundg (num rest).2.1.length
        case measure => exact hless
        case rel => exact ⟨l ++ [(num rest).1], (num rest).2.1, (num rest).2.2, rfl, hown4, hr4, hb4, by have h4 := hg4.size; have h3 := hg3.size; simp at h4; omega, HR2.out, by simp; omega⟩
      · have hnil : rest = [] := List.eq_nil_of_length_eq_zero (by omega)
        subst hnil
        by_cases herr : err = 0
        · subst herr
          have hall : bs = puts l ∧ PutOk l := by
            rcases HREL.out with ⟨_, h2, h3⟩ | ⟨h, _⟩
            · exact ⟨by simpa using h2, h3⟩
            · exact absurd rfl h
          have HA := Lib.hid hall; clear hall
          obtain ⟨A4, c4, rfl, hc4, hm4, _, _⟩ := hown.form
          obtain ⟨A5, c5, e5, _, _, _, hs5⟩ := (hown.val' no_lt).slice
          injection e5 with e6 e7 e8
          subst e6 e8
          have hs6 := (hs.below hb3).mono (Lt.le hb3.size)
          go_wp2_with (first | (go_at_call 32; refine (Left_any _ _ _ _ _ (by assumption)).mono ?_; rintro e w' ⟨rfl, rfl⟩) | (go_at_call 34; refine (Err_any _ _ _ _ _ (by assumption)).mono ?_; rintro e w' ⟨rfl, rfl⟩) | (go_at_call 35; refine (Put_any _ _ _ _ _ _ [] l _ No rfl rfl Sl.nil hs5 (by simp) (by omega)).mono ?_; rintro e w5 (⟨_, v5, rfl, hown5, hb5⟩ | ⟨h, _⟩); rotate_left; exact absurd HA.out.2 h; obtain ⟨A7, c7, rfl, _, _, _, hs7⟩ := (hown5.val' no_lt).slice; have hs8 := hs6.later hb5; have hs9 : Sl w5 (Lt w5.heap.size) A7 (puts l) := by simpa using hs7))
          refine (Bytes_any _ _ _ _ _ _ bs (puts l) _ _ _ rfl rfl hs8 hs9 (by omega) (by have := puts_len l; omega)).mono ?_
          rintro e w6 ⟨rfl, q, rfl⟩
          rw [show sameBytes bs (puts l) = true from by unfold sameBytes; rw [decide_eq_true_iff]; exact HA.out.1]
          go_wp2_with fail
          go_ret
          exact ⟨rfl, below_drewN (hb3.trans (hb5.mono hb3.size)) q⟩
        · have e0 : (err == 0) = false := beq_eq_false_iff_ne.2 herr
          have e1 : (err != 0) = true := bne_iff_ne.2 herr
          go_wp2_with (first | (go_at_call 32; refine (Left_any _ _ _ _ _ (by assumption)).mono ?_; rintro e w' ⟨rfl, rfl⟩) | (go_at_call 34; refine (Err_any _ _ _ _ _ (by assumption)).mono ?_; rintro e w' ⟨rfl, rfl⟩))
          go_ret
          exact ⟨rfl, hb3⟩

end Go.Proofs.Ytofboijlcjgnnaa
