import Derived.Test.YtofboijlcjgnnaaReply
set_option linter.unusedVariables false
namespace Go.Proofs.Ytofboijlcjgnnaa
open Go.RowKit

def rightReply (r : Reply) : Prop := (0 ≤ r.key ∧ r.key ≤ 1073741824) ∧ (0 ≤ r.err ∧ r.err ≤ 99) ∧ (0 ≤ r.job ∧ r.job ≤ 281474976710656) ∧ (0 ≤ r.version ∧ r.version ≤ 281474976710656) ∧ r.nums.length ≤ 64 ∧ PutOk r.nums
instance (l : List Int) : Decidable (PutOk l) := by unfold PutOk; exact inferInstance
instance (r : Reply) : Decidable (rightReply r) := by unfold rightReply; exact inferInstance

/-- the first k of the four numbers are right -/
def four (r : Reply) (k : Nat) : Prop := (0 < k → 0 ≤ r.key ∧ r.key ≤ 1073741824) ∧ (1 < k → 0 ≤ r.err ∧ r.err ≤ 99) ∧ (2 < k → 0 ≤ r.job ∧ r.job ≤ 281474976710656) ∧ (3 < k → 0 ≤ r.version ∧ r.version ≤ 281474976710656)

def RightPost (r : Reply) (w : World) (e : Ending) (w' : World) : Prop := e = .returned (.bool (decide (rightReply r))) ∧ Below w.heap.size w w'
theorem rightPost_no {r : Reply} {w w' : World} (h : ¬ rightReply r) (hb : Below w.heap.size w w') : RightPost r w (.returned (.bool false)) w' := ⟨by rw [decide_eq_false h], hb⟩
theorem rightPost_yes {r : Reply} {w w' : World} (h : rightReply r) (hb : Below w.heap.size w w') : RightPost r w (.returned (.bool true)) w' := ⟨by rw [decide_eq_true h], hb⟩

set_option maxHeartbeats 1000000 in
set_option maxRecDepth 100000 in
theorem replyRight_any (r : Reply) (v : Value) (w : World) (hv : V w (Lt w.heap.size) r v) (hl : r.nums.length ≤ 1000) :
    Calls Try.prog 29 #[v] w (RightPost r w) := by
  obtain ⟨A4, C4, rfl, a0, a1, a2, a3, al, am, an, asl⟩ := Reply.val hv
  clear hv
  have i0 : ∀ (x y z t : Value) (u : World), (Instr.index 93 (.agg #[x, y, z, t]) (.int .i64 0)).run Try.prog u = .ok x u := fun _ _ _ _ _ => by kernel_rfl
  have i1 : ∀ (x y z t : Value) (u : World), (Instr.index 93 (.agg #[x, y, z, t]) (.int .i64 1)).run Try.prog u = .ok y u := fun _ _ _ _ _ => by kernel_rfl
  have i2 : ∀ (x y z t : Value) (u : World), (Instr.index 93 (.agg #[x, y, z, t]) (.int .i64 2)).run Try.prog u = .ok z u := fun _ _ _ _ _ => by kernel_rfl
  have i3 : ∀ (x y z t : Value) (u : World), (Instr.index 93 (.agg #[x, y, z, t]) (.int .i64 3)).run Try.prog u = .ok t u := fun _ _ _ _ _ => by kernel_rfl
  go_enter Try.func29, Try.ntmps29
  go_wp2_with (first | (go_at_call 82; refine (greatest_any _).mono ?_; rintro e w1 ⟨rfl, hb1⟩; have g0 : w1.cell? ⟨w.heap.size, 0, none⟩ = some (.int .i64 r.key) := (hb1.cell (by simp)).trans (by simp); have g1 : w1.cell? ⟨w.heap.size, 1, none⟩ = some (.int .i64 r.err) := (hb1.cell (by simp)).trans (by simp); have g2 : w1.cell? ⟨w.heap.size, 2, none⟩ = some (.int .i64 r.job) := (hb1.cell (by simp)).trans (by simp); have g3 : w1.cell? ⟨w.heap.size, 3, none⟩ = some (.int .i64 r.version) := (hb1.cell (by simp)).trans (by simp); have g4 : w1.cell? ⟨w.heap.size, 4, none⟩ = some (.slice A4 r.nums.length C4) := (hb1.cell (by simp)).trans (by simp); have hz1 : w.heap.size < w1.heap.size := by (have := hb1.size; simp at this; omega)) | (go_at_call 83; refine (first_any _ _ _ _ _ _).mono ?_; rintro e w2 ⟨rfl, hb2⟩))
  have hB : Below w.heap.size w w2 := ((((Below.refl w.heap.size w).alloc (Nat.le_refl _) _).trans (hb1.mono (by simp))).alloc (by omega) _).trans (hb2.mono (by simp; omega))
  have m0 : w2.cell? ⟨w1.heap.size, 0, none⟩ = some (.int .i64 1073741824) := (hb2.cell (by simp)).trans (by simp)
  have m1 : w2.cell? ⟨w1.heap.size, 1, none⟩ = some (.int .i64 99) := (hb2.cell (by simp)).trans (by simp)
  have m2 : w2.cell? ⟨w1.heap.size, 2, none⟩ = some (.int .i64 281474976710656) := (hb2.cell (by simp)).trans (by simp)
  have m3 : w2.cell? ⟨w1.heap.size, 3, none⟩ = some (.int .i64 281474976710656) := (hb2.cell (by simp)).trans (by simp)
  have m4 : w2.cell? ⟨w.heap.size, 4, none⟩ = some (.slice A4 r.nums.length C4) := (hb2.cell (by simp; omega)).trans (by rw [World.cell?_alloc_lt _ _ _ (by simp; omega)]; exact g4)
  have asl2 := asl.below hB
  clear g0 g1 g2 g3 g4 hb1 hb2
  have HB := Lib.hid hB; clear hB
  go_loop [11] (fun i => ∃ k : Nat, k ≤ 4 ∧ i = .int .i64 k ∧ four r k) (fun i => 4 - (intOf i).toNat)
  case atStart => exact ⟨0, by omega, rfl, by simp [four]⟩
  case round =>
    obtain ⟨k, hk, rfl, hf⟩ := hrel
    have HF := Lib.hid hf; clear hf
    rcases (by omega : k = 0 ∨ k = 1 ∨ k = 2 ∨ k = 3 ∨ k = 4) with rfl | rfl | rfl | rfl | rfl
    · by_cases ho : 0 ≤ r.key ∧ r.key ≤ 1073741824
      · obtain ⟨ho1, ho2⟩ := ho
        simp only [Int.natCast_zero]
        go_wp2
        go_round
        case rel => exact ⟨1, by omega, rfl, by have := HF.out; unfold four at this ⊢; omega⟩
        case measure => simp [intOf]
      · have hn : ¬ rightReply r := fun h => ho (by unfold rightReply at h; omega)
        have HN := Lib.hid hn; clear hn
        rcases (by omega : r.key < 0 ∨ (0 ≤ r.key ∧ 1073741824 < r.key)) with h1 | ⟨h1, h2⟩
        all_goals
          clear ho
          simp only [Int.natCast_zero]
          go_wp2
          go_ret
          exact rightPost_no HN.out HB.out
    · by_cases ho : 0 ≤ r.err ∧ r.err ≤ 99
      · obtain ⟨ho1, ho2⟩ := ho
        simp only [Int.natCast_one]
        go_wp2
        go_round
        case rel => exact ⟨2, by omega, rfl, by have := HF.out; unfold four at this ⊢; omega⟩
        case measure => simp [intOf]
      · have hn : ¬ rightReply r := fun h => ho (by unfold rightReply at h; omega)
        have HN := Lib.hid hn; clear hn
        rcases (by omega : r.err < 0 ∨ (0 ≤ r.err ∧ 99 < r.err)) with h1 | ⟨h1, h2⟩
        all_goals
          clear ho
          simp only [Int.natCast_one]
          go_wp2
          go_ret
          exact rightPost_no HN.out HB.out
    · by_cases ho : 0 ≤ r.job ∧ r.job ≤ 281474976710656
      · obtain ⟨ho1, ho2⟩ := ho
        simp only [Int.cast_ofNat_Int]
        go_wp2
        go_round
        case rel => exact ⟨3, by omega, rfl, by have := HF.out; unfold four at this ⊢; omega⟩
        case measure => simp [intOf]
      · have hn : ¬ rightReply r := fun h => ho (by unfold rightReply at h; omega)
        have HN := Lib.hid hn; clear hn
        rcases (by omega : r.job < 0 ∨ (0 ≤ r.job ∧ 281474976710656 < r.job)) with h1 | ⟨h1, h2⟩
        all_goals
          clear ho
          simp only [Int.cast_ofNat_Int]
          go_wp2
          go_ret
          exact rightPost_no HN.out HB.out
    · by_cases ho : 0 ≤ r.version ∧ r.version ≤ 281474976710656
      · obtain ⟨ho1, ho2⟩ := ho
        simp only [Int.cast_ofNat_Int]
        go_wp2
        go_round
        case rel => exact ⟨4, by omega, rfl, by have := HF.out; unfold four at this ⊢; omega⟩
        case measure => simp [intOf]
      · have hn : ¬ rightReply r := fun h => ho (by unfold rightReply at h; omega)
        have HN := Lib.hid hn; clear hn
        rcases (by omega : r.version < 0 ∨ (0 ≤ r.version ∧ 281474976710656 < r.version)) with h1 | ⟨h1, h2⟩
        all_goals
          clear ho
          simp only [Int.cast_ofNat_Int]
          go_wp2
          go_ret
          exact rightPost_no HN.out HB.out
    · simp only [Int.cast_ofNat_Int]
      by_cases h64 : r.nums.length ≤ 64
      · go_wp2_with fail
        go_loop [32] (fun i => ∃ k : Nat, k ≤ r.nums.length ∧ i = .int .i64 k ∧ PutOk (r.nums.take k)) (fun i => r.nums.length - (intOf i).toNat)
        case atStart => exact ⟨0, Nat.zero_le _, rfl, by simp [PutOk]⟩
        case round =>
          obtain ⟨k, hk, rfl, hok⟩ := hrel
          by_cases hlt : k < r.nums.length
          · obtain ⟨ad, x, rfl, hx, hcx, hx1, hx2⟩ := asl2.int hlt
            have HX := Lib.hid hx; have HOK := Lib.hid hok; clear hx hok
            by_cases hv : 0 ≤ x ∧ x ≤ 281474976710656
            · obtain ⟨hv1, hv2⟩ := hv
              go_wp2
              go_round
              case rel => exact ⟨k + 1, by omega, by go_num, putOk_step HOK.out HX.out ⟨hv1, hv2⟩⟩
              case measure => simp [intOf]; omega
            · have hn : ¬ rightReply r := fun h => hv (h.2.2.2.2.2 x (List.mem_of_getElem? HX.out))
              have HN := Lib.hid hn; clear hn
              rcases (by omega : x < 0 ∨ 281474976710656 < x) with hv' | hv'
              all_goals
                clear hv
                go_wp2
                go_ret
                exact rightPost_no HN.out HB.out
          · have hall : PutOk r.nums := by rwa [List.take_of_length_le (by omega)] at hok
            have HALL := Lib.hid hall; clear hok hall
            go_wp2
            go_ret
            exact rightPost_yes (by have := HF.out; unfold four at this; exact ⟨this.1 (by omega), this.2.1 (by omega), this.2.2.1 (by omega), this.2.2.2 (by omega), h64, HALL.out⟩) HB.out
      · have hn : ¬ rightReply r := fun h => h64 h.2.2.2.2.1
        have HN := Lib.hid hn; clear hn
        go_wp2
        go_ret
        exact rightPost_no HN.out HB.out

end Go.Proofs.Ytofboijlcjgnnaa
