import Derived.Test.YtofboijlcjgnnaaClones
set_option linter.unusedVariables false
namespace Go.Proofs.Ytofboijlcjgnnaa
open Go.RowKit

/-- the bytes of a number -/
def vb : Nat → Nat → List UInt8
  | 0, n => [UInt8.ofNat n]
  | f + 1, n => if n < 128 then [UInt8.ofNat n] else UInt8.ofNat (n % 128 + 128) :: vb f (n / 128)
def vbytes (z : Int) : List UInt8 := vb 8 z.toNat

theorem vb_more : ∀ (f n : Nat), n < 128 ^ (f + 1) → vb (f + 1) n = vb f n
  | 0, n, h => by simp [vb] at h ⊢; omega
  | f + 1, n, h => by
    have e := vb_more f (n / 128) (by rw [Nat.pow_succ] at h; omega)
    rw [vb]
    conv => rhs; rw [vb]
    rw [e]
theorem vb_length : ∀ (f n : Nat), (vb f n).length ≤ f + 1
  | 0, n => by simp [vb]
  | f + 1, n => by
    rw [vb]
    split
    · simp
    · have := vb_length f (n / 128); simp; omega
theorem vbytes_small {z : Int} (h0 : 0 ≤ z) (h : z < 128) : vbytes z = [UInt8.ofNat z.toNat] := by
  unfold vbytes
  rw [vb, if_pos (by omega)]
theorem vbytes_big {z : Int} (h0 : 128 ≤ z) (h : z ≤ 281474976710656) : vbytes z = UInt8.ofNat (z % 128 + 128).toNat :: vbytes (z / 128) := by
  unfold vbytes
  have hz : z.toNat / 128 < 128 ^ (7 + 1) := by
    have : z.toNat ≤ 281474976710656 := by omega
    have e : (128 : Nat) ^ (7 + 1) = 72057594037927936 := by decide
    omega
  rw [vb, if_neg (by omega), show (z / 128).toNat = z.toNat / 128 by omega, show (z % 128 + 128).toNat = z.toNat % 128 + 128 by omega, vb_more 7 _ hz]

/-- all may be put -/
def PutOk (l : List Int) : Prop := ∀ z ∈ l, 0 ≤ z ∧ z ≤ 281474976710656
def puts (l : List Int) : List UInt8 := l.flatMap vbytes
theorem puts_len : ∀ (l : List Int), (puts l).length ≤ 9 * l.length
  | [] => by simp [puts]
  | z :: l => by
    have h1 := puts_len l
    have h2 := vb_length 8 z.toNat
    simp only [puts, List.flatMap_cons, List.length_append, List.length_cons] at h1 ⊢
    unfold vbytes at *
    omega
theorem puts_snoc (l : List Int) (z : Int) : puts (l ++ [z]) = puts l ++ vbytes z := by simp [puts]

theorem putOk_step {l : List Int} {k : Nat} {x : Int} (h : PutOk (l.take k)) (hx : l[k]? = some x) (hv : 0 ≤ x ∧ x ≤ 281474976710656) : PutOk (l.take (k + 1)) := by
  have e : l.take (k + 1) = l.take k ++ [x] := by rw [List.take_add_one, hx]; rfl
  intro z hz
  rw [e] at hz
  rcases List.mem_append.1 hz with hz | hz
  · exact h z hz
  · simp at hz; subst hz; exact hv
theorem src_byte {w : World} {B : Nat → Prop} {g : Nat} {t : TypeId} {x : Int} (h : Blk w g t [.int .u8 x]) (h0 : 0 ≤ x) (h1 : x ≤ 255) : Src w B (some ⟨g, 0, none⟩) [UInt8.ofNat x.toNat] :=
  Src.blk h (Rs.single (by show _ = [Value.int .u8 ((UInt8.ofNat x.toNat).toNat : Int)]; rw [UInt8.toNat_ofNat']; congr 2; omega))

def PutPost (b : List UInt8) (l : List Int) (w : World) (e : Ending) (w' : World) : Prop :=
  (PutOk l ∧ ∃ v, e = .returned (.tuple #[v, .int .i64 0]) ∧ Own w.heap.size 5 w' No v (b ++ puts l) ∧ Below w.heap.size w w') ∨
  (¬ PutOk l ∧ e = .returned (.tuple #[.slice none 0 0, .int .i64 2]) ∧ w = w')

set_option maxRecDepth 100000 in
theorem Put_any (A C : Option Addr) (n c m d : Nat) (b : List UInt8) (l : List Int) (w : World) (B1 : Nat → Prop) (hn : n = b.length) (hm : m = l.length) (hb : Sl w B1 A b) (hl : Sl w (Lt w.heap.size) C l) (h1 : b.length ≤ 1048576) (h2 : l.length ≤ 1048576) :
    Calls Try.prog 35 #[.slice A n c, .slice C m d] w (PutPost b l w) := by
  subst hn hm
  go_enter Try.func35, Try.ntmps35
  go_wp2
  go_loop [13] (fun i => ∃ k : Nat, k ≤ l.length ∧ i = .int .i64 k ∧ PutOk (l.take k)) (fun i => l.length - (intOf i).toNat)
  case atStart => exact ⟨0, Nat.zero_le _, rfl, by simp [PutOk]⟩
  case round =>
    obtain ⟨k, hk, rfl, hok⟩ := hrel
    by_cases hlt : k < l.length
    · obtain ⟨ad, x, rfl, hx, hcx, hx1, hx2⟩ := hl.int hlt
      have HX := Lib.hid hx; have HOK := Lib.hid hok; clear hx hok
      by_cases hv : 0 ≤ x ∧ x ≤ 281474976710656
      · obtain ⟨hv1, hv2⟩ := hv
        go_wp2
        go_round
        case rel => exact ⟨k + 1, by omega, by go_num, putOk_step HOK.out HX.out ⟨hv1, hv2⟩⟩
        case measure => simp [intOf]; omega
      · have HV := Lib.hid hv
        rcases (by omega : x < 0 ∨ 281474976710656 < x) with hv' | hv'
        all_goals
          clear hv
          go_wp2
          go_ret2
          exact .inr ⟨fun h => HV.out (h x (List.mem_of_getElem? HX.out)), rfl, rfl⟩
    · have hall : PutOk l := by rwa [List.take_of_length_le (by omega)] at hok
      have HOK := Lib.hid hall; clear hok hall
      go_wp2_with (go_at_call 86; refine (clone_bytes _ _ _ b _ No rfl hb.srcF no_lt (by omega)).mono ?_; rintro e w1 ⟨v1, rfl, hown1, hb1⟩)
      go_loopw [8, 28] (fun v i wr => ∃ k : Nat, k ≤ l.length ∧ i = .int .i64 k ∧ Own w.heap.size 5 wr No v (b ++ puts (l.take k)) ∧ Below w.heap.size w wr) (fun _ i _ => l.length - (intOf i).toNat)
      case atStart => exact ⟨0, Nat.zero_le _, rfl, by simpa [puts] using hown1, hb1⟩
      case round =>
        clear hown1 hb1
        obtain ⟨k, hk, rfl, hown, hbel⟩ := hrel
        by_cases hlt : k < l.length
        · obtain ⟨ad, x, rfl, hx, hcx, hx1, hx2⟩ := (hl.below hbel).int hlt
          have hxx := HOK.out x (List.mem_of_getElem? hx)
          have hpl := puts_len (l.take k)
          have hkl : (l.take k).length ≤ k := List.length_take_le _ _
          have HX := Lib.hid hx; clear hx
          go_wp2_with fail
          go_loopw [8, 10] (fun v n wr => ∃ (pre : List UInt8) (y : Int), n = .int .i64 y ∧ 0 ≤ y ∧ y ≤ 281474976710656 ∧ vbytes x = pre ++ vbytes y ∧ Own w.heap.size 5 wr No v (b ++ puts (l.take k) ++ pre) ∧ Below w.heap.size w wr) (fun _ n _ => (intOf n).toNat)
          case atStart => exact ⟨[], x, rfl, hxx.1, hxx.2, rfl, by simpa using hown, hbel⟩
          case round =>
            clear hown hbel hcx
            obtain ⟨pre, y, rfl, hy0, hy1, hpre, hown, hbel⟩ := hrel
            have hpr : pre.length ≤ 9 := by
              have := congrArg List.length hpre
              have h9 := vb_length 8 x.toNat
              unfold vbytes at this
              simp at this
              omega
            have hsz := hbel.size
            have HP := Lib.hid hpre; clear hpre
            by_cases hge : 128 ≤ y
            · go_wp2_with (at_builtin; refine wpList_app _ rfl (.tmp 34) (.tmp 39) _ rfl el_bytes (v := u8) rfl (hown.alloc _ no_lt) rfl rfl (src_byte (Blk.new' rfl) (by omega) (by omega)) (fun _ h => h.elim) (by simp; omega) (by simp; omega) ?_; intro v2 w2 hown2 hg2 _)
              have hbel2 : Below w.heap.size w w2 := below_app (hbel.alloc hsz _) hg2 hown.at_ (Nat.le_refl _)
              go_roundw
              case rel => exact ⟨pre ++ [UInt8.ofNat (y % 128 + 128).toNat], y / 128, rfl, by omega, by omega, by rw [HP.out, vbytes_big hge hy1]; simp, by simpa using hown2, hbel2⟩
              case measure => simp [intOf]; omega
            · go_wp2_with (at_builtin; refine wpList_app _ rfl (.tmp 43) (.tmp 46) _ rfl el_bytes (v := u8) rfl (hown.alloc _ no_lt) rfl rfl (src_byte (Blk.new' rfl) (by omega) (by omega)) (fun _ h => h.elim) (by simp; omega) (by simp; omega) ?_; intro v2 w2 hown2 hg2 _)
              have hbel2 : Below w.heap.size w w2 := below_app (hbel.alloc hsz _) hg2 hown.at_ (Nat.le_refl _)
              go_roundw
              case rel =>
                refine ⟨k + 1, by omega, by go_num, ?_, hbel2⟩
                rw [List.take_add_one, HX.out, Option.toList_some, puts_snoc, HP.out, vbytes_small hy0 (by omega)]
                simpa using hown2
              case measure => simp [intOf]; omega
        · go_wp2
          go_ret2
          refine .inl ⟨HOK.out, _, rfl, ?_, hbel⟩
          rwa [List.take_of_length_le (by omega)] at hown
end Go.Proofs.Ytofboijlcjgnnaa
