/-
  The statement LotSays is proved here: whatever its arguments, the call gives true; under the conditions that the given statement itself names. (Many texts laid together by program.)
-/
import Derived.Test.YtpogjlhgbdpnbaaGreatDoorPkSx
import Derived.KernelRfl
import Derived.Lib.LaidTab
import Derived.SizedLaws
import Derived.ShapedOpen
import Derived.Test.YtpogjlhgbdpnbaaGreatDoorRows
import Derived.Test.YtpogjlhgbdpnbaaGreatDoorCards
import Derived.Test.YtpogjlhgbdpnbaaGreatDoorTie
import Derived.WalkKit
import Derived.ProofKit
import Derived.OpenShut
import Derived.LaidMore
import Derived.Lay
import Derived.SevenTiedAt
import Derived.Stop.Joined
import Derived.Below
import Derived.Carry
import Derived.Stop.LaidErr
set_option linter.unnecessarySimpa false
set_option linter.unusedSimpArgs false
set_option linter.unusedVariables false
section
namespace Go.Proofs.YtpogjlhgbdpnbaaGreatDoor
namespace NM
open AM
set_option maxHeartbeats 2000000 in
theorem w_event (e : (Int × (Int × (Request × ((List Int) × (Int × (Bool × (Int × Bool)))))))) (hq : e.1 = 1 → rightQ e.2.2.1 = true) (h : SaysE e) : f37 (wordsE e, false) = some (e, (([], false), ())) := by
 unfold f37 F37 wordsE
 rw [w_verb _ h.k1 h.k2]
 obtain ⟨h1, h2, h3, h4, h5, h6, h7, h8, h9, h10⟩ := h
 obtain ⟨k, u, r, bs, n, kp, j, ok⟩ := e
 simp only at hq h1 h2 h3 h4 h5 h6 h7 h8 h9 h10
 have n1 := fun ws b => w_number _ h3 ws b
 have n2 := fun ws b => w_number _ h4 ws b
 have n3 := fun ws b => w_number _ h5 ws b
 rcases ten h1 h2 with rfl | rfl | rfl | rfl | rfl | rfl | rfl | rfl | rfl | rfl
 · simp only [onlyE, if_true, Prod.mk.injEq, true_and] at h6
   obtain ⟨rfl, rfl, rfl, rfl, rfl⟩ := h6
   simp only [argsE, if_true, Option.bind_some, decide_true, cond_true, n1, w_request r (hq rfl) (h7 rfl)]
 · simp only [onlyE, Int.reduceEq, if_false, if_true, Prod.mk.injEq, true_and] at h6
   obtain ⟨rfl, rfl, rfl, rfl, rfl⟩ := h6
   simp only [argsE, Int.reduceEq, if_false, if_true, Option.bind_some, decide_true, decide_false, cond_true, cond_false, n1, w_hex bs (h9 rfl) h10]
   rfl
 · simp only [onlyE, Int.reduceEq, if_false, if_true, true_or, Prod.mk.injEq, true_and] at h6
   obtain ⟨rfl, rfl, rfl, rfl⟩ := h6
   cases kp with
   | true =>
     simp only [argsE, Int.reduceEq, if_false, if_true, true_or, Option.bind_some, decide_true, decide_false, cond_true, cond_false, n1, n2, w_more, p_next_cons]
     rfl
   | false =>
     simp only [argsE, Int.reduceEq, Bool.false_eq_true, if_false, if_true, true_or, Option.bind_some, decide_true, decide_false, cond_true, cond_false, n1, n2, w_more_no]
     rfl
 · simp only [onlyE, Int.reduceEq, if_false, if_true, true_or, or_false, Prod.mk.injEq, true_and] at h6
   obtain ⟨rfl, rfl, rfl, rfl, rfl⟩ := h6
   simp only [argsE, Int.reduceEq, if_false, if_true, true_or, or_false, Option.bind_some, decide_true, decide_false, cond_true, cond_false, n1, n2]
   rfl
 · simp only [onlyE, Int.reduceEq, if_false, or_false, Prod.mk.injEq, true_and] at h6
   obtain ⟨rfl, rfl, rfl, rfl, rfl, rfl, rfl⟩ := h6
   simp only [argsE, Int.reduceEq, if_false, or_false, Option.bind_some, decide_false, cond_false]
   rfl
 · simp only [onlyE, Int.reduceEq, if_false, or_false, Prod.mk.injEq, true_and] at h6
   obtain ⟨rfl, rfl, rfl, rfl, rfl, rfl, rfl⟩ := h6
   simp only [argsE, Int.reduceEq, if_false, or_false, Option.bind_some, decide_false, cond_false]
   rfl
 · simp only [onlyE, Int.reduceEq, if_false, or_false, Prod.mk.injEq, true_and] at h6
   obtain ⟨rfl, rfl, rfl, rfl, rfl, rfl, rfl⟩ := h6
   simp only [argsE, Int.reduceEq, if_false, or_false, Option.bind_some, decide_false, cond_false]
   rfl
 · simp only [onlyE, Int.reduceEq, if_false, or_false, if_true, Prod.mk.injEq, true_and, and_true] at h6
   obtain ⟨rfl, rfl, rfl, rfl, rfl⟩ := h6
   cases ok with
   | true =>
     simp only [argsE, Int.reduceEq, if_false, if_true, or_false, Option.bind_some, decide_true, decide_false, cond_true, cond_false, n3, p_next_cons]
     rfl
   | false =>
     simp only [argsE, Int.reduceEq, Bool.false_eq_true, if_false, if_true, or_false, Option.bind_some, decide_true, decide_false, cond_true, cond_false, n3, p_next_cons]
     rfl
 · simp only [onlyE, Int.reduceEq, if_false, if_true, or_true, Prod.mk.injEq, true_and] at h6
   obtain ⟨rfl, rfl, rfl, rfl⟩ := h6
   cases kp with
   | true =>
     simp only [argsE, Int.reduceEq, if_false, if_true, or_true, Option.bind_some, decide_true, decide_false, cond_true, cond_false, n1, n2, w_more, p_next_cons]
     rfl
   | false =>
     simp only [argsE, Int.reduceEq, Bool.false_eq_true, if_false, if_true, or_true, Option.bind_some, decide_true, decide_false, cond_true, cond_false, n1, n2, w_more_no]
     rfl
 · simp only [onlyE, Int.reduceEq, if_false, if_true, or_true, or_false, Prod.mk.injEq, true_and] at h6
   obtain ⟨rfl, rfl, rfl, rfl, rfl⟩ := h6
   simp only [argsE, Int.reduceEq, if_false, if_true, or_true, or_false, Option.bind_some, decide_true, decide_false, cond_true, cond_false, n1, n2]
   rfl
def noB (w : List UInt8) : Prop := (32 : UInt8) ∉ w
theorem noB_app {a b : List UInt8} (ha : noB a) (hb : noB b) : noB (a ++ b) := fun h => (List.mem_append.1 h).elim ha hb
theorem noB_cons {c : UInt8} {b : List UInt8} (hc : c ≠ 32) (hb : noB b) : noB (c :: b) := fun h => (List.mem_cons.1 h).elim (fun e => hc e.symm) hb
theorem noB_nil : noB [] := by simp [noB]
theorem noB_dec (n : Nat) : noB (Lib.decDigits n) := fun h => absurd (dec_dig n _ h).1 (by decide)
theorem noB_dg (x : Int) : noB (dg x) := noB_dec _
theorem noB_dd (k : Nat) (h : k < 100) : noB (dd k) := by
 have h1 := dig_of (show k / 10 < 10 by omega)
 have h2 := dig_of (show k % 10 < 10 by omega)
 have e32 : (32 : UInt8).toNat = 32 := rfl
 refine noB_cons (fun e => ?_) (noB_cons (fun e => ?_) noB_nil)
 · have := congrArg UInt8.toNat e; omega
 · have := congrArg UInt8.toNat e; omega
theorem noB_wall (n : Int) (h0 : 0 ≤ n) (h1 : n ≤ 65536) : noB (wallW n) := by
 unfold wallW txt
 refine noB_app ?_ (noB_cons (by decide) (noB_app (noB_dd _ (by omega)) (noB_cons (by decide) (noB_dd _ (by omega)))))
 unfold hd
 split
 · rename_i h
   have h1 := dig_of h
   have e32 : (32 : UInt8).toNat = 32 := rfl
   exact noB_cons (fun e => by have := congrArg UInt8.toNat e; omega) noB_nil
 · exact noB_dd _ (by omega)
theorem noB_wd (k : Nat) : noB (wd k) := by unfold wd; split <;> (unfold noB; decide)
theorem noB_item (k n : Nat) : noB (item k n) := noB_app (noB_wd k) (noB_cons (by decide) (noB_dec n))
theorem noB_join : ∀ (l : List (List UInt8)), (∀ x ∈ l, noB x) → noB (Lib.join l [44])
 | [], _ => noB_nil
 | x :: l, h => by
   rw [Lib.join_cons]
   refine noB_app (h x (by simp)) ?_
   unfold Lib.joinTail
   intro hm
   rw [List.mem_flatten] at hm
   obtain ⟨y, hy, hm⟩ := hm
   obtain ⟨z, hz, rfl⟩ := List.mem_map.1 hy
   exact noB_app (noB_cons (by decide) noB_nil) (h z (by simp [hz])) hm
theorem noB_items (r : Nat → Nat) : ∀ m, ∀ x ∈ itemsF r m, noB x
 | 0, x, hx => by simp [itemsF] at hx
 | m + 1, x, hx => by
   simp only [itemsF] at hx
   split at hx
   · exact noB_items r m x hx
   · rcases List.mem_cons.1 hx with rfl | hx
     · exact noB_item _ _
     · exact noB_items r m x hx
theorem noB_need (a : Res) : noB (needW a) := by
 unfold needW txtU
 split
 · unfold noB; decide
 · exact noB_join _ (noB_items _ _)
theorem hx_no : ∀ d : Fin 16, hx d.val ≠ 32 := by decide
theorem noB_hex : ∀ (l : List Int), byteL l → noB (hexW l)
 | [], _ => noB_nil
 | z :: l, h => by
   have hz := h z (by simp)
   have e : hexW (z :: l) = hx (z.toNat / 16) :: hx (z.toNat % 16) :: hexW l := rfl
   rw [e]
   exact noB_cons (hx_no ⟨z.toNat / 16, by omega⟩) (noB_cons (hx_no ⟨z.toNat % 16, by omega⟩) (noB_hex l fun y hy => h y (by simp [hy])))
theorem noB_dep (d : Dep) : noB (depW d) := by
 unfold depW
 split
 · exact noB_app (noB_dg _) (noB_cons (by decide) noB_nil)
 · exact noB_dg _
theorem noB_kind (k : Int) : noB (kindW k) := by
 unfold kindW
 have : ∀ {c : Prop} [Decidable c] {a b : List UInt8}, noB a → noB b → noB (if c then a else b) := fun ha hb => by split <;> assumption
 repeat refine this (by unfold noB; decide) ?_
 exact noB_nil
theorem noB_verb (k : Int) : noB (verbW k) := by
 unfold verbW
 have : ∀ {c : Prop} [Decidable c] {a b : List UInt8}, noB a → noB b → noB (if c then a else b) := fun ha hb => by split <;> assumption
 repeat refine this (by unfold noB; decide) ?_
 exact noB_nil
theorem noB_rest (r : Request) (h : SaysQ r) : ∀ x ∈ restW r, noB x := by
 have hw := noB_wall _ h.w0 h.w1
 have hn := noB_need r.need
 unfold restW
 split
 · intro x hx
   rw [List.mem_append] at hx
   rcases hx with hx | hx
   · simp only [List.mem_cons, List.not_mem_nil, or_false] at hx
     rcases hx with rfl | rfl | rfl | rfl | rfl
     · exact noB_dg _
     · exact noB_dg _
     · exact hn
     · exact hw
     · exact noB_dg _
   · obtain ⟨d, _, rfl⟩ := List.mem_map.1 hx
     exact noB_dep d
 split
 · intro x hx
   simp only [List.mem_cons, List.not_mem_nil, or_false] at hx
   rcases hx with rfl | rfl | rfl | rfl | rfl
   · exact noB_dg _
   · exact noB_dg _
   · exact noB_dg _
   · exact hn
   · exact hw
 repeat' split
 all_goals
   intro x hx
   simp only [List.mem_cons, List.not_mem_nil, or_false] at hx
 · rcases hx with rfl | rfl <;> exact noB_dg _
 · rcases hx with rfl | rfl | rfl <;> exact noB_dg _
 · rcases hx with rfl <;> exact noB_dg _
 · rcases hx with rfl <;> exact noB_dg _
 · rcases hx with rfl | rfl | rfl <;> exact noB_dg _
 · rcases hx with rfl <;> exact noB_dg _
theorem noB_args (e : (Int × (Int × (Request × ((List Int) × (Int × (Bool × (Int × Bool)))))))) (h : SaysE e) : ∀ x ∈ argsE e, noB x := by
 unfold argsE
 split
 · rename_i hk
   intro x hx
   simp only [reqW, List.mem_cons] at hx
   rcases hx with rfl | rfl | rfl | hx
   · exact noB_dg _
   · exact noB_kind _
   · exact noB_dg _
   · exact noB_rest _ (h.req hk) x hx
 split
 · intro x hx
   simp only [List.mem_cons, List.not_mem_nil, or_false] at hx
   rcases hx with rfl | rfl
   · exact noB_dg _
   · exact noB_hex _ h.byte
 have hk : noB keepW := by unfold noB; decide
 have ho : noB okW := by unfold noB; decide
 have hf : noB failW := by unfold noB; decide
 repeat' split
 all_goals
   intro x hx
   simp only [List.mem_cons, List.not_mem_nil, or_false] at hx
 · rcases hx with rfl | rfl | rfl
   · exact noB_dg _
   · exact noB_dg _
   · exact hk
 · rcases hx with rfl | rfl <;> exact noB_dg _
 · rcases hx with rfl | rfl <;> exact noB_dg _
 · rcases hx with rfl | rfl
   · exact noB_dg _
   · exact ho
 · rcases hx with rfl | rfl
   · exact noB_dg _
   · exact hf
theorem TL_len : ∀ (l : List (List UInt8)) (M : Nat), (∀ w ∈ l, w.length ≤ M) → (TL l).length ≤ (M + 1) * l.length
 | [], M, _ => by simp [TL_nil]
 | w :: l, M, h => by
   have h1 := TL_len l M (fun x hx => h x (by simp [hx]))
   have h2 := h w (by simp)
   simp only [TL_cons, List.length_cons, List.length_append, Nat.mul_add, Nat.mul_one]
   omega
theorem line_len (e : (Int × (Int × (Request × ((List Int) × (Int × (Bool × (Int × Bool)))))))) (h : SaysE e) : (lineE e).length ≤ 2000 := by
 have hv := verbW_len e.1
 have h1 := (dg_len _ h.user).2
 have h2 := (dg_len _ h.n).2
 have h3 := (dg_len _ h.job).2
 unfold lineE argsE
 rw [List.length_append]
 split
 · rename_i hk
   obtain ⟨q1, q2⟩ := restW_len _ (h.req hk)
   have q3 := kindW_len e.2.2.1.kind
   have q4 := (dg_len _ (h.req hk).key).2
   have q5 := TL_len _ 48 q2
   simp only [reqW, TL_cons, List.length_append, List.length_cons]
   omega
 split
 · rename_i hk
   have := h.len2 hk
   have hh := hexW_len e.2.2.2.1
   simp only [TL_cons, TL_nil, List.length_append, List.length_cons, List.length_nil]
   omega
 have hk : keepW.length = 4 := rfl
 have ho : okW.length = 2 := rfl
 have hf : failW.length = 6 := rfl
 repeat' split
 all_goals
   simp only [TL_cons, TL_nil, List.length_append, List.length_cons, List.length_nil]
   omega
theorem p_Read_can (e : (Int × (Int × (Request × ((List Int) × (Int × (Bool × (Int × Bool)))))))) (he : litE e) (hc : canB e = true) : f13 (lineE e) = some (e, 0, ()) := by
 have hs := saysE_of hc he.2.2
 have hq : e.1 = 1 → rightQ e.2.2.1 = true := fun h => by
   have h7 := hc
   simp only [canB, Bool.and_eq_true, decide_eq_true_eq] at h7
   have h7 := h7.2.2.2.2.2.2
   rw [if_pos h] at h7
   simp only [Bool.and_eq_true] at h7
   exact h7.1
 unfold f13 F13
 rw [p_Split _ (line_len e hs)]
 simp only [Option.bind_some]
 have h1 : Lib.splitK [32] 0 (Lib.count (lineE e) [32]) (lineE e) = wordsE e := split_words (argsE e) (verbW e.1) (noB_verb _) (noB_args e hs)
 rw [h1, w_event e hq hs]
 simp only [Option.bind_some, cond_false, p_Line e he, hc, if_true, decide_true, Bool.not_true]
 rfl
end NM
end Go.Proofs.YtpogjlhgbdpnbaaGreatDoor
end
section
namespace Go.Proofs.YtpogjlhgbdpnbaaGreatDoor
instance : Lay UInt64 where
 n := 1
 agg := false
 pos := Nat.one_pos
 R _ _ x cs := cs = [.int .u64 (x.toNat : Int)]
 size h := by rw [h]; rfl
 one h u hu := by rw [h] at hu; simp at hu; subst hu; rfl
 keep _ h := h
 mono _ h := h
theorem rd_u64 {P : Program} {t : TypeId} (ht : P.underlying t = some (.int .u64)) : Rd P t UInt64 := fun h => by
 obtain ⟨n, rfl, _, hw⟩ := DataW.trod_int ht h
 have hb : 0 ≤ n ∧ n ≤ 18446744073709551615 := by simpa [Lit.wf, IntKind.min, IntKind.max, IntKind.signed, IntKind.bits] using hw
 refine ⟨UInt64.ofNat n.toNat, ?_⟩
 show _ = [Value.int .u64 ((UInt64.ofNat n.toNat).toNat : Int)]
 rw [UInt64.toNat_ofNat']
 congr 2
 omega
instance : Flat UInt64 := ⟨fun h => h⟩
namespace AM
instance : Enc UInt64 where
 cells x := [.int .u64 (x.toNat : Int)]
 ok h _ := by
   have h : _ = _ := h
   rw [h]; exact one_cell (.int _ _)
end AM
namespace NM
open AM
instance : Rng UInt64 := ⟨fun _ => True, fun _ => trivial⟩
instance : NEnc UInt64 (.int .u64) := ⟨fun x => (x.toNat : Int), fun x => .single (.int _ _), rfl, rfl⟩
end NM
end Go.Proofs.YtpogjlhgbdpnbaaGreatDoor
end
section
namespace Go.Proofs.YtpogjlhgbdpnbaaGreatDoor
namespace lotSays
open NM AM
theorem awake48 : f22 = some true := by kernel_rfl
theorem wu64_range (x : Int) : 0 ≤ IntKind.wrap .u64 x := by
 have e : IntKind.wrap .u64 x = x % 18446744073709551616 := rfl
 rw [e]
 omega
theorem wu64_id {x : Int} (h0 : 0 ≤ x) (h1 : x < 18446744073709551616) : IntKind.wrap .u64 x = x := by
 have e : IntKind.wrap .u64 x = x % 18446744073709551616 := rfl
 rw [e]
 omega
theorem p_turn (x : Int) : ∃ y, f93 x = some y ∧ 0 ≤ y := ⟨_, rfl, wu64_range _⟩
theorem p_Below (n : Int) (h0 : 1 ≤ n) (h1 : n ≤ 1073741824) (a : Int × Unit) : ∃ v s, f55 n a = some (v, ((s, ()), ())) ∧ 0 ≤ v ∧ v < n := by
 unfold f55 F55
 obtain ⟨y, e, hy⟩ := p_turn a.1
 have e1 : IntKind.wrap .u64 n = n := wu64_id (by omega) (by omega)
 rw [e, e1, decide_eq_false (show ¬ n < 1 by omega), decide_eq_false (show ¬ n = 0 by omega)]
 simp only [Option.bind_some, cond_false]
 have hp : (2 : Int) ^ (min (Int.toNat 33) 64) = 8589934592 := by decide
 have hd : 0 ≤ Int.fdiv y (2 ^ (min (Int.toNat 33) 64)) := by
   rw [hp, Int.fdiv_eq_ediv_of_nonneg _ (by omega)]
   exact Int.ediv_nonneg hy (by omega)
 generalize Int.fdiv y (2 ^ (min (Int.toNat 33) 64)) = q at hd
 have hm : Int.tmod q n = q % n := Int.tmod_eq_emod_of_nonneg hd
 have g1 := Int.emod_nonneg q (show n ≠ 0 by omega)
 have g2 := Int.emod_lt_of_pos q (show 0 < n by omega)
 rw [hm]
 refine ⟨q % n, y, ?_, g1, g2⟩
 rw [wi (by omega) (by omega)]
theorem can_of (e : (Int × (Int × (Request × ((List Int) × (Int × (Bool × (Int × Bool)))))))) (h1 : 1 ≤ e.1) (h2 : e.1 ≤ 10) (h3 : onlyE e = e) (h4 : inN e.2.1 = true) (h5 : inN e.2.2.2.2.1 = true) (h6 : inN e.2.2.2.2.2.2.1 = true) (h7 : e.1 = 1 → rightQ e.2.2.1 = true ∧ rightP e.2.2.1.need ∧ e.2.2.1.wall ≤ 65536) (h8 : e.1 ≠ 2) : canB e = true := by
 unfold canB
 rw [decide_eq_true h1, decide_eq_true h2, (sameE_iff _ _).2 h3, h4, h5, h6]
 by_cases hk : e.1 = 1
 · obtain ⟨q1, q2, q3⟩ := h7 hk
   rw [if_pos hk, q1, decide_eq_true q2, decide_eq_true q3]
   rfl
 · rw [if_neg hk, if_neg h8]
   rfl
def Good (e : (Int × (Int × (Request × ((List Int) × (Int × (Bool × (Int × Bool)))))))) : Prop := litE e ∧ canB e = true
theorem b0 : byteL [] := fun z hz => by cases hz
theorem in_of {x : Int} (h0 : 0 ≤ x) (h1 : x ≤ 281474976710656) : inN x = true := inN_iff.2 ⟨h0, h1⟩
theorem p_message (kind user : Int) (hk : kind = 3 ∨ kind = 9) (hu : inN user = true) (a : Int × Unit) : ∃ e s, f91 kind user a = some (e, ((s, ()), ())) ∧ Good e := by
 unfold f91 F91
 obtain ⟨v, s, e, v0, v1⟩ := p_Below 2 (by omega) (by omega) a
 rw [e]
 simp only [Option.bind_some]
 obtain ⟨w, t, e2, w0, w1⟩ := p_Below 4 (by omega) (by omega) (s, ())
 rw [e2]
 refine ⟨_, _, rfl, ⟨by simp, by simp, b0⟩, can_of _ ?_ ?_ ?_ hu (in_of v0 (by simp only; omega)) (in_of (by simp) (by simp)) ?_ ?_⟩
 · simp only; omega
 · simp only; omega
 · rcases hk with rfl | rfl <;> rfl
 · simp only; omega
 · simp only; omega
def GoodQ (r : Request) : Prop := rightQ r = true ∧ rightP r.need ∧ r.wall ≤ 65536 ∧ r.after = []
theorem good_job (k y j : Int) (hk : k = 3 ∨ k = 4 ∨ k = 5 ∨ k = 8) (y0 : 1 ≤ y) (y1 : y ≤ 1073741824) (j0 : 0 ≤ j) (j1 : j ≤ 10) (hv : True) : GoodQ (Request.mk k y j 0 0 0 (Res.mk 0 0 0 0) 0 0 [] 0 0 0 0) := by
 have hj : inN j = true := in_of j0 (by omega)
 have hz : inN 0 = true := rfl
 refine ⟨?_, by unfold rightP; simp, by simp, rfl⟩
 rcases hk with rfl | rfl | rfl | rfl <;> simp [rightQ, chkF, fieldsL, getF, hj, hz, y0, y1]
theorem good_queue (y q : Int) (y0 : 1 ≤ y) (y1 : y ≤ 1073741824) (q0 : 0 ≤ q) (q1 : q ≤ 10) : GoodQ (Request.mk 9 y 0 0 q 0 (Res.mk 0 0 0 0) 0 0 [] 0 0 0 0) := by
 have hj : inN q = true := in_of q0 (by omega)
 refine ⟨?_, by unfold rightP; simp, by simp, rfl⟩
 simp [rightQ, chkF, fieldsL, getF, hj, y0, y1]
theorem good_submit (y q m c w : Int) (y0 : 1 ≤ y) (y1 : y ≤ 1073741824) (q0 : 0 ≤ q) (q1 : q ≤ 10) (m0 : 0 ≤ m) (m1 : m ≤ 10) (c0 : 0 ≤ c) (c1 : c ≤ 10) (w0 : 0 ≤ w) (w1 : w ≤ 10) : GoodQ (Request.mk 1 y 0 0 q m (Res.mk c 0 0 0) w 1 [] 0 0 0 0) := by
 have hq : inN q = true := in_of q0 (by omega)
 have hm : inN m = true := in_of m0 (by omega)
 have hc : inN c = true := in_of c0 (by omega)
 have hw : inN w = true := in_of w0 (by omega)
 have hz : inN 0 = true := rfl
 have ho : inN 1 = true := rfl
 refine ⟨?_, by unfold rightP; simp; omega, by simp only; omega, rfl⟩
 simp [rightQ, chkF, fieldsL, getF, hq, hm, hc, hw, hz, ho, y0, y1]
theorem p_request (keys : Int) (h0 : 1 ≤ keys) (h1 : keys ≤ 1073741824) (a : Int × Unit) : ∃ r s, f92 keys a = some (r, ((s, ()), ())) ∧ GoodQ r := by
 unfold f92 F92
 obtain ⟨v, s, e, v0, v1⟩ := p_Below 8 (by omega) (by omega) a
 rw [e]
 simp only [Option.bind_some]
 obtain ⟨k, s2, e2, k0, k1⟩ := p_Below keys h0 h1 (s, ())
 rw [e2]
 simp only [Option.bind_some]
 have wk : IntKind.wrap .i64 (1 + k) = 1 + k := wi (by omega) (by omega)
 rw [wk]
 by_cases q3 : v = 3
 · rw [decide_eq_true q3]
   simp only [cond_true, Option.bind_some, Sum.elim_inl]
   obtain ⟨j, s3, e3, j0, j1⟩ := p_Below 6 (by omega) (by omega) (s2, ())
   rw [e3]
   simp only [Option.bind_some]
   rw [wi (x := 1 + j) (by omega) (by omega)]
   exact ⟨_, _, rfl, good_job 3 _ _ (by omega) (by omega) (by omega) (by omega) (by omega) trivial⟩
 by_cases q4 : v = 4
 · rw [decide_eq_false q3, decide_eq_true q4]
   simp only [cond_true, cond_false, Option.bind_some, Sum.elim_inl]
   obtain ⟨j, s3, e3, j0, j1⟩ := p_Below 6 (by omega) (by omega) (s2, ())
   rw [e3]
   simp only [Option.bind_some]
   rw [wi (x := 1 + j) (by omega) (by omega)]
   exact ⟨_, _, rfl, good_job 4 _ _ (by omega) (by omega) (by omega) (by omega) (by omega) trivial⟩
 by_cases q5 : v = 5
 · rw [decide_eq_false q3, decide_eq_false q4, decide_eq_true q5]
   simp only [cond_true, cond_false, Option.bind_some, Sum.elim_inl]
   obtain ⟨j, s3, e3, j0, j1⟩ := p_Below 6 (by omega) (by omega) (s2, ())
   rw [e3]
   simp only [Option.bind_some]
   rw [wi (x := 1 + j) (by omega) (by omega)]
   exact ⟨_, _, rfl, good_job 5 _ _ (by omega) (by omega) (by omega) (by omega) (by omega) trivial⟩
 by_cases q6 : v = 6
 · rw [decide_eq_false q3, decide_eq_false q4, decide_eq_false q5, decide_eq_true q6]
   simp only [cond_true, cond_false, Option.bind_some, Sum.elim_inl]
   obtain ⟨j, s3, e3, j0, j1⟩ := p_Below 6 (by omega) (by omega) (s2, ())
   rw [e3]
   simp only [Option.bind_some]
   rw [wi (x := 1 + j) (by omega) (by omega)]
   exact ⟨_, _, rfl, good_job 8 _ _ (by omega) (by omega) (by omega) (by omega) (by omega) trivial⟩
 rw [decide_eq_false q3, decide_eq_false q4, decide_eq_false q5, decide_eq_false q6]
 by_cases q7 : v = 7
 · rw [decide_eq_true q7]
   obtain ⟨j, s3, e3, j0, j1⟩ := p_Below 2 (by omega) (by omega) (s2, ())
   simp only [cond_true, cond_false, e3, Option.bind_some, Sum.elim_inr]
   exact ⟨_, _, rfl, good_queue _ _ (by omega) (by omega) (by omega) (by omega)⟩
 · rw [decide_eq_false q7]
   obtain ⟨j, s3, e3, j0, j1⟩ := p_Below 2 (by omega) (by omega) (s2, ())
   obtain ⟨m, s4, e4, m0, m1⟩ := p_Below 3 (by omega) (by omega) (s3, ())
   obtain ⟨c, s5, e5, c0, c1⟩ := p_Below 4 (by omega) (by omega) (s4, ())
   obtain ⟨w, s6, e6, w0, w1⟩ := p_Below 8 (by omega) (by omega) (s5, ())
   simp only [cond_true, cond_false, e3, e4, e5, e6, Option.bind_some, Sum.elim_inr]
   rw [wi (x := 1 + m) (by omega) (by omega), wi (x := 1 + c) (by omega) (by omega), wi (x := 1 + w) (by omega) (by omega)]
   exact ⟨_, _, rfl, good_submit _ _ _ _ _ (by omega) (by omega) (by omega) (by omega) (by omega) (by omega) (by omega) (by omega) (by omega) (by omega)⟩
theorem p_Hold (n lo hi : Int) (h : lo ≤ hi) : ∃ v, f56 n lo hi = some v ∧ lo ≤ v ∧ v ≤ hi := by
 unfold f56 F56
 by_cases h1 : n < lo
 · rw [decide_eq_true h1]; exact ⟨_, rfl, by omega, by omega⟩
 · rw [decide_eq_false h1]
   by_cases h2 : hi < n
   · rw [decide_eq_true h2]; exact ⟨_, rfl, by omega, by omega⟩
   · rw [decide_eq_false h2]; exact ⟨_, rfl, by omega, by omega⟩
theorem p_Event (users keys : Int) (a : Int × Unit) : ∃ e s, f54 users keys a = some (e, ((s, ()), ())) ∧ Good e := by
 unfold f54 F54
 obtain ⟨v, s, e, v0, v1⟩ := p_Below 12 (by omega) (by omega) a
 obtain ⟨h, eh, h0, h1⟩ := p_Hold users 1 8 (by omega)
 obtain ⟨u, s2, e2, u0, u1⟩ := p_Below h (by omega) (by omega) (s, ())
 simp only [e, eh, e2, Option.bind_some]
 have hu : inN u = true := in_of u0 (by omega)
 have hz : inN 0 = true := rfl
 have simple : ∀ k : Int, k = 5 ∨ k = 6 ∨ k = 7 → Good (k, (0, (Request.mk 0 0 0 0 0 0 (Res.mk 0 0 0 0) 0 0 [] 0 0 0 0, ([], (0, (false, (0, false))))))) := fun k hk => by
   refine ⟨⟨by simp, by simp, b0⟩, can_of _ ?_ ?_ ?_ hz hz hz ?_ ?_⟩
   · simp only; omega
   · simp only; omega
   · rcases hk with rfl | rfl | rfl <;> rfl
   · simp only; omega
   · simp only; omega
 by_cases q4 : v = 4 ∨ v = 5
 · obtain ⟨ev, t, em, hg⟩ := p_message 3 u (by omega) hu (s2, ())
   rcases q4 with q4 | q4 <;> simp only [q4, decide_true, decide_false, cond_true, cond_false, Int.reduceEq, Option.bind_some, em] <;> exact ⟨_, _, rfl, hg⟩
 have c4 : decide (v = 4) = false := decide_eq_false (by omega)
 have c5 : decide (v = 5) = false := decide_eq_false (by omega)
 simp only [c4, c5, cond_false, Option.bind_some]
 by_cases q6 : v = 6
 · simp only [q6, decide_true, cond_true]
   exact ⟨_, _, rfl, simple 5 (by omega)⟩
 by_cases q7 : v = 7
 · simp only [q6, q7, decide_true, decide_false, cond_true, cond_false, Int.reduceEq]
   exact ⟨_, _, rfl, simple 6 (by omega)⟩
 by_cases q8 : v = 8
 · simp only [q8, decide_true, decide_false, cond_true, cond_false, Int.reduceEq]
   exact ⟨_, _, rfl, simple 7 (by omega)⟩
 by_cases q9 : v = 9
 · obtain ⟨j, s3, e3, j0, j1⟩ := p_Below 6 (by omega) (by omega) (s2, ())
   obtain ⟨o, s4, e4, o0, o1⟩ := p_Below 2 (by omega) (by omega) (s3, ())
   simp only [q9, decide_true, decide_false, cond_true, cond_false, Int.reduceEq, e3, e4, Option.bind_some]
   rw [wi (x := 1 + j) (by omega) (by omega)]
   refine ⟨_, _, rfl, ⟨by simp, by simp, b0⟩, can_of _ ?_ ?_ rfl hz hz (in_of (by simp only; omega) (by simp only; omega)) ?_ ?_⟩ <;> simp
 by_cases q10 : v = 10
 · obtain ⟨ev, t, em, hg⟩ := p_message 9 u (by omega) hu (s2, ())
   simp only [q10, decide_true, decide_false, cond_true, cond_false, Int.reduceEq, Option.bind_some, em]
   exact ⟨_, _, rfl, hg⟩
 by_cases q11 : v = 11
 · obtain ⟨j, s3, e3, j0, j1⟩ := p_Below 2 (by omega) (by omega) (s2, ())
   simp only [q11, decide_true, decide_false, cond_true, cond_false, Int.reduceEq, e3, Option.bind_some]
   refine ⟨_, _, rfl, ⟨by simp, by simp, b0⟩, can_of _ ?_ ?_ rfl hu (in_of (by simp only; omega) (by simp only; omega)) hz ?_ ?_⟩ <;> simp
 · obtain ⟨kk, ek, kk0, kk1⟩ := p_Hold keys 1 1073741824 (by omega)
   obtain ⟨r, t, er, g1, g2, g3, g4⟩ := p_request kk (by omega) (by omega) (s2, ())
   simp only [q6, q7, q8, q9, q10, q11, decide_false, cond_false, ek, er, Option.bind_some]
   refine ⟨_, _, rfl, ⟨by simp, by simp [g4], b0⟩, can_of _ (by simp) (by simp) rfl hu hz hz (fun _ => ⟨g1, g2, g3⟩) (by simp)⟩
theorem p_Script (users keys : Int) (a : Int × Unit) : ∃ l s, f24_1 30 users keys a = some (l, ((s, ()), ())) ∧ l.length = 30 ∧ ∀ e ∈ l, Good e := by
 unfold f24_1 F24_1
 have eh : f56 30 0 4096 = some 30 := rfl
 rw [eh]
 simp only [Option.bind_some]
 refine loop_ex (σ := ((Unit × (Unit × (Int × Unit))) × ((Int × Unit) × ((List (Int × (Int × (Request × ((List Int) × (Int × (Bool × (Int × Bool)))))))) × Unit)))) (fun s => ∃ k : Nat, k ≤ 30 ∧ s.1.2.2.1 = (k : Int) ∧ s.2.2.1.length = k ∧ ∀ e ∈ s.2.2.1, Good e) (fun s => 30 - s.1.2.2.1.toNat) (fun (o : Option ((List (Int × (Int × (Request × ((List Int) × (Int × (Bool × (Int × Bool)))))))) × ((Int × Unit) × Unit))) => ∃ l s, o = some (l, ((s, ()), ())) ∧ l.length = 30 ∧ ∀ e ∈ l, Good e) (fun s next hI ih => ?_) ⟨0, by omega, rfl, rfl, fun e he => absurd he (List.not_mem_nil)⟩ (by unfold LOOPS; simp only; omega)
 obtain ⟨k, hk, hz, hl, hg⟩ := hI
 unfold l24_1_0
 rw [hz]
 by_cases h30 : k = 30
 · rw [decide_eq_false (by omega)]
   exact ⟨_, _, rfl, by omega, hg⟩
 · obtain ⟨e, s', ee, hge⟩ := p_Event users keys s.2.1
   have hs : smallB (s.2.2.1.length + 1) 224 = true := by simp [smallB]; omega
   rw [decide_eq_true (by omega), ee]
   simp only [cond_true, Option.bind_some, hs]
   rw [wi (by omega) (by omega)]
   refine ih _ ⟨k + 1, by omega, by simp only; omega, by simp only [List.length_append, List.length_cons, List.length_nil]; omega, fun x hx => ?_⟩ (by simp only; omega)
   simp only [List.mem_append, List.mem_singleton] at hx
   rcases hx with hx | rfl
   · exact hg x hx
   · exact hge
theorem law_LotSays (seed users keys : Int) : f6 seed users keys = some true := by
 unfold f6 F6
 rw [awake48]
 simp only [Option.bind_some, Bool.not_true, cond_false]
 obtain ⟨a, ha⟩ : ∃ a, f23 seed = some ((), (a, ())) := by
   unfold f23 F23
   cases decide (IntKind.wrap .u64 (seed + 88172645463325252) = 0) <;> exact ⟨_, rfl⟩
 rw [ha]
 simp only [Option.bind_some]
 obtain ⟨l, s, e, hl, hg⟩ := p_Script users keys a
 have hml : maxLen = 9223372036854775807 := rfl
 rw [e]
 simp only [Option.bind_some]
 have key := all_loop (f := fun (s6 : ((Int × Unit) × Unit)) nx7 => l6_0 f12 f14 f13 f11 (l, ((s, ()), ())) nx7 s6.1.1) l (fun z => ((z, ()), ())) (fun _ => true) true (by omega)
   (fun next => by
     simp only [l6_0, Int.lt_irrefl, decide_false, cond_false]
     rw [decide_eq_true (show (l.length : Int) = 30 by omega)])
   (fun z x next h0 h1 h2 h3 => by
     obtain ⟨hx, hc⟩ := hg x (List.mem_of_getElem? h2)
     have hs := saysE_of hc hx.2.2
     have hee : sameE x x = true := (sameE_iff _ _).2 rfl
     simp only [l6_0, h0, h1, h2, h3, decide_true, cond_true, cond_false, Bool.not_true, Option.bind_some, r_Can x hx, hc, r_Line x hs, p_Read_can x hx hc, r_SameE x x hx, hee])
 refine Eq.trans key ?_
 simp
theorem walk (x0 : UInt64) (x1 x2 : Int) (v0 v1 v2 : Value) (W : World) (hgl : GlobR W (Lt W.heap.size)) (h0 : V W (Lt W.heap.size) x0 v0) (h1 : V W (Lt W.heap.size) x1 v1) (h2 : V W (Lt W.heap.size) x2 v2) :
   Calls Tryz.prog 6 #[v0, v1, v2] W fun e w' => e = .returned (.bool true) ∧ Go.RowKit.Below W.heap.size W w' :=
 nlaw_walk NM.ok6 (x := (NEnc.f x0, NEnc.f x1, NEnc.f x2, ())) (law_LotSays _ _ _) (arg_cons x0 (arg_cons x1 (arg_cons x2 arg_nil))) rfl (fun j a v ha hv => by
   match j with
   | 0 => simp at ha hv; subst ha; subst hv; exact h0.vr (fun _ h => h) _
   | 1 => simp at ha hv; subst ha; subst hv; exact h1.vr (fun _ h => h) _
   | 2 => simp at ha hv; subst ha; subst hv; exact h2.vr (fun _ h => h) _) hgl
end lotSays
end Go.Proofs.YtpogjlhgbdpnbaaGreatDoor
end
section
namespace Go.Proofs.YtpogjlhgbdpnbaaGreatDoor
open Go Go.RowKit
namespace GlobS
def strData {H : Type} (zs : List (List UInt8)) : DataW H := .agg (zs.map fun z => .lit (.string z))
theorem cells_of_strs {H : Type} {enc : TypeId × Value → H} {P : Program} {w : World} {base : Nat} {sp : Nat → Bool} {held : Bool} {fuel : Nat} {t e : TypeId} {n : Nat} {cs : List Value} {zs : List (List UInt8)} {p : List MemPlace}
   (ht : P.underlying t = some (.array n e)) (he : P.underlying e = some .string) (hce : P.cellsOf e = 1) (hct : P.cellsOf t = n)
   (h : DataW.trod enc P w base sp held fuel t cs = some (strData zs, p)) : cs = zs.map fun z => Value.string ⟨z.toArray⟩ := by
 cases fuel with
 | zero => simp [DataW.trod] at h
 | succ fuel =>
   simp only [DataW.trod, ht, hce, hct, Nat.mul_one] at h
   split at h
   · rename_i hl
     obtain ⟨xs, hm, hx⟩ := Option.map_eq_some_iff.1 h
     have hxs : xs.map (·.1) = zs.map fun z => (DataW.lit (.string z) : DataW H) := by
       have := congrArg Prod.fst hx
       simpa [strData] using this
     have hxl : xs.length = n := by simpa using Lib.mapM_length hm
     have hzl : zs.length = n := by
       have := congrArg List.length hxs
       simp at this
       omega
     apply List.ext_getElem?
     intro i
     by_cases hi : i < n
     · obtain ⟨b, hb, hf⟩ := Lib.mapM_at hm i i (by simp [hi])
       obtain ⟨s, hc, rfl, _⟩ := DataW.trod_string he hf
       have h1 : cs[i]? = some (.string s) := by
         have := congrArg (·[0]?) hc
         simpa [List.getElem?_take, List.getElem?_drop] using this
       have h2 : (xs.map (·.1))[i]? = some (DataW.lit (.string s.data.toList) : DataW H) := by simp [hb]
       rw [hxs] at h2
       simp only [List.getElem?_map, Option.map_eq_some_iff, DataW.lit.injEq, Lit.string.injEq] at h2
       obtain ⟨z', hz', rfl⟩ := h2
       simp [h1, hz']
     · rw [List.getElem?_eq_none (by omega), List.getElem?_eq_none (by simp; omega)]
   · cases h
theorem strs_of_head {P : Program} {W : World} {name : String} {zs : List (List UInt8)} {rest : List (String × DataW Unit)} {g : Nat} {t e : TypeId} {n : Nat}
   (hg : P.globalNamed name = some g) (hty : (P.globals[g]?).map (·.type) = some t) (ht : P.underlying t = some (.array n e)) (he : P.underlying e = some .string) (hce : P.cellsOf e = 1) (hct : P.cellsOf t = n)
   (h : laidMet P ((name, strData zs) :: rest) W) : W.var? P name = some (zs.map fun z => Value.string ⟨z.toArray⟩).toArray := by
 obtain ⟨ps, ⟨g', t', cs, fuel, p, q, hg', ht', hvar, hd, _, _⟩, _⟩ := h
 obtain rfl := Option.some.inj (hg.symm.trans hg')
 obtain rfl := Option.some.inj (hty.symm.trans ht')
 rw [hvar, ← cells_of_strs ht he hce hct hd]
def At (W : World) (g : Nat) (cs : List AM.AVal) : Prop := AM.IR W (Lt W.heap.size) (.iptr cs 0) (.pointer (some ⟨g, 0, none⟩)) ∧ g < W.heap.size ∧ ∃ us t p, W.heap[g]? = some (.cells us t p) ∧ us.size = cs.length
theorem at_of {W : World} {g : Nat} {cs : List AM.AVal} {us : Array Value} {t : TypeId} {p : Nat × Nat} (h : W.heap[g]? = some (.cells us t p)) (hl : us.size = cs.length) (hr : ∀ (j : Nat) (c : AM.AVal) (v : Value), cs[j]? = some c → us[j]? = some v → AM.IR W (Lt W.heap.size) c v) : At W g cs := by
 have hlt : g < W.heap.size := by
   rcases Nat.lt_or_ge g W.heap.size with h' | h'
   · exact h'
   · rw [Array.getElem?_eq_none h'] at h; cases h
 refine ⟨.iptr _ 0 g 0 (fun j => us.getD j undef) hlt (fun j c hj => ?_) (fun j c hj => ?_), hlt, us, t, p, h, hl⟩
 · have hj' := (List.getElem?_eq_some_iff.1 hj).1
   have hju : j < us.size := by omega
   simp only [World.cell?, h, Nat.zero_add]
   simp [Array.getD, hju]
 · have hj' := (List.getElem?_eq_some_iff.1 hj).1
   have hju : j < us.size := by omega
   refine hr j c _ hj ?_
   simp [Array.getD, hju]
theorem var_heap {P : Program} {W : World} {name : String} {g : Nat} {us : Array Value} (hg : P.globalNamed name = some g) (hv : W.var? P name = some us) : ∃ t p, W.heap[g]? = some (.cells us t p) := by
 unfold World.var? at hv
 rw [hg] at hv
 simp only [Option.bind_some] at hv
 split at hv
 · rename_i us' t p hu
   cases hv
   exact ⟨t, p, hu⟩
 · cases hv
theorem at_strs {P : Program} {W : World} {name : String} {g : Nat} {zs : List (List UInt8)} (hg : P.globalNamed name = some g) (hv : W.var? P name = some (zs.map fun z => Value.string ⟨z.toArray⟩).toArray) : At W g (zs.map .str) := by
 obtain ⟨t, p, h⟩ := var_heap hg hv
 refine at_of h (by simp) fun j c v hc hv => ?_
 rw [List.getElem?_map] at hc
 obtain ⟨z, hz, rfl⟩ := Option.map_eq_some_iff.1 hc
 have : v = .string ⟨z.toArray⟩ := by simpa [hz] using hv.symm
 subst this
 have h := AM.IR.str (w := W) (S := Lt W.heap.size) ⟨z.toArray⟩
 simpa using h
theorem at_ints {P : Program} {W : World} {name : String} {g : Nat} {k : IntKind} {zs : List Int} (hg : P.globalNamed name = some g) (hT : Lib.TabIs P W name k zs) : At W g (zs.map (.int k)) := by
 obtain ⟨t, p, h⟩ := var_heap hg hT
 refine at_of h (by simp) fun j c v hc hv => ?_
 rw [List.getElem?_map] at hc
 obtain ⟨z, hz, rfl⟩ := Option.map_eq_some_iff.1 hc
 have : v = .int k z := by simpa [hz] using hv.symm
 subst this
 exact .int k z
theorem globR_of {W : World} (h : ∀ p, p ∈ AM.globs → At W p.1 p.2) (h2 : ∀ b, b ∈ AM.anyInts → ∃ m t p, W.heap[b]? = some (.cells #[.int .i64 m] t p)) : AM.GlobR W (Lt W.heap.size) := by
 have key : ∀ (l : List (Nat × List AM.AVal)), (∀ p, p ∈ l → At W p.1 p.2) → ∀ b cs, AM.globOf b l = some cs → At W b cs := by
   intro l
   induction l with
   | nil => intro _ b cs hb; cases hb
   | cons p l ih =>
     intro hl b cs hb
     obtain ⟨c, ds⟩ := p
     simp only [AM.globOf] at hb
     split at hb
     · rename_i hcb
       subst hcb
       cases hb
       exact hl _ (List.mem_cons_self ..)
     · exact ih (fun p hp => hl p (List.mem_cons_of_mem _ hp)) b cs hb
 refine ⟨fun b cs hb => key AM.globs h b cs hb, fun b hb => ?_⟩
 obtain ⟨m, t, p, h3⟩ := h2 b hb
 refine ⟨?_, m, t, p, h3⟩
 rcases Nat.lt_or_ge b W.heap.size with h' | h'
 · exact h'
 · rw [Array.getElem?_eq_none h'] at h3; cases h3
theorem some_int {P : Program} {w : World} {g : Nat} {t : TypeId} {zero : Array Value} {k : IntKind}
   (h : w.ShapedOpen P) (hg : g < P.globals.size)
   (h0 : ((begin P (fun _ _ => 0) default).world.heap[g]?).bind Obj.row? = some (zero, t)) (hz : zero.size = 1)
   (hb : P.buildable t = true) (hc : P.cellTypes P.depth t = some [t]) (hu : P.underlying t = some (.int k)) :
   ∃ m t p, w.heap[g]? = some (.cells #[.int k m] t p) := by
 obtain ⟨cs, hh, hs, hr⟩ := h.1 g zero t hg h0
 obtain ⟨ts, hts, _, hall⟩ := hr hb
 rw [hc] at hts
 cases hts
 have h1 : cs.size = 1 := by omega
 obtain ⟨u, hu', hok⟩ := hall 0 cs[0] (by simp [h1])
 have : u = t := by simpa using hu'.symm
 subst this
 unfold Cell.ok at hok
 rw [hu] at hok
 cases hv : cs[0] <;> rw [hv] at hok <;> simp at hok
 case int k' n =>
   have e : cs = #[.int k n] := by
     apply Array.ext
     · simp [h1]
     · intro i hi1 hi2
       have : i = 0 := by omega
       subst this
       rw [hv, hok.1]
       rfl
   rw [e] at hh
   exact ⟨n, _, _, hh⟩
theorem wrap_shaped {H : Type} {enc : TypeId × Value → H} {a : Assume} {C : Checked} {os : Os} {f : FuncId} {fn : Func} {s : ChangeSpec} {conds : List PathCond} {apart fresh handsOn again : Bool} {X : World → Array Value → Prop}
   (hX : ∀ (w w' : World) (args : Array Value), w.heap = w'.heap → X w args → X w' args)
   (own : ownKnob C.prog.godebug = none) (started : os.Started) (noInit : C.prog.inits.idxOf? f = none) (hfn : C.prog.funcs[f]? = some fn)
   (witness : ∃ (w : World) (tape : Tape) (i : Input), w.os = os ∧ (w.forCall tape i).Shaped C.prog ∧ i.vars = [] ∧ Input.okWide C.prog (w.forCall tape i) .any w.heap.size f i ∧
     ((s.pre enc C.prog fn conds apart (w.forCall tape i).memory i.args ∧ X (w.forCall tape i).memory i.args) ∧ sizedMet enc C.prog fn (OpenSpec.ofChange s) apart (w.forCall tape i).memory i.args) ∧ a.holds C.prog (lone (Frame.enter C.prog f i.args .normal) [] (w.forCall tape i)))
   (contract : ∀ (W : World) (base : Nat) (args : Array Value) (ds gs : List (DataW H)) (before : List MemPlace),
     (∀ (j : Nat) t v, fn.params[j]? = some t → args[j]? = some v → Value.okWide C.prog W .any base t v) →
     DataW.Whole enc C.prog fn.params.toList s.vars apart W args.toList ds gs before →
     conds.all (PathCond.test C.prog ⟨fn.params.toList, ds, s.plain.varTypes C.prog, gs⟩) = true →
     (DataW.weightsEach C.prog (fn.params.toList ++ s.plain.varTypes C.prog) (ds ++ gs)).all (· ≤ reachBytes) = true → X W args →
     W.ShapedOpen C.prog →
     a.holds C.prog (lone (Frame.enter C.prog f args .normal) [] W) →
     Calls C.prog f args W fun e W' => ∃ v, e = .returned v ∧ s.post enc C.prog fn apart fresh handsOn again W args v W') :
   ReturnsInHanded a C os f .any (fun w args => (s.pre enc C.prog fn conds apart w args ∧ X w args) ∧ sizedMet enc C.prog fn (OpenSpec.ofChange s) apart w args) (s.post enc C.prog fn apart fresh handsOn again) := by
 refine returnsInHanded_of_calls own started noInit witness ?_
 intro w tape i _ hsh _ hok hpre hholds
 obtain ⟨_, _, _, fn', hfn', _, _, _, _, hval⟩ := hok
 have e : fn' = fn := Option.some.inj (hfn'.symm.trans hfn)
 subst e
 obtain ⟨⟨⟨ds, gs, before, hw, hc⟩, hx⟩, hz⟩ := hpre
 have hw' := DataW.Whole.of_heap (w' := w.forCall tape i) (by rfl) hw
 refine (contract (w.forCall tape i) w.heap.size i.args ds gs before hval hw' hc (hz.weights hw) (hX _ _ _ (by rfl) hx) hsh hholds).mono fun e W' ⟨v, he, hp⟩ => ?_
 subst he
 exact ChangeSpec.post_blind hp
end GlobS
end Go.Proofs.YtpogjlhgbdpnbaaGreatDoor
end
section
namespace Go.Proofs.YtpogjlhgbdpnbaaGreatDoor.lotSays
open Go.ChangeShapes Go.WideShapes Go.ChangeAt Go.RowKit
theorem own : ownKnob Tryz.prog.godebug = none := by kernel_rfl
theorem laidOut : laidOutB Tryz.prog = true := by kernel_rfl
set_option maxRecDepth 100000 in
theorem lifted (os : Os) (started : os.Started) (H : Type) (enc : TypeId × Value → H) :
   ReturnsInHanded {} Tryz.checked os 6 .any (fun w args => (Rows.lotSaysSpec.pre enc Tryz.prog Tryz.f6 Rows.lotSaysRow.domain false w args ∧ laidMetH Tryz.prog Rows.lotSaysRow.laid w) ∧ sizedMet enc Tryz.prog Tryz.f6 (OpenSpec.ofChange Rows.lotSaysSpec) false w args)
     (Rows.lotSaysSpec.post enc Tryz.prog Tryz.f6 false true false false) := by
 refine GlobS.wrap_shaped (C := Tryz.checked) (X := fun w _ => laidMetH Tryz.prog Rows.lotSaysRow.laid w) (fun _ _ _ hh h => h.of_heap hh) own started (by kernel_rfl) Tryz.func6
   (ChangeSpec.witness_shaped (enc := enc) (C := Tryz.checked) (os := os) (X := fun w _ => laidMetH Tryz.prog Rows.lotSaysRow.laid w) false (World.laidAll Tryz.prog os Rows.lotSaysRow.laid) #[.int .u64 0, .int .i64 0, .int .i64 0] 8 (World.laidAll_os _ _ _)
     (World.shaped_of_ZipB (by kernel_rfl) (by kernel_rfl)) (by kernel_rfl) (by kernel_rfl) (by kernel_rfl)
     (by rw [MakeChecks.laidMetH_plain _ _ _ (by kernel_rfl)]; exact laidMet_laidAll _ (by kernel_rfl) (by kernel_rfl))) ?_
 intro W base args ds gs before hval0 hW _ _ hL hsh _
 have hval : ∀ (j : Nat) t v, Tryz.f6.params[j]? = some t → args[j]? = some v → Value.okWide Tryz.prog W .any base t v := hval0
 have hW' := hW
 obtain ⟨p, q, hA0, hV, rfl, hfz, hnd⟩ := hW
 have hA : DataW.TrodAll enc Tryz.prog W 0 (fun _ => true) true Tryz.f6.params.toList args.toList ds p := hA0
 rw [Tryz.params6] at hA hval
 rw [MakeChecks.laidMetH_plain _ _ _ (by kernel_rfl)] at hL
 have hv0 := GlobS.strs_of_head (P := Tryz.prog) (W := W) (name := "drayage/script.verbs") (zs := [[], [115, 101, 110, 100], [114, 97, 119], [97, 114, 114, 105, 118, 101], [108, 111, 115, 101], [99, 108, 111, 115, 101], [99, 121, 99, 108, 101], [116, 105, 99, 107], [101, 120, 105, 116], [100, 101, 108, 105, 118, 101, 114], [100, 114, 111, 112]]) (g := 0) (t := 107) (e := 9) (n := 11) (by kernel_rfl) (by kernel_rfl) Tryz.underlying107 Tryz.underlying9 (by kernel_rfl) (by kernel_rfl) hL.tail.tail.tail.tail
 have hv1 := GlobS.strs_of_head (P := Tryz.prog) (W := W) (name := "drayage/script.kinds") (zs := [[], [115, 117, 98, 109, 105, 116], [109, 111, 100, 105, 102, 121], [104, 111, 108, 100], [114, 101, 108, 101, 97, 115, 101], [99, 97, 110, 99, 101, 108], [114, 101, 113, 117, 101, 117, 101], [109, 111, 118, 101], [106, 111, 98], [113, 117, 101, 117, 101], [110, 111, 100, 101, 115], [114, 101, 115, 101, 114, 118, 101], [117, 110, 114, 101, 115, 101, 114, 118, 101]]) (g := 1) (t := 142) (e := 9) (n := 13) (by kernel_rfl) (by kernel_rfl) Tryz.underlying142 Tryz.underlying9 (by kernel_rfl) (by kernel_rfl) hL.tail.tail.tail.tail.tail
 have hv2 : Lib.TabIs Tryz.prog W "internal/strconv.uint64pow10" .u64 [1, 10, 100, 1000, 10000, 100000, 1000000, 10000000, 100000000, 1000000000, 10000000000, 100000000000, 1000000000000, 10000000000000, 100000000000000, 1000000000000000, 10000000000000000, 100000000000000000, 1000000000000000000, 10000000000000000000] := Lib.tabIs_of_head (g := 5) (t := 197) (e := 54) (n := 20) (by kernel_rfl) (by kernel_rfl) Tryz.underlying197 Tryz.underlying54 (by kernel_rfl) (by kernel_rfl) hL.tail.tail
 have hgl : AM.GlobR W (Lt W.heap.size) := by
   refine GlobS.globR_of (fun p hp => ?_) (fun b hb => ?_)
   · simp only [AM.globs, List.mem_cons, List.not_mem_nil, or_false] at hp
     rcases hp with rfl | rfl | rfl
     · exact GlobS.at_strs (by kernel_rfl) hv0
     · exact GlobS.at_strs (by kernel_rfl) hv1
     · exact GlobS.at_ints (by kernel_rfl) hv2
   · simp only [AM.anyInts, List.mem_cons, List.not_mem_nil, or_false] at hb
     rcases hb with rfl
     · exact GlobS.some_int (zero := #[.int .i64 0]) (t := 3) hsh (of_decide_eq_true (by kernel_rfl)) (by kernel_rfl) rfl (by kernel_rfl) (by kernel_rfl) Tryz.underlying3
 obtain ⟨v0, vs0, d0, ds0, p0, q0, hargs, rfl, rfl, h0, r0⟩ := trodAll_cons hA
 obtain ⟨v1, vs1, d1, ds1, p1, q1, rfl, rfl, rfl, h1, r1⟩ := trodAll_cons r0
 obtain ⟨v2, vs2, d2, ds2, p2, q2, rfl, rfl, rfl, h2, r2⟩ := trodAll_cons r1
 obtain ⟨rfl, rfl, rfl⟩ := trodAll_nil r2
 obtain rfl : args = #[v0, v1, v2] := by cases args; simp_all
 obtain ⟨rfl, rfl⟩ := trodVars_none hV
 have lt0 : ∀ x ∈ p0, x.block < W.heap.size := by obtain ⟨m, hm⟩ := h0; exact DataW.trod_lt m _ _ _ hm
 obtain ⟨x0, a0⟩ : ∃ x : UInt64, V W (Lt W.heap.size) x v0 := arg_of (rd_u64 Tryz.underlying54) h0 (agg_int Tryz.underlying54 (hval 0 54 v0 rfl rfl))
 have lt1 : ∀ x ∈ p1, x.block < W.heap.size := by obtain ⟨m, hm⟩ := h1; exact DataW.trod_lt m _ _ _ hm
 obtain ⟨x1, a1⟩ : ∃ x : Int, V W (Lt W.heap.size) x v1 := arg_of (rd_int Tryz.underlying3) h1 (agg_int Tryz.underlying3 (hval 1 3 v1 rfl rfl))
 have lt2 : ∀ x ∈ p2, x.block < W.heap.size := by obtain ⟨m, hm⟩ := h2; exact DataW.trod_lt m _ _ _ hm
 obtain ⟨x2, a2⟩ : ∃ x : Int, V W (Lt W.heap.size) x v2 := arg_of (rd_int Tryz.underlying3) h2 (agg_int Tryz.underlying3 (hval 2 3 v2 rfl rfl))
 clear hA0 hval0
 refine (walk x0 x1 x2 v0 v1 v2 W hgl a0 a1 a2).mono fun e W' ⟨he, bel⟩ => ?_
 subst he
 exact ⟨_, rfl, _, _, _, [], _, [], hW', trodAll_mk1 (shut_bool Tryz.underlying4 _), (trodAll_cons_mk (Below.trod laidOut (by kernel_rfl) (of_decide_eq_true (by kernel_rfl)) h0 bel lt0) (trodAll_cons_mk (Below.trod laidOut (by kernel_rfl) (of_decide_eq_true (by kernel_rfl)) h1 bel lt1) (trodAll_cons_mk (Below.trod laidOut (by kernel_rfl) (of_decide_eq_true (by kernel_rfl)) h2 bel lt2) trodAll_mk0))), rfl, bel.frame _, fun h => by cases h⟩
theorem over : Rows.lotSaysRow.holds Tryz.pinned (OpenSpec.ofChange Rows.lotSaysSpec) :=
 OpenClaim.holds_of_wide 6 Tryz.f6 rfl rfl rfl rfl rfl rfl rfl ⟨rfl, rfl, rfl, rfl, rfl⟩ rfl rfl rfl rfl rfl (by kernel_rfl) Tryz.func6 (by kernel_rfl)
   (of_decide_eq_true (by kernel_rfl)) (by unfold Func.isWrapper; first | (rw [if_pos (by decide +kernel)]; kernel_rfl) | (rw [if_neg (by decide +kernel)]; exact ⟨rfl, rfl⟩))
   (fun os started H enc _ => lifted os started H enc)
theorem proved : Rows.LotSaysCardSaid :=
 Claim7.holds_tied_plain_at .later [] [.data, .data, .data, .data, .data, .data, .pinned] true (true, "beedd42a53d3e1f08d3b973aae9b58e6e835b961c1c220f59be509a2120f9d64") true
   over (fun _ h => by cases h) (by kernel_rfl) (fun _ h => by cases h) lotSays_row_tie rfl ⟨rfl, rfl⟩ (by kernel_rfl) rfl
   (fun f fn hf hfn => by
     obtain rfl : f = 6 := Option.some.inj ((show Tryz.prog.funcNamed "drayage/drayagelaw48.LotSays" = some 6 by kernel_rfl).symm.trans hf) |>.symm
     obtain rfl : fn = Tryz.f6 := (Option.some.inj (Tryz.func6.symm.trans hfn)).symm
     exact ⟨by kernel_rfl, fun j t ht => by
       rw [Tryz.params6] at ht
       have hm : t ∈ [54, 3, 3] := by simpa using Array.mem_of_getElem? ht
       have hall : ([54, 3, 3].all fun u => !Tryz.prog.wantsStandIn u) = true := by kernel_rfl
       exact (show Tryz.prog.wantsStandIn t = false by simpa using List.all_eq_true.1 hall t hm)⟩)
   (by kernel_rfl)
end Go.Proofs.YtpogjlhgbdpnbaaGreatDoor.lotSays
end
