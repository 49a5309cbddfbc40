/-
  Operations that look at no block's cells do in the abstract machine what they do on plain data.
-/
import Derived.Test.YtfelhbeiegppgaaNmD
set_option linter.unusedVariables false
set_option linter.unusedSimpArgs false
namespace Go.Proofs.Ytfelhbeiegppgaa
namespace NM
open AM

variable {ω : Type} {hp : NHeap} {r : ω}

theorem nidx_inv {v : NVal} {a : AVal} {k : Nat → Option ω} (h : nidx v k = some r) (hr : RT hp v a) : ∃ n, idxNat a = some n ∧ k n = some r := by
  unfold nidx at h
  split at h
  · rename_i kd n
    rw [hr.int_inv]
    by_cases h0 : 0 ≤ n
    · simp only [h0, decide_true, cond_true] at h
      exact ⟨_, by simp [idxNat, h0], h⟩
    · simp [h0] at h
  · cases h
theorem nbin_sound {op : BinOp} {x y : NVal} {a b : AVal} {k : NVal → Option ω} (h : nbin op x y k = some r) (hx : RT hp x a) (hy : RT hp y b) : ∃ v c, binop op a b = some c ∧ RT hp v c ∧ k v = some r := by
  unfold nbin at h
  split at h
  · rename_i kd m kd' n
    rw [hx.int_inv, hy.int_inv]
    split at h
    · rename_i hk
      simp only [binop, if_pos hk]
      cases op
      case quo =>
        simp only [nbinInt] at h
        simp only [binInt]
        by_cases h0 : n = 0
        · simp [h0] at h
        · rw [if_neg h0]; simp only [h0, decide_false, cond_false] at h; exact ⟨_, _, rfl, (RI.int _ _).rt, h⟩
      case rem =>
        simp only [nbinInt] at h
        simp only [binInt]
        by_cases h0 : n = 0
        · simp [h0] at h
        · rw [if_neg h0]; simp only [h0, decide_false, cond_false] at h; exact ⟨_, _, rfl, (RI.int _ _).rt, h⟩
      case shl =>
        simp only [nbinInt] at h
        simp only [binInt]
        by_cases h0 : n < 0
        · simp [h0] at h
        · rw [if_neg h0]; simp only [h0, decide_false, cond_false] at h; exact ⟨_, _, rfl, (RI.int _ _).rt, h⟩
      case shr =>
        simp only [nbinInt] at h
        simp only [binInt]
        by_cases h0 : n < 0
        · simp [h0] at h
        · rw [if_neg h0]; simp only [h0, decide_false, cond_false] at h; exact ⟨_, _, rfl, (RI.int _ _).rt, h⟩
      all_goals (simp only [nbinInt] at h; simp only [binInt]; first | exact ⟨_, _, rfl, (RI.int _ _).rt, h⟩ | exact ⟨_, _, rfl, (RI.bool _).rt, h⟩)
    · cases h
  · rename_i s t
    rw [hx.str_inv, hy.str_inv]
    simp only [binop]
    cases op
    case add =>
      simp only [nbinStr] at h
      simp only [binStr]
      by_cases h0 : s.length + t.length ≤ 4294967296
      · rw [if_pos h0]; simp only [h0, decide_true, cond_true] at h; exact ⟨_, _, rfl, (RI.str _).rt, h⟩
      · simp [h0] at h
    all_goals (simp only [nbinStr] at h; simp only [binStr]; first | (cases h; done) | exact ⟨_, _, rfl, (RI.bool _).rt, h⟩)
  · cases h

theorem nget_hp {hp : NHeap} {b : Nat} {kb : NBlk} (h : nget hp b = some kb) : hp[b]? = some (.live kb) := by
  unfold nget at h
  split at h
  · rename_i hk; cases h; exact hk
  · cases h
theorem ncellEq_rel {k : CK} {x y : NVal} {a b : AVal} {q : Bool} (h : ncellEq k x y = some q) (hx : RC hp x a) (hy : RC hp y b) : cellEq k a b = some q := by
  have hx := hx.rt
  have hy := hy.rt
  unfold ncellEq at h
  split at h
  · rw [hx.int_inv, hy.int_inv]; simpa [cellEq] using h
  · rw [hx.bool_inv, hy.bool_inv]; simpa [cellEq] using h
  · rw [hx.str_inv, hy.str_inv]; simpa [cellEq] using h
  · cases h
theorem ncellsEq_rel : ∀ {ks : List CK} {xs ys : List NVal} {us vs : List AVal} {q : Bool}, ncellsEq ks xs ys = some q → A2 (RC hp) xs us → A2 (RC hp) ys vs → cellsEq ks us vs = some q
  | [], [], [], us, vs, q, h, hx, hy => by rw [hx.nil_inv, hy.nil_inv]; simpa [ncellsEq, cellsEq] using h
  | k :: ks, x :: xs, y :: ys, us, vs, q, h, hx, hy => by
    obtain ⟨a, us, rfl, h1, h2⟩ := hx.cons_inv
    obtain ⟨b, vs, rfl, h3, h4⟩ := hy.cons_inv
    simp only [ncellsEq] at h
    split at h
    · rename_i p hp'
      split at h
      · rename_i p' hp''
        cases h
        have e1 := ncellEq_rel hp' h1 h3
        have e2 := ncellsEq_rel hp'' h2 h4
        simp only [cellsEq]
        rw [e1, e2]
      · cases h
    · cases h
  | [], [], _ :: _, _, _, _, h, _, _ => by simp [ncellsEq] at h
  | [], _ :: _, _, _, _, _, h, _, _ => by simp [ncellsEq] at h
  | _ :: _, [], _, _, _, _, h, _, _ => by simp [ncellsEq] at h
  | _ :: _, _ :: _, [], _, _, _, h, _, _ => by simp [ncellsEq] at h

theorem putAt_rel {cs vs : List NVal} {ds us : List AVal} (h : A2 (RC hp) cs ds) (hv : A2 (RC hp) vs us) (off : Nat) : A2 (RC hp) (nputAt cs off vs) (putAt ds off us) := by
  unfold nputAt putAt
  rw [hv.1]
  exact ((h.take off).append hv).append (h.drop _)
theorem fillP_rel {ρ : Opd → NVal} {aρ : Opd → AVal} (hρ : ∀ x, RT hp (ρ x) (aρ x)) : ∀ {parts : List (Nat × Nat × Opd)} {cs cs' : List NVal} {ds : List AVal}, nfillP ρ cs parts = some cs' → A2 (RC hp) cs ds → ∃ ds', fillP aρ ds parts = some ds' ∧ A2 (RC hp) cs' ds'
  | [], cs, cs', ds, h, hr => by simp [nfillP] at h; subst h; exact ⟨ds, rfl, hr⟩
  | (off, n, x) :: rest, cs, cs', ds, h, hr => by
    simp only [nfillP] at h
    split at h
    · rename_i hc
      obtain ⟨h1, h2⟩ := (hρ x).cells hc.2.2
      obtain ⟨ds', e, h3⟩ := fillP_rel hρ h (putAt_rel hr h1 off)
      refine ⟨ds', ?_, h3⟩
      simp only [fillP]
      rw [if_pos ⟨by rw [← h1.1]; exact hc.1, by rw [← hr.1]; exact hc.2.1, h2⟩]
      exact e
    · cases h
theorem fillS_rel {ρ : Opd → NVal} {aρ : Opd → AVal} (hρ : ∀ x, RT hp (ρ x) (aρ x)) {e : Nat} : ∀ {parts : List (Nat × Opd)} {xs xs' : List (List NVal)} {ys : List (List AVal)}, nfillS ρ e xs parts = some xs' → A2 (A2 (RC hp)) xs ys → ∃ ys', fillS aρ e ys parts = some ys' ∧ A2 (A2 (RC hp)) xs' ys'
  | [], xs, xs', ys, h, hr => by simp [nfillS] at h; subst h; exact ⟨ys, rfl, hr⟩
  | (i, x) :: rest, xs, xs', ys, h, hr => by
    simp only [nfillS] at h
    split at h
    · rename_i hc
      obtain ⟨h1, h2⟩ := (hρ x).cells hc.2.2
      obtain ⟨ys', e', h3⟩ := fillS_rel hρ h (hr.set i h1)
      refine ⟨ys', ?_, h3⟩
      simp only [fillS]
      rw [if_pos ⟨by rw [← h1.1]; exact hc.1, by rw [← hr.1]; exact hc.2.1, h2⟩]
      exact e'
    · cases h
theorem partOf_rel {agg : Bool} {cs : List NVal} {ds : List AVal} {off n : Nat} {v : NVal} (h : npartOf agg cs off n = some v) (hr : A2 (RC hp) cs ds) : ∃ a, partOf agg ds off n = some a ∧ RV hp v a := by
  unfold npartOf at h
  unfold partOf
  rw [← hr.1]
  split at h
  · rename_i h1
    rw [if_pos h1]
    split at h
    · rename_i h2
      rw [if_pos h2]
      cases h
      exact ⟨_, rfl, .agg _ _ ((hr.drop off).take n)⟩
    · rename_i h2
      rw [if_neg h2]
      split at h
      · rename_i h3
        rw [if_pos h3]
        obtain ⟨a, ha, hra⟩ := hr.get h
        exact ⟨a, ha, .c hra⟩
      · cases h
  · cases h

theorem nbound_inv {ρ : Opd → NVal} {aρ : Opd → AVal} (hρ : ∀ x, RT hp (ρ x) (aρ x)) {o : Option Opd} {k : Option Nat → Option ω} (h : nbound ρ o k = some r) : ∃ m, optIdx aρ o = some m ∧ (∀ d, bound aρ o d = some (m.getD d)) ∧ k m = some r := by
  unfold nbound at h
  split at h
  · exact ⟨none, rfl, fun d => rfl, h⟩
  · obtain ⟨n, hn, hk⟩ := nidx_inv h (hρ _)
    exact ⟨some n, by simp only [optIdx, hn], fun d => by simp only [bound, hn, Option.getD_some], hk⟩

theorem cond_some {b : Bool} {x : Option ω} (h : cond b x none = some r) : b = true ∧ x = some r := by
  cases b with
  | true => exact ⟨rfl, h⟩
  | false => cases h

/-- what a part of a list is -/
theorem cut_eq {α : Type} {xs : List α} {lo hi : Option Nat} (h : cutOk xs.length lo hi = true) : lo.getD 0 ≤ hi.getD xs.length ∧ hi.getD xs.length ≤ xs.length ∧ cut xs lo hi = (xs.take (hi.getD xs.length)).drop (lo.getD 0) := by
  cases lo <;> cases hi <;> simp_all [cutOk, cut]
theorem cutOk_le {n : Nat} {lo hi : Option Nat} (h : cutOk n lo hi = true) : lo.getD 0 ≤ hi.getD n ∧ hi.getD n ≤ n := by
  cases lo <;> cases hi <;> simp_all [cutOk]
theorem A2.cut {α β : Type} {R : α → β → Prop} {xs : List α} {ys : List β} (h : A2 R xs ys) (lo hi : Option Nat) : A2 R (NM.cut xs lo hi) (NM.cut ys lo hi) := by
  cases lo <;> cases hi <;> simp only [NM.cut]
  · exact h
  · exact h.take _
  · exact h.drop _
  · exact (h.take _).drop _

theorem nslice_sound {el : Nat} {x : NVal} {a : AVal} {lo hi : Option Nat} {k : NVal → Option ω} (h : nslice hp el x lo hi k = some r) (hx : RT hp x a) : ∃ v c, sliceVal el a (lo.getD 0) hi none = some c ∧ RT hp v c ∧ k v = some r := by
  unfold nslice at h
  split at h
  · -- lst
    rename_i t xs
    split at h
    · rename_i he
      obtain ⟨hc, hk⟩ := cond_some h
      rcases hx.lst_inv.lst_inv with ⟨ys, rfl, hy⟩ | ⟨rfl, rfl⟩
      · have hc2 := hc
        rw [hy.1] at hc2
        obtain ⟨h1, h2, h3⟩ := cut_eq (xs := ys) hc2
        refine ⟨_, .imm (ops t).size (cut ys lo hi), ?_, (RI.mk_lst (hy.cut lo hi)).rt, hk⟩
        simp only [sliceVal]
        rw [if_pos ⟨h1, h2, he.symm⟩, h3]
      · have h1 := cutOk_le hc
        simp only [List.length_nil] at h1
        have e1 : lo.getD 0 = 0 := by omega
        have e2 : hi.getD 0 = 0 := by omega
        refine ⟨_, .zsl, ?_, (RI.lst0 t).rt, ?_⟩
        · simp [sliceVal, e1, e2]
        · rw [← hk]; congr 2; cases lo <;> cases hi <;> simp [cut]
    · cases h
  · rename_i e xs
    split at h
    · rename_i he
      obtain ⟨hc, hk⟩ := cond_some h
      rcases hx.rows_inv.rows_inv with ⟨ys, rfl, hy⟩ | ⟨rfl, rfl⟩
      · have hc2 := hc
        rw [hy.1] at hc2
        obtain ⟨h1, h2, h3⟩ := cut_eq (xs := ys) hc2
        refine ⟨_, .imm e (cut ys lo hi), ?_, (RI.mk_rows (hy.cut lo hi)).rt, hk⟩
        simp only [sliceVal]
        rw [if_pos ⟨h1, h2, he⟩, h3]
      · have h1 := cutOk_le hc
        simp only [List.length_nil] at h1
        have e1 : lo.getD 0 = 0 := by omega
        have e2 : hi.getD 0 = 0 := by omega
        refine ⟨_, .zsl, ?_, (RI.rows0 e).rt, ?_⟩
        · simp [sliceVal, e1, e2]
        · rw [← hk]; congr 2; cases lo <;> cases hi <;> simp [cut]
    · cases h
  · obtain ⟨hc, hk⟩ := cond_some h
    rw [hx.zsl_inv]
    simp only [Bool.and_eq_true, decide_eq_true_eq] at hc
    exact ⟨_, .zsl, by simp [sliceVal, hc.1, hc.2], RI.zsl.rt, hk⟩
  · rename_i b e
    split at h
    · rename_i he
      obtain ⟨n, rfl, hn⟩ := hx.slw_inv
      split at h
      · refine ⟨_, .sl b 0 n e, ?_, (RP.slw b e n hn).rt, h⟩
        simp [sliceVal, he]
      · split at h
        · rename_i kb hkb
          obtain ⟨hc, hk⟩ := cond_some h
          have hlen : kb.len = n := by
            unfold lenAt at hn
            unfold nget at hkb
            split at hkb
            · rename_i hs; rw [hs] at hn; cases hkb; exact hn
            · cases hkb
          rw [hlen] at hc hk
          obtain ⟨h1, h2⟩ := cutOk_le hc
          cases hd : (decide (lo.getD 0 = 0) || decide (lo.getD 0 < n)) with
          | true =>
            rw [hd] at hk
            simp only [Bool.or_eq_true, decide_eq_true_eq] at hd
            refine ⟨_, .sl b (lo.getD 0) (hi.getD n - lo.getD 0) e, ?_, (RP.sl _ _ _ _).rt, hk⟩
            simp only [sliceVal, Nat.zero_add]
            rw [if_pos ⟨h1, h2, he⟩, if_pos hd]
          | false =>
            rw [hd] at hk
            have hd' : ¬ (lo.getD 0 = 0 ∨ lo.getD 0 < n) := fun hh => by
              have : (decide (lo.getD 0 = 0) || decide (lo.getD 0 < n)) = true := by simpa using hh
              rw [this] at hd; cases hd
            refine ⟨_, .imm e [], ?_, (RI.rows e [] [] rfl (fun i x y hx => by simp at hx) (fun i x y j c d hx => by simp at hx)).rt, hk⟩
            simp only [sliceVal, Nat.zero_add]
            rw [if_pos ⟨h1, h2, he⟩, if_neg hd']
        · cases h
    · cases h
  · rename_i b off len e
    split at h
    · rename_i he
      rw [hx.sl_inv]
      obtain ⟨hc, hk⟩ := cond_some h
      obtain ⟨h1, h2⟩ := cutOk_le hc
      cases hd : (decide (lo.getD 0 = 0) || decide (lo.getD 0 < len)) with
      | true =>
        rw [hd] at hk
        simp only [Bool.or_eq_true, decide_eq_true_eq] at hd
        refine ⟨_, .sl b (off + lo.getD 0) (hi.getD len - lo.getD 0) e, ?_, (RP.sl _ _ _ _).rt, hk⟩
        simp only [sliceVal]
        rw [if_pos ⟨h1, h2, he⟩, if_pos hd]
      | false =>
        rw [hd] at hk
        have hd' : ¬ (lo.getD 0 = 0 ∨ lo.getD 0 < len) := fun hh => by
          have : (decide (lo.getD 0 = 0) || decide (lo.getD 0 < len)) = true := by simpa using hh
          rw [this] at hd; cases hd
        refine ⟨_, .imm e [], ?_, (RI.rows e [] [] rfl (fun i x y hx => by simp at hx) (fun i x y j c d hx => by simp at hx)).rt, hk⟩
        simp only [sliceVal]
        rw [if_pos ⟨h1, h2, he⟩, if_neg hd']
    · cases h
  · cases h

theorem len_of {b n : Nat} {kb : NBlk} (hn : lenAt hp b n) (hkb : nget hp b = some kb) : kb.len = n := by
  unfold lenAt at hn
  unfold nget at hkb
  split at hkb
  · rename_i hs; rw [hs] at hn; cases hkb; exact hn
  · cases hkb

theorem RT.cap {v : NVal} {a : AVal} (h : RT hp v a) (hv : ncapB v = true) : RP hp v a ∧ a.cellB = true := by
  have hc : ncellB v = true := by
    unfold ncapB at hv
    split at hv
    · rfl
    · exact hv
  have h1 := h.cell hc
  refine ⟨?_, h1.cellB hc⟩
  cases h1 with
  | p h => exact h
  | fn f cap cap' h2 =>
    simp only [ncapB] at hv
    refine .ro (.fn f cap cap' h2.1 fun j c d hc hd => ?_)
    rw [List.all_eq_true] at hv
    exact ((h2.2 j c d hc hd).imm (hv _ (List.mem_of_getElem? hc))).1

theorem npure_sound {op : AOp} {ρ : Opd → NVal} {aρ : Opd → AVal} (hρ : ∀ x, RT hp (ρ x) (aρ x)) {k : NVal → Option ω} (h : npure hp op ρ k = some r) : ∃ v c, pureOp op aρ = some c ∧ RT hp v c ∧ k v = some r := by
  cases op
  case move x =>
    simp only [npure] at h
    simp only [pureOp]
    exact ⟨_, _, rfl, hρ _, h⟩
  case pick c x y =>
    simp only [npure] at h
    simp only [pureOp]
    split at h
    · rename_i t ht
      have hc := hρ c
      rw [ht] at hc
      rw [hc.bool_inv]
      cases t with
      | true => exact ⟨_, _, rfl, hρ x, h⟩
      | false => exact ⟨_, _, rfl, hρ y, h⟩
    · cases h
  case build zero parts =>
    simp only [npure] at h
    simp only [pureOp]
    split at h
    · rename_i zs hz
      split at h
      · rename_i cs hcs
        obtain ⟨ds, hd, hr⟩ := fillP_rel hρ hcs ((nzero_rel (hp := hp) hz).mono fun _ _ h => h.c)
        exact ⟨_, _, by simp only [hd]; rfl, .v (.agg _ _ hr), h⟩
      · cases h
    · cases h
  case nilCheck x =>
    simp only [npure] at h
    simp only [pureOp]
    have hx := hρ x
    split at h
    · rename_i hv; rw [hv] at hx; rw [hx.ptr_inv]; exact ⟨_, _, rfl, (RP.ptr _ _ _).rt, h⟩
    · rename_i hv; rw [hv] at hx; obtain ⟨ds, e, hd⟩ := hx.iptr_inv; rw [e]; rw [e] at hx; exact ⟨_, _, rfl, hx, h⟩
    · rename_i hv; rw [hv] at hx; obtain ⟨ds, e, hd⟩ := hx.fn_inv; rw [e]; rw [e] at hx; exact ⟨_, _, rfl, hx, h⟩
    · cases h
  case bin op x y =>
    simp only [npure] at h
    simp only [pureOp]
    exact nbin_sound h (hρ _) (hρ _)
  case eqB neg x y =>
    simp only [npure] at h
    simp only [pureOp]
    split at h
    · rename_i a b hx hy
      have h1 := hρ x
      have h2 := hρ y
      rw [hx] at h1
      rw [hy] at h2
      rw [h1.bool_inv, h2.bool_inv]
      exact ⟨_, _, rfl, (RI.bool _).rt, by cases neg <;> exact h⟩
    · cases h
  case eqP neg x y =>
    simp only [npure] at h
    simp only [pureOp]
    split at h
    · rename_i q hq
      have h1 := hρ x
      have h2 := hρ y
      have key : eqPtr (aρ x) (aρ y) = some q := by
        unfold neqPtr at hq
        split at hq
        · rename_i e1 e2; rw [e1] at h1; rw [e2] at h2; rw [h1.nilp_inv, h2.nilp_inv]; exact hq
        · rename_i e1 e2; rw [e1] at h1; rw [e2] at h2; rw [h1.nilp_inv, h2.ptr_inv]; exact hq
        · rename_i e1 e2; rw [e1] at h1; rw [e2] at h2; obtain ⟨ds, e, _⟩ := h2.iptr_inv; rw [h1.nilp_inv, e]; exact hq
        · rename_i e1 e2; rw [e1] at h1; rw [e2] at h2; rw [h1.ptr_inv, h2.nilp_inv]; exact hq
        · rename_i e1 e2; rw [e1] at h1; rw [e2] at h2; obtain ⟨ds, e, _⟩ := h1.iptr_inv; rw [e, h2.nilp_inv]; exact hq
        · cases hq
      exact ⟨_, _, by simp only [key]; rfl, (RI.bool _).rt, by cases neg <;> exact h⟩
    · cases h
  case eqI neg x y =>
    simp only [npure] at h
    simp only [pureOp]
    split at h
    · rename_i hx hy
      have h1 := hρ x
      have h2 := hρ y
      rw [hx] at h1
      rw [hy] at h2
      rw [h1.nili_inv, h2.nili_inv]
      exact ⟨_, _, rfl, (RI.bool _).rt, by cases neg <;> exact h⟩
    · rename_i t xs hx hy
      have h1 := hρ x
      have h2 := hρ y
      rw [hx] at h1
      rw [hy] at h2
      rw [h2.zsl_inv]
      cases xs with
      | nil => simp at h
      | cons u us =>
        simp only [List.isEmpty_cons, cond_false] at h
        rcases h1.lst_inv.lst_inv with ⟨ys, e1, r1⟩ | ⟨_, e1⟩
        · obtain ⟨z, zs, rfl, _, _⟩ := r1.cons_inv
          rw [e1]
          exact ⟨_, _, rfl, (RI.bool _).rt, by cases neg <;> exact h⟩
        · cases e1
    · rename_i e xs hx hy
      have h1 := hρ x
      have h2 := hρ y
      rw [hx] at h1
      rw [hy] at h2
      rw [h2.zsl_inv]
      cases xs with
      | nil => simp at h
      | cons u us =>
        simp only [List.isEmpty_cons, cond_false] at h
        rcases h1.rows_inv.rows_inv with ⟨ys, e1, r1⟩ | ⟨_, e1⟩
        · obtain ⟨z, zs, rfl, _, _⟩ := r1.cons_inv
          rw [e1]
          exact ⟨_, _, rfl, (RI.bool _).rt, by cases neg <;> exact h⟩
        · cases e1
    · rename_i b e hx hy
      have h1 := hρ x
      have h2 := hρ y
      rw [hx] at h1
      rw [hy] at h2
      rw [h2.zsl_inv]
      obtain ⟨n, e1, e2⟩ := h1.slw_inv
      rw [e1]
      split at h
      · rename_i kb hkb
        by_cases h0 : kb.len = 0
        · simp [h0] at h
        · simp only [h0, decide_false, cond_false] at h
          unfold lenAt at e2
          rw [nget_hp hkb] at e2
          have e2 : kb.len = n := e2
          obtain ⟨m, rfl⟩ : ∃ m, n = m + 1 := ⟨n - 1, by omega⟩
          exact ⟨_, _, rfl, (RI.bool _).rt, by cases neg <;> exact h⟩
      · cases h
    · cases h
  case eqAgg neg x y =>
    simp only [npure] at h
    simp only [pureOp]
    split at h
    · rename_i a b hx hy
      split at h
      · rename_i q hq
        have h1 := hρ x
        have h2 := hρ y
        rw [hx] at h1
        rw [hy] at h2
        obtain ⟨us, e1, r1⟩ := h1.agg_inv
        obtain ⟨vs, e2, r2⟩ := h2.agg_inv
        rw [e1, e2]
        refine ⟨_, _, by simp only [ncellsEq_rel hq r1 r2]; rfl, (RI.bool _).rt, by cases neg with | mk n ks => cases n <;> exact h⟩
      · cases h
    · cases h
  case un op x =>
    simp only [npure] at h
    simp only [pureOp]
    have hx := hρ x
    split at h
    · rename_i hv; rw [hv] at hx; rw [hx.int_inv]; exact ⟨_, _, rfl, (RI.int _ _).rt, h⟩
    · rename_i hv; rw [hv] at hx; rw [hx.bool_inv]; exact ⟨_, _, rfl, (RI.bool _).rt, h⟩
    · cases h
  case conv kd x =>
    simp only [npure] at h
    simp only [pureOp]
    have hx := hρ x
    split at h
    · rename_i hv; rw [hv] at hx; rw [hx.int_inv]; exact ⟨_, _, rfl, (RI.int _ _).rt, h⟩
    · cases h
  case slice el x lo hi mx =>
    simp only [npure] at h
    simp only [pureOp]
    split at h
    · obtain ⟨l, h1, h2, h3⟩ := nbound_inv hρ h
      obtain ⟨m, h4, h5, h6⟩ := nbound_inv hρ h3
      obtain ⟨v, c, h7, h8, h9⟩ := nslice_sound h6 (hρ x)
      refine ⟨v, c, ?_, h8, h9⟩
      have e0 : optIdx aρ none = some none := rfl
      rw [h2 0, h4, e0]
      exact h7
    · cases h
  case sliceStr x lo hi =>
    simp only [npure] at h
    simp only [pureOp]
    split at h
    · rename_i s hs
      have hx := hρ x
      rw [hs] at hx
      rw [hx.str_inv]
      obtain ⟨l, h1, h2, h3⟩ := nbound_inv hρ h
      obtain ⟨m, h4, h5, h6⟩ := nbound_inv hρ h3
      obtain ⟨hc, hk⟩ := cond_some h6
      obtain ⟨e1, e2, e3⟩ := cut_eq hc
      refine ⟨_, .str (cut s l m), ?_, (RI.str _).rt, hk⟩
      simp only [h2 0, h5 s.length]
      rw [if_pos ⟨e1, e2⟩, e3]
    · cases h
  case fieldAddr off x =>
    simp only [npure] at h
    simp only [pureOp]
    have hx := hρ x
    split at h
    · rename_i hv; rw [hv] at hx; rw [hx.ptr_inv]; exact ⟨_, _, rfl, (RP.ptr _ _ _).rt, h⟩
    · rename_i hv
      rw [hv] at hx
      obtain ⟨ds, e, hd⟩ := hx.iptr_inv
      rw [e]
      exact ⟨_, _, rfl, (RI.iptr _ _ _ hd.1 hd.2).rt, h⟩
    · cases h
  case field agg off n x =>
    simp only [npure] at h
    simp only [pureOp]
    split at h
    · rename_i cs hcs
      have hx := hρ x
      rw [hcs] at hx
      obtain ⟨ds, e, hd⟩ := hx.agg_inv
      rw [e]
      split at h
      · rename_i v hv
        obtain ⟨a, ha, hr⟩ := partOf_rel hv hd
        exact ⟨v, a, ha, .v hr, h⟩
      · cases h
    · cases h
  case indexSl e x i =>
    simp only [npure] at h
    simp only [pureOp]
    have hx := hρ x
    split at h
    · rename_i t xs hv
      rw [hv] at hx
      split at h
      · rename_i he
        obtain ⟨n, hn, hk⟩ := nidx_inv h (hρ i)
        simp only [Option.bind_eq_some_iff] at hk
        obtain ⟨y, hy, hk⟩ := hk
        rcases hx.lst_inv.lst_inv with ⟨ys, e1, hys⟩ | ⟨e1, e2⟩
        · obtain ⟨row, hrow, hrx⟩ := hys.get hy
          rw [e1, hn]
          refine ⟨_, .iptr row 0, ?_, (RI.iptr _ _ _ hrx.1 hrx.2).rt, hk⟩
          simp only [he, if_true, hrow, Option.map_some]
        · rw [e2] at hy; simp at hy
      · cases h
    · rename_i e' xs hv
      rw [hv] at hx
      split at h
      · rename_i he
        obtain ⟨n, hn, hk⟩ := nidx_inv h (hρ i)
        split at hk
        · rename_i y hy
          rcases hx.rows_inv.rows_inv with ⟨ys, e1, hys⟩ | ⟨e1, e2⟩
          · obtain ⟨row, hrow, hrx⟩ := hys.get hy
            rw [e1, hn]
            refine ⟨_, .iptr row 0, ?_, (RI.iptr _ _ _ hrx.1 hrx.2).rt, hk⟩
            simp only [he, if_true, hrow, Option.map_some]
          · rw [e2] at hy; simp at hy
        · cases hk
      · cases h
    · rename_i b e' hv
      rw [hv] at hx
      split at h
      · rename_i he
        split at h
        · rename_i kb hkb
          obtain ⟨m, e1, hm⟩ := hx.slw_inv
          have hl := len_of hm hkb
          obtain ⟨n, hn, hk⟩ := nidx_inv h (hρ i)
          obtain ⟨hc, hk⟩ := cond_some hk
          rw [hl] at hc
          simp only [decide_eq_true_eq] at hc
          rw [e1, hn]
          refine ⟨_, .ptr b n 0, ?_, (RP.ptr _ _ _).rt, hk⟩
          simp only [Nat.zero_add]
          rw [if_pos ⟨hc, he⟩]
        · cases h
      · cases h
    · rename_i b off len e' hv
      rw [hv] at hx
      split at h
      · rename_i he
        obtain ⟨n, hn, hk⟩ := nidx_inv h (hρ i)
        obtain ⟨hc, hk⟩ := cond_some hk
        simp only [decide_eq_true_eq] at hc
        rw [hx.sl_inv, hn]
        refine ⟨_, .ptr b (off + n) 0, ?_, (RP.ptr _ _ _).rt, hk⟩
        simp only
        rw [if_pos ⟨hc, he⟩]
      · cases h
    · cases h
  case indexArr len e x i =>
    simp only [npure] at h
    simp only [pureOp]
    have hx := hρ x
    split at h
    · rename_i b j f hv
      rw [hv] at hx
      obtain ⟨n, hn, hk⟩ := nidx_inv h (hρ i)
      obtain ⟨hc, hk⟩ := cond_some hk
      simp only [decide_eq_true_eq] at hc
      rw [hx.ptr_inv, hn]
      exact ⟨_, _, by simp only [hc, if_true], (RP.ptr _ _ _).rt, hk⟩
    · rename_i cs o hv
      rw [hv] at hx
      obtain ⟨n, hn, hk⟩ := nidx_inv h (hρ i)
      obtain ⟨hc, hk⟩ := cond_some hk
      simp only [decide_eq_true_eq] at hc
      obtain ⟨ds, e1, hd⟩ := hx.iptr_inv
      rw [e1, hn]
      exact ⟨_, _, by simp only [hc, if_true], (RI.iptr _ _ _ hd.1 hd.2).rt, hk⟩
    · cases h
  case indexVal agg len e x i =>
    simp only [npure] at h
    simp only [pureOp]
    have hx := hρ x
    split at h
    · rename_i cs hv
      rw [hv] at hx
      obtain ⟨n, hn, hk⟩ := nidx_inv h (hρ i)
      obtain ⟨hc, hk⟩ := cond_some hk
      simp only [decide_eq_true_eq] at hc
      obtain ⟨ds, e1, hd⟩ := hx.agg_inv
      rw [e1, hn]
      split at hk
      · rename_i v hv
        obtain ⟨a, ha, hr⟩ := partOf_rel hv hd
        exact ⟨v, a, by simp only [hc, if_true, ha], .v hr, hk⟩
      · cases hk
    · cases h
  case indexStr x i =>
    simp only [npure] at h
    simp only [pureOp]
    split at h
    · rename_i s hs
      have hx := hρ x
      rw [hs] at hx
      obtain ⟨n, hn, hk⟩ := nidx_inv h (hρ i)
      simp only [Option.bind_eq_some_iff] at hk
      obtain ⟨c, hc, hk⟩ := hk
      rw [hx.str_inv, hn]
      exact ⟨_, _, by simp only [hc], (RI.int _ _).rt, hk⟩
    · cases h
  case extract x i =>
    simp only [npure] at h
    simp only [pureOp]
    split at h
    · rename_i vs hv
      have hx := hρ x
      rw [hv] at hx
      obtain ⟨ds, e, hd⟩ := hx.tup_inv
      split at h
      · rename_i v hvi
        obtain ⟨a, ha, hr⟩ := hd.get hvi
        rw [e]
        exact ⟨v, a, ha, .v hr, h⟩
      · cases h
    · cases h
  case makeFunc f cap =>
    simp only [npure] at h
    simp only [pureOp]
    split at h
    · rename_i hc
      have key : ∀ (l : List Opd), (l.map ρ).all ncapB = true → (l.map aρ).all AVal.cellB = true ∧ A2 (RP hp) (l.map ρ) (l.map aρ) := by
        intro l
        induction l with
        | nil => intro _; exact ⟨rfl, .nil⟩
        | cons x l ih =>
          intro hl
          simp only [List.map_cons, List.all_cons, Bool.and_eq_true] at hl ⊢
          obtain ⟨i1, i2⟩ := ih hl.2
          have h1 := (hρ x).cap hl.1
          exact ⟨⟨h1.2, i1⟩, .cons h1.1 i2⟩
      obtain ⟨k1, k2⟩ := key cap hc
      rw [if_pos k1]
      exact ⟨_, _, rfl, .v (.c (.fn _ _ _ k2)), h⟩
    · cases h
  case len x =>
    simp only [npure] at h
    simp only [pureOp]
    have hx := hρ x
    split at h
    · rename_i t xs hv
      rw [hv] at hx
      rcases hx.lst_inv.lst_inv with ⟨ys, e1, hys⟩ | ⟨e1, e2⟩
      · rw [e1]
        simp only [lenVal]
        rw [← hys.1]
        exact ⟨_, _, rfl, (RI.int _ _).rt, h⟩
      · rw [e1]
        subst e2
        exact ⟨_, _, rfl, (RI.int _ _).rt, h⟩
    · rename_i e xs hv
      rw [hv] at hx
      rcases hx.rows_inv.rows_inv with ⟨ys, e1, hys⟩ | ⟨e1, e2⟩
      · rw [e1]
        simp only [lenVal]
        rw [← hys.1]
        exact ⟨_, _, rfl, (RI.int _ _).rt, h⟩
      · rw [e1]
        subst e2
        exact ⟨_, _, rfl, (RI.int _ _).rt, h⟩
    · rename_i hv
      rw [hv] at hx
      rw [hx.zsl_inv]
      exact ⟨_, _, rfl, (RI.int _ _).rt, h⟩
    · rename_i b e hv
      rw [hv] at hx
      split at h
      · rename_i kb hkb
        obtain ⟨m, e1, hm⟩ := hx.slw_inv
        rw [len_of hm hkb] at h
        rw [e1]
        exact ⟨_, _, rfl, (RI.int _ _).rt, h⟩
      · cases h
    · rename_i b o l e hv
      rw [hv] at hx
      rw [hx.sl_inv]
      exact ⟨_, _, rfl, (RI.int _ _).rt, h⟩
    · cases h
  case lenStr x =>
    simp only [npure] at h
    simp only [pureOp]
    split at h
    · rename_i s hs
      have hx := hρ x
      rw [hs] at hx
      rw [hx.str_inv]
      exact ⟨_, _, rfl, (RI.int _ _).rt, h⟩
    · cases h
  case minmax isMax x y =>
    simp only [npure] at h
    simp only [pureOp]
    split at h
    · rename_i kd a kd' b hx hy
      split at h
      · rename_i hk
        have h1 := hρ x
        have h2 := hρ y
        rw [hx] at h1
        rw [hy] at h2
        rw [h1.int_inv, h2.int_inv]
        simp only [hk, if_true]
        exact ⟨_, _, rfl, (RI.int _ _).rt, by cases isMax <;> (simp only [hk] at h; exact h)⟩
      · cases h
    · cases h
  all_goals (simp only [npure] at h; cases h)

end NM
end Go.Proofs.Ytfelhbeiegppgaa
