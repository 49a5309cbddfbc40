/-
  What the proof of SpecTexts leans on, part 13. (Many texts laid together by program.)
-/
import Derived.Test.YtjngkfdclcgfhaaGreatDoorPkTl
set_option linter.unnecessarySimpa false
set_option linter.unusedSimpArgs false
set_option linter.unusedVariables false
section
namespace Go.Proofs.YtjngkfdclcgfhaaGreatDoor
namespace NM
open AM
variable {ω : Type} {hp : NHeap} {r : ω}
theorem nidx_inv {v : NVal} {a : AVal} {k : Nat → Option ω} (h : nidx v k = some r) (hr : RT hp v a) : ∃ n, idxNat a = some n ∧ k n = some r := by
 unfold nidx at h
 split at h
 · rename_i kd n
   rw [hr.int_inv]
   by_cases h0 : 0 ≤ n
   · simp only [h0, decide_true, cond_true] at h
     exact ⟨_, by simp [idxNat, h0], h⟩
   · simp [h0] at h
 · cases h
theorem nbin_sound {op : BinOp} {x y : NVal} {a b : AVal} {k : NVal → Option ω} (h : nbin op x y k = some r) (hx : RT hp x a) (hy : RT hp y b) : ∃ v c, binop op a b = some c ∧ RT hp v c ∧ k v = some r := by
 unfold nbin at h
 split at h
 · rename_i kd m kd' n
   rw [hx.int_inv, hy.int_inv]
   split at h
   · rename_i hk
     simp only [binop, if_pos hk]
     cases op
     case quo =>
       simp only [nbinInt] at h
       simp only [binInt]
       by_cases h0 : n = 0
       · simp [h0] at h
       · rw [if_neg h0]; simp only [h0, decide_false, cond_false] at h; exact ⟨_, _, rfl, (RI.int _ _).rt, h⟩
     case rem =>
       simp only [nbinInt] at h
       simp only [binInt]
       by_cases h0 : n = 0
       · simp [h0] at h
       · rw [if_neg h0]; simp only [h0, decide_false, cond_false] at h; exact ⟨_, _, rfl, (RI.int _ _).rt, h⟩
     case shl =>
       simp only [nbinInt] at h
       simp only [binInt]
       by_cases h0 : n < 0
       · simp [h0] at h
       · rw [if_neg h0]; simp only [h0, decide_false, cond_false] at h; exact ⟨_, _, rfl, (RI.int _ _).rt, h⟩
     case shr =>
       simp only [nbinInt] at h
       simp only [binInt]
       by_cases h0 : n < 0
       · simp [h0] at h
       · rw [if_neg h0]; simp only [h0, decide_false, cond_false] at h; exact ⟨_, _, rfl, (RI.int _ _).rt, h⟩
     all_goals (simp only [nbinInt] at h; simp only [binInt]; first | exact ⟨_, _, rfl, (RI.int _ _).rt, h⟩ | exact ⟨_, _, rfl, (RI.bool _).rt, h⟩)
   · cases h
 · rename_i s t
   rw [hx.str_inv, hy.str_inv]
   simp only [binop]
   cases op
   case add =>
     simp only [nbinStr] at h
     simp only [binStr]
     by_cases h0 : s.length + t.length ≤ 4294967296
     · rw [if_pos h0]; simp only [h0, decide_true, cond_true] at h; exact ⟨_, _, rfl, (RI.str _).rt, h⟩
     · simp [h0] at h
   all_goals (simp only [nbinStr] at h; simp only [binStr]; first | (cases h; done) | exact ⟨_, _, rfl, (RI.bool _).rt, h⟩)
 · cases h
theorem nget_hp {hp : NHeap} {b : Nat} {kb : NBlk} (h : nget hp b = some kb) : hp[b]? = some (.live kb) := by
 unfold nget at h
 split at h
 · rename_i hk; cases h; exact hk
 · cases h
theorem ncellEq_rel {k : CK} {x y : NVal} {a b : AVal} {q : Bool} (h : ncellEq k x y = some q) (hx : RC hp x a) (hy : RC hp y b) : cellEq k a b = some q := by
 have hx := hx.rt
 have hy := hy.rt
 unfold ncellEq at h
 split at h
 · rw [hx.int_inv, hy.int_inv]; simpa [cellEq] using h
 · rw [hx.bool_inv, hy.bool_inv]; simpa [cellEq] using h
 · rw [hx.str_inv, hy.str_inv]; simpa [cellEq] using h
 · cases h
theorem ncellsEq_rel : ∀ {ks : List CK} {xs ys : List NVal} {us vs : List AVal} {q : Bool}, ncellsEq ks xs ys = some q → A2 (RC hp) xs us → A2 (RC hp) ys vs → cellsEq ks us vs = some q
 | [], [], [], us, vs, q, h, hx, hy => by rw [hx.nil_inv, hy.nil_inv]; simpa [ncellsEq, cellsEq] using h
 | k :: ks, x :: xs, y :: ys, us, vs, q, h, hx, hy => by
   obtain ⟨a, us, rfl, h1, h2⟩ := hx.cons_inv
   obtain ⟨b, vs, rfl, h3, h4⟩ := hy.cons_inv
   simp only [ncellsEq] at h
   split at h
   · rename_i p hp'
     split at h
     · rename_i p' hp''
       cases h
       have e1 := ncellEq_rel hp' h1 h3
       have e2 := ncellsEq_rel hp'' h2 h4
       simp only [cellsEq]
       rw [e1, e2]
     · cases h
   · cases h
 | [], [], _ :: _, _, _, _, h, _, _ => by simp [ncellsEq] at h
 | [], _ :: _, _, _, _, _, h, _, _ => by simp [ncellsEq] at h
 | _ :: _, [], _, _, _, _, h, _, _ => by simp [ncellsEq] at h
 | _ :: _, _ :: _, [], _, _, _, h, _, _ => by simp [ncellsEq] at h
theorem putAt_rel {cs vs : List NVal} {ds us : List AVal} (h : A2 (RC hp) cs ds) (hv : A2 (RC hp) vs us) (off : Nat) : A2 (RC hp) (nputAt cs off vs) (putAt ds off us) := by
 unfold nputAt putAt
 rw [hv.1]
 exact ((h.take off).append hv).append (h.drop _)
theorem fillP_rel {ρ : Opd → NVal} {aρ : Opd → AVal} (hρ : ∀ x, RT hp (ρ x) (aρ x)) : ∀ {parts : List (Nat × Nat × Opd)} {cs cs' : List NVal} {ds : List AVal}, nfillP ρ cs parts = some cs' → A2 (RC hp) cs ds → ∃ ds', fillP aρ ds parts = some ds' ∧ A2 (RC hp) cs' ds'
 | [], cs, cs', ds, h, hr => by simp [nfillP] at h; subst h; exact ⟨ds, rfl, hr⟩
 | (off, n, x) :: rest, cs, cs', ds, h, hr => by
   simp only [nfillP] at h
   split at h
   · rename_i hc
     obtain ⟨h1, h2⟩ := (hρ x).cells hc.2.2
     obtain ⟨ds', e, h3⟩ := fillP_rel hρ h (putAt_rel hr h1 off)
     refine ⟨ds', ?_, h3⟩
     simp only [fillP]
     rw [if_pos ⟨by rw [← h1.1]; exact hc.1, by rw [← hr.1]; exact hc.2.1, h2⟩]
     exact e
   · cases h
theorem fillS_rel {ρ : Opd → NVal} {aρ : Opd → AVal} (hρ : ∀ x, RT hp (ρ x) (aρ x)) {e : Nat} : ∀ {parts : List (Nat × Opd)} {xs xs' : List (List NVal)} {ys : List (List AVal)}, nfillS ρ e xs parts = some xs' → A2 (A2 (RC hp)) xs ys → ∃ ys', fillS aρ e ys parts = some ys' ∧ A2 (A2 (RC hp)) xs' ys'
 | [], xs, xs', ys, h, hr => by simp [nfillS] at h; subst h; exact ⟨ys, rfl, hr⟩
 | (i, x) :: rest, xs, xs', ys, h, hr => by
   simp only [nfillS] at h
   split at h
   · rename_i hc
     obtain ⟨h1, h2⟩ := (hρ x).cells hc.2.2
     obtain ⟨ys', e', h3⟩ := fillS_rel hρ h (hr.set i h1)
     refine ⟨ys', ?_, h3⟩
     simp only [fillS]
     rw [if_pos ⟨by rw [← h1.1]; exact hc.1, by rw [← hr.1]; exact hc.2.1, h2⟩]
     exact e'
   · cases h
theorem partOf_rel {agg : Bool} {cs : List NVal} {ds : List AVal} {off n : Nat} {v : NVal} (h : npartOf agg cs off n = some v) (hr : A2 (RC hp) cs ds) : ∃ a, partOf agg ds off n = some a ∧ RV hp v a := by
 unfold npartOf at h
 unfold partOf
 rw [← hr.1]
 split at h
 · rename_i h1
   rw [if_pos h1]
   split at h
   · rename_i h2
     rw [if_pos h2]
     cases h
     exact ⟨_, rfl, .agg _ _ ((hr.drop off).take n)⟩
   · rename_i h2
     rw [if_neg h2]
     split at h
     · rename_i h3
       rw [if_pos h3]
       obtain ⟨a, ha, hra⟩ := hr.get h
       exact ⟨a, ha, .c hra⟩
     · cases h
 · cases h
theorem nbound_inv {ρ : Opd → NVal} {aρ : Opd → AVal} (hρ : ∀ x, RT hp (ρ x) (aρ x)) {o : Option Opd} {k : Option Nat → Option ω} (h : nbound ρ o k = some r) : ∃ m, optIdx aρ o = some m ∧ (∀ d, bound aρ o d = some (m.getD d)) ∧ k m = some r := by
 unfold nbound at h
 split at h
 · exact ⟨none, rfl, fun d => rfl, h⟩
 · obtain ⟨n, hn, hk⟩ := nidx_inv h (hρ _)
   exact ⟨some n, by simp only [optIdx, hn], fun d => by simp only [bound, hn, Option.getD_some], hk⟩
theorem cond_some {b : Bool} {x : Option ω} (h : cond b x none = some r) : b = true ∧ x = some r := by
 cases b with
 | true => exact ⟨rfl, h⟩
 | false => cases h
theorem cut_eq {α : Type} {xs : List α} {lo hi : Option Nat} (h : cutOk xs.length lo hi = true) : lo.getD 0 ≤ hi.getD xs.length ∧ hi.getD xs.length ≤ xs.length ∧ cut xs lo hi = (xs.take (hi.getD xs.length)).drop (lo.getD 0) := by
 cases lo <;> cases hi <;> simp_all [cutOk, cut]
theorem cutOk_le {n : Nat} {lo hi : Option Nat} (h : cutOk n lo hi = true) : lo.getD 0 ≤ hi.getD n ∧ hi.getD n ≤ n := by
 cases lo <;> cases hi <;> simp_all [cutOk]
theorem A2.cut {α β : Type} {R : α → β → Prop} {xs : List α} {ys : List β} (h : A2 R xs ys) (lo hi : Option Nat) : A2 R (NM.cut xs lo hi) (NM.cut ys lo hi) := by
 cases lo <;> cases hi <;> simp only [NM.cut]
 · exact h
 · exact h.take _
 · exact h.drop _
 · exact (h.take _).drop _
theorem nslice_sound {el : Nat} {x : NVal} {a : AVal} {lo hi : Option Nat} {k : NVal → Option ω} (h : nslice hp el x lo hi k = some r) (hx : RT hp x a) : ∃ v c, sliceVal el a (lo.getD 0) hi none = some c ∧ RT hp v c ∧ k v = some r := by
 unfold nslice at h
 split at h
 · -- lst
   rename_i t xs
   split at h
   · rename_i he
     obtain ⟨hc, hk⟩ := cond_some h
     rcases hx.lst_inv.lst_inv with ⟨ys, rfl, hy⟩ | ⟨rfl, rfl⟩
     · have hc2 := hc
       rw [hy.1] at hc2
       obtain ⟨h1, h2, h3⟩ := cut_eq (xs := ys) hc2
       refine ⟨_, .imm (ops t).size (cut ys lo hi), ?_, (RI.mk_lst (hy.cut lo hi)).rt, hk⟩
       simp only [sliceVal]
       rw [if_pos ⟨h1, h2, he.symm⟩, h3]
     · have h1 := cutOk_le hc
       simp only [List.length_nil] at h1
       have e1 : lo.getD 0 = 0 := by omega
       have e2 : hi.getD 0 = 0 := by omega
       refine ⟨_, .zsl, ?_, (RI.lst0 t).rt, ?_⟩
       · simp [sliceVal, e1, e2]
       · rw [← hk]; congr 2; cases lo <;> cases hi <;> simp [cut]
   · cases h
 · rename_i e xs
   split at h
   · rename_i he
     obtain ⟨hc, hk⟩ := cond_some h
     rcases hx.rows_inv.rows_inv with ⟨ys, rfl, hy⟩ | ⟨rfl, rfl⟩
     · have hc2 := hc
       rw [hy.1] at hc2
       obtain ⟨h1, h2, h3⟩ := cut_eq (xs := ys) hc2
       refine ⟨_, .imm e (cut ys lo hi), ?_, (RI.mk_rows (hy.cut lo hi)).rt, hk⟩
       simp only [sliceVal]
       rw [if_pos ⟨h1, h2, he⟩, h3]
     · have h1 := cutOk_le hc
       simp only [List.length_nil] at h1
       have e1 : lo.getD 0 = 0 := by omega
       have e2 : hi.getD 0 = 0 := by omega
       refine ⟨_, .zsl, ?_, (RI.rows0 e).rt, ?_⟩
       · simp [sliceVal, e1, e2]
       · rw [← hk]; congr 2; cases lo <;> cases hi <;> simp [cut]
   · cases h
 · obtain ⟨hc, hk⟩ := cond_some h
   rw [hx.zsl_inv]
   simp only [Bool.and_eq_true, decide_eq_true_eq] at hc
   exact ⟨_, .zsl, by simp [sliceVal, hc.1, hc.2], RI.zsl.rt, hk⟩
 · rename_i b e
   split at h
   · rename_i he
     obtain ⟨n, rfl, hn⟩ := hx.slw_inv
     split at h
     · refine ⟨_, .sl b 0 n e, ?_, (RP.slw b e n hn).rt, h⟩
       simp [sliceVal, he]
     · split at h
       · rename_i kb hkb
         obtain ⟨hc, hk⟩ := cond_some h
         have hlen : kb.len = n := by
           unfold lenAt at hn
           unfold nget at hkb
           split at hkb
           · rename_i hs; rw [hs] at hn; cases hkb; exact hn
           · cases hkb
         rw [hlen] at hc hk
         obtain ⟨h1, h2⟩ := cutOk_le hc
         cases hd : (decide (lo.getD 0 = 0) || decide (lo.getD 0 < n)) with
         | true =>
           rw [hd] at hk
           simp only [Bool.or_eq_true, decide_eq_true_eq] at hd
           refine ⟨_, .sl b (lo.getD 0) (hi.getD n - lo.getD 0) e, ?_, (RP.sl _ _ _ _).rt, hk⟩
           simp only [sliceVal, Nat.zero_add]
           rw [if_pos ⟨h1, h2, he⟩, if_pos hd]
         | false =>
           rw [hd] at hk
           have hd' : ¬ (lo.getD 0 = 0 ∨ lo.getD 0 < n) := fun hh => by
             have : (decide (lo.getD 0 = 0) || decide (lo.getD 0 < n)) = true := by simpa using hh
             rw [this] at hd; cases hd
           refine ⟨_, .imm e [], ?_, (RI.rows e [] [] rfl (fun i x y hx => by simp at hx) (fun i x y j c d hx => by simp at hx)).rt, hk⟩
           simp only [sliceVal, Nat.zero_add]
           rw [if_pos ⟨h1, h2, he⟩, if_neg hd']
       · cases h
   · cases h
 · rename_i b off len e
   split at h
   · rename_i he
     rw [hx.sl_inv]
     obtain ⟨hc, hk⟩ := cond_some h
     obtain ⟨h1, h2⟩ := cutOk_le hc
     cases hd : (decide (lo.getD 0 = 0) || decide (lo.getD 0 < len)) with
     | true =>
       rw [hd] at hk
       simp only [Bool.or_eq_true, decide_eq_true_eq] at hd
       refine ⟨_, .sl b (off + lo.getD 0) (hi.getD len - lo.getD 0) e, ?_, (RP.sl _ _ _ _).rt, hk⟩
       simp only [sliceVal]
       rw [if_pos ⟨h1, h2, he⟩, if_pos hd]
     | false =>
       rw [hd] at hk
       have hd' : ¬ (lo.getD 0 = 0 ∨ lo.getD 0 < len) := fun hh => by
         have : (decide (lo.getD 0 = 0) || decide (lo.getD 0 < len)) = true := by simpa using hh
         rw [this] at hd; cases hd
       refine ⟨_, .imm e [], ?_, (RI.rows e [] [] rfl (fun i x y hx => by simp at hx) (fun i x y j c d hx => by simp at hx)).rt, hk⟩
       simp only [sliceVal]
       rw [if_pos ⟨h1, h2, he⟩, if_neg hd']
   · cases h
 · cases h
theorem len_of {b n : Nat} {kb : NBlk} (hn : lenAt hp b n) (hkb : nget hp b = some kb) : kb.len = n := by
 unfold lenAt at hn
 unfold nget at hkb
 split at hkb
 · rename_i hs; rw [hs] at hn; cases hkb; exact hn
 · cases hkb
theorem RT.cap {v : NVal} {a : AVal} (h : RT hp v a) (hv : ncapB v = true) : RP hp v a ∧ a.cellB = true := by
 have hc : ncellB v = true := by
   unfold ncapB at hv
   split at hv
   · rfl
   · exact hv
 have h1 := h.cell hc
 refine ⟨?_, h1.cellB hc⟩
 cases h1 with
 | p h => exact h
 | fn f cap cap' h2 =>
   simp only [ncapB] at hv
   refine .ro (.fn f cap cap' h2.1 fun j c d hc hd => ?_)
   rw [List.all_eq_true] at hv
   exact ((h2.2 j c d hc hd).imm (hv _ (List.mem_of_getElem? hc))).1
theorem npure_sound {op : AOp} {ρ : Opd → NVal} {aρ : Opd → AVal} (hρ : ∀ x, RT hp (ρ x) (aρ x)) {k : NVal → Option ω} (h : npure hp op ρ k = some r) : ∃ v c, pureOp op aρ = some c ∧ RT hp v c ∧ k v = some r := by
 cases op
 case move x =>
   simp only [npure] at h
   simp only [pureOp]
   exact ⟨_, _, rfl, hρ _, h⟩
 case pick c x y =>
   simp only [npure] at h
   simp only [pureOp]
   split at h
   · rename_i t ht
     have hc := hρ c
     rw [ht] at hc
     rw [hc.bool_inv]
     cases t with
     | true => exact ⟨_, _, rfl, hρ x, h⟩
     | false => exact ⟨_, _, rfl, hρ y, h⟩
   · cases h
 case build zero parts =>
   simp only [npure] at h
   simp only [pureOp]
   split at h
   · rename_i zs hz
     split at h
     · rename_i cs hcs
       obtain ⟨ds, hd, hr⟩ := fillP_rel hρ hcs ((nzero_rel (hp := hp) hz).mono fun _ _ h => h.c)
       exact ⟨_, _, by simp only [hd]; rfl, .v (.agg _ _ hr), h⟩
     · cases h
   · cases h
 case nilCheck x =>
   simp only [npure] at h
   simp only [pureOp]
   have hx := hρ x
   split at h
   · rename_i hv; rw [hv] at hx; rw [hx.ptr_inv]; exact ⟨_, _, rfl, (RP.ptr _ _ _).rt, h⟩
   · rename_i hv; rw [hv] at hx; obtain ⟨ds, e, hd⟩ := hx.iptr_inv; rw [e]; rw [e] at hx; exact ⟨_, _, rfl, hx, h⟩
   · rename_i hv; rw [hv] at hx; obtain ⟨ds, e, hd⟩ := hx.fn_inv; rw [e]; rw [e] at hx; exact ⟨_, _, rfl, hx, h⟩
   · cases h
 case bin op x y =>
   simp only [npure] at h
   simp only [pureOp]
   exact nbin_sound h (hρ _) (hρ _)
 case eqB neg x y =>
   simp only [npure] at h
   simp only [pureOp]
   split at h
   · rename_i a b hx hy
     have h1 := hρ x
     have h2 := hρ y
     rw [hx] at h1
     rw [hy] at h2
     rw [h1.bool_inv, h2.bool_inv]
     exact ⟨_, _, rfl, (RI.bool _).rt, by cases neg <;> exact h⟩
   · cases h
 case eqP neg x y =>
   simp only [npure] at h
   simp only [pureOp]
   split at h
   · rename_i q hq
     have h1 := hρ x
     have h2 := hρ y
     have key : eqPtr (aρ x) (aρ y) = some q := by
       unfold neqPtr at hq
       split at hq
       · rename_i e1 e2; rw [e1] at h1; rw [e2] at h2; rw [h1.nilp_inv, h2.nilp_inv]; exact hq
       · rename_i e1 e2; rw [e1] at h1; rw [e2] at h2; rw [h1.nilp_inv, h2.ptr_inv]; exact hq
       · rename_i e1 e2; rw [e1] at h1; rw [e2] at h2; obtain ⟨ds, e, _⟩ := h2.iptr_inv; rw [h1.nilp_inv, e]; exact hq
       · rename_i e1 e2; rw [e1] at h1; rw [e2] at h2; rw [h1.ptr_inv, h2.nilp_inv]; exact hq
       · rename_i e1 e2; rw [e1] at h1; rw [e2] at h2; obtain ⟨ds, e, _⟩ := h1.iptr_inv; rw [e, h2.nilp_inv]; exact hq
       · cases hq
     exact ⟨_, _, by simp only [key]; rfl, (RI.bool _).rt, by cases neg <;> exact h⟩
   · cases h
 case eqI neg x y =>
   simp only [npure] at h
   simp only [pureOp]
   split at h
   · rename_i hx hy
     have h1 := hρ x
     have h2 := hρ y
     rw [hx] at h1
     rw [hy] at h2
     rw [h1.nili_inv, h2.nili_inv]
     exact ⟨_, _, rfl, (RI.bool _).rt, by cases neg <;> exact h⟩
   · rename_i t xs hx hy
     have h1 := hρ x
     have h2 := hρ y
     rw [hx] at h1
     rw [hy] at h2
     rw [h2.zsl_inv]
     cases xs with
     | nil => simp at h
     | cons u us =>
       simp only [List.isEmpty_cons, cond_false] at h
       rcases h1.lst_inv.lst_inv with ⟨ys, e1, r1⟩ | ⟨_, e1⟩
       · obtain ⟨z, zs, rfl, _, _⟩ := r1.cons_inv
         rw [e1]
         exact ⟨_, _, rfl, (RI.bool _).rt, by cases neg <;> exact h⟩
       · cases e1
   · rename_i e xs hx hy
     have h1 := hρ x
     have h2 := hρ y
     rw [hx] at h1
     rw [hy] at h2
     rw [h2.zsl_inv]
     cases xs with
     | nil => simp at h
     | cons u us =>
       simp only [List.isEmpty_cons, cond_false] at h
       rcases h1.rows_inv.rows_inv with ⟨ys, e1, r1⟩ | ⟨_, e1⟩
       · obtain ⟨z, zs, rfl, _, _⟩ := r1.cons_inv
         rw [e1]
         exact ⟨_, _, rfl, (RI.bool _).rt, by cases neg <;> exact h⟩
       · cases e1
   · rename_i b e hx hy
     have h1 := hρ x
     have h2 := hρ y
     rw [hx] at h1
     rw [hy] at h2
     rw [h2.zsl_inv]
     obtain ⟨n, e1, e2⟩ := h1.slw_inv
     rw [e1]
     split at h
     · rename_i kb hkb
       by_cases h0 : kb.len = 0
       · simp [h0] at h
       · simp only [h0, decide_false, cond_false] at h
         unfold lenAt at e2
         rw [nget_hp hkb] at e2
         have e2 : kb.len = n := e2
         obtain ⟨m, rfl⟩ : ∃ m, n = m + 1 := ⟨n - 1, by omega⟩
         exact ⟨_, _, rfl, (RI.bool _).rt, by cases neg <;> exact h⟩
     · cases h
   · cases h
 case eqAgg neg x y =>
   simp only [npure] at h
   simp only [pureOp]
   split at h
   · rename_i a b hx hy
     split at h
     · rename_i q hq
       have h1 := hρ x
       have h2 := hρ y
       rw [hx] at h1
       rw [hy] at h2
       obtain ⟨us, e1, r1⟩ := h1.agg_inv
       obtain ⟨vs, e2, r2⟩ := h2.agg_inv
       rw [e1, e2]
       refine ⟨_, _, by simp only [ncellsEq_rel hq r1 r2]; rfl, (RI.bool _).rt, by cases neg with | mk n ks => cases n <;> exact h⟩
     · cases h
   · cases h
 case un op x =>
   simp only [npure] at h
   simp only [pureOp]
   have hx := hρ x
   split at h
   · rename_i hv; rw [hv] at hx; rw [hx.int_inv]; exact ⟨_, _, rfl, (RI.int _ _).rt, h⟩
   · rename_i hv; rw [hv] at hx; rw [hx.bool_inv]; exact ⟨_, _, rfl, (RI.bool _).rt, h⟩
   · cases h
 case conv kd x =>
   simp only [npure] at h
   simp only [pureOp]
   have hx := hρ x
   split at h
   · rename_i hv; rw [hv] at hx; rw [hx.int_inv]; exact ⟨_, _, rfl, (RI.int _ _).rt, h⟩
   · cases h
 case slice el x lo hi mx =>
   simp only [npure] at h
   simp only [pureOp]
   split at h
   · obtain ⟨l, h1, h2, h3⟩ := nbound_inv hρ h
     obtain ⟨m, h4, h5, h6⟩ := nbound_inv hρ h3
     obtain ⟨v, c, h7, h8, h9⟩ := nslice_sound h6 (hρ x)
     refine ⟨v, c, ?_, h8, h9⟩
     have e0 : optIdx aρ none = some none := rfl
     rw [h2 0, h4, e0]
     exact h7
   · cases h
 case sliceStr x lo hi =>
   simp only [npure] at h
   simp only [pureOp]
   split at h
   · rename_i s hs
     have hx := hρ x
     rw [hs] at hx
     rw [hx.str_inv]
     obtain ⟨l, h1, h2, h3⟩ := nbound_inv hρ h
     obtain ⟨m, h4, h5, h6⟩ := nbound_inv hρ h3
     obtain ⟨hc, hk⟩ := cond_some h6
     obtain ⟨e1, e2, e3⟩ := cut_eq hc
     refine ⟨_, .str (cut s l m), ?_, (RI.str _).rt, hk⟩
     simp only [h2 0, h5 s.length]
     rw [if_pos ⟨e1, e2⟩, e3]
   · cases h
 case fieldAddr off x =>
   simp only [npure] at h
   simp only [pureOp]
   have hx := hρ x
   split at h
   · rename_i hv; rw [hv] at hx; rw [hx.ptr_inv]; exact ⟨_, _, rfl, (RP.ptr _ _ _).rt, h⟩
   · rename_i hv
     rw [hv] at hx
     obtain ⟨ds, e, hd⟩ := hx.iptr_inv
     rw [e]
     exact ⟨_, _, rfl, (RI.iptr _ _ _ hd.1 hd.2).rt, h⟩
   · cases h
 case field agg off n x =>
   simp only [npure] at h
   simp only [pureOp]
   split at h
   · rename_i cs hcs
     have hx := hρ x
     rw [hcs] at hx
     obtain ⟨ds, e, hd⟩ := hx.agg_inv
     rw [e]
     split at h
     · rename_i v hv
       obtain ⟨a, ha, hr⟩ := partOf_rel hv hd
       exact ⟨v, a, ha, .v hr, h⟩
     · cases h
   · cases h
 case indexSl e x i =>
   simp only [npure] at h
   simp only [pureOp]
   have hx := hρ x
   split at h
   · rename_i t xs hv
     rw [hv] at hx
     split at h
     · rename_i he
       obtain ⟨n, hn, hk⟩ := nidx_inv h (hρ i)
       simp only [Option.bind_eq_some_iff] at hk
       obtain ⟨y, hy, hk⟩ := hk
       rcases hx.lst_inv.lst_inv with ⟨ys, e1, hys⟩ | ⟨e1, e2⟩
       · obtain ⟨row, hrow, hrx⟩ := hys.get hy
         rw [e1, hn]
         refine ⟨_, .iptr row 0, ?_, (RI.iptr _ _ _ hrx.1 hrx.2).rt, hk⟩
         simp only [he, if_true, hrow, Option.map_some]
       · rw [e2] at hy; simp at hy
     · cases h
   · rename_i e' xs hv
     rw [hv] at hx
     split at h
     · rename_i he
       obtain ⟨n, hn, hk⟩ := nidx_inv h (hρ i)
       split at hk
       · rename_i y hy
         rcases hx.rows_inv.rows_inv with ⟨ys, e1, hys⟩ | ⟨e1, e2⟩
         · obtain ⟨row, hrow, hrx⟩ := hys.get hy
           rw [e1, hn]
           refine ⟨_, .iptr row 0, ?_, (RI.iptr _ _ _ hrx.1 hrx.2).rt, hk⟩
           simp only [he, if_true, hrow, Option.map_some]
         · rw [e2] at hy; simp at hy
       · cases hk
     · cases h
   · rename_i b e' hv
     rw [hv] at hx
     split at h
     · rename_i he
       split at h
       · rename_i kb hkb
         obtain ⟨m, e1, hm⟩ := hx.slw_inv
         have hl := len_of hm hkb
         obtain ⟨n, hn, hk⟩ := nidx_inv h (hρ i)
         obtain ⟨hc, hk⟩ := cond_some hk
         rw [hl] at hc
         simp only [decide_eq_true_eq] at hc
         rw [e1, hn]
         refine ⟨_, .ptr b n 0, ?_, (RP.ptr _ _ _).rt, hk⟩
         simp only [Nat.zero_add]
         rw [if_pos ⟨hc, he⟩]
       · cases h
     · cases h
   · rename_i b off len e' hv
     rw [hv] at hx
     split at h
     · rename_i he
       obtain ⟨n, hn, hk⟩ := nidx_inv h (hρ i)
       obtain ⟨hc, hk⟩ := cond_some hk
       simp only [decide_eq_true_eq] at hc
       rw [hx.sl_inv, hn]
       refine ⟨_, .ptr b (off + n) 0, ?_, (RP.ptr _ _ _).rt, hk⟩
       simp only
       rw [if_pos ⟨hc, he⟩]
     · cases h
   · cases h
 case indexArr len e x i =>
   simp only [npure] at h
   simp only [pureOp]
   have hx := hρ x
   split at h
   · rename_i b j f hv
     rw [hv] at hx
     obtain ⟨n, hn, hk⟩ := nidx_inv h (hρ i)
     obtain ⟨hc, hk⟩ := cond_some hk
     simp only [decide_eq_true_eq] at hc
     rw [hx.ptr_inv, hn]
     exact ⟨_, _, by simp only [hc, if_true], (RP.ptr _ _ _).rt, hk⟩
   · rename_i cs o hv
     rw [hv] at hx
     obtain ⟨n, hn, hk⟩ := nidx_inv h (hρ i)
     obtain ⟨hc, hk⟩ := cond_some hk
     simp only [decide_eq_true_eq] at hc
     obtain ⟨ds, e1, hd⟩ := hx.iptr_inv
     rw [e1, hn]
     exact ⟨_, _, by simp only [hc, if_true], (RI.iptr _ _ _ hd.1 hd.2).rt, hk⟩
   · cases h
 case indexVal agg len e x i =>
   simp only [npure] at h
   simp only [pureOp]
   have hx := hρ x
   split at h
   · rename_i cs hv
     rw [hv] at hx
     obtain ⟨n, hn, hk⟩ := nidx_inv h (hρ i)
     obtain ⟨hc, hk⟩ := cond_some hk
     simp only [decide_eq_true_eq] at hc
     obtain ⟨ds, e1, hd⟩ := hx.agg_inv
     rw [e1, hn]
     split at hk
     · rename_i v hv
       obtain ⟨a, ha, hr⟩ := partOf_rel hv hd
       exact ⟨v, a, by simp only [hc, if_true, ha], .v hr, hk⟩
     · cases hk
   · cases h
 case indexStr x i =>
   simp only [npure] at h
   simp only [pureOp]
   split at h
   · rename_i s hs
     have hx := hρ x
     rw [hs] at hx
     obtain ⟨n, hn, hk⟩ := nidx_inv h (hρ i)
     simp only [Option.bind_eq_some_iff] at hk
     obtain ⟨c, hc, hk⟩ := hk
     rw [hx.str_inv, hn]
     exact ⟨_, _, by simp only [hc], (RI.int _ _).rt, hk⟩
   · cases h
 case extract x i =>
   simp only [npure] at h
   simp only [pureOp]
   split at h
   · rename_i vs hv
     have hx := hρ x
     rw [hv] at hx
     obtain ⟨ds, e, hd⟩ := hx.tup_inv
     split at h
     · rename_i v hvi
       obtain ⟨a, ha, hr⟩ := hd.get hvi
       rw [e]
       exact ⟨v, a, ha, .v hr, h⟩
     · cases h
   · cases h
 case makeFunc f cap =>
   simp only [npure] at h
   simp only [pureOp]
   split at h
   · rename_i hc
     have key : ∀ (l : List Opd), (l.map ρ).all ncapB = true → (l.map aρ).all AVal.cellB = true ∧ A2 (RP hp) (l.map ρ) (l.map aρ) := by
       intro l
       induction l with
       | nil => intro _; exact ⟨rfl, .nil⟩
       | cons x l ih =>
         intro hl
         simp only [List.map_cons, List.all_cons, Bool.and_eq_true] at hl ⊢
         obtain ⟨i1, i2⟩ := ih hl.2
         have h1 := (hρ x).cap hl.1
         exact ⟨⟨h1.2, i1⟩, .cons h1.1 i2⟩
     obtain ⟨k1, k2⟩ := key cap hc
     rw [if_pos k1]
     exact ⟨_, _, rfl, .v (.c (.fn _ _ _ k2)), h⟩
   · cases h
 case len x =>
   simp only [npure] at h
   simp only [pureOp]
   have hx := hρ x
   split at h
   · rename_i t xs hv
     rw [hv] at hx
     rcases hx.lst_inv.lst_inv with ⟨ys, e1, hys⟩ | ⟨e1, e2⟩
     · rw [e1]
       simp only [lenVal]
       rw [← hys.1]
       exact ⟨_, _, rfl, (RI.int _ _).rt, h⟩
     · rw [e1]
       subst e2
       exact ⟨_, _, rfl, (RI.int _ _).rt, h⟩
   · rename_i e xs hv
     rw [hv] at hx
     rcases hx.rows_inv.rows_inv with ⟨ys, e1, hys⟩ | ⟨e1, e2⟩
     · rw [e1]
       simp only [lenVal]
       rw [← hys.1]
       exact ⟨_, _, rfl, (RI.int _ _).rt, h⟩
     · rw [e1]
       subst e2
       exact ⟨_, _, rfl, (RI.int _ _).rt, h⟩
   · rename_i hv
     rw [hv] at hx
     rw [hx.zsl_inv]
     exact ⟨_, _, rfl, (RI.int _ _).rt, h⟩
   · rename_i b e hv
     rw [hv] at hx
     split at h
     · rename_i kb hkb
       obtain ⟨m, e1, hm⟩ := hx.slw_inv
       rw [len_of hm hkb] at h
       rw [e1]
       exact ⟨_, _, rfl, (RI.int _ _).rt, h⟩
     · cases h
   · rename_i b o l e hv
     rw [hv] at hx
     rw [hx.sl_inv]
     exact ⟨_, _, rfl, (RI.int _ _).rt, h⟩
   · cases h
 case lenStr x =>
   simp only [npure] at h
   simp only [pureOp]
   split at h
   · rename_i s hs
     have hx := hρ x
     rw [hs] at hx
     rw [hx.str_inv]
     exact ⟨_, _, rfl, (RI.int _ _).rt, h⟩
   · cases h
 case minmax isMax x y =>
   simp only [npure] at h
   simp only [pureOp]
   split at h
   · rename_i kd a kd' b hx hy
     split at h
     · rename_i hk
       have h1 := hρ x
       have h2 := hρ y
       rw [hx] at h1
       rw [hy] at h2
       rw [h1.int_inv, h2.int_inv]
       simp only [hk, if_true]
       exact ⟨_, _, rfl, (RI.int _ _).rt, by cases isMax <;> (simp only [hk] at h; exact h)⟩
     · cases h
   · cases h
 all_goals (simp only [npure] at h; cases h)
end NM
end Go.Proofs.YtjngkfdclcgfhaaGreatDoor
end
section
namespace Go.Proofs.YtjngkfdclcgfhaaGreatDoor
namespace NM
open AM
def RB (hp : NHeap) : NBlk → AM.Blk → Prop
 | .cells e flat rows, k => k.e = e ∧ k.flat = flat ∧ (flat = true → A2 (A2 RI) rows k.elems) ∧ (flat = false → A2 (A2 (RC hp)) rows k.elems)
 | .typed t xs, k => k.e = (ops t).size ∧ k.flat = true ∧ A2 (RX t) xs k.elems
inductive RS (hp : NHeap) : NSlot → Slot → Prop
 | free : RS hp .free .free
 | dead : RS hp .dead .dead
 | gone (s : Slot) : s ≠ .free → RS hp .gone s
 | live (kb : NBlk) (k : AM.Blk) : RB hp kb k → RS hp (.live kb) (.live k)
def RH (hp : NHeap) (ahp : Heap) : Prop := A2 (RS hp) hp ahp
theorem RB.mono {hp hp' : NHeap} (e : Evo hp hp') {kb : NBlk} {k : AM.Blk} (h : RB hp kb k) : RB hp' kb k := by
 cases kb with
 | cells c flat rows => exact ⟨h.1, h.2.1, h.2.2.1, fun hf => (h.2.2.2 hf).mono fun _ _ k => k.mono fun _ _ k => k.mono e⟩
 | typed t xs => exact h
theorem RS.mono {hp hp' : NHeap} (e : Evo hp hp') {s : NSlot} {s' : Slot} (h : RS hp s s') : RS hp' s s' := by
 cases h with
 | free => exact .free
 | dead => exact .dead
 | gone _ h => exact .gone _ h
 | live kb k h => exact .live kb k (h.mono e)
theorem RB.len {hp : NHeap} {kb : NBlk} {k : AM.Blk} (h : RB hp kb k) : kb.len = k.elems.length := by
 cases kb with
 | cells c flat rows =>
   cases flat with
   | true => exact (h.2.2.1 rfl).1
   | false => exact (h.2.2.2 rfl).1
 | typed t xs => exact h.2.2.1
theorem RB.flat {hp : NHeap} {kb : NBlk} {k : AM.Blk} (h : RB hp kb k) : k.flat = kb.flat := by
 cases kb with
 | cells c flat rows => exact h.2.1
 | typed t xs => exact h.2.1
section
variable {ω : Type} {hp : NHeap} {ahp : Heap} {r : ω}
theorem nget_iff {b : Nat} {kb : NBlk} : nget hp b = some kb ↔ hp[b]? = some (.live kb) := by
 unfold nget
 constructor
 · intro h; split at h
   · rename_i hs; cases h; exact hs
   · cases h
 · intro h; rw [h]
theorem aget_iff {b : Nat} {k : AM.Blk} : ahp.get b = some k ↔ ahp[b]? = some (.live k) := by
 unfold Heap.get
 constructor
 · intro h; split at h
   · rename_i hs; cases h; exact hs
   · cases h
 · intro h; rw [h]
theorem RH.get (h : RH hp ahp) {b : Nat} {kb : NBlk} (hb : nget hp b = some kb) : ∃ k, ahp.get b = some k ∧ RB hp kb k := by
 obtain ⟨s, hs, hr⟩ := A2.get h (nget_iff.1 hb)
 cases hr with
 | live _ k hk => exact ⟨k, aget_iff.2 hs, hk⟩
theorem RH.free (h : RH hp ahp) {b : Nat} (hb : nfree hp b = true) : ahp.isFree b = true := by
 unfold nfree at hb
 split at hb
 · rename_i hs
   obtain ⟨s, hs', hr⟩ := A2.get h hs
   cases hr
   unfold Heap.isFree
   rw [hs']
 · cases hb
theorem RH.set (h : RH hp ahp) {b : Nat} {s : NSlot} {s' : Slot} (e : Evo hp (hp.set b s)) (hs : RS (hp.set b s) s s') : RH (hp.set b s) (ahp.set b s') :=
 A2.set (A2.mono (fun _ _ k => k.mono e) h) b hs
theorem lenAt_set {b c n : Nat} {s : NSlot} : lenAt (hp.set b s) c n ↔ (if b = c ∧ b < hp.length then (match s with | .live k => k.len = n | .dead => True | .gone => True | .free => False) else lenAt hp c n) := by
 unfold lenAt
 rw [List.getElem?_set]
 by_cases hb : b = c
 · subst hb
   by_cases hl : b < hp.length
   · simp only [hl, if_true, and_self]
     cases s <;> simp
   · simp only [hl, if_true, if_false, and_false]
     rw [List.getElem?_eq_none (by omega)]
 · simp [hb]
theorem Evo.set_dead (b : Nat) : Evo hp (hp.set b .dead) := fun c n h => by
 rw [lenAt_set]
 split
 · trivial
 · exact h
theorem Evo.set_gone (b : Nat) : Evo hp (hp.set b .gone) := fun c n h => by
 rw [lenAt_set]
 split
 · trivial
 · exact h
theorem Evo.set_new {b : Nat} {s : NSlot} (hf : nfree hp b = true) : Evo hp (hp.set b s) := fun c n h => by
 rw [lenAt_set]
 split
 · rename_i hc
   rw [← hc.1] at h
   unfold nfree at hf
   unfold lenAt at h
   split at hf
   · rename_i hs; rw [hs] at h; cases h
   · cases hf
 · exact h
theorem Evo.set_same {b : Nat} {kb kb' : NBlk} (hb : nget hp b = some kb) (hl : kb'.len = kb.len) : Evo hp (hp.set b (.live kb')) := fun c n h => by
 rw [lenAt_set]
 split
 · rename_i hc
   rw [← hc.1] at h
   simp only
   rw [hl]
   exact len_of h hb
 · exact h
theorem nkill_evo : ∀ (l : List Nat) (hp : NHeap), Evo hp (nkill .dead hp l)
 | [], hp => .refl hp
 | b :: l, hp => (Evo.set_dead b).trans (nkill_evo l _)
theorem nkill_gone_evo : ∀ (l : List Nat) (hp : NHeap), Evo hp (nkill .gone hp l)
 | [], hp => .refl hp
 | b :: l, hp => (Evo.set_gone b).trans (nkill_gone_evo l _)
theorem kill_rel : ∀ {l : List Nat} {hp : NHeap} {ahp : Heap}, RH hp ahp → RH (nkill .dead hp l) (AM.kill ahp l)
 | [], _, _, h => h
 | b :: l, _, _, h => kill_rel (l := l) (RH.set h (.set_dead b) .dead)
theorem allOn_rel {α β γ δ : Type} {R : α → β → Prop} {R' : γ → δ → Prop} {f : α → Option (γ × List Nat)} {g : β → Option (δ × List Nat)} (hf : ∀ x y u l, R x y → f x = some (u, l) → ∃ u', g y = some (u', l) ∧ R' u u') :
   ∀ {xs : List α} {ys : List β} {us : List γ} {l : List Nat}, allOn f xs = some (us, l) → A2 R xs ys → ∃ us', allOn g ys = some (us', l) ∧ A2 R' us us'
 | [], ys, us, l, h, hr => by simp [allOn] at h; obtain ⟨rfl, rfl⟩ := h; rw [hr.nil_inv]; exact ⟨[], rfl, .nil⟩
 | x :: xs, ys, us, l, h, hr => by
   obtain ⟨y, ys, rfl, h1, h2⟩ := hr.cons_inv
   simp only [allOn] at h
   split at h
   · rename_i u l1 hu
     split at h
     · rename_i us1 l2 hus
       cases h
       obtain ⟨u', hg, hru⟩ := hf _ _ _ _ h1 hu
       obtain ⟨us', hgs, hrus⟩ := allOn_rel hf hus h2
       exact ⟨u' :: us', by simp only [allOn, hg, hgs], .cons hru hrus⟩
     · cases h
   · cases h
theorem imm_view {v : NVal} {a : AVal} (hr : RC hp v a) (hv : nimmP v = true) {d : Nat} : viewP ahp d a = some (a, []) ∧ RI v a := by
 obtain ⟨h1, h2⟩ := hr.imm hv
 refine ⟨?_, h1⟩
 cases d with
 | zero => simp only [viewP, h2, if_true]
 | succ d => cases a <;> first | (simp [AVal.immP] at h2; done) | simp only [viewP, AVal.immP, if_true]
theorem view_rel (hh : RH hp ahp) : ∀ {d : Nat} {v : NVal} {a : AVal} {u : NVal} {l : List Nat}, nviewP hp d v = some (u, l) → RC hp v a → ∃ u', viewP ahp d a = some (u', l) ∧ RI u u'
 | 0, v, a, u, l, h, hr => by
   simp only [nviewP] at h
   split at h
   · rename_i hv
     cases h
     obtain ⟨h1, h2⟩ := imm_view (ahp := ahp) (d := 0) hr hv
     exact ⟨a, h1, h2⟩
   · cases h
 | d + 1, v, a, u, l, h, hr => by
   unfold nviewP at h
   split at h
   · rename_i heq; cases heq
   · -- slw
     rename_i d' b e heq
     cases heq
     obtain ⟨n, rfl, hn⟩ := hr.rt.slw_inv
     split at h
     · rename_i t xs hb
       obtain ⟨k, hk, hrb⟩ := hh.get hb
       split at h
       · rename_i he
         cases h
         have hlen : n = k.elems.length := by rw [← hrb.len]; exact (len_of hn hb).symm
         refine ⟨.imm e k.elems, ?_, by rw [he]; exact .mk_lst hrb.2.2⟩
         simp only [viewP, hk, Nat.zero_add, List.drop_zero, hlen, Nat.le_refl, if_true, hrb.2.1, List.take_length]
       · cases h
     · rename_i e' flat rows hb
       obtain ⟨k, hk, hrb⟩ := hh.get hb
       have hlen : n = k.elems.length := by rw [← hrb.len]; exact (len_of hn hb).symm
       split at h
       · rename_i hf
         cases h
         refine ⟨.imm e k.elems, ?_, .mk_rows (hrb.2.2.1 hf)⟩
         simp only [viewP, hk, Nat.zero_add, List.drop_zero, hlen, Nat.le_refl, if_true, hrb.2.1, hf, List.take_length]
       · rename_i hf
         have hf' : flat = false := by simpa using hf
         split at h
         · rename_i us l1 hus
           cases h
           obtain ⟨us', hg, hrus⟩ := allOn_rel (R := A2 (RC hp)) (R' := A2 RI) (g := allOn (viewP ahp d)) (fun x y u l hxy hx => allOn_rel (fun x y u l hxy hx => view_rel hh hx hxy) hx hxy) hus (hrb.2.2.2 hf')
           refine ⟨.imm e us', ?_, .mk_rows hrus⟩
           simp only [viewP, hk, Nat.zero_add, List.drop_zero, hlen, Nat.le_refl, if_true, hrb.2.1, hf', List.take_length, hg, Bool.false_eq_true, if_false]
         · cases h
     · cases h
   · rename_i d' b i f heq
     cases heq
     rw [hr.rt.ptr_inv]
     split at h
     · rename_i e flat rows hb
       obtain ⟨k, hk, hrb⟩ := hh.get hb
       split at h
       · rename_i x hx
         split at h
         · rename_i hf
           cases h
           obtain ⟨y, hy, hry⟩ := (hrb.2.2.1 hf).get hx
           refine ⟨.iptr y f, ?_, .iptr _ _ _ hry.1 hry.2⟩
           simp only [viewP, hk, hy, hrb.2.1, hf, if_true]
         · rename_i hf
           have hf' : flat = false := by simpa using hf
           split at h
           · rename_i us l1 hus
             cases h
             obtain ⟨y, hy, hry⟩ := (hrb.2.2.2 hf').get hx
             obtain ⟨us', hg, hrus⟩ := allOn_rel (R := RC hp) (R' := RI) (g := viewP ahp d) (fun x y u l hxy hx => view_rel hh hx hxy) hus hry
             refine ⟨.iptr us' f, ?_, .iptr _ _ _ hrus.1 hrus.2⟩
             simp only [viewP, hk, hy, hrb.2.1, hf', hg, Bool.false_eq_true, if_false]
           · cases h
       · cases h
     · cases h
   · rename_i d' f cap heq
     cases heq
     obtain ⟨cap', rfl, hc⟩ := hr.fn_inv
     split at h
     · rename_i us l1 hus
       cases h
       obtain ⟨us', hg, hrus⟩ := allOn_rel (R := RP hp) (R' := RI) (g := viewP ahp d) (fun x y u l hxy hx => view_rel hh hx (.p hxy)) hus hc
       refine ⟨.fn f us', ?_, .fn _ _ _ hrus.1 hrus.2⟩
       simp only [viewP, hg]
     · cases h
   · split at h
     · rename_i hv
       cases h
       obtain ⟨h1, h2⟩ := imm_view (ahp := ahp) (d := d + 1) hr hv
       exact ⟨a, h1, h2⟩
     · cases h
theorem viewV_rel (hh : RH hp ahp) {d : Nat} {v : NVal} {a : AVal} {u : NVal} {l : List Nat} (h : nviewV hp d v = some (u, l)) (hr : RV hp v a) : ∃ u', viewV ahp d a = some (u', l) ∧ RV hp u u' := by
 by_cases hva : ∃ cs, v = .agg cs
 · obtain ⟨cs, rfl⟩ := hva
   obtain ⟨ds, rfl, hd⟩ := (RT.v hr).agg_inv
   simp only [nviewV] at h
   split at h
   · rename_i us l1 hus
     cases h
     obtain ⟨us', hg, hrus⟩ := allOn_rel (R := RC hp) (R' := RI) (g := viewP ahp d) (fun x y u l hxy hx => view_rel hh hx hxy) hus hd
     exact ⟨.agg us', by simp only [viewV, hg], .agg _ _ (hrus.mono fun _ _ h => h.c)⟩
   · cases h
 · have e1 : nviewV hp d v = nviewP hp d v := by
     cases v <;> first | rfl | exact absurd ⟨_, rfl⟩ hva
   rw [e1] at h
   cases hr with
   | agg cs ds hd => exact absurd ⟨_, rfl⟩ hva
   | c hc =>
     obtain ⟨u', h1, h2⟩ := view_rel hh h hc
     refine ⟨u', ?_, h2.rv⟩
     have : viewV ahp d a = viewP ahp d a := by
       cases hc with
       | fn => rfl
       | p hp' => cases hp' with
         | ro h => cases h <;> rfl
         | undef => rfl
         | ptr => rfl
         | sl => rfl
         | slw => rfl
     rw [this]; exact h1
theorem viewT_rel (hh : RH hp ahp) {d : Nat} {v : NVal} {a : AVal} {u : NVal} {l : List Nat} (h : nviewT hp d v = some (u, l)) (hr : RT hp v a) : ∃ u', viewT ahp d a = some (u', l) ∧ RT hp u u' := by
 by_cases hva : ∃ cs, v = .tup cs
 · obtain ⟨cs, rfl⟩ := hva
   obtain ⟨ds, rfl, hd⟩ := hr.tup_inv
   simp only [nviewT] at h
   split at h
   · rename_i us l1 hus
     cases h
     obtain ⟨us', hg, hrus⟩ := allOn_rel (R := RV hp) (R' := RV hp) (g := viewV ahp d) (fun x y u l hxy hx => viewV_rel hh hx hxy) hus hd
     exact ⟨.tup us', by simp only [viewT, hg], .tup _ _ hrus⟩
   · cases h
 · have e1 : nviewT hp d v = nviewV hp d v := by
     cases v <;> first | rfl | exact absurd ⟨_, rfl⟩ hva
   rw [e1] at h
   cases hr with
   | undef a => cases d <;> simp [nviewV, nviewP, nimmP] at h
   | tup cs ds hd => exact absurd ⟨_, rfl⟩ hva
   | v hv =>
     obtain ⟨u', h1, h2⟩ := viewV_rel hh h hv
     refine ⟨u', ?_, .v h2⟩
     have : viewT ahp d a = viewV ahp d a := by
       cases hv with
       | agg => rfl
       | c hc => cases hc with
         | fn => rfl
         | p hp' => cases hp' with
           | ro h => cases h <;> rfl
           | undef => rfl
           | ptr => rfl
           | sl => rfl
           | slw => rfl
     rw [this]; exact h1
theorem RB.row {kb : NBlk} {k : AM.Blk} {e : Nat} {flat : Bool} {rows : List (List NVal)} (h : RB hp (.cells e flat rows) k) : A2 (A2 (RC hp)) rows k.elems := by
 cases flat with
 | true => exact (h.2.2.1 rfl).mono fun _ _ h => h.mono fun _ _ h => h.c
 | false => exact h.2.2.2 rfl
theorem nload_sound (hh : RH hp ahp) {n : Nat} {v : NVal} {a : AVal} {k : List NVal → Option ω} (h : nload hp n v k = some r) (hr : RT hp v a) : ∃ cs ds, AM.loadCells ahp n a = some ds ∧ A2 (RC hp) cs ds ∧ k cs = some r := by
 unfold nload at h
 split at h
 · rename_i b i f
   rw [hr.ptr_inv]
   split at h
   · rename_i e flat rows hb
     obtain ⟨kk, hk, hrb⟩ := hh.get hb
     split at h
     · rename_i x hx
       split at h
       · rename_i hf
         obtain ⟨y, hy, hry⟩ := (RB.row (kb := .cells e flat rows) hrb).get hx
         refine ⟨_, _, ?_, (hry.drop f).take n, h⟩
         simp only [AM.loadCells, hk, hy]
         rw [if_pos (by rw [← hry.1]; exact hf)]
       · cases h
     · cases h
   · rename_i t xs hb
     obtain ⟨kk, hk, hrb⟩ := hh.get hb
     simp only [Option.bind_eq_some_iff] at h
     obtain ⟨x, hx, h⟩ := h
     split at h
     · rename_i hf
       obtain ⟨y, hy, hry⟩ := hrb.2.2.get hx
       refine ⟨_, _, ?_, ((A2.mono (fun _ _ h => h.c) hry).drop f).take n, h⟩
       simp only [AM.loadCells, hk, hy]
       rw [if_pos (by rw [← hry.1]; exact hf)]
     · cases h
   · cases h
 · rename_i cs off
   obtain ⟨ds, rfl, hd⟩ := hr.iptr_inv
   split at h
   · rename_i hf
     refine ⟨_, _, ?_, ((A2.mono (fun _ _ h => h.c) hd).drop off).take n, h⟩
     simp only [AM.loadCells]
     rw [if_pos (by rw [← hd.1]; exact hf)]
   · cases h
 · cases h
theorem bytes_rel {xs : List Int} {ys : List (List AVal)} {s : List UInt8} (h : A2 (RX (.int .u8)) xs ys) (hs : nbytes xs = some s) : allOf byteRow ys = some s := by
 unfold nbytes at hs
 induction xs generalizing ys s with
 | nil => rw [h.nil_inv]; exact hs
 | cons x xs ih =>
   obtain ⟨y, ys', rfl, h1, h2⟩ := h.cons_inv
   simp only [allOf] at hs ⊢
   have h1' : A2 RI [.int .u8 x] y := h1
   obtain ⟨d, ds, rfl, h3, h4⟩ := h1'.cons_inv
   rw [h4.nil_inv]
   cases h3
   split at hs
   · rename_i c hc
     split at hs
     · rename_i cs hcs
       cases hs
       rw [ih h2 hcs]
       have : byteRow [.int .u8 x] = some c := hc
       rw [this]
     · cases hs
   · cases hs
theorem nstrL_sound {t : Ty} {xs : List (den t)} {ys : List (List AVal)} {k : NVal → Option ω} (h : nstrL t xs k = some r) (hr : A2 (RX t) xs ys) : ∃ s, allOf byteRow ys = some s ∧ k (.str s) = some r ∧ (ops t).size = 1 := by
 unfold nstrL at h
 split at h
 · simp only [Option.bind_eq_some_iff] at h
   obtain ⟨s, h1, h2⟩ := h
   exact ⟨s, bytes_rel hr h1, h2, rfl⟩
 · cases h
theorem rows_rel {rows : List (List NVal)} {ys : List (List AVal)} {xs : List Int} {s : List UInt8} (h : A2 (A2 (RC hp)) rows ys) (hx : nrowInts rows = some xs) (hs : nbytes xs = some s) : allOf byteRow ys = some s := by
 unfold nrowInts at hx
 unfold nbytes at hs
 induction rows generalizing ys s xs with
 | nil => cases hx; rw [h.nil_inv]; exact hs
 | cons x rows ih =>
   obtain ⟨y, ys', rfl, h1, h2⟩ := h.cons_inv
   simp only [allOf] at hx ⊢
   split at hx
   · rename_i n hn
     split at hx
     · rename_i ns hns
       cases hx
       unfold nrowInt at hn
       split at hn
       · rename_i m
         have hmn := Option.some.inj hn
         obtain ⟨d, ds, rfl, h3, h4⟩ := h1.cons_inv
         rw [h4.nil_inv]
         have hd : d = .int .u8 m := h3.rt.int_inv
         rw [hmn] at hd
         subst hd
         simp only [allOf] at hs
         split at hs
         · rename_i c hc
           split at hs
           · rename_i cs hcs
             cases hs
             have h5 : byteRow [.int .u8 n] = some c := hc
             rw [ih h2 hns hcs, h5]
           · cases hs
         · cases hs
       · cases hn
     · cases hx
   · cases hx
theorem nstrV_sound (hh : RH hp ahp) {v : NVal} {a : AVal} {k : NVal → Option ω} (h : nstrV hp v k = some r) (hr : RT hp v a) : ∃ s, AM.strVal ahp a = some (.str s) ∧ k (.str s) = some r := by
 unfold nstrV at h
 split at h
 · rw [hr.zsl_inv]; exact ⟨_, rfl, h⟩
 · rename_i t xs
   rcases hr.lst_inv.lst_inv with ⟨ys, rfl, hy⟩ | ⟨rfl, rfl⟩
   · obtain ⟨s, h1, h2, h3⟩ := nstrL_sound h hy
     exact ⟨s, by simp [AM.strVal, h1, h3], h2⟩
   · obtain ⟨s, h1, h2, h3⟩ := nstrL_sound h (A2.nil (R := RX t))
     cases h1
     exact ⟨_, rfl, h2⟩
 · rename_i b e
   obtain ⟨n, rfl, hn⟩ := hr.slw_inv
   split at h
   · rename_i t xs hb
     split at h
     · rename_i he
       obtain ⟨kk, hk, hrb⟩ := hh.get hb
       obtain ⟨s, h1, h2, h3⟩ := nstrL_sound h hrb.2.2
       have hl : n = kk.elems.length := by rw [← hrb.len]; exact (len_of hn hb).symm
       refine ⟨s, ?_, h2⟩
       simp only [AM.strVal, hk]
       rw [if_pos ⟨he, by omega⟩, List.drop_zero, hl, List.take_length, h1]
     · cases h
   · rename_i e' flat rows hb
     split at h
     · rename_i he
       split at h
       · rename_i xs hxs
         obtain ⟨kk, hk, hrb⟩ := hh.get hb
         have hl : n = kk.elems.length := by rw [← hrb.len]; exact (len_of hn hb).symm
         simp only [nstrL, Option.bind_eq_some_iff] at h
         obtain ⟨s, h1, h2⟩ := h
         refine ⟨s, ?_, h2⟩
         simp only [AM.strVal, hk]
         rw [if_pos ⟨he, by omega⟩, List.drop_zero, hl, List.take_length, rows_rel (RB.row (kb := .cells e' flat rows) hrb) hxs h1]
       · cases h
     · cases h
   · cases h
 · cases h
theorem nloadV_sound (hh : RH hp ahp) {agg : Bool} {n : Nat} {v : NVal} {a : AVal} {k : NVal → Option ω} (h : nloadV hp agg n v k = some r) (hr : RT hp v a) : ∃ u c, loadVal ahp agg n a = some c ∧ RT hp u c ∧ k u = some r := by
 unfold nloadV at h
 unfold loadVal
 by_cases hc : agg = false ∧ n = 0
 · rw [if_pos hc] at h ⊢
   obtain ⟨s, h1, h2⟩ := nstrV_sound hh h hr
   exact ⟨_, _, h1, (RP.ro (.str s)).rt, h2⟩
 rw [if_neg hc] at h ⊢
 obtain ⟨cs, ds, h1, h2, h3⟩ := nload_sound hh h hr
 rw [h1]
 simp only
 split at h3
 · rename_i ha
   rw [if_pos ha]
   exact ⟨_, _, rfl, .v (.agg _ _ h2), h3⟩
 · rename_i ha
   rw [if_neg ha]
   split at h3
   · rename_i c
     obtain ⟨d, ds', rfl, h4, h5⟩ := h2.cons_inv
     rw [h5.nil_inv]
     exact ⟨_, _, rfl, h4.rt, h3⟩
   · cases h3
theorem settle_rel (hh : RH hp ahp) {flat : Bool} {vs : List NVal} {as' : List AVal} {us : List NVal} {hp1 : NHeap} (h : nsettle hp flat vs = some (us, hp1)) (hr : A2 (RC hp) vs as') :
   ∃ bs ahp1, AM.settle ahp flat as' = some (bs, ahp1) ∧ RH hp1 ahp1 ∧ Evo hp hp1 ∧ (flat = true → A2 RI us bs) ∧ A2 (RC hp1) us bs := by
 unfold nsettle at h
 split at h
 · rename_i hf
   split at h
   · rename_i us1 l hus
     cases h
     obtain ⟨bs, hg, hrus⟩ := allOn_rel (R := RC hp) (R' := RI) (g := viewP ahp DEEP) (fun x y u l hxy hx => view_rel hh hx hxy) hus hr
     exact ⟨bs, AM.kill ahp l, by simp only [AM.settle, hf, if_true, hg], kill_rel hh, nkill_evo l hp, fun _ => hrus, hrus.mono fun _ _ h => h.c⟩
   · cases h
 · rename_i hf
   cases h
   exact ⟨as', ahp, by simp only [AM.settle, hf, Bool.false_eq_true, if_false], hh, .refl _, fun h => absurd h hf, hr⟩
theorem nkill_get {b : Nat} {k : NBlk} : ∀ {l : List Nat} {hp : NHeap}, nget (nkill .dead hp l) b = some k → nget hp b = some k
 | [], _, h => h
 | c :: l, hp, h => by
   have := nkill_get (l := l) h
   rw [nget_iff, List.getElem?_set] at this
   rw [nget_iff]
   split at this
   · split at this <;> cases this
   · exact this
theorem settle_get {flat : Bool} {vs us : List NVal} {hp1 : NHeap} (h : nsettle hp flat vs = some (us, hp1)) {b : Nat} {k : NBlk} (hb : nget hp1 b = some k) : nget hp b = some k := by
 unfold nsettle at h
 split at h
 · split at h
   · cases h; exact nkill_get hb
   · cases h
 · cases h; exact hb
theorem nputAt_RI {cs vs : List NVal} {ds us : List AVal} (h : A2 RI cs ds) (hv : A2 RI vs us) (off : Nat) : A2 RI (nputAt cs off vs) (putAt ds off us) := by
 unfold nputAt putAt
 rw [hv.1]
 exact ((h.take off).append hv).append (h.drop _)
theorem nstore_sound (hh : RH hp ahp) {n : Nat} {v x : NVal} {a b : AVal} {k : NHeap → Option ω} (h : nstore hp n v x k = some r) (hv : RT hp v a) (hx : RT hp x b) :
   ∃ hp' ahp', storeVal ahp n a b = some ahp' ∧ RH hp' ahp' ∧ Evo hp hp' ∧ k hp' = some r := by
 unfold nstore at h
 split at h
 · rename_i bb i f
   rw [hv.ptr_inv]
   split at h
   · rename_i kb hkb
     obtain ⟨kk, hk, hrb⟩ := hh.get hkb
     split at h
     · rename_i hc
       obtain ⟨c1, c2⟩ := hx.cells hc.2
       split at h
       · rename_i us hp1 hst
         obtain ⟨bs, ahp1, hs1, hh1, hev, hri, hrc⟩ := settle_rel hh hst c1
         have pre : storeVal ahp n (.ptr bb i f) b = match ahp1.get bb with
             | some k1 => match k1.elems[i]? with
               | some y => if f + n ≤ y.length then some (ahp1.set bb (.live ⟨k1.e, k1.flat, k1.elems.set i (putAt y f bs)⟩)) else none
               | none => none
             | none => none := by
           simp only [storeVal, hk]
           rw [if_pos ⟨by rw [← c1.1]; exact hc.1, c2⟩, hrb.flat, hs1]
           rfl
         rw [pre]
         split at h
         · rename_i e fl rows hb1
           obtain ⟨k1, hk1, hrb1⟩ := hh1.get hb1
           split at h
           · rename_i y hy
             split at h
             · rename_i hle
               obtain ⟨y', hy', hry⟩ := (RB.row (kb := .cells e fl rows) hrb1).get hy
               have hev2 : Evo hp1 (hp1.set bb (.live (.cells e fl (rows.set i (nputAt y f us))))) := Evo.set_same hb1 (by simp [NBlk.len])
               refine ⟨_, ahp1.set bb (.live ⟨k1.e, k1.flat, k1.elems.set i (putAt y' f bs)⟩), ?_, RH.set hh1 hev2 ?_, hev.trans hev2, h⟩
               · simp only [hk1, hy']
                 rw [if_pos (by rw [← hry.1]; exact hle)]
               · refine .live _ _ ⟨hrb1.1, hrb1.2.1, fun hfl => ?_, fun hfl => ?_⟩
                 · have hflat : kb.flat = true := by
                     have := settle_get hst hb1
                     rw [hkb] at this
                     cases this
                     exact hfl
                   obtain ⟨y'', hy'', hry''⟩ := (hrb1.2.2.1 hfl).get hy
                   rw [hy'] at hy''
                   cases hy''
                   exact (hrb1.2.2.1 hfl).set i (nputAt_RI hry'' (hri hflat) f)
                 · exact ((hrb1.2.2.2 hfl).set i (putAt_rel hry hrc f)).mono fun _ _ h => h.mono fun _ _ h => h.mono hev2
             · cases h
           · cases h
         · rename_i t xs hb1
           obtain ⟨k1, hk1, hrb1⟩ := hh1.get hb1
           simp only [Option.bind_eq_some_iff] at h
           obtain ⟨y, hy, h⟩ := h
           split at h
           · rename_i hle
             split at h
             · rename_i y2 hy2
               obtain ⟨y', hy', hry⟩ := hrb1.2.2.get hy
               have hev2 : Evo hp1 (hp1.set bb (.live (.typed t (xs.set i y2)))) := Evo.set_same hb1 (by simp [NBlk.len])
               refine ⟨_, ahp1.set bb (.live ⟨k1.e, k1.flat, k1.elems.set i (putAt y' f bs)⟩), ?_, RH.set hh1 hev2 ?_, hev.trans hev2, h⟩
               · simp only [hk1, hy']
                 rw [if_pos (by rw [← hry.1]; exact hle)]
               · have hflat : kb.flat = true := by
                   have := settle_get hst hb1
                   rw [hkb] at this
                   cases this
                   rfl
                 exact .live _ _ ⟨hrb1.1, hrb1.2.1, hrb1.2.2.set i ((good t).2.1 _ _ _ hy2 (nputAt_RI hry (hri hflat) f))⟩
             · cases h
           · cases h
         · cases h
       · cases h
     · cases h
   · cases h
 · cases h
end
end NM
end Go.Proofs.YtjngkfdclcgfhaaGreatDoor
end
