/-
  What the proof of PlanStays leans on, part 18. (Many texts laid together by program.)
-/
import Derived.Test.YtmnhkpekmgobbaaPkTq
import Derived.Test.YtmnhkpekmgobbaaProg
import Derived.WalkKit
import Derived.LoopTactic
import Derived.Lib.Hide
set_option linter.unnecessarySimpa false
set_option linter.unusedSimpArgs false
set_option linter.unusedVariables false
section
namespace Go.Proofs.Ytmnhkpekmgobbaa
namespace NM
open AM
/- shapes whose data a value determines -/
mutual
def wfS : Sh → Bool
 | .fn _ l | .agg l | .tup l | .iptr l _ => wfL l
 | .rows _ l => wfR l
 | .cons _ _ => false
 | .v _ | .undef | .nilp | .zsl | .nilfn | .nili | .ptr _ _ _ | .slw _ _ | .nil => true
def wfL : Sh → Bool
 | .cons a l => wfS a && wfL l
 | .nil => true
 | .v _ | .undef | .nilp | .zsl | .nilfn | .nili | .ptr _ _ _ | .slw _ _ | .fn _ _ | .agg _ | .tup _ | .iptr _ _ | .rows _ _ => false
def wfR : Sh → Bool
 | .cons a l => wfL a && wfR l
 | .nil => true
 | .v _ | .undef | .nilp | .zsl | .nilfn | .nili | .ptr _ _ _ | .slw _ _ | .fn _ _ | .agg _ | .tup _ | .iptr _ _ | .rows _ _ => false
end
def wfH : HS → Bool
 | .cell _ r => wfL r
 | .many _ r => wfR r
 | _ => true
def lv0 (_ : Nat) : Bool := false
def oGood (o : OSh) : Bool := !o.1.isUndef && (match o.2 with
 | [] => okT lv0 o.1
 | _ :: _ => okT (liveB o.2) o.1 && o.2.all (okS (liveB o.2)))
def sigGood (sig : Sig) : Bool := wfL sig.args && sig.heap.all wfH && oGood sig.res && sig.more.all oGood
noncomputable def outA (r : Sh) : (l : List HS) → denO r l → AVal
 | [], y => can (fun _ => 0) r y
 | h :: l, y => can (lensOf (putH (h :: l) y.2)) r y.1
noncomputable def outB (r : Sh) : (l : List HS) → denO r l → Heap
 | [], _ => []
 | h :: l, y => canH (lensOf (putH (h :: l) y.2)) (h :: l) y.2
noncomputable def yA : (o : OSh) → (l : List OSh) → denY o l → AVal
 | o, [], y => outA o.1 o.2 y
 | o, p :: l, y => match y with
   | .inl y => outA o.1 o.2 y
   | .inr y => yA p l y
noncomputable def yB : (o : OSh) → (l : List OSh) → denY o l → Heap
 | o, [], y => outB o.1 o.2 y
 | o, p :: l, y => match y with
   | .inl y => outB o.1 o.2 y
   | .inr y => yB p l y
def NOk (P : Program) (e : Ent) : Prop := Enters P e.f ∧ sigGood e.sig = true ∧ ∀ x h y, e.F x h = some y → ∀ args ahp, A2 (RV (putH e.sig.heap h)) (puts e.sig.args x) args → RH (putH e.sig.heap h) ahp →
 CallOk P e.f args ahp (yA e.sig.res e.sig.more y) (yB e.sig.res e.sig.more y)
section
variable {P : Program}
theorem v_inj {hp hp' : NHeap} {t : Ty} {x x' : den t} {a : AVal} (h : RT hp (putV t x) a) (h' : RT hp' (putV t x') a) : x = x' := by
 cases ht : t.isAgg with
 | true =>
   simp only [putV, ht] at h h'
   obtain ⟨ds, e, hc⟩ := h.agg_inv
   obtain ⟨ds', e', hc'⟩ := h'.agg_inv
   rw [e] at e'
   cases e'
   exact (bth t).2.1 x x' ds ⟨hc.1, fun j c d hj hd => ((hc.2 j c d hj hd).imm ((good t).2.2.1 x c (List.mem_of_getElem? hj))).1⟩ ⟨hc'.1, fun j c d hj hd => ((hc'.2 j c d hj hd).imm ((good t).2.2.1 x' c (List.mem_of_getElem? hj))).1⟩
 | false =>
   obtain ⟨c, d, h1, h2, h3, h4⟩ := one_cells ht x
   obtain ⟨c', d', h1', h2', h3', h4'⟩ := one_cells ht x'
   simp only [putV, ht, h1] at h
   simp only [putV, ht, h1'] at h'
   have key : ∀ {hp : NHeap} {c : NVal}, nimmP c = true → RT hp c a → RI c a := fun {hp c} hi hr => by
     cases hr with
     | undef => cases hi
     | v hr => cases hr with
       | c hr => exact (hr.imm hi).1
       | agg => cases hi
     | tup => cases hi
   exact (bth t).2.1 x x' [a] (by rw [h1]; exact .single (key h4 h)) (by rw [h1']; exact .single (key h4' h'))
mutual
theorem put_inj {hp hp' : NHeap} : ∀ (s : Sh) (x x' : s.den) (a : AVal), wfS s = true → RT hp (put s x) a → RT hp' (put s x') a → x = x'
 | .v t, x, x', a, _, h, h' => v_inj (by simpa only [put] using h) (by simpa only [put] using h')
 | .undef, _, _, _, _, _, _ => rfl
 | .nilp, _, _, _, _, _, _ => rfl
 | .zsl, _, _, _, _, _, _ => rfl
 | .nilfn, _, _, _, _, _, _ => rfl
 | .nili, _, _, _, _, _, _ => rfl
 | .ptr _ _ _, _, _, _, _, _, _ => rfl
 | .slw _ _, _, _, _, _, _, _ => rfl
 | .fn f l, x, x', a, hw, h, h' => by
   simp only [put] at h h'
   simp only [wfS] at hw
   obtain ⟨c, e, hc⟩ := h.fn_inv
   obtain ⟨c', e', hc'⟩ := h'.fn_inv
   rw [e] at e'
   cases e'
   exact puts_inj l x x' c hw (hc.mono fun _ _ h => h.rt) (hc'.mono fun _ _ h => h.rt)
 | .agg l, x, x', a, hw, h, h' => by
   simp only [put] at h h'
   simp only [wfS] at hw
   obtain ⟨c, e, hc⟩ := h.agg_inv
   obtain ⟨c', e', hc'⟩ := h'.agg_inv
   rw [e] at e'
   cases e'
   exact puts_inj l x x' c hw (hc.mono fun _ _ h => h.rt) (hc'.mono fun _ _ h => h.rt)
 | .tup l, x, x', a, hw, h, h' => by
   simp only [put] at h h'
   simp only [wfS] at hw
   obtain ⟨c, e, hc⟩ := h.tup_inv
   obtain ⟨c', e', hc'⟩ := h'.tup_inv
   rw [e] at e'
   cases e'
   exact puts_inj l x x' c hw (hc.mono fun _ _ h => .v h) (hc'.mono fun _ _ h => .v h)
 | .iptr l off, x, x', a, hw, h, h' => by
   simp only [put] at h h'
   simp only [wfS] at hw
   obtain ⟨c, e, hc⟩ := h.iptr_inv
   obtain ⟨c', e', hc'⟩ := h'.iptr_inv
   rw [e] at e'
   cases e'
   exact puts_inj l x x' c hw (hc.mono fun _ _ h => h.rt (hp := hp)) (hc'.mono fun _ _ h => h.rt (hp := hp'))
 | .rows e l, x, x', a, hw, h, h' => by
   simp only [put] at h h'
   simp only [wfS] at hw
   rcases h.rows_inv.rows_inv with ⟨ys, rfl, hy⟩ | ⟨rfl, h0⟩
   · rcases h'.rows_inv.rows_inv with ⟨zs, hz, hz2⟩ | ⟨hz, _⟩
     · cases hz; exact putsR_inj l x x' ys hw hy hz2
     · cases hz
   · rcases h'.rows_inv.rows_inv with ⟨zs, hz, hz2⟩ | ⟨_, h0'⟩
     · cases hz
     · exact putsR_inj l x x' [] hw (by rw [h0]; exact .nil) (by rw [h0']; exact .nil)
 | .nil, _, _, _, _, _, _ => rfl
 | .cons _ _, _, _, _, hw, _, _ => by simp [wfS] at hw
theorem puts_inj {hp hp' : NHeap} : ∀ (s : Sh) (x x' : s.den) (ds : List AVal), wfL s = true → A2 (RT hp) (puts s x) ds → A2 (RT hp') (puts s x') ds → x = x'
 | .cons a l, x, x', ds, hw, h, h' => by
   simp only [puts] at h h'
   simp only [wfL, Bool.and_eq_true] at hw
   obtain ⟨d, ds', rfl, h1, h2⟩ := h.cons_inv
   exact Prod.ext (put_inj a x.1 x'.1 d hw.1 h1 h'.head) (puts_inj l x.2 x'.2 ds' hw.2 h2 h'.tail)
 | .nil, _, _, _, _, _, _ => rfl
 | .v _, _, _, _, hw, _, _ => by simp [wfL] at hw
 | .undef, _, _, _, hw, _, _ => rfl
 | .nilp, _, _, _, hw, _, _ => rfl
 | .zsl, _, _, _, hw, _, _ => rfl
 | .nilfn, _, _, _, hw, _, _ => rfl
 | .nili, _, _, _, hw, _, _ => rfl
 | .ptr _ _ _, _, _, _, hw, _, _ => rfl
 | .slw _ _, _, _, _, hw, _, _ => rfl
 | .fn _ _, _, _, _, hw, _, _ => by simp [wfL] at hw
 | .agg _, _, _, _, hw, _, _ => by simp [wfL] at hw
 | .tup _, _, _, _, hw, _, _ => by simp [wfL] at hw
 | .iptr _ _, _, _, _, hw, _, _ => by simp [wfL] at hw
 | .rows _ _, _, _, _, hw, _, _ => by simp [wfL] at hw
theorem putsR_inj : ∀ (s : Sh) (x x' : s.den) (ds : List (List AVal)), wfR s = true → A2 (A2 RI) (putsR s x) ds → A2 (A2 RI) (putsR s x') ds → x = x'
 | .cons a l, x, x', ds, hw, h, h' => by
   simp only [putsR] at h h'
   simp only [wfR, Bool.and_eq_true] at hw
   obtain ⟨d, ds', rfl, h1, h2⟩ := h.cons_inv
   exact Prod.ext (puts_inj (hp := []) (hp' := []) a x.1 x'.1 d hw.1 (h1.mono fun _ _ h => h.rt) (h'.head.mono fun _ _ h => h.rt)) (putsR_inj l x.2 x'.2 ds' hw.2 h2 h'.tail)
 | .nil, _, _, _, _, _, _ => rfl
 | .v _, _, _, _, hw, _, _ => by simp [wfR] at hw
 | .undef, _, _, _, hw, _, _ => rfl
 | .nilp, _, _, _, hw, _, _ => rfl
 | .zsl, _, _, _, hw, _, _ => rfl
 | .nilfn, _, _, _, hw, _, _ => rfl
 | .nili, _, _, _, hw, _, _ => rfl
 | .ptr _ _ _, _, _, _, hw, _, _ => rfl
 | .slw _ _, _, _, _, hw, _, _ => rfl
 | .fn _ _, _, _, _, hw, _, _ => by simp [wfR] at hw
 | .agg _, _, _, _, hw, _, _ => by simp [wfR] at hw
 | .tup _, _, _, _, hw, _, _ => by simp [wfR] at hw
 | .iptr _ _, _, _, _, hw, _, _ => by simp [wfR] at hw
 | .rows _ _, _, _, _, hw, _, _ => by simp [wfR] at hw
end
theorem putsR_injC {hp hp' : NHeap} : ∀ (s : Sh) (x x' : s.den) (ds : List (List AVal)), wfR s = true → A2 (A2 (RC hp)) (putsR s x) ds → A2 (A2 (RC hp')) (putsR s x') ds → x = x'
 | .cons a l, x, x', ds, hw, h, h' => by
   simp only [putsR] at h h'
   simp only [wfR, Bool.and_eq_true] at hw
   obtain ⟨d, ds', rfl, h1, h2⟩ := h.cons_inv
   exact Prod.ext (puts_inj (hp := hp) (hp' := hp') a x.1 x'.1 d hw.1 (h1.mono fun _ _ h => h.rt) (h'.head.mono fun _ _ h => h.rt)) (putsR_injC l x.2 x'.2 ds' hw.2 h2 h'.tail)
 | .nil, _, _, _, _, _, _ => rfl
 | .v _, _, _, _, hw, _, _ => by simp [wfR] at hw
 | .undef, _, _, _, hw, _, _ => rfl
 | .nilp, _, _, _, hw, _, _ => rfl
 | .zsl, _, _, _, hw, _, _ => rfl
 | .nilfn, _, _, _, hw, _, _ => rfl
 | .nili, _, _, _, hw, _, _ => rfl
 | .ptr _ _ _, _, _, _, hw, _, _ => rfl
 | .slw _ _, _, _, _, hw, _, _ => rfl
 | .fn _ _, _, _, _, hw, _, _ => by simp [wfR] at hw
 | .agg _, _, _, _, hw, _, _ => by simp [wfR] at hw
 | .tup _, _, _, _, hw, _, _ => by simp [wfR] at hw
 | .iptr _ _, _, _, _, hw, _, _ => by simp [wfR] at hw
 | .rows _ _, _, _, _, hw, _, _ => by simp [wfR] at hw
theorem putS_inj {G G' : NHeap} {h : HS} {x x' : h.den} {s : Slot} (hw : wfH h = true) (h1 : RS G (putS h x) s) (h2 : RS G' (putS h x') s) : x = x' := by
 cases h with
 | dead => rfl
 | typed t =>
   simp only [putS] at h1 h2
   cases h1 with
   | live _ k hk =>
     cases h2 with
     | live _ _ hk' => exact inj_A2 (bth t).2.1 hk.2.2 hk'.2.2
 | one flat t =>
   simp only [putS] at h1 h2
   cases h1 with
   | live _ k hk =>
     cases h2 with
     | live _ _ hk' =>
       have e1 := RB.row' hk
       have e2 := RB.row' hk'
       obtain ⟨d, ds, e, f1, f2⟩ := e1.cons_inv
       rw [e] at e2
       have g2 := e2.head
       exact (bth t).2.1 x x' d ⟨f1.1, fun j c d hj hd => ((f1.2 j c d hj hd).imm ((good t).2.2.1 x c (List.mem_of_getElem? hj))).1⟩ ⟨g2.1, fun j c d hj hd => ((g2.2 j c d hj hd).imm ((good t).2.2.1 x' c (List.mem_of_getElem? hj))).1⟩
 | many e r =>
   simp only [putS] at h1 h2
   cases h1 with
   | live _ k hk =>
     cases h2 with
     | live _ _ hk' => exact putsR_injC r x x' _ hw (hk.2.2.2 rfl) (hk'.2.2.2 rfl)
 | cell flat r =>
   simp only [putS] at h1 h2
   cases h1 with
   | live _ k hk =>
     cases h2 with
     | live _ _ hk' =>
       have e1 := RB.row (kb := .typed .unit []) hk
       have e2 := RB.row (kb := .typed .unit []) hk'
       obtain ⟨d, ds, e, f1, f2⟩ := e1.cons_inv
       rw [e] at e2
       exact puts_inj r x x' d hw (f1.mono fun _ _ h => h.rt) (e2.head.mono fun _ _ h => h.rt)
theorem putH_inj {G G' : NHeap} : ∀ {l : List HS} {x x' : denH l} {ahp : Heap}, l.all wfH = true → A2 (RS G) (putH l x) ahp → A2 (RS G') (putH l x') ahp → x = x'
 | [], _, _, _, _, _, _ => rfl
 | h :: l, x, x', ahp, hw, h1, h2 => by
   simp only [putH] at h1 h2
   simp only [List.all_cons, Bool.and_eq_true] at hw
   obtain ⟨s, ss, rfl, e1, e2⟩ := h1.cons_inv
   exact Prod.ext (putS_inj hw.1 e1 h2.head) (putH_inj hw.2 e2 h2.tail)
theorem out_rel {o : OSh} (hs : oGood o = true) (y : denO o.1 o.2) : RTs (outH o.1 o.2 y) (outV o.1 o.2 y) (outA o.1 o.2 y) ∧ RH (outH o.1 o.2 y) (outB o.1 o.2 y) := by
 obtain ⟨res, back⟩ := o
 simp only [oGood, Bool.and_eq_true] at hs
 obtain ⟨_, hs⟩ := hs
 cases back with
 | nil =>
   simp only at hs
   exact ⟨canT_rel (lv := lv0) (fun b hb => by cases hb) res y hs, .nil⟩
 | cons h l =>
   simp only [Bool.and_eq_true] at hs
   exact ⟨canT_rel putH_lens res y.1 hs.1, canH_rel putH_lens hs.2⟩
theorem y_rel : ∀ {o : OSh} {l : List OSh}, oGood o = true → l.all oGood = true → ∀ y : denY o l, RTs (yH o l y) (yV o l y) (yA o l y) ∧ RH (yH o l y) (yB o l y)
 | o, [], h, _, y => out_rel h y
 | o, p :: l, h, _, .inl y => out_rel h y
 | o, p :: l, _, h, .inr y => by
   simp only [List.all_cons, Bool.and_eq_true] at h
   simp only [yH, yV, yA, yB]
   exact y_rel h.1 h.2 y
theorem out_conv {o : OSh} (hs : oGood o = true) {y : denO o.1 o.2} {r' : AVal} {back' : Heap} (hr : RTs (outH o.1 o.2 y) (outV o.1 o.2 y) r') (hb : RH (outH o.1 o.2 y) back')
   {μ : Nat → AM.Loc} {w : World} {S : Nat → Prop} {v : Value} (hH : HRep μ w S back') (hv : VR μ w S r' v) : HRep μ w S (outB o.1 o.2 y) ∧ VR μ w S (outA o.1 o.2 y) v ∧ (outB o.1 o.2 y).length = back'.length := by
 obtain ⟨res, back⟩ := o
 simp only [oGood, Bool.and_eq_true] at hs
 obtain ⟨_, hs⟩ := hs
 cases back with
 | nil =>
   simp only at hs
   simp only [outH] at hb hr
   rw [hb.nil_inv] at hH ⊢
   exact ⟨hH, canT_conv (lv := lv0) (hp := []) (fun b hb => by cases hb) res y _ v hs hr hv, rfl⟩
 | cons h l =>
   simp only [Bool.and_eq_true] at hs
   have hc := canH_conv (μ := μ) (w := w) (S := S) (x := y.2) putH_lens hs.2 hb
   exact ⟨hrep_conv hH hc, canT_conv putH_lens res y.1 _ v hs.1 hr hv, hc.1.symm⟩
theorem y_conv {μ : Nat → AM.Loc} {w : World} {S : Nat → Prop} {v : Value} : ∀ {o : OSh} {l : List OSh}, oGood o = true → l.all oGood = true → ∀ {y : denY o l} {r' : AVal} {back' : Heap}, RTs (yH o l y) (yV o l y) r' → RH (yH o l y) back' →
   HRep μ w S back' → VR μ w S r' v → HRep μ w S (yB o l y) ∧ VR μ w S (yA o l y) v ∧ (yB o l y).length = back'.length
 | o, [], h, _, y, r', back', hr, hb, hH, hv => out_conv h hr hb hH hv
 | o, p :: l, h, _, .inl y, r', back', hr, hb, hH, hv => out_conv h hr hb hH hv
 | o, p :: l, _, h, .inr y, r', back', hr, hb, hH, hv => by
   simp only [List.all_cons, Bool.and_eq_true] at h
   simp only [yH, yV] at hr hb
   simp only [yA, yB]
   exact y_conv h.1 h.2 hr hb hH hv
theorem getY_rel {r : NVal} {back : NHeap} {r' : AVal} {back' : Heap} (hr : RTs back r r') (hb : RH back back') : ∀ {o : OSh} {l : List OSh}, oGood o = true → l.all oGood = true → ∀ {y : denY o l}, getY o l r back = some y → RTs (yH o l y) (yV o l y) r' ∧ RH (yH o l y) back'
 | o, [], h, _, y, hg => by
   have hu : o.1.isUndef = false := by
     simp only [oGood, Bool.and_eq_true, Bool.not_eq_true'] at h
     exact h.1
   exact getO_rel hu hg hr hb
 | o, p :: l, h, hl, y, hg => by
   have hu : o.1.isUndef = false := by
     simp only [oGood, Bool.and_eq_true, Bool.not_eq_true'] at h
     exact h.1
   simp only [getY] at hg
   split at hg
   · rename_i z hz
     cases hg
     exact getO_rel hu hz hr hb
   · split at hg
     · rename_i z hz
       cases hg
       simp only [List.all_cons, Bool.and_eq_true] at hl
       simp only [yH, yV]
       exact getY_rel hr hb hl.1 hl.2 hz
     · cases hg
def Fits (T : List Ent) (f : Nat) (args : List AVal) (ahp : Heap) (p : AVal × Heap) : Prop := ∃ e ∈ T, e.f = f ∧ ∃ x h y, e.F x h = some y ∧ A2 (RV (putH e.sig.heap h)) (puts e.sig.args x) args ∧ RH (putH e.sig.heap h) ahp ∧ p = (yA e.sig.res e.sig.more y, yB e.sig.res e.sig.more y)
open Classical in
noncomputable def orc (T : List Ent) : Oracle := fun f args ahp => if h : ∃ p, Fits T f args ahp p then some (Classical.choose h) else none
theorem orc_valid {T : List Ent} (hT : ∀ e ∈ T, NOk P e) : Valid P (orc T) := by
 intro f args hp r hp' h
 unfold orc at h
 split at h
 · rename_i hx
   have hs := Classical.choose_spec hx
   simp only [Option.some.injEq] at h
   rw [h] at hs
   obtain ⟨e, he, rfl, x, h0, y, h1, h2, h3, h4⟩ := hs
   cases h4
   exact ⟨(hT e he).1, (hT e he).2.2 x h0 y h1 args hp h2 h3⟩
 · cases h
def clash : Sh → Sh → Bool
 | .nilp, .ptr _ _ _ | .nilp, .iptr _ _ | .ptr _ _ _, .nilp | .iptr _ _, .nilp | .ptr _ _ _, .iptr _ _ | .iptr _ _, .ptr _ _ _ => true
 | .nilfn, .fn _ _ | .fn _ _, .nilfn => true
 | .fn f _, .fn g _ => f != g
 | _, _ => false
def clashes : Sh → Sh → Bool
 | .cons a l, .cons b m => clash a b || clashes l m
 | _, _ => false
def apartB (s s' : Sig) : Bool := clashes s.args s'.args || s.heap.length != s'.heap.length
theorem clash_no {hp hp' : NHeap} {s s' : Sh} {x : s.den} {x' : s'.den} {a : AVal} (h : clash s s' = true) (h1 : RT hp (put s x) a) (h2 : RT hp' (put s' x') a) : False := by
 unfold clash at h
 split at h
 · simp only [put] at h1 h2; have := h1.nilp_inv.symm.trans h2.ptr_inv; cases this
 · simp only [put] at h1 h2; obtain ⟨_, e, _⟩ := h2.iptr_inv; have := h1.nilp_inv.symm.trans e; cases this
 · simp only [put] at h1 h2; have := h2.nilp_inv.symm.trans h1.ptr_inv; cases this
 · simp only [put] at h1 h2; obtain ⟨_, e, _⟩ := h1.iptr_inv; have := h2.nilp_inv.symm.trans e; cases this
 · simp only [put] at h1 h2; obtain ⟨_, e, _⟩ := h2.iptr_inv; have := h1.ptr_inv.symm.trans e; cases this
 · simp only [put] at h1 h2; obtain ⟨_, e, _⟩ := h1.iptr_inv; have := h2.ptr_inv.symm.trans e; cases this
 · simp only [put] at h1 h2; obtain ⟨_, e, _⟩ := h2.fn_inv; subst e; cases h1 with | v h => cases h with | c h => cases h with | p h => cases h with | ro h => cases h
 · simp only [put] at h1 h2; obtain ⟨_, e, _⟩ := h1.fn_inv; subst e; cases h2 with | v h => cases h with | c h => cases h with | p h => cases h with | ro h => cases h
 · simp only [put] at h1 h2
   obtain ⟨_, e, _⟩ := h1.fn_inv
   obtain ⟨_, e', _⟩ := h2.fn_inv
   rw [e] at e'
   cases e'
   simp at h
 · cases h
theorem clashes_no {hp hp' : NHeap} : ∀ {s s' : Sh} {x : s.den} {x' : s'.den} {as' : List AVal}, clashes s s' = true → A2 (RT hp) (puts s x) as' → A2 (RT hp') (puts s' x') as' → False
 | .cons a l, .cons b m, x, x', as', h, h1, h2 => by
   simp only [clashes, Bool.or_eq_true] at h
   simp only [puts] at h1 h2
   obtain ⟨d, ds, rfl, e1, e2⟩ := h1.cons_inv
   rcases h with h | h
   · exact clash_no h e1 h2.head
   · exact clashes_no h e2 h2.tail
 | .v _, _, _, _, _, h, _, _ => by simp [clashes] at h
 | .undef, _, _, _, _, h, _, _ => by simp [clashes] at h
 | .nilp, _, _, _, _, h, _, _ => by simp [clashes] at h
 | .zsl, _, _, _, _, h, _, _ => by simp [clashes] at h
 | .nilfn, _, _, _, _, h, _, _ => by simp [clashes] at h
 | .nili, _, _, _, _, h, _, _ => by simp [clashes] at h
 | .ptr _ _ _, _, _, _, _, h, _, _ => by simp [clashes] at h
 | .slw _ _, _, _, _, _, h, _, _ => by simp [clashes] at h
 | .fn _ _, _, _, _, _, h, _, _ => by simp [clashes] at h
 | .agg _, _, _, _, _, h, _, _ => by simp [clashes] at h
 | .tup _, _, _, _, _, h, _, _ => by simp [clashes] at h
 | .iptr _ _, _, _, _, _, h, _, _ => by simp [clashes] at h
 | .rows _ _, _, _, _, _, h, _, _ => by simp [clashes] at h
 | .nil, _, _, _, _, h, _, _ => by simp [clashes] at h
 | .cons _ _, .v _, _, _, _, h, _, _ => by simp [clashes] at h
 | .cons _ _, .undef, _, _, _, h, _, _ => by simp [clashes] at h
 | .cons _ _, .nilp, _, _, _, h, _, _ => by simp [clashes] at h
 | .cons _ _, .zsl, _, _, _, h, _, _ => by simp [clashes] at h
 | .cons _ _, .nilfn, _, _, _, h, _, _ => by simp [clashes] at h
 | .cons _ _, .nili, _, _, _, h, _, _ => by simp [clashes] at h
 | .cons _ _, .ptr _ _ _, _, _, _, h, _, _ => by simp [clashes] at h
 | .cons _ _, .slw _ _, _, _, _, h, _, _ => by simp [clashes] at h
 | .cons _ _, .fn _ _, _, _, _, h, _, _ => by simp [clashes] at h
 | .cons _ _, .agg _, _, _, _, h, _, _ => by simp [clashes] at h
 | .cons _ _, .tup _, _, _, _, h, _, _ => by simp [clashes] at h
 | .cons _ _, .iptr _ _, _, _, _, h, _, _ => by simp [clashes] at h
 | .cons _ _, .rows _ _, _, _, _, h, _, _ => by simp [clashes] at h
 | .cons _ _, .nil, _, _, _, h, _, _ => by simp [clashes] at h
theorem putH_length : ∀ {l : List HS} {x : denH l}, (putH l x).length = l.length
 | [], _ => rfl
 | _ :: l, x => by simp only [putH, List.length_cons]; rw [putH_length]
def oneEach : List Ent → Prop
 | [] => True
 | e :: T => (∀ e' ∈ T, e'.f ≠ e.f ∨ apartB e.sig e'.sig = true) ∧ oneEach T
def oneEachB : List Ent → Bool
 | [] => true
 | e :: T => T.all (fun e' => e'.f != e.f || apartB e.sig e'.sig) && oneEachB T
theorem oneEach_of : ∀ {T : List Ent}, oneEachB T = true → oneEach T
 | [], _ => trivial
 | e :: T, h => by
   simp only [oneEachB, Bool.and_eq_true, List.all_eq_true, Bool.or_eq_true, bne_iff_ne, ne_eq] at h
   exact ⟨h.1, oneEach_of h.2⟩
theorem nall_nil : ∀ e ∈ ([] : List Ent), NOk P e := fun e h => by cases h
theorem nall_cons {e : Ent} {T : List Ent} (h : NOk P e) (hT : ∀ e ∈ T, NOk P e) : ∀ e' ∈ e :: T, NOk P e' := fun e' he => by
 cases he with
 | head => exact h
 | tail _ he => exact hT e' he
theorem oneEach_eq {args : List AVal} {ahp : Heap} : ∀ {T : List Ent} {e e' : Ent}, oneEach T → e ∈ T → e' ∈ T → e.f = e'.f → ∀ {x : e.sig.args.den} {h : denH e.sig.heap} {x' : e'.sig.args.den} {h' : denH e'.sig.heap},
   A2 (RV (putH e.sig.heap h)) (puts e.sig.args x) args → RH (putH e.sig.heap h) ahp → A2 (RV (putH e'.sig.heap h')) (puts e'.sig.args x') args → RH (putH e'.sig.heap h') ahp → e = e'
 | [], e, e', _, he, _, _, _, _, _, _, _, _, _, _ => by cases he
 | a :: T, e, e', ho, he, he', hf, x, h, x', h', a1, b1, a2, b2 => by
   have no : ∀ {e e' : Ent} {x : e.sig.args.den} {h : denH e.sig.heap} {x' : e'.sig.args.den} {h' : denH e'.sig.heap}, apartB e.sig e'.sig = true →
       A2 (RV (putH e.sig.heap h)) (puts e.sig.args x) args → RH (putH e.sig.heap h) ahp → A2 (RV (putH e'.sig.heap h')) (puts e'.sig.args x') args → RH (putH e'.sig.heap h') ahp → False := by
     intro e e' x h x' h' hap a1 b1 a2 b2
     simp only [apartB, Bool.or_eq_true, bne_iff_ne, ne_eq] at hap
     rcases hap with hap | hap
     · exact clashes_no hap (a1.mono fun _ _ h => RT.v h) (a2.mono fun _ _ h => RT.v h)
     · have e1 := b1.1
       have e2 := b2.1
       rw [putH_length] at e1 e2
       exact hap (e1.trans e2.symm)
   cases he with
   | head =>
     cases he' with
     | head => rfl
     | tail _ he' =>
       rcases ho.1 _ he' with g | g
       · exact absurd hf.symm g
       · exact (no g a1 b1 a2 b2).elim
   | tail _ he =>
     cases he' with
     | head =>
       rcases ho.1 _ he with g | g
       · exact absurd hf g
       · exact (no g a2 b2 a1 b1).elim
     | tail _ he' => exact oneEach_eq ho.2 he he' hf a1 b1 a2 b2
theorem orc_ent {T : List Ent} (hT : ∀ e ∈ T, NOk P e) (h1 : oneEach T) : ∀ e ∈ T, EntOk (orc T) e := by
 intro e he x h y hF args ahp ha hh
 have hx : ∃ p, Fits T e.f args ahp p := ⟨_, e, he, rfl, x, h, y, hF, ha, hh, rfl⟩
 have hs := Classical.choose_spec hx
 have hk : orc T e.f args ahp = some (Classical.choose hx) := by
   unfold orc
   rw [dif_pos hx]
 generalize Classical.choose hx = p at hs hk
 obtain ⟨e', he', hf, x', h', y', hF', ha', hh', rfl⟩ := hs
 cases oneEach_eq h1 he' he hf ha' hh' ha hh
 have hg := (hT e he).2.1
 have hg' := hg
 simp only [sigGood, Bool.and_eq_true] at hg'
 have ex : x' = x := puts_inj _ x' x args hg'.1.1.1 (ha'.mono fun _ _ h => .v h) (ha.mono fun _ _ h => .v h)
 have eh : h' = h := putH_inj hg'.1.1.2 hh' hh
 subst ex
 subst eh
 rw [hF] at hF'
 cases hF'
 exact ⟨_, _, hk, (y_rel hg'.1.2 hg'.2 y).1, (y_rel hg'.1.2 hg'.2 y).2⟩
def chkNF (P : Program) (fn : Func) (nf : NFunc) : Bool :=
 fn.ntmps == nf.ntmps && all2 (chkRes P) fn.results.toList nf.results && !(fn.name == "runtime.NumGoroutine") && (match fn.body with | some c => chkN P nf.code c | none => false)
theorem nbody_ok {K : Oracle} {T : List Ent} (hK : Valid P K) (hT : ∀ e ∈ T, EntOk K e) (hmix : P.follows .mixedOrders = true) {f : Nat} {fn : Func} {nf : NFunc} (hf : P.funcs[f]? = some fn) (hc : chkNF P fn nf = true) {sig : Sig} (hsig : sigGood sig = true)
   {x : sig.args.den} {h : denH sig.heap} {y : sig.den} (hrun : nrun T (LN LOOPS) nf sig x h = some y) {args : List AVal} {hp : Heap} (ha : A2 (RV (putH sig.heap h)) (puts sig.args x) args) (hh : RH (putH sig.heap h) hp) :
   CallOk P f args hp (yA sig.res sig.more y) (yB sig.res sig.more y) := by
 unfold chkNF at hc
 simp only [Bool.and_eq_true, beq_iff_eq] at hc
 obtain ⟨⟨⟨hnt, hres⟩, hname⟩, hcode⟩ := hc
 split at hcode
 case h_2 => cases hcode
 rename_i c hb
 intro μ0 w0 S0 cargs r0 hl hargs
 refine calls_of_wp hf hb ?_
 unfold nrun at hrun
 have hal : (puts sig.args x).length = args.length := ha.1
 have rep0 : Rep μ0 w0 S0 ⟨args ++ List.replicate (nf.ntmps - args.length) .undef, hp, hp.length⟩ { tmps := cargs ++ Array.replicate (fn.ntmps - cargs.size) undef, defers := [] } := by
   refine ⟨⟨by simp [hl, hnt], fun t v hv => ?_, rfl⟩, r0⟩
   rw [List.getElem?_append] at hv
   split at hv
   · rename_i ht
     have ht2 : t < cargs.size := by omega
     have hcv : (cargs ++ Array.replicate (fn.ntmps - cargs.size) undef).getD t undef = cargs[t] := by
       rw [Array.getD_eq_getD_getElem?, Array.getElem?_append_left ht2, Array.getElem?_eq_getElem ht2]
       rfl
     rw [hcv]
     exact hargs t v _ hv (Array.getElem?_eq_getElem ht2)
   · rw [List.getElem?_replicate] at hv
     split at hv
     · simp only [Option.some.injEq] at hv; subst hv; exact .undef _
     · cases hv
 have nrep0 : NRep μ0 w0 S0 ⟨puts sig.args x ++ List.replicate (nf.ntmps - (puts sig.args x).length) .undef, putH sig.heap h, (putH sig.heap h).length⟩ { tmps := cargs ++ Array.replicate (fn.ntmps - cargs.size) undef, defers := [] } := by
   refine ⟨_, ⟨?_, hh, hh.1.symm⟩, putH_noGone, rep0⟩
   rw [hal]
   exact (ha.mono fun _ _ h => RT.v h).append (A2.replicate _ (.undef _))
 have hlen0 : (putH sig.heap h).length = hp.length := hh.1
 have fin : ∀ (st : NSt), nleave nf st (fun r back => getY sig.res sig.more r back) = some y → ∀ a' w' μ1 S1, NRep μ1 w' S1 st a' → Ext μ0 S0 w0 μ1 S1 w' → KeepsK hp.length μ0 μ1 → st.k = hp.length →
     a'.defers = [] ∧ ∃ v, (results fn a'.tmps).run P w' = .ok v w' ∧ ∃ v' μ' S', Ending.returned v = .returned v' ∧ HRep μ' w' S' (yB sig.res sig.more y) ∧ Ext μ0 S0 w0 μ' S' w' ∧ VR μ' w' S' (yA sig.res sig.more y) v' ∧ hp.length ≤ (yB sig.res sig.more y).length ∧ ∀ b, b < hp.length → μ0 b ≠ .free → μ' b = μ0 b ∨ μ' b = .dead := by
   intro nst hl a' w' μ1 S1 nrep x1 k1 hk
   obtain ⟨st, hs, hg, rep⟩ := nrep
   refine ⟨rep.tmps.defers, ?_⟩
   obtain ⟨r, back, r', hp', hl, hr1, hb1, hget⟩ := nleave_sound (af := ⟨nf.ntmps, .skip, nf.results, nf.freeze⟩) hs hg rfl rfl hl
   have hsig' := hsig
   simp only [sigGood, Bool.and_eq_true] at hsig'
   obtain ⟨hr2, hb2⟩ := getY_rel hr1 hb1 hsig'.1.2 hsig'.2 hget
   have hk : st.k = hp.length := hs.k.trans hk
   unfold leave at hl
   split at hl
   case h_1 => cases hl
   rename_i r1 hr1
   obtain ⟨cv, hrun, hcv⟩ := results_sound rep hres hr1
   refine ⟨cv, hrun, cv, ?_⟩
   split at hl
   case h_1 => cases hl
   rename_i r2 shown hr2'
   simp only at hl
   generalize hids : reach st.heap (List.range st.k) r2.ownT = ids at hl
   split at hl
   case isFalse => cases hl
   rename_i hcond
   obtain ⟨hn, htake, hshown⟩ := hcond
   simp only [Option.some.injEq, Prod.mk.injEq] at hl
   obtain ⟨rfl, rfl⟩ := hl
   have hshown : ∀ b, b ∈ shown → b ∉ ids := fun b hb => by have := List.all_eq_true.1 hshown b hb; simpa using this
   have hvr : VR μ1 w' (With S1 μ1 shown) r2 cv := by
     split at hr2'
     · exact viewT_sound rep.heap hcv hr2' μ1
     · simp only [Option.some.injEq, Prod.mk.injEq] at hr2'
       obtain ⟨rfl, rfl⟩ := hr2'
       exact hcv.mono (Up.refl _) (fun _ _ => rfl) (fun m hm => .inl hm)
   have hH : HRep (pick μ1 ids) w' (With S1 μ1 shown) (packHeap st.heap ids) := by
     refine pack_rep rep.heap hn (fun m hm => .inl hm) (fun m ho hS => ?_) (fun m hS => ?_)
     · obtain ⟨c, hc', n, e, hh⟩ := pick_owned ho
       rcases hS with hS | ⟨b, hb, n', e', hb'⟩
       · exact rep.heap.apart m ⟨c, n, e, hh⟩ hS
       · exact hshown b hb (by rw [rep.heap.inj b c m n' n e' e hb' hh]; exact hc')
     · rcases hS with hS | ⟨b, hb, n', e', hb'⟩
       · exact rep.heap.inS m hS
       · exact rep.heap.lt ⟨b, n', e', hb'⟩
   obtain ⟨hH', hv', hlen⟩ := y_conv hsig'.1.2 hsig'.2 hr2 hb2 hH (hvr.renT (pick_follows ids))
   refine ⟨pick μ1 ids, With S1 μ1 shown, rfl, hH', x1.trans ?_, hv', ?_, fun b hb hf => ?_⟩
   · refine ⟨rfl, rfl, rfl, Nat.le_refl _, fun _ _ _ => rfl, fun _ h => .inl h, fun m hm => ?_, fun m ho => ?_⟩
     · rcases hm with hm | ⟨b, hb, n', e', hb'⟩
       · exact .inl hm
       · exact .inr (.inl ⟨b, n', e', hb'⟩)
     · obtain ⟨c, hc', n, e, hh⟩ := pick_owned ho
       exact .inl ⟨c, n, e, hh⟩
   · have : (ids.take st.k).length = st.k := by rw [htake]; simp
     simp only [List.length_take] at this
     rw [hlen]
     simp only [packHeap, List.length_map]
     omega
   · have hb' : ids[b]? = some b := by
       have h1 : (ids.take st.k)[b]? = some b := by rw [htake, List.getElem?_range (by omega)]
       rw [List.getElem?_take, if_pos (by omega)] at h1
       exact h1
     have : pick μ1 ids b = μ1 b := by unfold pick; rw [hb']
     rw [this]
     exact k1 b hb hf
 refine ncode_sound hK hT hmix nf.code c hcode _ _ _ y _ w0 μ0 S0 _ nrep0 hrun fun e st' he _ a' w' μ1 S1 rep x1 k1 hk => ?_
 have k1' : KeepsK hp.length μ0 μ1 := by rw [← hlen0]; exact k1
 have hk' : st'.k = hp.length := hk.trans hlen0
 cases e with
 | normal => exact fin st' he a' w' μ1 S1 rep x1 k1' hk'
 | ret => exact fin st' he a' w' μ1 S1 rep x1 k1' hk'
 | exit i => cases he
 | goto l => cases he
theorem NOk.body (hmix : P.follows .mixedOrders = true) {T : List Ent} (hT : ∀ e ∈ T, NOk P e) (h1 : oneEach T) {f : Nat} {fn : Func} {nf : NFunc} {sig : Sig} (hf : P.funcs[f]? = some fn) (hc : chkNF P fn nf = true) (hsig : sigGood sig = true)
   {F : sig.args.den → denH sig.heap → Option sig.den} (hF : ∀ x h, nrun T (LN LOOPS) nf sig x h = F x h) : NOk P ⟨f, sig, F⟩ := by
 refine ⟨⟨fn, hf, ?_, ?_⟩, hsig, fun x h y hy args ahp ha hh => ?_⟩
 · unfold chkNF at hc
   simp only [Bool.and_eq_true, Bool.not_eq_true'] at hc
   exact hc.1.2
 · unfold chkNF at hc
   simp only [Bool.and_eq_true] at hc
   cases hb : fn.body with
   | none => rw [hb] at hc; cases hc.2
   | some c => rfl
 · have hy : F x h = some y := hy
   rw [← hF] at hy
   exact nbody_ok (orc_valid hT) (orc_ent hT h1) hmix hf hc hsig hy ha hh
end
end NM
end Go.Proofs.Ytmnhkpekmgobbaa
end
section
namespace Go.Proofs.Ytmnhkpekmgobbaa
open AM
class Rng (α : Type) [Lay α] where
 P : α → Prop
 ok : ∀ {w : World} {B : Nat → Prop} {x : α} {cs : List Value}, Lay.R w B x cs → P x
instance : Rng Int := ⟨I64, fun h => h.2⟩
instance : Rng Bool := ⟨fun _ => True, fun _ => trivial⟩
instance : Rng UInt8 := ⟨fun _ => True, fun _ => trivial⟩
instance : Rng ByteArray := ⟨fun x => x.size ≤ maxLen, fun h => h.2⟩
instance {α : Type} [Lay α] [Rng α] : Rng (List α) := ⟨fun xs => xs.length ≤ maxLen ∧ ∀ x ∈ xs, Rng.P x, fun {w B xs cs} h => by
 obtain ⟨A, c, rfl, h1, h2, h3, h4⟩ := h
 refine ⟨by omega, fun x hx => ?_⟩
 obtain ⟨i, hi, rfl⟩ := List.getElem_of_mem hx
 obtain ⟨ad, cs, _, _, hr, _⟩ := h4 i _ (List.getElem?_eq_getElem hi)
 exact Rng.ok hr⟩
instance {α β : Type} [Lay α] [Lay β] [Rng α] [Rng β] : Rng (α × β) := ⟨fun x => Rng.P x.1 ∧ Rng.P x.2, fun {w B x cs} h => by
 obtain ⟨c, d, rfl, h1, h2⟩ := h
 exact ⟨Rng.ok h1, Rng.ok h2⟩⟩
@[reducible] def Rng.iso {α β : Type} [Lay β] [Rng β] (f : α → β) : @Rng α (Lay.iso f) :=
 @Rng.mk α (Lay.iso f) (fun x => Rng.P (f x)) (fun h => Rng.ok (α := β) h)
instance : Rng Res := Rng.iso Res.pr
instance : Rng Dep := Rng.iso Dep.pr
instance : Rng Queue := Rng.iso Queue.pr
instance : Rng Weights := Rng.iso Weights.pr
instance : Rng Spec := Rng.iso Spec.pr
instance : Rng Job := Rng.iso Job.pr
instance : Rng Share := Rng.iso Share.pr
instance : Rng Alloc := Rng.iso Alloc.pr
instance : Rng Run := Rng.iso Run.pr
instance : Rng Booking := Rng.iso Booking.pr
instance : Rng Step := Rng.iso Step.pr
instance : Rng Request := Rng.iso Request.pr
instance : Rng Reply := Rng.iso Reply.pr
instance : Rng Call := Rng.iso Call.pr
instance : Rng Entry := Rng.iso Entry.pr
namespace NM
class NEnc (α : Type) [Lay α] [Enc α] (t : outParam Ty) where
 f : α → den t
 ok : ∀ x, A2 RI ((ops t).cells (f x)) (Enc.cells x)
 agg : Lay.agg α = t.isAgg
 size : Lay.n α = (ops t).size
instance : NEnc Int (.int .i64) := ⟨fun x => x, fun x => .single (.int _ _), rfl, rfl⟩
instance : NEnc Bool .bool := ⟨fun x => x, fun x => .single (.bool _), rfl, rfl⟩
instance : NEnc UInt8 (.int .u8) := ⟨fun x => (x.toNat : Int), fun x => .single (.int _ _), rfl, rfl⟩
instance : NEnc ByteArray .str := ⟨fun x => x.data.toList, fun x => .single (.str _), rfl, rfl⟩
theorem enc_list {α : Type} [Lay α] [Enc α] {t : Ty} {f : α → den t} (hf : ∀ x, A2 RI ((ops t).cells (f x)) (Enc.cells x)) (hn : Lay.n α = (ops t).size) (xs : List α) : RI (.lst t (xs.map f)) (.imm (Lay.n α) (xs.map Enc.cells)) := by
 rw [hn]
 refine .mk_lst ⟨by simp, fun i x y hx hy => ?_⟩
 rw [List.getElem?_map] at hx hy
 simp only [Option.map_eq_some_iff] at hx hy
 obtain ⟨u, hu, rfl⟩ := hx
 obtain ⟨v, hv, rfl⟩ := hy
 rw [hu] at hv
 cases hv
 exact hf u
instance {α : Type} [Lay α] [Enc α] {t : Ty} [NEnc α t] : NEnc (List α) (.list t) := ⟨fun xs => xs.map NEnc.f, fun xs => .single (enc_list NEnc.ok NEnc.size xs), rfl, rfl⟩
instance {α β : Type} [Lay α] [Lay β] [Enc α] [Enc β] {a b : Ty} [NEnc α a] [NEnc β b] : NEnc (α × β) (.pair a b) := ⟨fun x => (NEnc.f x.1, NEnc.f x.2), fun x => (NEnc.ok x.1).append (NEnc.ok x.2), rfl, by
 have h1 : Lay.n α = (ops a).size := NEnc.size
 have h2 : Lay.n β = (ops b).size := NEnc.size
 show Lay.n α + Lay.n β = (ops a).size + (ops b).size
 rw [h1, h2]⟩
theorem i64_ok (n : Int) : A2 RI (i64O.cells n) [AVal.int .i64 n] := .single (.int _ _)
theorem list_ok {α : Type} [Lay α] [Enc α] {t : Ty} (f : α → den t) (hf : ∀ x, A2 RI ((ops t).cells (f x)) (Enc.cells x)) (hn : Lay.n α = (ops t).size) (xs : List α) (ys : List (den t)) (h : xs.map f = ys) : A2 RI ((listO t (ops t)).cells ys) [AVal.imm (Lay.n α) (xs.map Enc.cells)] := by
 subst h
 exact .single (enc_list hf hn xs)
theorem res_ok (x : Res) : A2 RI (resO.cells x) (Enc.cells x) := (i64_ok _).append ((i64_ok _).append ((i64_ok _).append (i64_ok _)))
instance : NEnc Res .res := ⟨fun x => x, res_ok, rfl, rfl⟩
theorem ints_ok (xs : List Int) : A2 RI (intsO.cells xs) [AVal.imm (Lay.n Int) (xs.map Enc.cells)] := list_ok (t := .int .i64) (fun x : Int => x) NEnc.ok NEnc.size xs xs (by simp)
theorem queue_ok (x : Queue) : A2 RI (queueO.cells x) (Enc.cells x) := (i64_ok _).append ((ints_ok _).append ((i64_ok _).append ((i64_ok _).append ((i64_ok _).append (i64_ok _)))))
instance : NEnc Queue .queue := ⟨fun x => x, queue_ok, rfl, rfl⟩
theorem weights_ok (x : Weights) : A2 RI (weightsO.cells x) (Enc.cells x) := (i64_ok _).append ((i64_ok _).append ((i64_ok _).append (i64_ok _)))
instance : NEnc Weights .weights := ⟨fun x => x, weights_ok, rfl, rfl⟩
theorem intss_ok (xs : List (List Int)) : A2 RI ((listO (.list (.int .i64)) intsO).cells xs) [AVal.imm (Lay.n (List Int)) (xs.map Enc.cells)] := list_ok (t := .list (.int .i64)) (fun x : List Int => x) (fun x => ints_ok x) rfl xs xs (by simp)
theorem spec_ok (x : Spec) : A2 RI (specO.cells x) (Enc.cells x) :=
 (list_ok (t := .res) (fun x : Res => x) res_ok rfl _ _ (by simp)).append ((intss_ok _).append ((list_ok (t := .queue) (fun x : Queue => x) queue_ok rfl _ _ (by simp)).append ((i64_ok _).append ((weights_ok _).append ((i64_ok _).append ((i64_ok _).append ((i64_ok _).append ((i64_ok _).append ((i64_ok _).append ((i64_ok _).append ((i64_ok _).append ((i64_ok _).append ((i64_ok _).append (i64_ok _))))))))))))))
instance : NEnc Spec .spec := ⟨fun x => x, spec_ok, rfl, rfl⟩
theorem share_ok (x : Share) : A2 RI (shareO.cells x) (Enc.cells x) := (i64_ok _).append (i64_ok _)
instance : NEnc Share .share := ⟨fun x => x, share_ok, rfl, rfl⟩
theorem shares_ok (xs : List Share) : A2 RI ((listO .share shareO).cells xs) [AVal.imm (Lay.n Share) (xs.map Enc.cells)] := list_ok (t := .share) (fun x : Share => x) share_ok rfl xs xs (by simp)
theorem run_ok (x : Run) : A2 RI (runO.cells x) (Enc.cells x) := (res_ok _).append ((shares_ok _).append (i64_ok _))
instance : NEnc Run .run := ⟨fun x => x, run_ok, rfl, rfl⟩
theorem booking_ok (x : Booking) : A2 RI (bookingO.cells x) (Enc.cells x) := (i64_ok _).append ((i64_ok _).append ((i64_ok _).append (i64_ok _)))
instance : NEnc Booking .booking := ⟨fun x => x, booking_ok, rfl, rfl⟩
theorem enc_rv {α : Type} [Lay α] [Enc α] {t : Ty} [NEnc α t] {hp : NHeap} (x : α) : RV hp (putV t (NEnc.f x)) (encV x) := by
 have hok := NEnc.ok (t := t) x
 unfold putV encV
 have hagg : Lay.agg α = t.isAgg := NEnc.agg
 rw [hagg]
 cases ht : t.isAgg with
 | true =>
   simp only [if_true]
   exact .agg _ _ (hok.mono fun _ _ h => h.c)
 | false =>
   obtain ⟨c, d, h1, h2, h3, h4⟩ := one_cells ht (NEnc.f x)
   rw [h1] at hok ⊢
   obtain ⟨e, es, he, h5, h6⟩ := hok.cons_inv
   simp only [he]
   exact h5.rv
theorem arg_nil {hp : NHeap} : A2 (RV hp) (puts .nil ()) [] := by simp only [puts]; exact .nil
theorem arg_cons {α : Type} [Lay α] [Enc α] {t : Ty} [NEnc α t] {hp : NHeap} {l : Sh} (x : α) {y : l.den} {as' : List AVal} (h : A2 (RV hp) (puts l y) as') : A2 (RV hp) (puts (.cons (.v t) l) (NEnc.f x, y)) (encV x :: as') := by
 simp only [puts, put]
 exact .cons (enc_rv x) h
theorem nlaw_walk {P : Program} {f : Nat} {args : Sh} {F : args.den → denH [] → Option Bool} (h : NOk P ⟨f, ⟨args, [], (.v .bool, []), []⟩, F⟩) {x : args.den} (hF : F x () = some true) {as' : List AVal} {cargs : Array Value} {w : World} (ha : A2 (RV []) (puts args x) as') (hl : as'.length = cargs.size)
   (hv : ∀ (j : Nat) (a : AVal) (v : Value), as'[j]? = some a → cargs[j]? = some v → VR (fun _ => .free) w (Lt w.heap.size) a v) (hgl : GlobR w (Lt w.heap.size) := by exact GlobR.nil rfl) :
   Calls P f cargs w fun e w' => e = .returned (.bool true) ∧ Go.RowKit.Below w.heap.size w w' := by
 have r0 : HRep (fun _ => .free) w (fun m => m < w.heap.size) [] := by
   refine ⟨fun b k hb => ?_, fun _ _ => .inl rfl, fun _ _ => rfl, fun b b' m n n' e e' h => ?_, fun m ho => ?_, fun m hm => hm, hgl⟩
   · simp [Heap.get] at hb
   · cases h
   · obtain ⟨b, n, e, hb⟩ := ho; cases hb
 have hc := h.2.2 x () true hF as' [] ha .nil (fun _ => .free) w (fun m => m < w.heap.size) cargs r0 hl hv
 refine hc.mono fun e w' ⟨v, μ', S', he, _, x, hv, _⟩ => ⟨?_, ?_⟩
 · have hb : yA (.v .bool, []) [] true = .bool true := by
     obtain ⟨c, d, h1, h2, h3, h4⟩ := one_cells (t := .bool) rfl true
     simp only [yA, outA, can, Ty.isAgg, h2]
     have : c = .bool true := by cases h1; rfl
     subst this
     cases h3
     rfl
   rw [he]
   have hv' : VR μ' w' S' (.bool true) v := by rw [← hb]; exact hv
   rw [hv'.bool_inv]
 · exact ⟨x.os, x.tape, x.output, x.size, fun m hm => x.same m hm (fun ho => by obtain ⟨b, n, e, hb⟩ := ho; cases hb)⟩
/- loops -/
section
variable {σ ω α β : Type}
theorem loop_eq {f : σ → (σ → Option ω) → Option ω} (I : σ → Prop) (m : σ → Nat) (R : σ → Option ω) (h : ∀ s next, I s → (∀ s', I s' → m s' < m s → next s' = R s') → f s next = R s) {s : σ} (hs : I s) (hm : m s < LOOPS) : LN LOOPS f s = R s := by
 have key : ∀ n s, I s → m s < n → loopN f n s = R s := by
   intro n
   induction n with
   | zero => intro s _ h; omega
   | succ n ih =>
     intro s hs hn
     simp only [loopN]
     exact h s _ hs fun s' hs' hlt => ih s' hs' (by omega)
 exact key LOOPS s hs hm
def runL (step : β → α → β ⊕ Option ω) (fin : β → Option ω) : List α → β → Option ω
 | [], b => fin b
 | x :: xs, b => match step b x with
   | .inl b' => runL step fin xs b'
   | .inr r => r
theorem list_loopI {f : σ → (σ → Option ω) → Option ω} (xs : List α) (mk : β → Int → σ) (Inv : β → Int → Prop) (step : β → α → β ⊕ Option ω) (fin : β → Option ω) (hx : xs.length ≤ maxLen)
   (hend : ∀ (b : β) (next : σ → Option ω), Inv b (xs.length : Int) → f (mk b (xs.length : Int)) next = fin b)
   (hstep : ∀ (b : β) (z : Int) (x : α) (next : σ → Option ω), Inv b z → 0 ≤ z → z < (xs.length : Int) → xs[z.toNat]? = some x → IntKind.wrap .i64 (z + 1) = z + 1 → match step b x with | .inl b' => Inv b' (z + 1) ∧ f (mk b z) next = next (mk b' (z + 1)) | .inr r => f (mk b z) next = r) (b : β) (hb : Inv b 0) : LN LOOPS f (mk b 0) = runL step fin xs b := by
 have hml : maxLen = 9223372036854775807 := rfl
 have key : ∀ n, n < LOOPS → ∀ (i : Nat) (b : β), Inv b i → i + n = xs.length → ∀ m, n < m → loopN f m (mk b i) = runL step fin (xs.drop i) b := by
   intro n
   induction n with
   | zero =>
     intro _ i b hb hi m hm
     obtain ⟨m, rfl⟩ : ∃ m', m = m' + 1 := ⟨m - 1, by omega⟩
     simp only [loopN]
     have hi : i = xs.length := by omega
     subst hi
     rw [hend _ _ hb, List.drop_of_length_le (by omega)]
     rfl
   | succ n ih =>
     intro hn i b hb hi m hm
     obtain ⟨m, rfl⟩ : ∃ m', m = m' + 1 := ⟨m - 1, by omega⟩
     simp only [loopN]
     have hlt : i < xs.length := by omega
     have hs := hstep b i xs[i] (loopN f m) hb (by omega) (by omega) (by simp [hlt]) (wrap64 (by omega) (by omega))
     rw [List.drop_eq_getElem_cons hlt]
     simp only [runL]
     split
     · rename_i b' hb'
       rw [hb'] at hs
       obtain ⟨h1, h2⟩ := hs
       rw [h2]
       have := ih (by omega) (i + 1) b' (by simpa using h1) (by omega) m (by omega)
       simpa using this
     · rename_i r hr
       rw [hr] at hs
       exact hs
 have := key xs.length (by unfold LOOPS; omega) 0 b (by simpa using hb) (by omega) LOOPS (by unfold LOOPS; omega)
 simpa [LN] using this
theorem list_loop {f : σ → (σ → Option ω) → Option ω} (xs : List α) (mk : β → Int → σ) (step : β → α → β ⊕ Option ω) (fin : β → Option ω) (hx : xs.length ≤ maxLen)
   (hend : ∀ (b : β) (next : σ → Option ω), f (mk b (xs.length : Int)) next = fin b)
   (hstep : ∀ (b : β) (z : Int) (x : α) (next : σ → Option ω), 0 ≤ z → z < (xs.length : Int) → xs[z.toNat]? = some x → IntKind.wrap .i64 (z + 1) = z + 1 → f (mk b z) next = match step b x with | .inl b' => next (mk b' (z + 1)) | .inr r => r) (b : β) : LN LOOPS f (mk b 0) = runL step fin xs b :=
 list_loopI xs mk (fun _ _ => True) step fin hx (fun b next _ => hend b next) (fun b z x next _ h0 h1 h2 h3 => by
   have := hstep b z x next h0 h1 h2 h3
   split
   · rename_i b' hb; rw [hb] at this; exact ⟨trivial, this⟩
   · rename_i r hr; rw [hr] at this; exact this) b trivial
theorem all_loop {f : σ → (σ → Option Bool) → Option Bool} (xs : List α) (mk : Int → σ) (p : α → Bool) (q : Bool) (hx : xs.length ≤ maxLen) (hend : ∀ (next : σ → Option Bool), f (mk (xs.length : Int)) next = some q)
   (hstep : ∀ (z : Int) (x : α) (next : σ → Option Bool), 0 ≤ z → z < (xs.length : Int) → xs[z.toNat]? = some x → IntKind.wrap .i64 (z + 1) = z + 1 → f (mk z) next = cond (p x) (next (mk (z + 1))) (some false)) : LN LOOPS f (mk 0) = some (xs.all p && q) := by
 rw [list_loop (β := Unit) xs (fun _ => mk) (fun _ x => cond (p x) (.inl ()) (.inr (some false))) (fun _ => some q) hx (fun _ => hend) (fun b z x next h0 h1 h2 h3 => by rw [hstep z x next h0 h1 h2 h3]; cases p x <;> rfl) ()]
 clear hend hstep hx
 induction xs with
 | nil => rfl
 | cons x xs ih =>
   simp only [runL, List.all_cons]
   cases p x with
   | true => simpa using ih
   | false => rfl
theorem any_loop {f : σ → (σ → Option Bool) → Option Bool} (xs : List α) (mk : Int → σ) (p : α → Bool) (q : Bool) (hx : xs.length ≤ maxLen) (hend : ∀ (next : σ → Option Bool), f (mk (xs.length : Int)) next = some q)
   (hstep : ∀ (z : Int) (x : α) (next : σ → Option Bool), 0 ≤ z → z < (xs.length : Int) → xs[z.toNat]? = some x → IntKind.wrap .i64 (z + 1) = z + 1 → f (mk z) next = cond (p x) (some true) (next (mk (z + 1)))) : LN LOOPS f (mk 0) = some (xs.any p || q) := by
 rw [list_loop (β := Unit) xs (fun _ => mk) (fun _ x => cond (p x) (.inr (some true)) (.inl ())) (fun _ => some q) hx (fun _ => hend) (fun b z x next h0 h1 h2 h3 => by rw [hstep z x next h0 h1 h2 h3]; cases p x <;> rfl) ()]
 clear hend hstep hx
 induction xs with
 | nil => rfl
 | cons x xs ih =>
   simp only [runL, List.any_cons]
   cases p x with
   | true => rfl
   | false => simpa using ih
theorem runL_fold {g : β → α → β} {fin : β → Option ω} : ∀ (xs : List α) (b : β), runL (fun b x => .inl (g b x)) fin xs b = fin (xs.foldl g b)
 | [], b => rfl
 | x :: xs, b => by simp only [runL, List.foldl_cons]; exact runL_fold xs _
end
@[simp] theorem cond_somes {α : Type} (c : Bool) (a b : α) : cond c (some a) (some b) = some (cond c a b) := by cases c <;> rfl
theorem chk0 {σ : Type} (next : σ → Option Bool) (c : Bool) (x : σ) : cond c (some false) (next x) = cond (!c) (next x) (some false) := by cases c <;> rfl
theorem chk1 {c p : Bool} {K : Option Bool} : cond c (some false) (cond p K (some false)) = cond (!c && p) K (some false) := by cases c <;> cases p <;> rfl
theorem wi {x : Int} (h1 : -9223372036854775808 ≤ x) (h2 : x ≤ 9223372036854775807) : IntKind.wrap .i64 x = x := wrap64 h1 h2
end NM
end Go.Proofs.Ytmnhkpekmgobbaa
end
section
namespace Go.Proofs.Ytmnhkpekmgobbaa
namespace NM
open AM Go.RowKit
@[reducible] def sigC (t : Ty) : Sig := ⟨.cons (.v (.list t)) .nil, [], (.slw 0 (ops t).size, [.typed t]), []⟩
def emptyF {α : Type} (xs : List α) : Option (Unit × (List α × Unit)) := match xs with
 | [] => some ((), ([], ()))
 | _ :: _ => none
def cloneF {α : Type} (F : List α → Option (Unit × (List α × Unit))) (xs : List α) : Option (Unit × (List α × Unit)) := match xs with
 | [] => some ((), ([], ()))
 | x :: l => F (x :: l)
theorem NOk.clone {P : Program} {f : Nat} {t : Ty} {F : List (den t) → Option (Unit × (List (den t) × Unit))} (h : NOk P ⟨f, sigC t, fun x _ => F x.1⟩) (he : NOk P ⟨f, sigC t, fun x _ => emptyF x.1⟩) : NOk P ⟨f, sigC t, fun x _ => cloneF F x.1⟩ := by
 refine ⟨h.1, h.2.1, fun x hh y hy args ahp ha hb => ?_⟩
 obtain ⟨xs, u⟩ := x
 cases xs with
 | nil => exact he.2.2 ([], u) hh y hy args ahp ha hb
 | cons z zs => exact h.2.2 (z :: zs, u) hh y hy args ahp ha hb
theorem clone_empty {P : Program} {f : Nat} (t : Ty) (hent : Enters P f) (h : ∀ (A : Option Addr) (c : Nat) (w : World), Calls P f #[.slice A 0 c] w fun e w' => ∃ A', e = .returned (.slice A' 0 0) ∧ Below w.heap.size w w') : NOk P ⟨f, sigC t, fun x _ => emptyF x.1⟩ := by
 refine ⟨hent, rfl, fun x hh y hy args ahp ha hb => ?_⟩
 obtain ⟨xs, u⟩ := x
 cases xs with
 | cons z zs => cases hy
 | nil =>
   cases hy
   intro μ w S cargs r0 hl hv
   have e0 : ahp = [] := A2.nil_inv hb
   subst e0
   simp only [puts, put, putV, Ty.isAgg] at ha
   obtain ⟨a, as', rfl, h1, h2⟩ := ha.cons_inv
   rw [h2.nil_inv] at hl hv
   obtain ⟨v, rfl⟩ : ∃ v, cargs = #[v] := by
     have : cargs.size = 1 := by simpa using hl.symm
     exact ⟨cargs[0], by apply Array.ext (by simp [this]); intro i h3 h4; have : i = 0 := by omega
                         subst this; simp⟩
   have hva := hv 0 a v rfl rfl
   have hsl : ∃ A c, v = .slice A 0 c := by
     have h1' : RI (.lst t []) a := (RT.v h1).lst_inv
     rcases h1'.lst_inv with ⟨ys, rfl, hy⟩ | ⟨rfl, _⟩
     · rw [hy.nil_inv] at hva
       cases hva with
       | imm _ _ h => cases h with
         | imm _ _ A cap g i1 i2 i3 i4 i5 => exact ⟨A, cap, rfl⟩
     · obtain ⟨A, rfl⟩ := hva.zsl_inv
       exact ⟨A, 0, rfl⟩
   obtain ⟨A, c, rfl⟩ := hsl
   refine (h A c w).mono fun e w' ⟨A', he, hbel⟩ => ?_
   refine ⟨_, fun b => if b = 0 then .void else .free, S, he, ?_, ?_, ?_, Nat.zero_le _, fun b hb => absurd hb (Nat.not_lt_zero _)⟩
   · refine ⟨fun b k hbk => ?_, fun b hbk => ?_, fun b hbk => ?_, fun b b' m n n' e e' hm => ?_, fun m ho => ?_, fun m hm => Nat.lt_of_lt_of_le (r0.inS m hm) hbel.size, r0.gl.mono (fun m hm => hbel.block m (r0.inS m hm)) (fun _ h => h)⟩
     · cases b with
       | zero => simp [yB, outB, canH, canS, Heap.get] at hbk; subst hbk; rfl
       | succ b => simp [yB, outB, canH, Heap.get] at hbk
     · cases b with
       | zero => simp [yB, outB, canH, canS, Heap.get] at hbk
       | succ b => exact .inl (by simp)
     · cases b with
       | zero => simp [yB, outB, canH, canS, Heap.isFree] at hbk
       | succ b => simp
     · split at hm <;> cases hm
     · obtain ⟨b, n, e, hb⟩ := ho
       simp only at hb
       split at hb <;> cases hb
   · refine ⟨hbel.os, hbel.tape, hbel.output, hbel.size, fun m hm ho => hbel.block m hm, fun _ h => h, fun m hm => .inl hm, fun m ho => ?_⟩
     obtain ⟨b, n, e, hb⟩ := ho
     simp only at hb
     split at hb <;> cases hb
   · have : yA (.slw 0 (ops t).size, [HS.typed t]) [] ((), (([] : List (den t)), ())) = .sl 0 0 0 (ops t).size := by
       simp [yA, outA, can, lensOf, putH, putS, nget, NBlk.len]
     show VR _ w' S (yA (.slw 0 (ops t).size, [HS.typed t]) [] ((), (([] : List (den t)), ()))) _
     rw [this]
     refine .sl _ _ _ _ _ ?_
     exact ⟨rfl, rfl, A', rfl⟩
end NM
end Go.Proofs.Ytmnhkpekmgobbaa
end
