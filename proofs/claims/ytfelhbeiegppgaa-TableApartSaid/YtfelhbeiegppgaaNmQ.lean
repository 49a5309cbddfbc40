/-
  Functions in plain form: what they do is what their calls in the model give.
-/
import Derived.Test.YtfelhbeiegppgaaNmP
set_option linter.unusedVariables false
set_option linter.unusedSimpArgs false
namespace Go.Proofs.Ytfelhbeiegppgaa
namespace NM
open AM

/- shapes whose data a value determines -/
mutual
def wfS : Sh → Bool
  | .fn _ l | .agg l | .tup l | .iptr l _ => wfL l
  | .rows _ l => wfR l
  | .cons _ _ => false
  | .v _ | .undef | .nilp | .zsl | .nilfn | .nili | .ptr _ _ _ | .slw _ _ | .nil => true
def wfL : Sh → Bool
  | .cons a l => wfS a && wfL l
  | .nil => true
  | .v _ | .undef | .nilp | .zsl | .nilfn | .nili | .ptr _ _ _ | .slw _ _ | .fn _ _ | .agg _ | .tup _ | .iptr _ _ | .rows _ _ => false
def wfR : Sh → Bool
  | .cons a l => wfL a && wfR l
  | .nil => true
  | .v _ | .undef | .nilp | .zsl | .nilfn | .nili | .ptr _ _ _ | .slw _ _ | .fn _ _ | .agg _ | .tup _ | .iptr _ _ | .rows _ _ => false
end
def wfH : HS → Bool
  | .cell _ r => wfL r
  | .many _ r => wfR r
  | _ => true
def lv0 (_ : Nat) : Bool := false
/-- what a function's plain form must look like -/
def oGood (o : OSh) : Bool := !o.1.isUndef && (match o.2 with
  | [] => okT lv0 o.1
  | _ :: _ => okT (liveB o.2) o.1 && o.2.all (okS (liveB o.2)))
def sigGood (sig : Sig) : Bool := wfL sig.args && sig.heap.all wfH && oGood sig.res && sig.more.all oGood

noncomputable def outA (r : Sh) : (l : List HS) → denO r l → AVal
  | [], y => can (fun _ => 0) r y
  | h :: l, y => can (lensOf (putH (h :: l) y.2)) r y.1
noncomputable def outB (r : Sh) : (l : List HS) → denO r l → Heap
  | [], _ => []
  | h :: l, y => canH (lensOf (putH (h :: l) y.2)) (h :: l) y.2

noncomputable def yA : (o : OSh) → (l : List OSh) → denY o l → AVal
  | o, [], y => outA o.1 o.2 y
  | o, p :: l, y => match y with
    | .inl y => outA o.1 o.2 y
    | .inr y => yA p l y
noncomputable def yB : (o : OSh) → (l : List OSh) → denY o l → Heap
  | o, [], y => outB o.1 o.2 y
  | o, p :: l, y => match y with
    | .inl y => outB o.1 o.2 y
    | .inr y => yB p l y

/-- a function and its plain form -/
def NOk (P : Program) (e : Ent) : Prop := Enters P e.f ∧ sigGood e.sig = true ∧ ∀ x h y, e.F x h = some y → ∀ args ahp, A2 (RV (putH e.sig.heap h)) (puts e.sig.args x) args → RH (putH e.sig.heap h) ahp →
  CallOk P e.f args ahp (yA e.sig.res e.sig.more y) (yB e.sig.res e.sig.more y)

section
variable {P : Program}

theorem v_inj {hp hp' : NHeap} {t : Ty} {x x' : den t} {a : AVal} (h : RT hp (putV t x) a) (h' : RT hp' (putV t x') a) : x = x' := by
  cases ht : t.isAgg with
  | true =>
    simp only [putV, ht] at h h'
    obtain ⟨ds, e, hc⟩ := h.agg_inv
    obtain ⟨ds', e', hc'⟩ := h'.agg_inv
    rw [e] at e'
    cases e'
    exact (bth t).2.1 x x' ds ⟨hc.1, fun j c d hj hd => ((hc.2 j c d hj hd).imm ((good t).2.2.1 x c (List.mem_of_getElem? hj))).1⟩ ⟨hc'.1, fun j c d hj hd => ((hc'.2 j c d hj hd).imm ((good t).2.2.1 x' c (List.mem_of_getElem? hj))).1⟩
  | false =>
    obtain ⟨c, d, h1, h2, h3, h4⟩ := one_cells ht x
    obtain ⟨c', d', h1', h2', h3', h4'⟩ := one_cells ht x'
    simp only [putV, ht, h1] at h
    simp only [putV, ht, h1'] at h'
    have key : ∀ {hp : NHeap} {c : NVal}, nimmP c = true → RT hp c a → RI c a := fun {hp c} hi hr => by
      cases hr with
      | undef => cases hi
      | v hr => cases hr with
        | c hr => exact (hr.imm hi).1
        | agg => cases hi
      | tup => cases hi
    exact (bth t).2.1 x x' [a] (by rw [h1]; exact .single (key h4 h)) (by rw [h1']; exact .single (key h4' h'))

mutual
theorem put_inj {hp hp' : NHeap} : ∀ (s : Sh) (x x' : s.den) (a : AVal), wfS s = true → RT hp (put s x) a → RT hp' (put s x') a → x = x'
  | .v t, x, x', a, _, h, h' => v_inj (by simpa only [put] using h) (by simpa only [put] using h')
  | .undef, _, _, _, _, _, _ => rfl
  | .nilp, _, _, _, _, _, _ => rfl
  | .zsl, _, _, _, _, _, _ => rfl
  | .nilfn, _, _, _, _, _, _ => rfl
  | .nili, _, _, _, _, _, _ => rfl
  | .ptr _ _ _, _, _, _, _, _, _ => rfl
  | .slw _ _, _, _, _, _, _, _ => rfl
  | .fn f l, x, x', a, hw, h, h' => by
    simp only [put] at h h'
    simp only [wfS] at hw
    obtain ⟨c, e, hc⟩ := h.fn_inv
    obtain ⟨c', e', hc'⟩ := h'.fn_inv
    rw [e] at e'
    cases e'
    exact puts_inj l x x' c hw (hc.mono fun _ _ h => h.rt) (hc'.mono fun _ _ h => h.rt)
  | .agg l, x, x', a, hw, h, h' => by
    simp only [put] at h h'
    simp only [wfS] at hw
    obtain ⟨c, e, hc⟩ := h.agg_inv
    obtain ⟨c', e', hc'⟩ := h'.agg_inv
    rw [e] at e'
    cases e'
    exact puts_inj l x x' c hw (hc.mono fun _ _ h => h.rt) (hc'.mono fun _ _ h => h.rt)
  | .tup l, x, x', a, hw, h, h' => by
    simp only [put] at h h'
    simp only [wfS] at hw
    obtain ⟨c, e, hc⟩ := h.tup_inv
    obtain ⟨c', e', hc'⟩ := h'.tup_inv
    rw [e] at e'
    cases e'
    exact puts_inj l x x' c hw (hc.mono fun _ _ h => .v h) (hc'.mono fun _ _ h => .v h)
  | .iptr l off, x, x', a, hw, h, h' => by
    simp only [put] at h h'
    simp only [wfS] at hw
    obtain ⟨c, e, hc⟩ := h.iptr_inv
    obtain ⟨c', e', hc'⟩ := h'.iptr_inv
    rw [e] at e'
    cases e'
    exact puts_inj l x x' c hw (hc.mono fun _ _ h => h.rt (hp := hp)) (hc'.mono fun _ _ h => h.rt (hp := hp'))
  | .rows e l, x, x', a, hw, h, h' => by
    simp only [put] at h h'
    simp only [wfS] at hw
    rcases h.rows_inv.rows_inv with ⟨ys, rfl, hy⟩ | ⟨rfl, h0⟩
    · rcases h'.rows_inv.rows_inv with ⟨zs, hz, hz2⟩ | ⟨hz, _⟩
      · cases hz; exact putsR_inj l x x' ys hw hy hz2
      · cases hz
    · rcases h'.rows_inv.rows_inv with ⟨zs, hz, hz2⟩ | ⟨_, h0'⟩
      · cases hz
      · exact putsR_inj l x x' [] hw (by rw [h0]; exact .nil) (by rw [h0']; exact .nil)
  | .nil, _, _, _, _, _, _ => rfl
  | .cons _ _, _, _, _, hw, _, _ => by simp [wfS] at hw
theorem puts_inj {hp hp' : NHeap} : ∀ (s : Sh) (x x' : s.den) (ds : List AVal), wfL s = true → A2 (RT hp) (puts s x) ds → A2 (RT hp') (puts s x') ds → x = x'
  | .cons a l, x, x', ds, hw, h, h' => by
    simp only [puts] at h h'
    simp only [wfL, Bool.and_eq_true] at hw
    obtain ⟨d, ds', rfl, h1, h2⟩ := h.cons_inv
    exact Prod.ext (put_inj a x.1 x'.1 d hw.1 h1 h'.head) (puts_inj l x.2 x'.2 ds' hw.2 h2 h'.tail)
  | .nil, _, _, _, _, _, _ => rfl
  | .v _, _, _, _, hw, _, _ => by simp [wfL] at hw
  | .undef, _, _, _, hw, _, _ => rfl
  | .nilp, _, _, _, hw, _, _ => rfl
  | .zsl, _, _, _, hw, _, _ => rfl
  | .nilfn, _, _, _, hw, _, _ => rfl
  | .nili, _, _, _, hw, _, _ => rfl
  | .ptr _ _ _, _, _, _, hw, _, _ => rfl
  | .slw _ _, _, _, _, hw, _, _ => rfl
  | .fn _ _, _, _, _, hw, _, _ => by simp [wfL] at hw
  | .agg _, _, _, _, hw, _, _ => by simp [wfL] at hw
  | .tup _, _, _, _, hw, _, _ => by simp [wfL] at hw
  | .iptr _ _, _, _, _, hw, _, _ => by simp [wfL] at hw
  | .rows _ _, _, _, _, hw, _, _ => by simp [wfL] at hw
theorem putsR_inj : ∀ (s : Sh) (x x' : s.den) (ds : List (List AVal)), wfR s = true → A2 (A2 RI) (putsR s x) ds → A2 (A2 RI) (putsR s x') ds → x = x'
  | .cons a l, x, x', ds, hw, h, h' => by
    simp only [putsR] at h h'
    simp only [wfR, Bool.and_eq_true] at hw
    obtain ⟨d, ds', rfl, h1, h2⟩ := h.cons_inv
    exact Prod.ext (puts_inj (hp := []) (hp' := []) a x.1 x'.1 d hw.1 (h1.mono fun _ _ h => h.rt) (h'.head.mono fun _ _ h => h.rt)) (putsR_inj l x.2 x'.2 ds' hw.2 h2 h'.tail)
  | .nil, _, _, _, _, _, _ => rfl
  | .v _, _, _, _, hw, _, _ => by simp [wfR] at hw
  | .undef, _, _, _, hw, _, _ => rfl
  | .nilp, _, _, _, hw, _, _ => rfl
  | .zsl, _, _, _, hw, _, _ => rfl
  | .nilfn, _, _, _, hw, _, _ => rfl
  | .nili, _, _, _, hw, _, _ => rfl
  | .ptr _ _ _, _, _, _, hw, _, _ => rfl
  | .slw _ _, _, _, _, hw, _, _ => rfl
  | .fn _ _, _, _, _, hw, _, _ => by simp [wfR] at hw
  | .agg _, _, _, _, hw, _, _ => by simp [wfR] at hw
  | .tup _, _, _, _, hw, _, _ => by simp [wfR] at hw
  | .iptr _ _, _, _, _, hw, _, _ => by simp [wfR] at hw
  | .rows _ _, _, _, _, hw, _, _ => by simp [wfR] at hw
end

theorem putsR_injC {hp hp' : NHeap} : ∀ (s : Sh) (x x' : s.den) (ds : List (List AVal)), wfR s = true → A2 (A2 (RC hp)) (putsR s x) ds → A2 (A2 (RC hp')) (putsR s x') ds → x = x'
  | .cons a l, x, x', ds, hw, h, h' => by
    simp only [putsR] at h h'
    simp only [wfR, Bool.and_eq_true] at hw
    obtain ⟨d, ds', rfl, h1, h2⟩ := h.cons_inv
    exact Prod.ext (puts_inj (hp := hp) (hp' := hp') a x.1 x'.1 d hw.1 (h1.mono fun _ _ h => h.rt) (h'.head.mono fun _ _ h => h.rt)) (putsR_injC l x.2 x'.2 ds' hw.2 h2 h'.tail)
  | .nil, _, _, _, _, _, _ => rfl
  | .v _, _, _, _, hw, _, _ => by simp [wfR] at hw
  | .undef, _, _, _, hw, _, _ => rfl
  | .nilp, _, _, _, hw, _, _ => rfl
  | .zsl, _, _, _, hw, _, _ => rfl
  | .nilfn, _, _, _, hw, _, _ => rfl
  | .nili, _, _, _, hw, _, _ => rfl
  | .ptr _ _ _, _, _, _, hw, _, _ => rfl
  | .slw _ _, _, _, _, hw, _, _ => rfl
  | .fn _ _, _, _, _, hw, _, _ => by simp [wfR] at hw
  | .agg _, _, _, _, hw, _, _ => by simp [wfR] at hw
  | .tup _, _, _, _, hw, _, _ => by simp [wfR] at hw
  | .iptr _ _, _, _, _, hw, _, _ => by simp [wfR] at hw
  | .rows _ _, _, _, _, hw, _, _ => by simp [wfR] at hw

theorem putS_inj {G G' : NHeap} {h : HS} {x x' : h.den} {s : Slot} (hw : wfH h = true) (h1 : RS G (putS h x) s) (h2 : RS G' (putS h x') s) : x = x' := by
  cases h with
  | dead => rfl
  | typed t =>
    simp only [putS] at h1 h2
    cases h1 with
    | live _ k hk =>
      cases h2 with
      | live _ _ hk' => exact inj_A2 (bth t).2.1 hk.2.2 hk'.2.2
  | one flat t =>
    simp only [putS] at h1 h2
    cases h1 with
    | live _ k hk =>
      cases h2 with
      | live _ _ hk' =>
        have e1 := RB.row' hk
        have e2 := RB.row' hk'
        obtain ⟨d, ds, e, f1, f2⟩ := e1.cons_inv
        rw [e] at e2
        have g2 := e2.head
        exact (bth t).2.1 x x' d ⟨f1.1, fun j c d hj hd => ((f1.2 j c d hj hd).imm ((good t).2.2.1 x c (List.mem_of_getElem? hj))).1⟩ ⟨g2.1, fun j c d hj hd => ((g2.2 j c d hj hd).imm ((good t).2.2.1 x' c (List.mem_of_getElem? hj))).1⟩
  | many e r =>
    simp only [putS] at h1 h2
    cases h1 with
    | live _ k hk =>
      cases h2 with
      | live _ _ hk' => exact putsR_injC r x x' _ hw (hk.2.2.2 rfl) (hk'.2.2.2 rfl)
  | cell flat r =>
    simp only [putS] at h1 h2
    cases h1 with
    | live _ k hk =>
      cases h2 with
      | live _ _ hk' =>
        have e1 := RB.row (kb := .typed .unit []) hk
        have e2 := RB.row (kb := .typed .unit []) hk'
        obtain ⟨d, ds, e, f1, f2⟩ := e1.cons_inv
        rw [e] at e2
        exact puts_inj r x x' d hw (f1.mono fun _ _ h => h.rt) (e2.head.mono fun _ _ h => h.rt)
theorem putH_inj {G G' : NHeap} : ∀ {l : List HS} {x x' : denH l} {ahp : Heap}, l.all wfH = true → A2 (RS G) (putH l x) ahp → A2 (RS G') (putH l x') ahp → x = x'
  | [], _, _, _, _, _, _ => rfl
  | h :: l, x, x', ahp, hw, h1, h2 => by
    simp only [putH] at h1 h2
    simp only [List.all_cons, Bool.and_eq_true] at hw
    obtain ⟨s, ss, rfl, e1, e2⟩ := h1.cons_inv
    exact Prod.ext (putS_inj hw.1 e1 h2.head) (putH_inj hw.2 e2 h2.tail)

theorem out_rel {o : OSh} (hs : oGood o = true) (y : denO o.1 o.2) : RTs (outH o.1 o.2 y) (outV o.1 o.2 y) (outA o.1 o.2 y) ∧ RH (outH o.1 o.2 y) (outB o.1 o.2 y) := by
  obtain ⟨res, back⟩ := o
  simp only [oGood, Bool.and_eq_true] at hs
  obtain ⟨_, hs⟩ := hs
  cases back with
  | nil =>
    simp only at hs
    exact ⟨canT_rel (lv := lv0) (fun b hb => by cases hb) res y hs, .nil⟩
  | cons h l =>
    simp only [Bool.and_eq_true] at hs
    exact ⟨canT_rel putH_lens res y.1 hs.1, canH_rel putH_lens hs.2⟩
theorem y_rel : ∀ {o : OSh} {l : List OSh}, oGood o = true → l.all oGood = true → ∀ y : denY o l, RTs (yH o l y) (yV o l y) (yA o l y) ∧ RH (yH o l y) (yB o l y)
  | o, [], h, _, y => out_rel h y
  | o, p :: l, h, _, .inl y => out_rel h y
  | o, p :: l, _, h, .inr y => by
    simp only [List.all_cons, Bool.and_eq_true] at h
    simp only [yH, yV, yA, yB]
    exact y_rel h.1 h.2 y

/-- what stands for a result stands for the one form of it -/
theorem out_conv {o : OSh} (hs : oGood o = true) {y : denO o.1 o.2} {r' : AVal} {back' : Heap} (hr : RTs (outH o.1 o.2 y) (outV o.1 o.2 y) r') (hb : RH (outH o.1 o.2 y) back')
    {μ : Nat → AM.Loc} {w : World} {S : Nat → Prop} {v : Value} (hH : HRep μ w S back') (hv : VR μ w S r' v) : HRep μ w S (outB o.1 o.2 y) ∧ VR μ w S (outA o.1 o.2 y) v ∧ (outB o.1 o.2 y).length = back'.length := by
  obtain ⟨res, back⟩ := o
  simp only [oGood, Bool.and_eq_true] at hs
  obtain ⟨_, hs⟩ := hs
  cases back with
  | nil =>
    simp only at hs
    simp only [outH] at hb hr
    rw [hb.nil_inv] at hH ⊢
    exact ⟨hH, canT_conv (lv := lv0) (hp := []) (fun b hb => by cases hb) res y _ v hs hr hv, rfl⟩
  | cons h l =>
    simp only [Bool.and_eq_true] at hs
    have hc := canH_conv (μ := μ) (w := w) (S := S) (x := y.2) putH_lens hs.2 hb
    exact ⟨hrep_conv hH hc, canT_conv putH_lens res y.1 _ v hs.1 hr hv, hc.1.symm⟩
theorem y_conv {μ : Nat → AM.Loc} {w : World} {S : Nat → Prop} {v : Value} : ∀ {o : OSh} {l : List OSh}, oGood o = true → l.all oGood = true → ∀ {y : denY o l} {r' : AVal} {back' : Heap}, RTs (yH o l y) (yV o l y) r' → RH (yH o l y) back' →
    HRep μ w S back' → VR μ w S r' v → HRep μ w S (yB o l y) ∧ VR μ w S (yA o l y) v ∧ (yB o l y).length = back'.length
  | o, [], h, _, y, r', back', hr, hb, hH, hv => out_conv h hr hb hH hv
  | o, p :: l, h, _, .inl y, r', back', hr, hb, hH, hv => out_conv h hr hb hH hv
  | o, p :: l, _, h, .inr y, r', back', hr, hb, hH, hv => by
    simp only [List.all_cons, Bool.and_eq_true] at h
    simp only [yH, yV] at hr hb
    simp only [yA, yB]
    exact y_conv h.1 h.2 hr hb hH hv
theorem getY_rel {r : NVal} {back : NHeap} {r' : AVal} {back' : Heap} (hr : RTs back r r') (hb : RH back back') : ∀ {o : OSh} {l : List OSh}, oGood o = true → l.all oGood = true → ∀ {y : denY o l}, getY o l r back = some y → RTs (yH o l y) (yV o l y) r' ∧ RH (yH o l y) back'
  | o, [], h, _, y, hg => by
    have hu : o.1.isUndef = false := by
      simp only [oGood, Bool.and_eq_true, Bool.not_eq_true'] at h
      exact h.1
    exact getO_rel hu hg hr hb
  | o, p :: l, h, hl, y, hg => by
    have hu : o.1.isUndef = false := by
      simp only [oGood, Bool.and_eq_true, Bool.not_eq_true'] at h
      exact h.1
    simp only [getY] at hg
    split at hg
    · rename_i z hz
      cases hg
      exact getO_rel hu hz hr hb
    · split at hg
      · rename_i z hz
        cases hg
        simp only [List.all_cons, Bool.and_eq_true] at hl
        simp only [yH, yV]
        exact getY_rel hr hb hl.1 hl.2 hz
      · cases hg

/- the oracle of a table -/
def Fits (T : List Ent) (f : Nat) (args : List AVal) (ahp : Heap) (p : AVal × Heap) : Prop := ∃ e ∈ T, e.f = f ∧ ∃ x h y, e.F x h = some y ∧ A2 (RV (putH e.sig.heap h)) (puts e.sig.args x) args ∧ RH (putH e.sig.heap h) ahp ∧ p = (yA e.sig.res e.sig.more y, yB e.sig.res e.sig.more y)
open Classical in
noncomputable def orc (T : List Ent) : Oracle := fun f args ahp => if h : ∃ p, Fits T f args ahp p then some (Classical.choose h) else none

theorem orc_valid {T : List Ent} (hT : ∀ e ∈ T, NOk P e) : Valid P (orc T) := by
  intro f args hp r hp' h
  unfold orc at h
  split at h
  · rename_i hx
    have hs := Classical.choose_spec hx
    simp only [Option.some.injEq] at h
    rw [h] at hs
    obtain ⟨e, he, rfl, x, h0, y, h1, h2, h3, h4⟩ := hs
    cases h4
    exact ⟨(hT e he).1, (hT e he).2.2 x h0 y h1 args hp h2 h3⟩
  · cases h

/- forms of one function's arguments that do not meet -/
def clash : Sh → Sh → Bool
  | .nilp, .ptr _ _ _ | .nilp, .iptr _ _ | .ptr _ _ _, .nilp | .iptr _ _, .nilp | .ptr _ _ _, .iptr _ _ | .iptr _ _, .ptr _ _ _ => true
  | .nilfn, .fn _ _ | .fn _ _, .nilfn => true
  | .fn f _, .fn g _ => f != g
  | .ptr b i f, .ptr b' i' f' => b != b' || (i != i' || f != f')
  | _, _ => false
def clashes : Sh → Sh → Bool
  | .cons a l, .cons b m => clash a b || clashes l m
  | _, _ => false
def apartB (s s' : Sig) : Bool := clashes s.args s'.args || s.heap.length != s'.heap.length
theorem clash_no {hp hp' : NHeap} {s s' : Sh} {x : s.den} {x' : s'.den} {a : AVal} (h : clash s s' = true) (h1 : RT hp (put s x) a) (h2 : RT hp' (put s' x') a) : False := by
  unfold clash at h
  split at h
  · simp only [put] at h1 h2; have := h1.nilp_inv.symm.trans h2.ptr_inv; cases this
  · simp only [put] at h1 h2; obtain ⟨_, e, _⟩ := h2.iptr_inv; have := h1.nilp_inv.symm.trans e; cases this
  · simp only [put] at h1 h2; have := h2.nilp_inv.symm.trans h1.ptr_inv; cases this
  · simp only [put] at h1 h2; obtain ⟨_, e, _⟩ := h1.iptr_inv; have := h2.nilp_inv.symm.trans e; cases this
  · simp only [put] at h1 h2; obtain ⟨_, e, _⟩ := h2.iptr_inv; have := h1.ptr_inv.symm.trans e; cases this
  · simp only [put] at h1 h2; obtain ⟨_, e, _⟩ := h1.iptr_inv; have := h2.ptr_inv.symm.trans e; cases this
  · simp only [put] at h1 h2; obtain ⟨_, e, _⟩ := h2.fn_inv; subst e; cases h1 with | v h => cases h with | c h => cases h with | p h => cases h with | ro h => cases h
  · simp only [put] at h1 h2; obtain ⟨_, e, _⟩ := h1.fn_inv; subst e; cases h2 with | v h => cases h with | c h => cases h with | p h => cases h with | ro h => cases h
  · simp only [put] at h1 h2
    obtain ⟨_, e, _⟩ := h1.fn_inv
    obtain ⟨_, e', _⟩ := h2.fn_inv
    rw [e] at e'
    cases e'
    simp at h
  · simp only [put] at h1 h2
    have e := h1.ptr_inv.symm.trans h2.ptr_inv
    cases e
    simp at h
  · cases h
theorem clashes_no {hp hp' : NHeap} : ∀ {s s' : Sh} {x : s.den} {x' : s'.den} {as' : List AVal}, clashes s s' = true → A2 (RT hp) (puts s x) as' → A2 (RT hp') (puts s' x') as' → False
  | .cons a l, .cons b m, x, x', as', h, h1, h2 => by
    simp only [clashes, Bool.or_eq_true] at h
    simp only [puts] at h1 h2
    obtain ⟨d, ds, rfl, e1, e2⟩ := h1.cons_inv
    rcases h with h | h
    · exact clash_no h e1 h2.head
    · exact clashes_no h e2 h2.tail
  | .v _, _, _, _, _, h, _, _ => by simp [clashes] at h
  | .undef, _, _, _, _, h, _, _ => by simp [clashes] at h
  | .nilp, _, _, _, _, h, _, _ => by simp [clashes] at h
  | .zsl, _, _, _, _, h, _, _ => by simp [clashes] at h
  | .nilfn, _, _, _, _, h, _, _ => by simp [clashes] at h
  | .nili, _, _, _, _, h, _, _ => by simp [clashes] at h
  | .ptr _ _ _, _, _, _, _, h, _, _ => by simp [clashes] at h
  | .slw _ _, _, _, _, _, h, _, _ => by simp [clashes] at h
  | .fn _ _, _, _, _, _, h, _, _ => by simp [clashes] at h
  | .agg _, _, _, _, _, h, _, _ => by simp [clashes] at h
  | .tup _, _, _, _, _, h, _, _ => by simp [clashes] at h
  | .iptr _ _, _, _, _, _, h, _, _ => by simp [clashes] at h
  | .rows _ _, _, _, _, _, h, _, _ => by simp [clashes] at h
  | .nil, _, _, _, _, h, _, _ => by simp [clashes] at h
  | .cons _ _, .v _, _, _, _, h, _, _ => by simp [clashes] at h
  | .cons _ _, .undef, _, _, _, h, _, _ => by simp [clashes] at h
  | .cons _ _, .nilp, _, _, _, h, _, _ => by simp [clashes] at h
  | .cons _ _, .zsl, _, _, _, h, _, _ => by simp [clashes] at h
  | .cons _ _, .nilfn, _, _, _, h, _, _ => by simp [clashes] at h
  | .cons _ _, .nili, _, _, _, h, _, _ => by simp [clashes] at h
  | .cons _ _, .ptr _ _ _, _, _, _, h, _, _ => by simp [clashes] at h
  | .cons _ _, .slw _ _, _, _, _, h, _, _ => by simp [clashes] at h
  | .cons _ _, .fn _ _, _, _, _, h, _, _ => by simp [clashes] at h
  | .cons _ _, .agg _, _, _, _, h, _, _ => by simp [clashes] at h
  | .cons _ _, .tup _, _, _, _, h, _, _ => by simp [clashes] at h
  | .cons _ _, .iptr _ _, _, _, _, h, _, _ => by simp [clashes] at h
  | .cons _ _, .rows _ _, _, _, _, h, _, _ => by simp [clashes] at h
  | .cons _ _, .nil, _, _, _, h, _, _ => by simp [clashes] at h
theorem putH_length : ∀ {l : List HS} {x : denH l}, (putH l x).length = l.length
  | [], _ => rfl
  | _ :: l, x => by simp only [putH, List.length_cons]; rw [putH_length]

/-- of one number only forms that do not meet -/
def oneEach : List Ent → Prop
  | [] => True
  | e :: T => (∀ e' ∈ T, e'.f ≠ e.f ∨ apartB e.sig e'.sig = true) ∧ oneEach T
def oneEachB : List Ent → Bool
  | [] => true
  | e :: T => T.all (fun e' => e'.f != e.f || apartB e.sig e'.sig) && oneEachB T
theorem oneEach_of : ∀ {T : List Ent}, oneEachB T = true → oneEach T
  | [], _ => trivial
  | e :: T, h => by
    simp only [oneEachB, Bool.and_eq_true, List.all_eq_true, Bool.or_eq_true, bne_iff_ne, ne_eq] at h
    exact ⟨h.1, oneEach_of h.2⟩
theorem nall_nil : ∀ e ∈ ([] : List Ent), NOk P e := fun e h => by cases h
theorem nall_cons {e : Ent} {T : List Ent} (h : NOk P e) (hT : ∀ e ∈ T, NOk P e) : ∀ e' ∈ e :: T, NOk P e' := fun e' he => by
  cases he with
  | head => exact h
  | tail _ he => exact hT e' he
theorem oneEach_eq {args : List AVal} {ahp : Heap} : ∀ {T : List Ent} {e e' : Ent}, oneEach T → e ∈ T → e' ∈ T → e.f = e'.f → ∀ {x : e.sig.args.den} {h : denH e.sig.heap} {x' : e'.sig.args.den} {h' : denH e'.sig.heap},
    A2 (RV (putH e.sig.heap h)) (puts e.sig.args x) args → RH (putH e.sig.heap h) ahp → A2 (RV (putH e'.sig.heap h')) (puts e'.sig.args x') args → RH (putH e'.sig.heap h') ahp → e = e'
  | [], e, e', _, he, _, _, _, _, _, _, _, _, _, _ => by cases he
  | a :: T, e, e', ho, he, he', hf, x, h, x', h', a1, b1, a2, b2 => by
    have no : ∀ {e e' : Ent} {x : e.sig.args.den} {h : denH e.sig.heap} {x' : e'.sig.args.den} {h' : denH e'.sig.heap}, apartB e.sig e'.sig = true →
        A2 (RV (putH e.sig.heap h)) (puts e.sig.args x) args → RH (putH e.sig.heap h) ahp → A2 (RV (putH e'.sig.heap h')) (puts e'.sig.args x') args → RH (putH e'.sig.heap h') ahp → False := by
      intro e e' x h x' h' hap a1 b1 a2 b2
      simp only [apartB, Bool.or_eq_true, bne_iff_ne, ne_eq] at hap
      rcases hap with hap | hap
      · exact clashes_no hap (a1.mono fun _ _ h => RT.v h) (a2.mono fun _ _ h => RT.v h)
      · have e1 := b1.1
        have e2 := b2.1
        rw [putH_length] at e1 e2
        exact hap (e1.trans e2.symm)
    cases he with
    | head =>
      cases he' with
      | head => rfl
      | tail _ he' =>
        rcases ho.1 _ he' with g | g
        · exact absurd hf.symm g
        · exact (no g a1 b1 a2 b2).elim
    | tail _ he =>
      cases he' with
      | head =>
        rcases ho.1 _ he with g | g
        · exact absurd hf g
        · exact (no g a2 b2 a1 b1).elim
      | tail _ he' => exact oneEach_eq ho.2 he he' hf a1 b1 a2 b2

theorem orc_ent {T : List Ent} (hT : ∀ e ∈ T, NOk P e) (h1 : oneEach T) : ∀ e ∈ T, EntOk (orc T) e := by
  intro e he x h y hF args ahp ha hh
  have hx : ∃ p, Fits T e.f args ahp p := ⟨_, e, he, rfl, x, h, y, hF, ha, hh, rfl⟩
  have hs := Classical.choose_spec hx
  have hk : orc T e.f args ahp = some (Classical.choose hx) := by
    unfold orc
    rw [dif_pos hx]
  generalize Classical.choose hx = p at hs hk
  obtain ⟨e', he', hf, x', h', y', hF', ha', hh', rfl⟩ := hs
  cases oneEach_eq h1 he' he hf ha' hh' ha hh
  have hg := (hT e he).2.1
  have hg' := hg
  simp only [sigGood, Bool.and_eq_true] at hg'
  have ex : x' = x := puts_inj _ x' x args hg'.1.1.1 (ha'.mono fun _ _ h => .v h) (ha.mono fun _ _ h => .v h)
  have eh : h' = h := putH_inj hg'.1.1.2 hh' hh
  subst ex
  subst eh
  rw [hF] at hF'
  cases hF'
  exact ⟨_, _, hk, (y_rel hg'.1.2 hg'.2 y).1, (y_rel hg'.1.2 hg'.2 y).2⟩

/-- function f's body is the plain one -/
def chkNF (P : Program) (fn : Func) (nf : NFunc) : Bool :=
  fn.ntmps == nf.ntmps && all2 (chkRes P) fn.results.toList nf.results && !(fn.name == "runtime.NumGoroutine") && (match fn.body with | some c => chkN P nf.code c | none => false)

theorem nbody_ok {K : Oracle} {T : List Ent} (hK : Valid P K) (hT : ∀ e ∈ T, EntOk K e) (hmix : P.follows .mixedOrders = true) {f : Nat} {fn : Func} {nf : NFunc} (hf : P.funcs[f]? = some fn) (hc : chkNF P fn nf = true) {sig : Sig} (hsig : sigGood sig = true)
    {x : sig.args.den} {h : denH sig.heap} {y : sig.den} (hrun : nrun T (LN LOOPS) nf sig x h = some y) {args : List AVal} {hp : Heap} (ha : A2 (RV (putH sig.heap h)) (puts sig.args x) args) (hh : RH (putH sig.heap h) hp) :
    CallOk P f args hp (yA sig.res sig.more y) (yB sig.res sig.more y) := by
  unfold chkNF at hc
  simp only [Bool.and_eq_true, beq_iff_eq] at hc
  obtain ⟨⟨⟨hnt, hres⟩, hname⟩, hcode⟩ := hc
  split at hcode
  case h_2 => cases hcode
  rename_i c hb
  intro μ0 w0 S0 cargs r0 hl hargs
  refine calls_of_wp hf hb ?_
  unfold nrun at hrun
  have hal : (puts sig.args x).length = args.length := ha.1
  have rep0 : Rep μ0 w0 S0 ⟨args ++ List.replicate (nf.ntmps - args.length) .undef, hp, hp.length⟩ { tmps := cargs ++ Array.replicate (fn.ntmps - cargs.size) undef, defers := [] } := by
    refine ⟨⟨by simp [hl, hnt], fun t v hv => ?_, rfl⟩, r0⟩
    rw [List.getElem?_append] at hv
    split at hv
    · rename_i ht
      have ht2 : t < cargs.size := by omega
      have hcv : (cargs ++ Array.replicate (fn.ntmps - cargs.size) undef).getD t undef = cargs[t] := by
        rw [Array.getD_eq_getD_getElem?, Array.getElem?_append_left ht2, Array.getElem?_eq_getElem ht2]
        rfl
      rw [hcv]
      exact hargs t v _ hv (Array.getElem?_eq_getElem ht2)
    · rw [List.getElem?_replicate] at hv
      split at hv
      · simp only [Option.some.injEq] at hv; subst hv; exact .undef _
      · cases hv
  have nrep0 : NRep μ0 w0 S0 ⟨puts sig.args x ++ List.replicate (nf.ntmps - (puts sig.args x).length) .undef, putH sig.heap h, (putH sig.heap h).length⟩ { tmps := cargs ++ Array.replicate (fn.ntmps - cargs.size) undef, defers := [] } := by
    refine ⟨_, ⟨?_, hh, hh.1.symm⟩, putH_noGone, rep0⟩
    rw [hal]
    exact (ha.mono fun _ _ h => RT.v h).append (A2.replicate _ (.undef _))
  have hlen0 : (putH sig.heap h).length = hp.length := hh.1
  have fin : ∀ (st : NSt), nleave nf st (fun r back => getY sig.res sig.more r back) = some y → ∀ a' w' μ1 S1, NRep μ1 w' S1 st a' → Ext μ0 S0 w0 μ1 S1 w' → KeepsK hp.length μ0 μ1 → st.k = hp.length →
      a'.defers = [] ∧ ∃ v, (results fn a'.tmps).run P w' = .ok v w' ∧ ∃ v' μ' S', Ending.returned v = .returned v' ∧ HRep μ' w' S' (yB sig.res sig.more y) ∧ Ext μ0 S0 w0 μ' S' w' ∧ VR μ' w' S' (yA sig.res sig.more y) v' ∧ hp.length ≤ (yB sig.res sig.more y).length ∧ ∀ b, b < hp.length → μ0 b ≠ .free → μ' b = μ0 b ∨ μ' b = .dead := by
    intro nst hl a' w' μ1 S1 nrep x1 k1 hk
    obtain ⟨st, hs, hg, rep⟩ := nrep
    refine ⟨rep.tmps.defers, ?_⟩
    obtain ⟨r, back, r', hp', hl, hr1, hb1, hget⟩ := nleave_sound (af := ⟨nf.ntmps, .skip, nf.results, nf.freeze⟩) hs hg rfl rfl hl
    have hsig' := hsig
    simp only [sigGood, Bool.and_eq_true] at hsig'
    obtain ⟨hr2, hb2⟩ := getY_rel hr1 hb1 hsig'.1.2 hsig'.2 hget
    have hk : st.k = hp.length := hs.k.trans hk
    unfold leave at hl
    split at hl
    case h_1 => cases hl
    rename_i r1 hr1
    obtain ⟨cv, hrun, hcv⟩ := results_sound rep hres hr1
    refine ⟨cv, hrun, cv, ?_⟩
    split at hl
    case h_1 => cases hl
    rename_i r2 shown hr2'
    simp only at hl
    generalize hids : reach st.heap (List.range st.k) r2.ownT = ids at hl
    split at hl
    case isFalse => cases hl
    rename_i hcond
    obtain ⟨hn, htake, hshown⟩ := hcond
    simp only [Option.some.injEq, Prod.mk.injEq] at hl
    obtain ⟨rfl, rfl⟩ := hl
    have hshown : ∀ b, b ∈ shown → b ∉ ids := fun b hb => by have := List.all_eq_true.1 hshown b hb; simpa using this
    have hvr : VR μ1 w' (With S1 μ1 shown) r2 cv := by
      split at hr2'
      · exact viewT_sound rep.heap hcv hr2' μ1
      · simp only [Option.some.injEq, Prod.mk.injEq] at hr2'
        obtain ⟨rfl, rfl⟩ := hr2'
        exact hcv.mono (Up.refl _) (fun _ _ => rfl) (fun m hm => .inl hm)
    have hH : HRep (pick μ1 ids) w' (With S1 μ1 shown) (packHeap st.heap ids) := by
      refine pack_rep rep.heap hn (fun m hm => .inl hm) (fun m ho hS => ?_) (fun m hS => ?_)
      · obtain ⟨c, hc', n, e, hh⟩ := pick_owned ho
        rcases hS with hS | ⟨b, hb, n', e', hb'⟩
        · exact rep.heap.apart m ⟨c, n, e, hh⟩ hS
        · exact hshown b hb (by rw [rep.heap.inj b c m n' n e' e hb' hh]; exact hc')
      · rcases hS with hS | ⟨b, hb, n', e', hb'⟩
        · exact rep.heap.inS m hS
        · exact rep.heap.lt ⟨b, n', e', hb'⟩
    obtain ⟨hH', hv', hlen⟩ := y_conv hsig'.1.2 hsig'.2 hr2 hb2 hH (hvr.renT (pick_follows ids))
    refine ⟨pick μ1 ids, With S1 μ1 shown, rfl, hH', x1.trans ?_, hv', ?_, fun b hb hf => ?_⟩
    · refine ⟨rfl, rfl, rfl, Nat.le_refl _, fun _ _ _ => rfl, fun _ h => .inl h, fun m hm => ?_, fun m ho => ?_⟩
      · rcases hm with hm | ⟨b, hb, n', e', hb'⟩
        · exact .inl hm
        · exact .inr (.inl ⟨b, n', e', hb'⟩)
      · obtain ⟨c, hc', n, e, hh⟩ := pick_owned ho
        exact .inl ⟨c, n, e, hh⟩
    · have : (ids.take st.k).length = st.k := by rw [htake]; simp
      simp only [List.length_take] at this
      rw [hlen]
      simp only [packHeap, List.length_map]
      omega
    · have hb' : ids[b]? = some b := by
        have h1 : (ids.take st.k)[b]? = some b := by rw [htake, List.getElem?_range (by omega)]
        rw [List.getElem?_take, if_pos (by omega)] at h1
        exact h1
      have : pick μ1 ids b = μ1 b := by unfold pick; rw [hb']
      rw [this]
      exact k1 b hb hf
  refine ncode_sound hK hT hmix nf.code c hcode _ _ _ y _ w0 μ0 S0 _ nrep0 hrun fun e st' he _ a' w' μ1 S1 rep x1 k1 hk => ?_
  have k1' : KeepsK hp.length μ0 μ1 := by rw [← hlen0]; exact k1
  have hk' : st'.k = hp.length := hk.trans hlen0
  cases e with
  | normal => exact fin st' he a' w' μ1 S1 rep x1 k1' hk'
  | ret => exact fin st' he a' w' μ1 S1 rep x1 k1' hk'
  | exit i => cases he
  | goto l => cases he

/-- a function's plain form, from its body -/
theorem NOk.body (hmix : P.follows .mixedOrders = true) {T : List Ent} (hT : ∀ e ∈ T, NOk P e) (h1 : oneEach T) {f : Nat} {fn : Func} {nf : NFunc} {sig : Sig} (hf : P.funcs[f]? = some fn) (hc : chkNF P fn nf = true) (hsig : sigGood sig = true)
    {F : sig.args.den → denH sig.heap → Option sig.den} (hF : ∀ x h, nrun T (LN LOOPS) nf sig x h = F x h) : NOk P ⟨f, sig, F⟩ := by
  refine ⟨⟨fn, hf, ?_, ?_⟩, hsig, fun x h y hy args ahp ha hh => ?_⟩
  · unfold chkNF at hc
    simp only [Bool.and_eq_true, Bool.not_eq_true'] at hc
    exact hc.1.2
  · unfold chkNF at hc
    simp only [Bool.and_eq_true] at hc
    cases hb : fn.body with
    | none => rw [hb] at hc; cases hc.2
    | some c => rfl
  · have hy : F x h = some y := hy
    rw [← hF] at hy
    exact nbody_ok (orc_valid hT) (orc_ent hT h1) hmix hf hc hsig hy ha hh
end

end NM
end Go.Proofs.Ytfelhbeiegppgaa
