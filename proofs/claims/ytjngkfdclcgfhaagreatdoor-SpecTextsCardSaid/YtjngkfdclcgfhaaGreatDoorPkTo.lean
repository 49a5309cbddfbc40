/-
  What the proof of SpecTexts leans on, part 15. (Many texts laid together by program.)
-/
import Derived.Test.YtjngkfdclcgfhaaGreatDoorPkTn
set_option linter.unnecessarySimpa false
set_option linter.unusedSimpArgs false
set_option linter.unusedVariables false
section
namespace Go.Proofs.YtjngkfdclcgfhaaGreatDoor
namespace NM
open AM
def EntOk (K : Oracle) (e : Ent) : Prop := ∀ x h y, e.F x h = some y → ∀ args ahp, A2 (RV (putH e.sig.heap h)) (puts e.sig.args x) args → RH (putH e.sig.heap h) ahp →
 ∃ r' back', K e.f args ahp = some (r', back') ∧ RTs (yH e.sig.res e.sig.more y) (yV e.sig.res e.sig.more y) r' ∧ RH (yH e.sig.res e.sig.more y) back'
theorem putH_noGone : ∀ {l : List HS} {x : denH l}, noGone (putH l x)
 | [], x => fun b h => by simp [putH] at h
 | h :: l, x => fun b hb => by
   simp only [putH] at hb
   cases b with
   | zero => simp at hb; cases h <;> cases hb
   | succ b => exact putH_noGone (l := l) b (by simpa using hb)
theorem outH_noGone {r : Sh} {l : List HS} {y : denO r l} : noGone (outH r l y) := by
 cases l with
 | nil => exact fun b h => by simp [outH] at h
 | cons h l => exact putH_noGone
theorem yK_eq {ω : Type} : ∀ (o : OSh) (l : List OSh) (k : NVal → NHeap → Option ω) (y : denY o l), yK o l k y = k (yV o l y) (yH o l y)
 | o, [], k, y => rfl
 | o, p :: l, k, .inl y => rfl
 | o, p :: l, k, .inr y => by
   simp only [yK, yV, yH, Sum.elim_inr]
   exact yK_eq p l k y
theorem yH_noGone : ∀ (o : OSh) (l : List OSh) (y : denY o l), noGone (yH o l y)
 | o, [], y => outH_noGone
 | o, p :: l, .inl y => outH_noGone
 | o, p :: l, .inr y => by
   simp only [yH]
   exact yH_noGone p l y
section
variable {ω : Type} {hp : NHeap} {ahp : Heap} {r : ω} {K : Oracle} {T : List Ent}
theorem ncallT_sound : ∀ {T : List Ent}, (∀ e ∈ T, EntOk K e) → ∀ {f : Nat} {vs : List NVal} {args : List AVal} {k : NVal → NHeap → Option ω}, ncallT T f vs hp k = some r → A2 (RV hp) vs args → RH hp ahp →
   ∃ r0 back r' back', K f args ahp = some (r', back') ∧ RTs back r0 r' ∧ RH back back' ∧ noGone back ∧ k r0 back = some r
 | [], _, f, vs, args, k, h, _, _ => by simp [ncallT] at h
 | e :: T, hT, f, vs, args, k, h, hv, hh => by
   have rest : ncallT T f vs hp k = some r → _ := fun h' => ncallT_sound (T := T) (fun e he => hT e (List.mem_cons_of_mem _ he)) h' hv hh
   simp only [ncallT] at h
   split at h
   · rename_i hf
     split at h
     · rename_i x hx
       split at h
       · rename_i hx2 hg
         simp only [Option.bind_eq_some_iff] at h
         obtain ⟨y, hy, hk⟩ := h
         rw [yK_eq] at hk
         obtain ⟨r', back', h1, h2, h3⟩ := hT e (by simp) x hx2 y hy args ahp ((gets_R get_RV hx hv).mono fun _ _ h => h.mono (getH_len hg)) (getH_rel hg hh)
         rw [hf] at h1
         exact ⟨_, _, r', back', h1, h2, h3, yH_noGone _ _ y, hk⟩
       · exact rest h
     · exact rest h
   · exact rest h
theorem RC.bare {v : NVal} {a : AVal} (h : RC hp v a) (hv : nbareC v = true) : a.bareC = true ∧ RI v a := by
 cases h with
 | fn => simp [nbareC] at hv
 | p h => cases h with
   | ro h => exact ⟨by cases h <;> first | rfl | simp [nbareC] at hv, h⟩
   | undef => simp [nbareC] at hv
   | ptr => simp [nbareC] at hv
   | sl => simp [nbareC] at hv
   | slw => simp [nbareC] at hv
theorem cells_bare {cs : List NVal} {ds : List AVal} (h : A2 (RC hp) cs ds) (hv : cs.all nbareC = true) : ds.all AVal.bareC = true ∧ A2 RI cs ds := by
 refine ⟨h.all_of (fun x y hxy hx => (hxy.bare hx).1) hv, h.1, fun j c d hc hd => ?_⟩
 rw [List.all_eq_true] at hv
 exact ((h.2 j c d hc hd).bare (hv _ (List.mem_of_getElem? hc))).2
theorem RV.bare {v : NVal} {a : AVal} (h : RV hp v a) (hv : nbareV v = true) : a.bareV = true ∧ ∀ hp', RV hp' v a := by
 cases h with
 | agg cs ds h =>
   obtain ⟨h1, h2⟩ := cells_bare h hv
   exact ⟨h1, fun hp' => .agg _ _ (h2.mono fun _ _ h => h.c)⟩
 | c h =>
   obtain ⟨n1, _, n2, _⟩ := h.not_agg
   have e1 : nbareV v = nbareC v := by
     cases v <;> first | rfl | exact absurd rfl (n1 _)
   have e2 : a.bareV = a.bareC := by
     cases a <;> first | rfl | exact absurd rfl (n2 _)
   rw [e1] at hv
   rw [e2]
   exact ⟨(h.bare hv).1, fun hp' => (h.bare hv).2.rv⟩
theorem RTs.bare {v : NVal} {a : AVal} (h : RTs hp v a) (hv : nbareT v = true) : a.bareT = true ∧ ∀ hp', RT hp' v a := by
 cases h with
 | undef => simp [nbareT, nbareV, nbareC] at hv
 | tup cs ds h =>
   refine ⟨A2.all_of (fun x y hxy hx => (hxy.bare hx).1) h hv, fun hp' => .tup _ _ ⟨h.1, fun j c d hc hd => ?_⟩⟩
   simp only [nbareT] at hv
   rw [List.all_eq_true] at hv
   exact ((h.2 j c d hc hd).bare (hv _ (List.mem_of_getElem? hc))).2 hp'
 | v h =>
   obtain ⟨n1, n2⟩ := h.not_tup
   have e1 : nbareT v = nbareV v := by
     cases v <;> first | rfl | exact absurd rfl (n1 _)
   have e2 : a.bareT = a.bareV := by
     cases a <;> first | rfl | exact absurd rfl (n2 _)
   rw [e1] at hv
   rw [e2]
   exact ⟨(h.bare hv).1, fun hp' => .v ((h.bare hv).2 hp')⟩
theorem RC.abare {v : NVal} {a : AVal} (h : RC hp v a) (ha : a.bareC = true) (f : Nat → Option Nat) : nrenC f v = v ∧ RI v a := by
 cases h with
 | fn => simp [AVal.bareC] at ha
 | p h => cases h with
   | ro h => cases h <;> first | (simp [AVal.bareC] at ha; done) | exact ⟨rfl, by first | exact .bool _ | exact .int _ _ | exact .str _ | exact .nilp | exact .zsl | exact .nilfn | exact .nili | exact .lst0 _ | exact .rows0 _⟩
   | undef => simp [AVal.bareC] at ha
   | ptr => simp [AVal.bareC] at ha
   | sl => simp [AVal.bareC] at ha
   | slw => simp [AVal.bareC] at ha
theorem map_id_of {α : Type} {f : α → α} : ∀ {l : List α}, (∀ x ∈ l, f x = x) → l.map f = l
 | [], _ => rfl
 | x :: l, h => by simp only [List.map_cons, h x (by simp), map_id_of (l := l) fun y hy => h y (by simp [hy])]
theorem cells_abare {cs : List NVal} {ds : List AVal} (h : A2 (RC hp) cs ds) (ha : ds.all AVal.bareC = true) (f : Nat → Option Nat) : cs.map (nrenC f) = cs ∧ A2 RI cs ds := by
 rw [List.all_eq_true] at ha
 refine ⟨map_id_of fun x hx => ?_, h.1, fun j c d hc hd => ((h.2 j c d hc hd).abare (ha _ (List.mem_of_getElem? hd)) f).2⟩
 obtain ⟨j, hj, rfl⟩ := List.getElem_of_mem hx
 obtain ⟨d, hd, hr⟩ := h.get (List.getElem?_eq_getElem hj)
 exact (hr.abare (ha _ (List.mem_of_getElem? hd)) f).1
theorem RV.abare {v : NVal} {a : AVal} (h : RV hp v a) (ha : a.bareV = true) (f : Nat → Option Nat) : nrenV f v = v ∧ ∀ hp', RV hp' v a := by
 cases h with
 | agg cs ds h =>
   obtain ⟨h1, h2⟩ := cells_abare h ha f
   exact ⟨by simp only [nrenV, h1], fun hp' => .agg _ _ (h2.mono fun _ _ h => h.c)⟩
 | c h =>
   obtain ⟨n1, _, n2, _⟩ := h.not_agg
   have e1 : nrenV f v = nrenC f v := by
     cases v <;> first | rfl | exact absurd rfl (n1 _)
   have e2 : a.bareV = a.bareC := by
     cases a <;> first | rfl | exact absurd rfl (n2 _)
   rw [e2] at ha
   rw [e1]
   exact ⟨(h.abare ha f).1, fun hp' => (h.abare ha f).2.rv⟩
theorem RTs.abare {v : NVal} {a : AVal} (h : RTs hp v a) (ha : a.bareT = true) (f : Nat → Option Nat) : nrenT f v = v ∧ (∀ hp', RT hp' v a) ∧ (skT v).ownT = [] := by
 have hown : (skT v).ownT = [] := by
   rw [h.own]
   have key : ∀ {c : AVal}, c.bareC = true → c.ownC = [] := fun {c} hc => by cases c <;> first | rfl | simp [AVal.bareC] at hc
   have key2 : ∀ {c : AVal}, c.bareV = true → c.ownV = [] := fun {c} hc => by
     cases c <;> first
       | rfl
       | (simp only [AVal.bareV] at hc; rw [List.all_eq_true] at hc; simp only [AVal.ownV, List.flatMap_eq_nil_iff]; exact fun x hx => key (hc x hx))
       | (simp [AVal.bareV, AVal.bareC] at hc; done)
   cases a <;> first
     | rfl
     | (simp only [AVal.bareT] at ha; rw [List.all_eq_true] at ha; simp only [AVal.ownT, List.flatMap_eq_nil_iff]; exact fun x hx => key2 (ha x hx))
     | (simp only [AVal.bareT, AVal.bareV] at ha; rw [List.all_eq_true] at ha; simp only [AVal.ownT, AVal.ownV, List.flatMap_eq_nil_iff]; exact fun x hx => key (ha x hx))
     | (simp [AVal.bareT, AVal.bareV, AVal.bareC] at ha; done)
 cases h with
 | undef => simp [AVal.bareT, AVal.bareV, AVal.bareC] at ha
 | tup cs ds h =>
   simp only [AVal.bareT] at ha
   rw [List.all_eq_true] at ha
   refine ⟨?_, fun hp' => .tup _ _ ⟨h.1, fun j c d hc hd => ((h.2 j c d hc hd).abare (ha _ (List.mem_of_getElem? hd)) f).2 hp'⟩, hown⟩
   simp only [nrenT]
   congr 1
   refine map_id_of fun x hx => ?_
   obtain ⟨j, hj, rfl⟩ := List.getElem_of_mem hx
   obtain ⟨d, hd, hr⟩ := h.get (List.getElem?_eq_getElem hj)
   exact (hr.abare (ha _ (List.mem_of_getElem? hd)) f).1
 | v h =>
   obtain ⟨n1, n2⟩ := h.not_tup
   have e1 : nrenT f v = nrenV f v := by
     cases v <;> first | rfl | exact absurd rfl (n1 _)
   have e2 : a.bareT = a.bareV := by
     cases a <;> first | rfl | exact absurd rfl (n2 _)
   rw [e2] at ha
   rw [e1]
   exact ⟨(h.abare ha f).1, fun hp' => .v ((h.abare ha f).2 hp'), hown⟩
theorem allOn_all {α γ : Type} {P : Nat → Prop} {f : α → Option (γ × List Nat)} (hf : ∀ x u l, f x = some (u, l) → ∀ b ∈ l, P b) : ∀ {xs : List α} {us : List γ} {l : List Nat}, allOn f xs = some (us, l) → ∀ b ∈ l, P b
 | [], us, l, h, b, hb => by simp [allOn] at h; rw [h.2] at hb; cases hb
 | x :: xs, us, l, h, b, hb => by
   simp only [allOn] at h
   split at h
   · rename_i u l1 hu
     split at h
     · rename_i us1 l2 hus
       cases h
       rcases List.mem_append.1 hb with hb | hb
       · exact hf _ _ _ hu b hb
       · exact allOn_all hf hus b hb
     · cases h
   · cases h
theorem view_alive : ∀ {d : Nat} {v u : NVal} {l : List Nat}, nviewP hp d v = some (u, l) → ∀ b ∈ l, (nget hp b).isSome = true
 | 0, v, u, l, h, b, hb => by
   simp only [nviewP] at h
   split at h
   · cases h; cases hb
   · cases h
 | d + 1, v, u, l, h, b, hb => by
   unfold nviewP at h
   split at h
   · rename_i heq; cases heq
   · rename_i d' b' e heq
     cases heq
     split at h
     · rename_i hk
       split at h
       · cases h; simp at hb; subst hb; rw [hk]; rfl
       · cases h
     · rename_i hk
       split at h
       · cases h; simp at hb; subst hb; rw [hk]; rfl
       · split at h
         · rename_i hus
           cases h
           rcases List.mem_cons.1 hb with hb | hb
           · subst hb; rw [hk]; rfl
           · exact allOn_all (fun x u l hx => allOn_all (fun x u l hx => view_alive hx) hx) hus b hb
         · cases h
     · cases h
   · rename_i d' b' i f heq
     cases heq
     split at h
     · rename_i hk
       split at h
       · split at h
         · cases h; simp at hb; subst hb; rw [hk]; rfl
         · split at h
           · rename_i hus
             cases h
             rcases List.mem_cons.1 hb with hb | hb
             · subst hb; rw [hk]; rfl
             · exact allOn_all (fun x u l hx => view_alive hx) hus b hb
           · cases h
       · cases h
     · cases h
   · rename_i d' f cap heq
     cases heq
     split at h
     · rename_i hus
       cases h
       exact allOn_all (fun x u l hx => view_alive hx) hus b hb
     · cases h
   · split at h
     · cases h; cases hb
     · cases h
theorem viewV_alive {d : Nat} {v u : NVal} {l : List Nat} (h : nviewV hp d v = some (u, l)) : ∀ b ∈ l, (nget hp b).isSome = true := by
 unfold nviewV at h
 split at h
 · split at h
   · rename_i hus
     cases h
     exact allOn_all (fun x u l hx => view_alive hx) hus
   · cases h
 · exact view_alive h
theorem argView_rel (hh : RH hp ahp) {p : Bool × NVal} {q : Bool × AVal} {u : NVal} {l : List Nat} (hpq : p.1 = q.1 ∧ RT hp p.2 q.2) (h : nargView hp p = some (u, l)) : ∃ u', argView ahp q = some (u', l) ∧ RV hp u u' := by
 obtain ⟨m, v⟩ := p
 obtain ⟨m', a⟩ := q
 obtain ⟨rfl, hr⟩ := hpq
 simp only at hr
 unfold nargView at h
 unfold argView
 simp only at h ⊢
 split at h
 · rename_i hm
   rw [if_pos hm]
   split at h
   · rename_i hv
     cases h
     cases hr with
     | undef a => cases hv
     | tup => cases hv
     | v hr => exact ⟨a, rfl, hr⟩
   · cases h
 · rename_i hm
   rw [if_neg hm]
   cases hr with
   | undef a => simp [nviewV, nviewP, DEEP, nimmP] at h
   | tup => simp [nviewV, nviewP, DEEP, nimmP] at h
   | v hr => exact viewV_rel hh h hr
theorem argView_alive {p : Bool × NVal} {u : NVal} {l : List Nat} (h : nargView hp p = some (u, l)) : ∀ b ∈ l, (nget hp b).isSome = true := by
 unfold nargView at h
 split at h
 · split at h
   · cases h; exact fun b hb => by cases hb
   · cases h
 · exact viewV_alive h
theorem reach_nil (h : Heap) : AM.reach h [] [] = [] := rfl
theorem ngone_kill : ∀ {l : List Nat} {hp : NHeap} {ahp : Heap}, RH hp ahp → (∀ b ∈ l, ahp.isFree b = false) → RH (nkill .gone hp l) ahp
 | [], _, _, h, _ => h
 | b :: l, hp, ahp, h, hf => by
   refine ngone_kill (l := l) ?_ (fun c hc => hf c (by simp [hc]))
   refine ⟨by simpa using h.1, fun j s s' hs hs' => ?_⟩
   rw [List.getElem?_set] at hs
   split at hs
   · rename_i hj
     split at hs
     · cases hs
       refine .gone _ fun e => ?_
       have := hf b (by simp)
       unfold Heap.isFree at this
       rw [hj, hs', e] at this
       cases this
     · cases hs
   · exact (h.2 j s s' hs hs').mono (.set_gone b)
theorem ngone_kill2 : ∀ {l : List Nat} {hp : NHeap} {ahp : Heap}, RH hp ahp → RH (nkill .gone hp l) (AM.kill ahp l)
 | [], _, _, h => h
 | b :: l, hp, ahp, h => by
   refine ngone_kill2 (l := l) (RH.set h (.set_gone b) (.gone _ (by simp)))
theorem lensOk_get : ∀ {ids : List Nat} {back : NHeap}, lensOk hp ids back = true → ∀ {c b : Nat} {s : NSlot}, ids[c]? = some b → back[c]? = some s → ∀ n, lenAt hp b n → slotLen s n
 | [], back, _, c, b, s, h, _, _, _ => by simp at h
 | b0 :: ids, [], _, c, b, s, _, h, _, _ => by simp at h
 | b0 :: ids, s0 :: back, h, c, b, s, hb, hs, n, hn => by
   simp only [lensOk, Bool.and_eq_true] at h
   cases c with
   | succ c => exact lensOk_get h.2 (by simpa using hb) (by simpa using hs) n hn
   | zero =>
     simp at hb hs
     subst hb
     subst hs
     have h1 := h.1
     cases hk : nget hp b0 with
     | none => rw [hk] at h1; simp at h1
     | some kb =>
       rw [hk] at h1
       cases s0 with
       | live kb' =>
         simp only [decide_eq_true_eq] at h1
         simp only [slotLen]
         rw [h1]; exact len_of hn hk
       | dead => trivial
       | gone => trivial
       | free => simp at h1
theorem RTs.mono {hp' : NHeap} (e : Evo hp hp') {v : NVal} {a : AVal} (h : RTs hp v a) : RTs hp' v a := by
 cases h with
 | undef => exact .undef
 | v h => exact .v (h.mono e)
 | tup c d h => exact .tup c d (h.mono fun _ _ k => k.mono e)
theorem nodupB_inj : ∀ {l : List Nat}, nodupB l = true → ∀ {i j x : Nat}, l[i]? = some x → l[j]? = some x → i = j
 | [], _, i, j, x, h, _ => by simp at h
 | a :: l, hn, i, j, x, hi, hj => by
   simp only [nodupB, Bool.and_eq_true, Bool.not_eq_true'] at hn
   cases i with
   | zero =>
     cases j with
     | zero => rfl
     | succ j =>
       simp at hi hj
       subst hi
       have := List.mem_of_getElem? hj
       have h2 := hn.1
       simp at h2
       exact absurd this h2
   | succ i =>
     cases j with
     | zero =>
       simp at hi hj
       subst hj
       have := List.mem_of_getElem? hi
       have h2 := hn.1
       simp at h2
       exact absurd this h2
     | succ j =>
       have := nodupB_inj hn.2 (i := i) (j := j) (x := x) (by simpa using hi) (by simpa using hj)
       omega
end
end NM
end Go.Proofs.YtjngkfdclcgfhaaGreatDoor
end
section
namespace Go.Proofs.YtjngkfdclcgfhaaGreatDoor
namespace NM
open AM
section
variable {ω : Type} {hp : NHeap} {ahp : Heap} {r : ω} {K : Oracle} {T : List Ent}
theorem nfree_lt {b : Nat} (h : nfree hp b = true) : b < hp.length := by
 unfold nfree at h
 split at h
 · rename_i h2; exact (List.getElem?_eq_some_iff.1 h2).1
 · cases h
theorem nget_lt {b : Nat} {kb : NBlk} (h : nget hp b = some kb) : b < hp.length := (List.getElem?_eq_some_iff.1 (nget_iff.1 h)).1
theorem free_not_get {b : Nat} {kb : NBlk} (h : nfree hp b = true) (hk : nget hp b = some kb) : False := by
 rw [nget_iff] at hk
 unfold nfree at h
 rw [hk] at h
 cases h
theorem nkill_length {s : NSlot} : ∀ (l : List Nat) (hp : NHeap), (nkill s hp l).length = hp.length
 | [], hp => rfl
 | b :: l, hp => by simp only [nkill]; rw [nkill_length l]; simp
theorem nkill_other {s : NSlot} {b : Nat} : ∀ {l : List Nat} {hp : NHeap}, b ∉ l → (nkill s hp l)[b]? = hp[b]?
 | [], hp, _ => rfl
 | c :: l, hp, h => by
   simp only [nkill]
   rw [nkill_other (fun hc => h (List.mem_cons_of_mem _ hc)), List.getElem?_set_ne]
   exact fun hc => h (hc ▸ List.mem_cons_self)
theorem ncall_sound (hT : ∀ e ∈ T, EntOk K e) (hh : RH hp ahp) {base id room : Nat} {sees : Sees} {quiet : Bool} {fv : NVal} {a : AVal} {args : List (Bool × NVal)} {aargs : List (Bool × AVal)} (hf : RT hp fv a)
   (hargs : A2 (fun (p : Bool × NVal) (q : Bool × AVal) => p.1 = q.1 ∧ RT hp p.2 q.2) args aargs) {k : NVal → NHeap → Option ω} (h : ncall T hp base sees id room quiet fv args k = some r) :
   ∃ v c hp' ahp', callVal K ahp base sees id room quiet a aargs = some (c, ahp') ∧ RT hp' v c ∧ RH hp' ahp' ∧ Evo hp hp' ∧ k v hp' = some r := by
 unfold ncall at h
 split at h
 · rename_i f cap
   obtain ⟨cap', rfl, hcap⟩ := hf.fn_inv
   split at h
   · cases h
   · rename_i vs lent hvs
     obtain ⟨vs', hvs', hrv⟩ := allOn_rel (R := fun (p : Bool × NVal) (q : Bool × AVal) => p.1 = q.1 ∧ RT hp p.2 q.2) (R' := RV hp) (g := argView ahp) (fun x y u l hxy hx => argView_rel hh hxy hx) hvs hargs
     have hlive : ∀ b ∈ lent, (nget hp b).isSome = true := allOn_all (fun x u l hx => argView_alive hx) hvs
     simp only at h
     have hall : A2 (RV hp) (vs ++ cap) (vs' ++ cap') := hrv.append (hcap.mono fun _ _ h => .c (.p h))
     have hroots : ((vs ++ cap).flatMap fun v => (skV v).ownV) = (vs' ++ cap').flatMap AVal.ownV := A2.flatMap_eq (fun x y hxy => hxy.own) hall
     generalize hids : AM.reach (skH hp) [] ((vs ++ cap).flatMap fun v => (skV v).ownV) = ids at h
     split at h
     · rename_i hc
       obtain ⟨c1, c2, c3, c4, c5, c6⟩ := hc
       have hids' : AM.reach ahp [] ((vs' ++ cap').flatMap AVal.ownV) = ids := by
         rw [← hroots, ← hids]
         rcases c6 with c6 | c6
         · rw [List.isEmpty_iff.1 c6, reach_nil, reach_nil]
         · exact (hh.reach1 _ (by rw [hids]; exact c4) (by rw [hids]; exact c6)).1.symm
       have c4' : ∀ b ∈ ids, ∃ kb, nget hp b = some kb := fun b hb => by
         rw [List.all_eq_true] at c4
         exact Option.isSome_iff_exists.1 (c4 b hb)
       have a4 : ids.all (fun b => (ahp.get b).isSome) = true := by
         rw [List.all_eq_true]
         intro b hb
         obtain ⟨kb, hk⟩ := c4' b hb
         obtain ⟨k2, hk2, _⟩ := hh.get hk
         rw [hk2]; rfl
       have a5 : quiet = false ∨ ((vs' ++ cap').flatMap AVal.ownV).isEmpty = true := by rw [← hroots]; exact c5
       obtain ⟨r0, back, r', back', hK, hr, hb, hng, hk⟩ := ncallT_sound (ahp := packHeap ahp ids) hT h (hall.map fun _ _ h => renV_rel (pack_keeps ids) h) (pack_rel hh fun b hb hn => by obtain ⟨kb, hk⟩ := c4' b hb; rw [hk] at hn; cases hn)
       have pre : callVal K ahp base sees id room quiet (.fn f cap') aargs =
           (if r'.bareT = true ∧ ids = [] then some (r', ahp)
             else if quiet = true ∧ lent ≠ [] then none
             else if ids.length ≤ back'.length ∧ back'.length ≤ ids.length + room ∧ (List.range (back'.length - ids.length)).all (fun j => ahp.isFree (id + j)) = true then
               some (r'.renT (backTo ids id), layBack (backTo ids id) (AM.kill ahp lent) 0 back')
             else none) := by
         unfold callVal
         simp only [hvs', hids']
         rw [if_pos ⟨c1, c2, c3, a4, a5⟩, hK]
       rw [pre]
       split at hk
       · rename_i hbare
         obtain ⟨hb1, hb2⟩ := hr.bare hbare.1
         refine ⟨_, r', _, ahp, by rw [if_pos ⟨hb1, List.isEmpty_iff.1 hbare.2⟩], hb2 hp, hh, .refl _, hk⟩
       · rename_i hbare
         split at hk
         · cases hk
         · rename_i hq
           split at hk
           · rename_i hcond
             obtain ⟨d1, d2, d3, d4⟩ := hcond
             obtain ⟨hlens, hk⟩ := cond_some hk
             have hev1 : Evo hp (nkill .gone hp lent) := nkill_gone_evo lent hp
             by_cases ha : r'.bareT = true ∧ ids = []
             · -- nothing came back
               obtain ⟨e1, e2, e3⟩ := hr.abare ha.1 (backTo ids id)
               have hbe : back = [] := by
                 rcases d4 with d4 | d4 | d4
                 · exact List.isEmpty_iff.1 d4
                 · rw [ha.2] at d4; cases d4
                 · rw [e3] at d4; cases d4
               subst hbe
               simp only [nlayBack] at hk
               rw [e1] at hk
               refine ⟨_, r', _, ahp, by rw [if_pos ha], e2 _, ngone_kill hh fun b hb => ?_, hev1, hk⟩
               obtain ⟨kb, hkb⟩ := Option.isSome_iff_exists.1 (hlive b hb)
               obtain ⟨k2, hk2, _⟩ := hh.get hkb
               rw [aget_iff] at hk2
               unfold Heap.isFree
               rw [hk2]
             · have hq' : ¬ (quiet = true ∧ lent ≠ []) := fun ⟨q1, q2⟩ => hq ⟨q1, by cases lent with
                 | nil => exact absurd rfl q2
                 | cons => rfl⟩
               rw [hb.1] at d1 d2 d3
               have a3 : (List.range (back'.length - ids.length)).all (fun j => ahp.isFree (id + j)) = true := by
                 rw [List.all_eq_true] at d3 ⊢
                 exact fun j hj => hh.free (d3 j hj)
               -- where what came back goes
               have inj : ∀ c c' b, c < back.length → c' < back.length → backTo ids id c = some b → backTo ids id c' = some b → c = c' := by
                 intro c c' b hc hc' hb1 hb2
                 have new : ∀ c, c < back.length → ids.length ≤ c → ∀ b, backTo ids id c = some b → b = id + (c - ids.length) ∧ nfree hp b = true := fun c hc hle b hb' => by
                   unfold backTo at hb'
                   rw [List.getElem?_eq_none hle] at hb'
                   cases hb'
                   rw [List.all_eq_true] at d3
                   exact ⟨rfl, d3 (c - ids.length) (by rw [List.mem_range, ← hb.1]; omega)⟩
                 have old : ∀ c, c < ids.length → ∀ b, backTo ids id c = some b → ids[c]? = some b := fun c hc b hb' => by
                   unfold backTo at hb'
                   rw [List.getElem?_eq_getElem hc] at hb' ⊢
                   exact hb'
                 rcases Nat.lt_or_ge c ids.length with h1 | h1 <;> rcases Nat.lt_or_ge c' ids.length with h2 | h2
                 · exact nodupB_inj c1 (old c h1 b hb1) (old c' h2 b hb2)
                 · obtain ⟨kb, hkb⟩ := c4' b (List.mem_of_getElem? (old c h1 b hb1))
                   exact (free_not_get (new c' hc' h2 b hb2).2 hkb).elim
                 · obtain ⟨kb, hkb⟩ := c4' b (List.mem_of_getElem? (old c' h2 b hb2))
                   exact (free_not_get (new c hc h1 b hb1).2 hkb).elim
                 · have e1 := (new c hc h1 b hb1).1
                   have e2 := (new c' hc' h2 b hb2).1
                   omega
               have hlt : ∀ c b, c < back.length → backTo ids id c = some b → b < hp.length := by
                 intro c b hc hb'
                 unfold backTo at hb'
                 rcases Nat.lt_or_ge c ids.length with h1 | h1
                 · rw [List.getElem?_eq_getElem h1] at hb'
                   cases hb'
                   obtain ⟨kb, hkb⟩ := c4' ids[c] (List.getElem_mem h1)
                   exact nget_lt hkb
                 · rw [List.getElem?_eq_none h1] at hb'
                   cases hb'
                   rw [List.all_eq_true] at d3
                   exact nfree_lt (d3 (c - ids.length) (by rw [List.mem_range, ← hb.1]; omega))
               have hev2 : Evo hp (nlayBack (backTo ids id) (nkill .gone hp lent) 0 back) := by
                 intro b n hn
                 refine layBack_len (hev1 b n hn) fun c s hs hf' => ?_
                 rw [Nat.zero_add] at hf'
                 unfold backTo at hf'
                 have hcl := (List.getElem?_eq_some_iff.1 hs).1
                 rcases Nat.lt_or_ge c ids.length with h1 | h1
                 · rw [List.getElem?_eq_getElem h1] at hf'
                   cases hf'
                   exact lensOk_get hlens (List.getElem?_eq_getElem h1) hs n hn
                 · rw [List.getElem?_eq_none h1] at hf'
                   cases hf'
                   rw [List.all_eq_true] at d3
                   have hfr := d3 (c - ids.length) (by rw [List.mem_range, ← hb.1]; omega)
                   unfold nfree at hfr
                   unfold lenAt at hn
                   split at hfr
                   · rename_i hs2; rw [hs2] at hn; cases hn
                   · cases hfr
               have hkeep : Keeps (backTo ids id) back (nlayBack (backTo ids id) (nkill .gone hp lent) 0 back) := by
                 intro c n b hn hcb
                 obtain ⟨s, hs, hsl⟩ := lenAt_iff.1 hn
                 have hcl := (List.getElem?_eq_some_iff.1 hs).1
                 refine layBack_new (by rw [nkill_length]; exact hlt c b hcl hcb) ⟨c, s, hs, by rw [Nat.zero_add]; exact hcb⟩ fun c' s' hs' hf' => ?_
                 rw [Nat.zero_add] at hf'
                 have : c' = c := inj c' c b (List.getElem?_eq_some_iff.1 hs').1 hcl hf' hcb
                 subst this
                 rw [hs] at hs'
                 cases hs'
                 exact hsl
               refine ⟨_, r'.renT (backTo ids id), _, layBack (backTo ids id) (AM.kill ahp lent) 0 back', ?_, (renT_rel hkeep hr).rt, ?_, hev2, hk⟩
               · rw [if_neg ha, if_neg hq', if_pos ⟨d1, d2, a3⟩]
               · refine layBack_rel ?_ ?_
                 · have hk2 : RH (nkill .gone hp lent) (AM.kill ahp lent) := ngone_kill2 hh
                   refine A2.mono (fun s s' hs => ?_) hk2
                   refine hs.mono ?_
                   intro b n hn
                   -- lengths in the heap with what is gone are those of the heap, or free
                   refine layBack_len hn fun c s hs hf' => ?_
                   rw [Nat.zero_add] at hf'
                   unfold backTo at hf'
                   have hcl := (List.getElem?_eq_some_iff.1 hs).1
                   rcases Nat.lt_or_ge c ids.length with h1 | h1
                   · rw [List.getElem?_eq_getElem h1] at hf'
                     cases hf'
                     have hnl : ids[c] ∉ lent := fun hm => by
                       rw [List.all_eq_true] at c3
                       have := c3 _ hm
                       simp at this
                     refine lensOk_get hlens (List.getElem?_eq_getElem h1) hs n ?_
                     unfold lenAt at hn ⊢
                     rw [nkill_other hnl] at hn
                     exact hn
                   · rw [List.getElem?_eq_none h1] at hf'
                     cases hf'
                     rw [List.all_eq_true] at d3
                     have hfr := d3 (c - ids.length) (by rw [List.mem_range, ← hb.1]; omega)
                     have hnl : id + (c - ids.length) ∉ lent := fun hm => by
                       obtain ⟨kb, hkb⟩ := Option.isSome_iff_exists.1 (hlive _ hm)
                       exact free_not_get hfr hkb
                     unfold lenAt at hn
                     rw [nkill_other hnl] at hn
                     unfold nfree at hfr
                     split at hfr
                     · rename_i hs2; rw [hs2] at hn; cases hn
                     · cases hfr
                 · refine ⟨hb.1, fun j s s' hj hj' => ?_⟩
                   have hs := hb.2 j s s' hj hj'
                   cases hs with
                   | free => exact .dead
                   | dead => exact .dead
                   | gone => exact absurd hj (hng j)
                   | live kb k hk3 => exact .live _ _ (blk_ren hkeep hk3)
           · cases hk
     · cases h
 · cases h
end
end NM
end Go.Proofs.YtjngkfdclcgfhaaGreatDoor
end
section
namespace Go.Proofs.YtjngkfdclcgfhaaGreatDoor
namespace NM
open AM
section
variable {ω : Type} {hp : NHeap} {ahp : Heap} {r : ω} {K : Oracle} {T : List Ent}
theorem sees_rel {base : Nat} {sees : Sees} {v : NVal} {a : AVal} (h : RT hp v a) (hv : v ≠ .undef) : nseesB base sees v = seesB base sees a := by
 unfold nseesB seesB
 cases h with
 | undef => exact absurd rfl hv
 | v h => rw [h.own]
 | tup cs ds h => rfl
theorem view_cell {d : Nat} {v : NVal} {p : NVal × List Nat} (h : nviewP hp d v = some p) : ncellB v = true := by
 cases v <;> first | rfl | (cases d <;> simp [nviewP, nimmP] at h)
theorem argView_undef {m : Bool} {p : NVal × List Nat} (h : nargView hp (m, .undef) = some p) : False := by
 cases m <;> simp [nargView, nviewV, nviewP, nimmP, nisV, DEEP] at h
theorem allOn_mem {α γ : Type} {f : α → Option (γ × List Nat)} : ∀ {xs : List α} {p : List γ × List Nat}, allOn f xs = some p → ∀ x ∈ xs, ∃ q, f x = some q
 | [], _, _, x, hx => by cases hx
 | y :: ys, p, h, x, hx => by
   simp only [allOn] at h
   split at h
   · rename_i q hq
     split at h
     · rename_i q' hq'
       cases hx with
       | head => exact ⟨_, hq⟩
       | tail _ hx => exact allOn_mem hq' x hx
     · cases h
   · cases h
theorem RC.immC_eq {v : NVal} {a : AVal} (h : RC hp v a) : nimmC v = a.immC ∧ (nimmC v = true → RI v a) := by
 cases h with
 | p h =>
   cases h with
   | ro h => cases h with
     | fn f cap cap' hl hc =>
       refine ⟨?_, fun _ => .fn f cap cap' hl hc⟩
       show cap.all nimmP = cap'.all AVal.immP
       exact all_imm_eq (hp := hp) ⟨hl, fun j c d h1 h2 => .ro (hc j c d h1 h2)⟩
     | _ => first | exact ⟨rfl, fun _ => by assumption⟩ | exact ⟨rfl, fun _ => by constructor <;> assumption⟩ | exact ⟨rfl, fun _ => by constructor⟩
   | _ => exact ⟨rfl, fun h => by cases h⟩
 | fn f cap cap' hc =>
   refine ⟨all_imm_eq hc, fun hi => .fn f cap cap' hc.1 fun j c d h1 h2 => ((hc.2 j c d h1 h2).imm ?_).1⟩
   have : cap.all nimmP = true := hi
   rw [List.all_eq_true] at this
   exact this c (List.mem_of_getElem? h1)
theorem A2.all_eq {α β : Type} {R : α → β → Prop} {p : α → Bool} {q : β → Bool} (hR : ∀ x y, R x y → p x = q y) : ∀ {xs : List α} {ys : List β}, A2 R xs ys → xs.all p = ys.all q
 | [], ys, h => by rw [h.nil_inv]; rfl
 | x :: xs, ys, h => by
   obtain ⟨y, ys', rfl, h1, h2⟩ := h.cons_inv
   simp only [List.all_cons]
   rw [hR x y h1, A2.all_eq hR h2]
theorem nfillS_len {ρ : Opd → NVal} {e : Nat} : ∀ {parts : List (Nat × Opd)} {xs xs' : List (List NVal)}, nfillS ρ e xs parts = some xs' → xs'.length = xs.length
 | [], xs, xs', h => by simp [nfillS] at h; rw [h]
 | (i, x) :: rest, xs, xs', h => by
   simp only [nfillS] at h
   split at h
   · rw [nfillS_len h]; simp
   · cases h
theorem chunks_rel {e : Nat} : ∀ {n : Nat} {cs : List NVal} {ds : List AVal}, A2 RI cs ds → A2 (A2 RI) (neff0.nchunks e n cs) (chunks e n ds)
 | 0, _, _, _ => .nil
 | n + 1, cs, ds, h => by
   simp only [neff0.nchunks, chunks]
   exact .cons (h.take e) (chunks_rel (h.drop e))
theorem new_rel {b : Nat} {kb : NBlk} {k : AM.Blk} (hh : RH hp ahp) (hf : nfree hp b = true) (hb : RB (hp.set b (.live kb)) kb k) : RH (hp.set b (.live kb)) (ahp.set b (.live k)) :=
 hh.set (Evo.set_new hf) (.live _ _ hb)
theorem new_len {b : Nat} {kb : NBlk} (hf : nfree hp b = true) : lenAt (hp.set b (.live kb)) b kb.len := by
 rw [lenAt_set, if_pos ⟨rfl, nfree_lt hf⟩]
theorem neff0_sound (hT : ∀ e ∈ T, EntOk K e) (hh : RH hp ahp) {base : Nat} {o : AOper} {hint : Option Ty} {ρ : Opd → NVal} {aρ : Opd → AVal} (hρ : ∀ x, RT hp (ρ x) (aρ x)) {k : NVal → NHeap → Option ω} (h : neff0 T base o hint ρ hp k = some r) :
   ∃ v c hp' ahp', eff0 K base o aρ ahp = some (c, ahp') ∧ RT hp' v c ∧ RH hp' ahp' ∧ Evo hp hp' ∧ k v hp' = some r := by
 unfold neff0 at h
 unfold eff0
 split at h
 · rename_i hpu
   rw [if_pos hpu]
   obtain ⟨v, c, h1, h2, h3⟩ := npure_sound hρ h
   exact ⟨v, c, hp, ahp, by rw [h1]; rfl, h2, hh, .refl _, h3⟩
 · rename_i hpu
   rw [if_neg hpu]
   split at h
   · -- box
     rename_i n x ho
     rw [ho]
     simp only [isNew, if_true]
     split at h
     · rename_i hc
       obtain ⟨hf, h1, h2⟩ := hc
       obtain ⟨h3, h4⟩ := (hρ x).cells h2
       rw [if_pos (hh.free hf)]
       simp only [newOp]
       rw [if_pos ⟨by rw [← h3.1]; exact h1, h4⟩]
       have e := Evo.set_new (s := .live (.cells n false [ncellsOf (ρ x)])) hf
       exact ⟨_, _, _, _, rfl, (RP.ptr _ _ _).rt, new_rel (kb := .cells n false [ncellsOf (ρ x)]) hh hf ⟨rfl, rfl, fun h => (by cases h), fun _ => A2.single (h3.mono fun _ _ h => h.mono e)⟩, e, h⟩
     · cases h
   · -- alloc
     rename_i zero ho
     rw [ho]
     simp only [isNew, if_true]
     split at h
     · rename_i hf
       split at h
       · rename_i zs hz
         have h3 := nzero_rel (hp := hp) hz
         rw [if_pos (hh.free hf)]
         simp only [newOp]
         have e := Evo.set_new (s := .live (.cells zs.length false [zs])) hf
         exact ⟨_, _, _, _, rfl, (RP.ptr _ _ _).rt, new_rel (kb := .cells zs.length false [zs]) hh hf ⟨h3.1.symm, rfl, fun h => (by cases h), fun _ => A2.single (h3.mono fun _ _ h => h.c)⟩, e, h⟩
       · cases h
     · cases h
   · -- buildSlice
     rename_i e len flat zero parts ho
     rw [ho]
     simp only [isNew, if_true]
     split at h
     · rename_i hf
       split at h
       · rename_i xs hx
         simp only [Option.bind_eq_some_iff] at hx
         obtain ⟨zs, hz, hx⟩ := hx
         have h3 := nzero_rel (hp := hp) hz
         obtain ⟨ys, h4, h5⟩ := fillS_rel hρ hx (A2.replicate len (h3.mono fun _ _ h => RI.c (hp := hp) h))
         have hl := nfillS_len hx
         rw [List.length_replicate] at hl
         rw [if_pos (hh.free hf)]
         simp only [newOp, h4]
         have heq : (xs.all fun x => x.all nimmC) = ys.all fun x => x.all AVal.immC := A2.all_eq (p := fun x => x.all nimmC) (q := fun x => x.all AVal.immC) (fun x y hxy => A2.all_eq (p := nimmC) (q := AVal.immC) (fun c d hcd => (RC.immC_eq hcd).1) hxy) h5
         have e1 := Evo.set_new (s := .live (.cells e (flat && xs.all (·.all nimmC)) xs)) hf
         refine ⟨_, _, _, _, rfl, (RP.slw (base + o.at_) e len ?_).rt, new_rel (kb := .cells e (flat && xs.all (·.all nimmC)) xs) hh hf ⟨rfl, by rw [heq], fun hfl => ?_, fun _ => h5.mono fun _ _ h => h.mono fun _ _ h => h.mono e1⟩, e1, h⟩
         · have := new_len (kb := .cells e (flat && xs.all (·.all nimmC)) xs) hf
           rw [show (NBlk.cells e (flat && xs.all (·.all nimmC)) xs).len = len from hl] at this
           exact this
         · simp only [Bool.and_eq_true, List.all_eq_true] at hfl
           refine ⟨h5.1, fun i x y hi hj => ?_⟩
           have hxy := h5.2 i x y hi hj
           exact ⟨hxy.1, fun j c d hc hd => (RC.immC_eq (hxy.2 j c d hc hd)).2 (hfl.2 x (List.mem_of_getElem? hi) c (List.mem_of_getElem? hc))⟩
       · cases h
     · cases h
   · -- makeSlice
     rename_i e bytes flat zero len cap ho
     rw [ho]
     simp only [isNew, if_true]
     split at h
     · rename_i t
       split at h
       · rename_i hc
         obtain ⟨hf, rfl, he⟩ := hc
         split at h
         · rename_i z hz
           simp only [Option.bind_eq_some_iff] at hz
           obtain ⟨zs, hz, hz2⟩ := hz
           have h3 := nzero_rel (hp := hp) hz
           have h4 := (good t).2.1 _ _ _ hz2 h3
           obtain ⟨l, hl, h⟩ := nidx_inv h (hρ len)
           obtain ⟨c, hc, h⟩ := nidx_inv h (hρ cap)
           obtain ⟨hb, h⟩ := cond_some h
           simp only [Bool.and_eq_true, decide_eq_true_eq] at hb
           rw [if_pos (hh.free hf)]
           simp only [newOp, hl, hc]
           rw [if_pos hb]
           have e1 := Evo.set_new (s := .live (.typed t (List.replicate l z))) hf
           refine ⟨_, _, _, _, rfl, (RP.slw (base + o.at_) e l ?_).rt, new_rel (kb := .typed t (List.replicate l z)) hh hf ⟨he, rfl, A2.replicate l h4⟩, e1, h⟩
           have := new_len (kb := .typed t (List.replicate l z)) hf
           rw [show (NBlk.typed t (List.replicate l z)).len = l from List.length_replicate] at this
           exact this
         · cases h
       · cases h
     · split at h
       · rename_i hf
         split at h
         · rename_i zs hz
           have h3 := nzero_rel (hp := hp) hz
           obtain ⟨l, hl, h⟩ := nidx_inv h (hρ len)
           obtain ⟨c, hc, h⟩ := nidx_inv h (hρ cap)
           obtain ⟨hb, h⟩ := cond_some h
           simp only [Bool.and_eq_true, decide_eq_true_eq] at hb
           rw [if_pos (hh.free hf)]
           simp only [newOp, hl, hc]
           rw [if_pos hb]
           have e1 := Evo.set_new (s := .live (.cells e flat (List.replicate l zs))) hf
           refine ⟨_, _, _, _, rfl, (RP.slw (base + o.at_) e l ?_).rt, new_rel (kb := .cells e flat (List.replicate l zs)) hh hf ⟨rfl, rfl, fun _ => A2.replicate l h3, fun _ => A2.replicate l (h3.mono fun _ _ h => h.c)⟩, e1, h⟩
           have := new_len (kb := .cells e flat (List.replicate l zs)) hf
           rw [show (NBlk.cells e flat (List.replicate l zs)).len = l from List.length_replicate] at this
           exact this
         · cases h
       · cases h
   · -- load
     rename_i agg n a ho
     rw [ho]
     simp only [isNew, Bool.false_eq_true, if_false]
     split at h
     · rename_i hs
       have hu : ρ a ≠ .undef := fun e => by rw [e] at h; simp [nloadV, nload, nstrV] at h
       obtain ⟨u, c, h1, h2, h3⟩ := nloadV_sound hh h (hρ a)
       rw [sees_rel (hρ a) hu] at hs
       rw [if_pos hs, h1]
       exact ⟨u, c, hp, ahp, rfl, h2, hh, .refl _, h3⟩
     · cases h
   · -- store
     rename_i n a x ho
     rw [ho]
     simp only [isNew, Bool.false_eq_true, if_false]
     split at h
     · rename_i hs
       have hu : ρ a ≠ .undef := fun e => by rw [e] at h; simp [nstore] at h
       have hu2 : ρ x ≠ .undef := fun e => by
         rw [e] at h
         unfold nstore at h
         split at h
         · split at h
           · rw [if_neg (by simp [ncellsOf, ncellB])] at h; cases h
           · cases h
         · cases h
       obtain ⟨hp', ahp', h1, h2, h3, h4⟩ := nstore_sound hh h (hρ a) (hρ x)
       rw [sees_rel (hρ a) hu, sees_rel (hρ x) hu2] at hs
       rw [if_pos hs, h1]
       exact ⟨.undef, .undef, hp', ahp', rfl, .undef _, h2, h3, h4⟩
     · cases h
   · -- append
     rename_i e bytes flat s x ho
     rw [ho]
     simp only [isNew, Bool.false_eq_true, if_false]
     split at h
     · rename_i hs
       have hu2 : ρ x ≠ .undef := fun e => by rw [e] at h; simp [nappend, nappended] at h
       have hu : ρ s ≠ .undef := fun e => by
         rw [e] at h
         unfold nappend at h
         obtain ⟨els, ys, h1, h2, h3, h4⟩ := nappended_sound hh h (hρ x)
         split at h4
         · cases h4
         · split at h4 <;> cases h4
       rw [sees_rel (hρ s) hu, sees_rel (hρ x) hu2] at hs
       rw [if_pos hs]
       exact nappend_sound hh h (hρ s) (hρ x)
     · cases h
   · -- sliceArr
     rename_i len e x ho
     rw [ho]
     simp only [isNew, Bool.false_eq_true, if_false]
     split at h
     · rename_i hs
       split at h
       · rename_i cs off l hv
         split at h
         · rename_i hle
           have hcb := view_cell hv
           have hu : ρ x ≠ .undef := fun e => by rw [e] at hcb; cases hcb
           obtain ⟨u', h1, h2⟩ := view_rel hh hv ((hρ x).cell hcb)
           obtain ⟨ds, rfl, h3⟩ := h2.iptr_inv
           rw [sees_rel (hρ x) hu] at hs
           rw [if_pos hs]
           unfold sliceArrVal
           rw [h1]
           simp only
           rw [if_pos (by rw [← h3.1]; exact hle)]
           exact ⟨_, _, _, _, rfl, (RI.mk_rows (chunks_rel (h3.drop off))).rt, kill_rel hh, nkill_evo _ _, h⟩
         · cases h
       · cases h
     · cases h
   · -- call
     rename_i f args quiet room ho
     rw [ho]
     simp only [isNew, Bool.false_eq_true, if_false]
     split at h
     · rename_i hs
       have hu : ρ f ≠ .undef := fun e => by rw [e] at h; simp [ncall] at h
       have hargs : A2 (fun (p : Bool × NVal) (q : Bool × AVal) => p.1 = q.1 ∧ RT hp p.2 q.2) (args.map fun (m, x) => (m, ρ x)) (args.map fun (m, x) => (m, aρ x)) := by
         refine ⟨by simp, fun j p q h1 h2 => ?_⟩
         simp only [List.getElem?_map, Option.map_eq_some_iff] at h1 h2
         obtain ⟨a1, e1, rfl⟩ := h1
         obtain ⟨a2, e2, rfl⟩ := h2
         rw [e1] at e2
         cases e2
         exact ⟨rfl, hρ _⟩
       have hua : ∀ a ∈ args, ρ a.2 ≠ .undef := fun a ha e => by
         unfold ncall at h
         split at h
         · split at h
           · cases h
           · rename_i hvs
             obtain ⟨q, hq⟩ := allOn_mem hvs (a.1, ρ a.2) (List.mem_map.2 ⟨a, ha, rfl⟩)
             rw [e] at hq
             exact argView_undef hq
         · cases h
       have hs2 : (args.all fun (_, x) => seesB base o.sees (aρ x)) = true := by
         rw [List.all_eq_true]
         intro a ha
         have := List.all_eq_true.1 hs.2 a ha
         simp only at this ⊢
         rw [← sees_rel (hρ a.2) (hua a ha)]
         exact this
       rw [if_pos ⟨by rw [← sees_rel (hρ f) hu]; exact hs.1, hs2⟩]
       exact ncall_sound hT hh (hρ f) hargs h
     · cases h
   · cases h
set_option maxHeartbeats 2000000 in
theorem touch_rel (hh : RH hp ahp) {base : Nat} {o : AOper} {hint : Option Ty} {ρ : Opd → NVal} {aρ : Opd → AVal} (hρ : ∀ x, RT hp (ρ x) (aρ x)) {k : NVal → NHeap → Option ω} (h : neff0 T base o hint ρ hp k = some r) :
   ntouchL hp o.op ρ = touchL ahp o.op aρ := by
 unfold neff0 at h
 cases ho : o.op with
 | store n a x =>
   rw [ho] at h
   simp only [isPure, Bool.false_eq_true, if_false] at h
   split at h
   case isFalse => cases h
   unfold nstore at h
   split at h
   case h_2 => cases h
   rename_i bb i f hv
   have hp1 := hρ a
   rw [hv] at hp1
   have e1 := hp1.ptr_inv
   simp only [ntouchL, touchL, nstoreL, storeL, hv, e1]
   split at h
   case h_2 => cases h
   rename_i kb hkb
   obtain ⟨kk, hk, hrb⟩ := hh.get hkb
   first
   | (rw [hkb, hk]; simp only)
   | simp only [hk]
   | fail
   split at h
   case isFalse => cases h
   rename_i hc
   obtain ⟨c1, c2⟩ := (hρ x).cells hc.2
   split at h
   case h_2 => cases h
   rename_i us hp1 hst
   rw [RB.flat hrb]
   unfold nsettle at hst
   split at hst
   · rename_i hf
     split at hst
     case h_2 => cases hst
     rename_i us1 l hus
     obtain ⟨bs, hg, hrus⟩ := allOn_rel (R := RC hp) (R' := RI) (g := viewP ahp DEEP) (fun x y u l hxy hx => view_rel hh hx hxy) hus c1
     first
     | rw [if_pos hf, if_pos hf, hus, hg]
     | rw [if_pos hf, if_pos hf, hg]
     | fail
   · rename_i hf
     rw [if_neg hf, if_neg hf]
 | sliceArr len e x =>
   rw [ho] at h
   simp only [isPure, Bool.false_eq_true, if_false] at h
   split at h
   case isFalse => cases h
   split at h
   case h_2 => cases h
   rename_i cs off l hv
   obtain ⟨u', h1, h2⟩ := view_rel hh hv ((hρ x).cell (view_cell hv))
   simp only [ntouchL, touchL, hv, h1]
 | call f args quiet room =>
   rw [ho] at h
   simp only [isPure, Bool.false_eq_true, if_false] at h
   split at h
   case isFalse => cases h
   have hargs : A2 (fun (p : Bool × NVal) (q : Bool × AVal) => p.1 = q.1 ∧ RT hp p.2 q.2) (args.map fun (m, x) => (m, ρ x)) (args.map fun (m, x) => (m, aρ x)) := by
     refine ⟨by simp, fun j p q h1 h2 => ?_⟩
     simp only [List.getElem?_map, Option.map_eq_some_iff] at h1 h2
     obtain ⟨a1, e1, rfl⟩ := h1
     obtain ⟨a2, e2, rfl⟩ := h2
     rw [e1] at e2
     cases e2
     exact ⟨rfl, hρ _⟩
   unfold ncall at h
   split at h
   case h_2 => cases h
   rename_i fn cap hv
   have hf := hρ f
   rw [hv] at hf
   obtain ⟨cap', hfe, hcap⟩ := hf.fn_inv
   split at h
   case h_1 => cases h
   rename_i vs lent hvs
   obtain ⟨vs', hvs', hrv⟩ := allOn_rel (R := fun (p : Bool × NVal) (q : Bool × AVal) => p.1 = q.1 ∧ RT hp p.2 q.2) (R' := RV hp) (g := argView ahp) (fun x y u l hxy hx => argView_rel hh hxy hx) hvs hargs
   have hall : A2 (RV hp) (vs ++ cap) (vs' ++ cap') := hrv.append (hcap.mono fun _ _ h => .c (.p h))
   have hroots : ((vs ++ cap).flatMap fun v => (skV v).ownV) = (vs' ++ cap').flatMap AVal.ownV := A2.flatMap_eq (fun x y hxy => hxy.own) hall
   simp only at h
   split at h
   case isFalse => cases h
   rename_i hc
   obtain ⟨c1, c2, c3, c4, c5, c6⟩ := hc
   simp only [ntouchL, touchL, ncallL, callL, hv, hfe, hvs, hvs']
   rw [hroots] at c6 ⊢
   rcases c6 with c6 | c6
   · rw [List.isEmpty_iff.1 c6, reach_nil, reach_nil]
     rfl
   · obtain ⟨r1, r2⟩ := hh.reach1 _ (by rw [← hroots]; exact c4) c6
     have ho : ∀ l : List Nat, (∀ b ∈ l, ownsAt (skH hp) b = ownsAt ahp b) → l.flatMap (ownsAt (skH hp)) = l.flatMap (ownsAt ahp) := fun l hl => by
       rw [List.flatMap_def, List.flatMap_def]
       congr 1
       exact List.map_congr_left hl
     rw [ho _ r2, r1]
 | _ => rfl
theorem neff_sound (hT : ∀ e ∈ T, EntOk K e) (hh : RH hp ahp) {base : Nat} {o : AOper} {hint : Option Ty} {ρ : Opd → NVal} {aρ : Opd → AVal} (hρ : ∀ x, RT hp (ρ x) (aρ x)) {k : NVal → NHeap → Option ω} (h : neff T base o hint ρ hp k = some r) :
   ∃ v c hp' ahp', effOp K base o aρ ahp = some (c, ahp') ∧ RT hp' v c ∧ RH hp' ahp' ∧ Evo hp hp' ∧ k v hp' = some r := by
 unfold neff at h
 cases ht : ntightOk base o ρ hp with
 | false => rw [ht] at h; cases h
 | true =>
   rw [ht] at h
   simp only [cond_true] at h
   unfold effOp
   have : tightOk base o aρ ahp = true := by
     unfold ntightOk at ht
     unfold tightOk
     rw [← touch_rel hh hρ h]
     exact ht
   rw [if_pos this]
   exact neff0_sound hT hh hρ h
structure SR (st : NSt) (ast : St) : Prop where
 tmps : A2 (RT st.heap) st.tmps ast.tmps
 heap : RH st.heap ast.heap
 k : ast.k = st.k
theorem set_same {l : List NVal} {t : Nat} {v : NVal} (h : l.getD t .undef = v) (hv : v ≠ .undef) : l.set t v = l := by
 apply List.ext_getElem?
 intro j
 rw [List.getElem?_set]
 split
 · rename_i e
   subst e
   rw [List.getD_eq_getElem?_getD] at h
   cases hj : l[t]? with
   | none => rw [hj] at h; exact absurd h.symm hv
   | some x =>
     rw [hj] at h
     rw [if_pos (List.getElem?_eq_some_iff.1 hj).1, ← h]
     rfl
 · rfl
theorem nset_frame {tmps : List NVal} {d : Option Nat} {v : NVal} {t : Nat} (h : d ≠ some t) : (nset tmps d v).getD t .undef = tmps.getD t .undef := by
 cases d with
 | none => rfl
 | some u =>
   simp only [nset, List.getD_eq_getElem?_getD]
   rw [List.getElem?_set_ne (fun e => h (by rw [e]))]
theorem nset_rel {tmps : List NVal} {atmps : List AVal} {d : Option Nat} {v : NVal} {c : AVal} (h : A2 (RT hp) tmps atmps) (hv : RT hp v c) : A2 (RT hp) (nset tmps d v) (setTmp atmps d c) := by
 cases d with
 | none => exact h
 | some t => exact h.set t hv
theorem oneOf_inv {i : Int} {k : Nat → Option ω} : ∀ {n : Nat}, oneOf i k n = some r → ∃ j : Nat, i = (j : Int) ∧ k j = some r
 | 0, h => by simp [oneOf] at h
 | n + 1, h => by
   simp only [oneOf] at h
   by_cases hi : i = (n : Int)
   · rw [decide_eq_true hi] at h
     exact ⟨n, hi, h⟩
   · rw [decide_eq_false hi] at h
     exact oneOf_inv (n := n) h
theorem nsplit_inv {tmps : List NVal} {s : Option (Nat × Nat)} {k : List NVal → Option ω} (h : nsplit tmps s k = some r) : k tmps = some r := by
 unfold nsplit at h
 split at h
 · exact h
 · rename_i t n
   split at h
   · rename_i kd i hi
     obtain ⟨j, hj, hk⟩ := oneOf_inv h
     subst hj
     rw [set_same hi (by simp)] at hk
     exact hk
   · cases h
theorem nop_sound (hT : ∀ e ∈ T, EntOk K e) {base : Nat} {hints : List Hint} {o : AOper} {st : NSt} {ast : St} (hs : SR st ast) {k : NSt → Option ω} (h : nop T base hints o st k = some r) :
   ∃ st' ast', runOp K base o ast = some ast' ∧ SR st' ast' ∧ k st' = some r ∧ (∀ t, o.dst ≠ some t → st'.tmps.getD t .undef = st.tmps.getD t .undef) ∧ st'.k = st.k ∧ st'.tmps.length = st.tmps.length := by
 have eff : ∀ {k : NVal → NHeap → Option ω}, neff T base o (hintOf hints o.dst) (nlook st.tmps) st.heap k = some r → ∃ v h c ahp, effOp K base o (AM.look ast.tmps) ast.heap = some (c, ahp) ∧ SR ⟨nset st.tmps o.dst v, h, st.k⟩ ⟨setTmp ast.tmps o.dst c, ahp, ast.k⟩ ∧ k v h = some r := fun hk => by
   obtain ⟨v, c, hp', ahp', h1, h2, h3, h4, h5⟩ := neff_sound hT hs.heap (nlook_rel hs.tmps) hk
   exact ⟨v, hp', c, ahp', h1, ⟨nset_rel (hs.tmps.mono fun _ _ h => h.mono h4) h2, h3, hs.k⟩, h5⟩
 have nlen : ∀ v, (nset st.tmps o.dst v).length = st.tmps.length := fun v => by cases o.dst <;> simp [nset]
 have skip : SR ⟨nset st.tmps o.dst (.tup []), st.heap, st.k⟩ ⟨setTmp ast.tmps o.dst (.tup []), ast.heap, ast.k⟩ := ⟨nset_rel hs.tmps (.tup _ _ .nil), hs.heap, hs.k⟩
 unfold nop at h
 unfold runOp
 split at h
 · rename_i hg
   rw [hg]
   obtain ⟨v, hp', c, ahp', h1, h2, h3⟩ := eff (nsplit_inv h)
   exact ⟨_, _, by simp only [h1]; rfl, h2, h3, fun t ht => nset_frame ht, rfl, nlen _⟩
 · rename_i t want hg
   rw [hg]
   have hrt := hs.tmps.getD (RT.undef .undef) t
   split at h
   · rename_i b hb
     rw [hb] at hrt
     simp only [hrt.bool_inv]
     rw [show cond b = fun (x y : Option ω) => cond b x y from rfl] at h
     cases b with
     | true =>
       simp only [cond_true] at h
       rw [set_same hb (by simp)] at h
       cases want with
       | true =>
         simp only [cond_true] at h
         obtain ⟨v, hp', c, ahp', h1, h2, h3⟩ := eff (nsplit_inv h)
         exact ⟨_, _, by simp only [if_true, h1]; rfl, h2, h3, fun t ht => nset_frame ht, rfl, nlen _⟩
       | false =>
         simp only [cond_false] at h
         exact ⟨_, _, by rw [if_neg (by simp)], skip, h, fun t ht => nset_frame ht, rfl, nlen _⟩
     | false =>
       simp only [cond_false] at h
       rw [set_same hb (by simp)] at h
       cases want with
       | true =>
         simp only [cond_true] at h
         exact ⟨_, _, by rw [if_neg (by simp)], skip, h, fun t ht => nset_frame ht, rfl, nlen _⟩
       | false =>
         simp only [cond_false] at h
         obtain ⟨v, hp', c, ahp', h1, h2, h3⟩ := eff (nsplit_inv h)
         exact ⟨_, _, by simp only [if_true, h1]; rfl, h2, h3, fun t ht => nset_frame ht, rfl, nlen _⟩
   · rename_i hb
     rw [hb] at hrt
     obtain ⟨ds, e, hd⟩ := hrt.tup_inv
     rw [hd.nil_inv] at e
     simp only [e]
     exact ⟨_, _, rfl, skip, h, fun t ht => nset_frame ht, rfl, nlen _⟩
   · cases h
theorem nops_sound (hT : ∀ e ∈ T, EntOk K e) {base : Nat} {hints : List Hint} : ∀ {os : List AOper} {st : NSt} {ast : St} {k : NSt → Option ω}, SR st ast → nops T base hints os st k = some r →
   ∃ st' ast', runOps K base os ast = some ast' ∧ SR st' ast' ∧ k st' = some r ∧ (∀ t, (∀ o ∈ os, o.dst ≠ some t) → st'.tmps.getD t .undef = st.tmps.getD t .undef) ∧ st'.k = st.k ∧ st'.tmps.length = st.tmps.length
 | [], st, ast, k, hs, h => ⟨st, ast, rfl, hs, h, fun _ _ => rfl, rfl, rfl⟩
 | o :: os, st, ast, k, hs, h => by
   simp only [nops] at h
   obtain ⟨st1, ast1, h1, h2, h3, h4, h5, h6⟩ := nop_sound hT hs h
   obtain ⟨st2, ast2, g1, g2, g3, g4, g5, g6⟩ := nops_sound hT h2 h3
   exact ⟨st2, ast2, by simp only [runOps, h1, Option.bind_some, g1], g2, g3, fun t ht => (g4 t fun o ho => ht o (List.mem_cons_of_mem _ ho)).trans (h4 t (ht o List.mem_cons_self)), g5.trans h5, g6.trans h6⟩
end
end NM
end Go.Proofs.YtjngkfdclcgfhaaGreatDoor
end
