/-
  Calls of both machines.
-/
import Derived.Test.YtfelhbeiegppgaaNmI
set_option linter.unusedVariables false
set_option linter.unusedSimpArgs false
namespace Go.Proofs.Ytfelhbeiegppgaa
namespace NM
open AM

/-- a function's plain form is what it does in the abstract machine -/
def EntOk (K : Oracle) (e : Ent) : Prop := ∀ x h y, e.F x h = some y → ∀ args ahp, A2 (RV (putH e.sig.heap h)) (puts e.sig.args x) args → RH (putH e.sig.heap h) ahp →
  ∃ r' back', K e.f args ahp = some (r', back') ∧ RTs (yH e.sig.res e.sig.more y) (yV e.sig.res e.sig.more y) r' ∧ RH (yH e.sig.res e.sig.more y) back'

theorem putH_noGone : ∀ {l : List HS} {x : denH l}, noGone (putH l x)
  | [], x => fun b h => by simp [putH] at h
  | h :: l, x => fun b hb => by
    simp only [putH] at hb
    cases b with
    | zero => simp at hb; cases h <;> cases hb
    | succ b => exact putH_noGone (l := l) b (by simpa using hb)
theorem outH_noGone {r : Sh} {l : List HS} {y : denO r l} : noGone (outH r l y) := by
  cases l with
  | nil => exact fun b h => by simp [outH] at h
  | cons h l => exact putH_noGone
theorem yK_eq {ω : Type} : ∀ (o : OSh) (l : List OSh) (k : NVal → NHeap → Option ω) (y : denY o l), yK o l k y = k (yV o l y) (yH o l y)
  | o, [], k, y => rfl
  | o, p :: l, k, .inl y => rfl
  | o, p :: l, k, .inr y => by
    simp only [yK, yV, yH, Sum.elim_inr]
    exact yK_eq p l k y
theorem yH_noGone : ∀ (o : OSh) (l : List OSh) (y : denY o l), noGone (yH o l y)
  | o, [], y => outH_noGone
  | o, p :: l, .inl y => outH_noGone
  | o, p :: l, .inr y => by
    simp only [yH]
    exact yH_noGone p l y

section
variable {ω : Type} {hp : NHeap} {ahp : Heap} {r : ω} {K : Oracle} {T : List Ent}

theorem ncallT_sound : ∀ {T : List Ent}, (∀ e ∈ T, EntOk K e) → ∀ {f : Nat} {vs : List NVal} {args : List AVal} {k : NVal → NHeap → Option ω}, ncallT T f vs hp k = some r → A2 (RV hp) vs args → RH hp ahp →
    ∃ r0 back r' back', K f args ahp = some (r', back') ∧ RTs back r0 r' ∧ RH back back' ∧ noGone back ∧ k r0 back = some r
  | [], _, f, vs, args, k, h, _, _ => by simp [ncallT] at h
  | e :: T, hT, f, vs, args, k, h, hv, hh => by
    have rest : ncallT T f vs hp k = some r → _ := fun h' => ncallT_sound (T := T) (fun e he => hT e (List.mem_cons_of_mem _ he)) h' hv hh
    simp only [ncallT] at h
    split at h
    · rename_i hf
      split at h
      · rename_i x hx
        split at h
        · rename_i hx2 hg
          simp only [Option.bind_eq_some_iff] at h
          obtain ⟨y, hy, hk⟩ := h
          rw [yK_eq] at hk
          obtain ⟨r', back', h1, h2, h3⟩ := hT e (by simp) x hx2 y hy args ahp ((gets_R get_RV hx hv).mono fun _ _ h => h.mono (getH_len hg)) (getH_rel hg hh)
          rw [hf] at h1
          exact ⟨_, _, r', back', h1, h2, h3, yH_noGone _ _ y, hk⟩
        · exact rest h
      · exact rest h
    · exact rest h

theorem RC.bare {v : NVal} {a : AVal} (h : RC hp v a) (hv : nbareC v = true) : a.bareC = true ∧ RI v a := by
  cases h with
  | fn => simp [nbareC] at hv
  | p h => cases h with
    | ro h => exact ⟨by cases h <;> first | rfl | simp [nbareC] at hv, h⟩
    | undef => simp [nbareC] at hv
    | ptr => simp [nbareC] at hv
    | sl => simp [nbareC] at hv
    | slw => simp [nbareC] at hv
theorem cells_bare {cs : List NVal} {ds : List AVal} (h : A2 (RC hp) cs ds) (hv : cs.all nbareC = true) : ds.all AVal.bareC = true ∧ A2 RI cs ds := by
  refine ⟨h.all_of (fun x y hxy hx => (hxy.bare hx).1) hv, h.1, fun j c d hc hd => ?_⟩
  rw [List.all_eq_true] at hv
  exact ((h.2 j c d hc hd).bare (hv _ (List.mem_of_getElem? hc))).2
theorem RV.bare {v : NVal} {a : AVal} (h : RV hp v a) (hv : nbareV v = true) : a.bareV = true ∧ ∀ hp', RV hp' v a := by
  cases h with
  | agg cs ds h =>
    obtain ⟨h1, h2⟩ := cells_bare h hv
    exact ⟨h1, fun hp' => .agg _ _ (h2.mono fun _ _ h => h.c)⟩
  | c h =>
    obtain ⟨n1, _, n2, _⟩ := h.not_agg
    have e1 : nbareV v = nbareC v := by
      cases v <;> first | rfl | exact absurd rfl (n1 _)
    have e2 : a.bareV = a.bareC := by
      cases a <;> first | rfl | exact absurd rfl (n2 _)
    rw [e1] at hv
    rw [e2]
    exact ⟨(h.bare hv).1, fun hp' => (h.bare hv).2.rv⟩
theorem RTs.bare {v : NVal} {a : AVal} (h : RTs hp v a) (hv : nbareT v = true) : a.bareT = true ∧ ∀ hp', RT hp' v a := by
  cases h with
  | undef => simp [nbareT, nbareV, nbareC] at hv
  | tup cs ds h =>
    refine ⟨A2.all_of (fun x y hxy hx => (hxy.bare hx).1) h hv, fun hp' => .tup _ _ ⟨h.1, fun j c d hc hd => ?_⟩⟩
    simp only [nbareT] at hv
    rw [List.all_eq_true] at hv
    exact ((h.2 j c d hc hd).bare (hv _ (List.mem_of_getElem? hc))).2 hp'
  | v h =>
    obtain ⟨n1, n2⟩ := h.not_tup
    have e1 : nbareT v = nbareV v := by
      cases v <;> first | rfl | exact absurd rfl (n1 _)
    have e2 : a.bareT = a.bareV := by
      cases a <;> first | rfl | exact absurd rfl (n2 _)
    rw [e1] at hv
    rw [e2]
    exact ⟨(h.bare hv).1, fun hp' => .v ((h.bare hv).2 hp')⟩

/-- of a value that is bare in the abstract machine nothing has a number -/
theorem RC.abare {v : NVal} {a : AVal} (h : RC hp v a) (ha : a.bareC = true) (f : Nat → Option Nat) : nrenC f v = v ∧ RI v a := by
  cases h with
  | fn => simp [AVal.bareC] at ha
  | p h => cases h with
    | ro h => cases h <;> first | (simp [AVal.bareC] at ha; done) | exact ⟨rfl, by first | exact .bool _ | exact .int _ _ | exact .str _ | exact .nilp | exact .zsl | exact .nilfn | exact .nili | exact .lst0 _ | exact .rows0 _⟩
    | undef => simp [AVal.bareC] at ha
    | ptr => simp [AVal.bareC] at ha
    | sl => simp [AVal.bareC] at ha
    | slw => simp [AVal.bareC] at ha
theorem map_id_of {α : Type} {f : α → α} : ∀ {l : List α}, (∀ x ∈ l, f x = x) → l.map f = l
  | [], _ => rfl
  | x :: l, h => by simp only [List.map_cons, h x (by simp), map_id_of (l := l) fun y hy => h y (by simp [hy])]
theorem cells_abare {cs : List NVal} {ds : List AVal} (h : A2 (RC hp) cs ds) (ha : ds.all AVal.bareC = true) (f : Nat → Option Nat) : cs.map (nrenC f) = cs ∧ A2 RI cs ds := by
  rw [List.all_eq_true] at ha
  refine ⟨map_id_of fun x hx => ?_, h.1, fun j c d hc hd => ((h.2 j c d hc hd).abare (ha _ (List.mem_of_getElem? hd)) f).2⟩
  obtain ⟨j, hj, rfl⟩ := List.getElem_of_mem hx
  obtain ⟨d, hd, hr⟩ := h.get (List.getElem?_eq_getElem hj)
  exact (hr.abare (ha _ (List.mem_of_getElem? hd)) f).1
theorem RV.abare {v : NVal} {a : AVal} (h : RV hp v a) (ha : a.bareV = true) (f : Nat → Option Nat) : nrenV f v = v ∧ ∀ hp', RV hp' v a := by
  cases h with
  | agg cs ds h =>
    obtain ⟨h1, h2⟩ := cells_abare h ha f
    exact ⟨by simp only [nrenV, h1], fun hp' => .agg _ _ (h2.mono fun _ _ h => h.c)⟩
  | c h =>
    obtain ⟨n1, _, n2, _⟩ := h.not_agg
    have e1 : nrenV f v = nrenC f v := by
      cases v <;> first | rfl | exact absurd rfl (n1 _)
    have e2 : a.bareV = a.bareC := by
      cases a <;> first | rfl | exact absurd rfl (n2 _)
    rw [e2] at ha
    rw [e1]
    exact ⟨(h.abare ha f).1, fun hp' => (h.abare ha f).2.rv⟩
theorem RTs.abare {v : NVal} {a : AVal} (h : RTs hp v a) (ha : a.bareT = true) (f : Nat → Option Nat) : nrenT f v = v ∧ (∀ hp', RT hp' v a) ∧ (skT v).ownT = [] := by
  have hown : (skT v).ownT = [] := by
    rw [h.own]
    have key : ∀ {c : AVal}, c.bareC = true → c.ownC = [] := fun {c} hc => by cases c <;> first | rfl | simp [AVal.bareC] at hc
    have key2 : ∀ {c : AVal}, c.bareV = true → c.ownV = [] := fun {c} hc => by
      cases c <;> first
        | rfl
        | (simp only [AVal.bareV] at hc; rw [List.all_eq_true] at hc; simp only [AVal.ownV, List.flatMap_eq_nil_iff]; exact fun x hx => key (hc x hx))
        | (simp [AVal.bareV, AVal.bareC] at hc; done)
    cases a <;> first
      | rfl
      | (simp only [AVal.bareT] at ha; rw [List.all_eq_true] at ha; simp only [AVal.ownT, List.flatMap_eq_nil_iff]; exact fun x hx => key2 (ha x hx))
      | (simp only [AVal.bareT, AVal.bareV] at ha; rw [List.all_eq_true] at ha; simp only [AVal.ownT, AVal.ownV, List.flatMap_eq_nil_iff]; exact fun x hx => key (ha x hx))
      | (simp [AVal.bareT, AVal.bareV, AVal.bareC] at ha; done)
  cases h with
  | undef => simp [AVal.bareT, AVal.bareV, AVal.bareC] at ha
  | tup cs ds h =>
    simp only [AVal.bareT] at ha
    rw [List.all_eq_true] at ha
    refine ⟨?_, fun hp' => .tup _ _ ⟨h.1, fun j c d hc hd => ((h.2 j c d hc hd).abare (ha _ (List.mem_of_getElem? hd)) f).2 hp'⟩, hown⟩
    simp only [nrenT]
    congr 1
    refine map_id_of fun x hx => ?_
    obtain ⟨j, hj, rfl⟩ := List.getElem_of_mem hx
    obtain ⟨d, hd, hr⟩ := h.get (List.getElem?_eq_getElem hj)
    exact (hr.abare (ha _ (List.mem_of_getElem? hd)) f).1
  | v h =>
    obtain ⟨n1, n2⟩ := h.not_tup
    have e1 : nrenT f v = nrenV f v := by
      cases v <;> first | rfl | exact absurd rfl (n1 _)
    have e2 : a.bareT = a.bareV := by
      cases a <;> first | rfl | exact absurd rfl (n2 _)
    rw [e2] at ha
    rw [e1]
    exact ⟨(h.abare ha f).1, fun hp' => .v ((h.abare ha f).2 hp'), hown⟩

theorem allOn_all {α γ : Type} {P : Nat → Prop} {f : α → Option (γ × List Nat)} (hf : ∀ x u l, f x = some (u, l) → ∀ b ∈ l, P b) : ∀ {xs : List α} {us : List γ} {l : List Nat}, allOn f xs = some (us, l) → ∀ b ∈ l, P b
  | [], us, l, h, b, hb => by simp [allOn] at h; rw [h.2] at hb; cases hb
  | x :: xs, us, l, h, b, hb => by
    simp only [allOn] at h
    split at h
    · rename_i u l1 hu
      split at h
      · rename_i us1 l2 hus
        cases h
        rcases List.mem_append.1 hb with hb | hb
        · exact hf _ _ _ hu b hb
        · exact allOn_all hf hus b hb
      · cases h
    · cases h
theorem view_alive : ∀ {d : Nat} {v u : NVal} {l : List Nat}, nviewP hp d v = some (u, l) → ∀ b ∈ l, (nget hp b).isSome = true
  | 0, v, u, l, h, b, hb => by
    simp only [nviewP] at h
    split at h
    · cases h; cases hb
    · cases h
  | d + 1, v, u, l, h, b, hb => by
    unfold nviewP at h
    split at h
    · rename_i heq; cases heq
    · rename_i d' b' e heq
      cases heq
      split at h
      · rename_i hk
        split at h
        · cases h; simp at hb; subst hb; rw [hk]; rfl
        · cases h
      · rename_i hk
        split at h
        · cases h; simp at hb; subst hb; rw [hk]; rfl
        · split at h
          · rename_i hus
            cases h
            rcases List.mem_cons.1 hb with hb | hb
            · subst hb; rw [hk]; rfl
            · exact allOn_all (fun x u l hx => allOn_all (fun x u l hx => view_alive hx) hx) hus b hb
          · cases h
      · cases h
    · rename_i d' b' i f heq
      cases heq
      split at h
      · rename_i hk
        split at h
        · split at h
          · cases h; simp at hb; subst hb; rw [hk]; rfl
          · split at h
            · rename_i hus
              cases h
              rcases List.mem_cons.1 hb with hb | hb
              · subst hb; rw [hk]; rfl
              · exact allOn_all (fun x u l hx => view_alive hx) hus b hb
            · cases h
        · cases h
      · cases h
    · rename_i d' f cap heq
      cases heq
      split at h
      · rename_i hus
        cases h
        exact allOn_all (fun x u l hx => view_alive hx) hus b hb
      · cases h
    · split at h
      · cases h; cases hb
      · cases h
theorem viewV_alive {d : Nat} {v u : NVal} {l : List Nat} (h : nviewV hp d v = some (u, l)) : ∀ b ∈ l, (nget hp b).isSome = true := by
  unfold nviewV at h
  split at h
  · split at h
    · rename_i hus
      cases h
      exact allOn_all (fun x u l hx => view_alive hx) hus
    · cases h
  · exact view_alive h
theorem argView_rel (hh : RH hp ahp) {p : Bool × NVal} {q : Bool × AVal} {u : NVal} {l : List Nat} (hpq : p.1 = q.1 ∧ RT hp p.2 q.2) (h : nargView hp p = some (u, l)) : ∃ u', argView ahp q = some (u', l) ∧ RV hp u u' := by
  obtain ⟨m, v⟩ := p
  obtain ⟨m', a⟩ := q
  obtain ⟨rfl, hr⟩ := hpq
  simp only at hr
  unfold nargView at h
  unfold argView
  simp only at h ⊢
  split at h
  · rename_i hm
    rw [if_pos hm]
    split at h
    · rename_i hv
      cases h
      cases hr with
      | undef a => cases hv
      | tup => cases hv
      | v hr => exact ⟨a, rfl, hr⟩
    · cases h
  · rename_i hm
    rw [if_neg hm]
    cases hr with
    | undef a => simp [nviewV, nviewP, DEEP, nimmP] at h
    | tup => simp [nviewV, nviewP, DEEP, nimmP] at h
    | v hr => exact viewV_rel hh h hr
theorem argView_alive {p : Bool × NVal} {u : NVal} {l : List Nat} (h : nargView hp p = some (u, l)) : ∀ b ∈ l, (nget hp b).isSome = true := by
  unfold nargView at h
  split at h
  · split at h
    · cases h; exact fun b hb => by cases hb
    · cases h
  · exact viewV_alive h

theorem reach_nil (h : Heap) : AM.reach h [] [] = [] := rfl

theorem ngone_kill : ∀ {l : List Nat} {hp : NHeap} {ahp : Heap}, RH hp ahp → (∀ b ∈ l, ahp.isFree b = false) → RH (nkill .gone hp l) ahp
  | [], _, _, h, _ => h
  | b :: l, hp, ahp, h, hf => by
    refine ngone_kill (l := l) ?_ (fun c hc => hf c (by simp [hc]))
    refine ⟨by simpa using h.1, fun j s s' hs hs' => ?_⟩
    rw [List.getElem?_set] at hs
    split at hs
    · rename_i hj
      split at hs
      · cases hs
        refine .gone _ fun e => ?_
        have := hf b (by simp)
        unfold Heap.isFree at this
        rw [hj, hs', e] at this
        cases this
      · cases hs
    · exact (h.2 j s s' hs hs').mono (.set_gone b)
theorem ngone_kill2 : ∀ {l : List Nat} {hp : NHeap} {ahp : Heap}, RH hp ahp → RH (nkill .gone hp l) (AM.kill ahp l)
  | [], _, _, h => h
  | b :: l, hp, ahp, h => by
    refine ngone_kill2 (l := l) (RH.set h (.set_gone b) (.gone _ (by simp)))

theorem lensOk_get : ∀ {ids : List Nat} {back : NHeap}, lensOk hp ids back = true → ∀ {c b : Nat} {s : NSlot}, ids[c]? = some b → back[c]? = some s → ∀ n, lenAt hp b n → slotLen s n
  | [], back, _, c, b, s, h, _, _, _ => by simp at h
  | b0 :: ids, [], _, c, b, s, _, h, _, _ => by simp at h
  | b0 :: ids, s0 :: back, h, c, b, s, hb, hs, n, hn => by
    simp only [lensOk, Bool.and_eq_true] at h
    cases c with
    | succ c => exact lensOk_get h.2 (by simpa using hb) (by simpa using hs) n hn
    | zero =>
      simp at hb hs
      subst hb
      subst hs
      have h1 := h.1
      cases hk : nget hp b0 with
      | none => rw [hk] at h1; simp at h1
      | some kb =>
        rw [hk] at h1
        cases s0 with
        | live kb' =>
          simp only [decide_eq_true_eq] at h1
          simp only [slotLen]
          rw [h1]; exact len_of hn hk
        | dead => trivial
        | gone => trivial
        | free => simp at h1

theorem RTs.mono {hp' : NHeap} (e : Evo hp hp') {v : NVal} {a : AVal} (h : RTs hp v a) : RTs hp' v a := by
  cases h with
  | undef => exact .undef
  | v h => exact .v (h.mono e)
  | tup c d h => exact .tup c d (h.mono fun _ _ k => k.mono e)

theorem nodupB_inj : ∀ {l : List Nat}, nodupB l = true → ∀ {i j x : Nat}, l[i]? = some x → l[j]? = some x → i = j
  | [], _, i, j, x, h, _ => by simp at h
  | a :: l, hn, i, j, x, hi, hj => by
    simp only [nodupB, Bool.and_eq_true, Bool.not_eq_true'] at hn
    cases i with
    | zero =>
      cases j with
      | zero => rfl
      | succ j =>
        simp at hi hj
        subst hi
        have := List.mem_of_getElem? hj
        have h2 := hn.1
        simp at h2
        exact absurd this h2
    | succ i =>
      cases j with
      | zero =>
        simp at hi hj
        subst hj
        have := List.mem_of_getElem? hi
        have h2 := hn.1
        simp at h2
        exact absurd this h2
      | succ j =>
        have := nodupB_inj hn.2 (i := i) (j := j) (x := x) (by simpa using hi) (by simpa using hj)
        omega
end

end NM
end Go.Proofs.Ytfelhbeiegppgaa
