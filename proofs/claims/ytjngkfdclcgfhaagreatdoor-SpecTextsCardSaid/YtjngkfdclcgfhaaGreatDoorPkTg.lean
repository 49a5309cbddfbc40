/-
  What the proof of SpecTexts leans on, part 7. (Many texts laid together by program.)
-/
import Derived.Test.YtjngkfdclcgfhaaGreatDoorPkTf
set_option linter.unnecessarySimpa false
set_option linter.unusedSimpArgs false
set_option linter.unusedVariables false
section
namespace Go.Proofs.YtjngkfdclcgfhaaGreatDoor
namespace AM
section
variable {P : Program} {μ μ' μ2 : Nat → Loc} {w w' : World} {S S' : Nat → Prop} {hp : Heap}
theorem VR.bareC {c : AVal} {v : Value} (h : VR μ w S c v) (hb : c.bareC = true) (μ0 : Nat → Loc) (w0 : World) (S0 : Nat → Prop) : VR μ0 w0 S0 c v := by
 cases c with
 | bool b => rw [h.bool_inv]; exact .imm _ _ (.bool _)
 | int k n => rw [h.int_inv]; exact .imm _ _ (.int _ _)
 | str s => obtain ⟨bs, rfl, rfl⟩ := h.str_inv; exact .imm _ _ (.str _)
 | nilp => rw [h.nilp_inv]; exact .imm _ _ .nilp
 | zsl => obtain ⟨A, rfl⟩ := h.zsl_inv; exact .imm _ _ (.zsl _)
 | nilfn => cases h.imm_of rfl; exact .imm _ _ .nilfn
 | nili => rw [h.nili_inv]; exact .imm _ _ .nili
 | fl n => rw [h.fl_inv]; exact .imm _ _ (.fl _)
 | cx a b => rw [h.cx_inv]; exact .imm _ _ (.cx _ _)
 | undef => simp [AVal.bareC] at hb
 | ptr b i f => simp [AVal.bareC] at hb
 | iptr cs o => simp [AVal.bareC] at hb
 | imm e xs => simp [AVal.bareC] at hb
 | sl b o l e => simp [AVal.bareC] at hb
 | fn f cap => simp [AVal.bareC] at hb
 | agg cs => simp [AVal.bareC] at hb
 | tup cs => simp [AVal.bareC] at hb
theorem VR.bareV {c : AVal} {v : Value} (h : VR μ w S c v) (hb : c.bareV = true) (μ0 : Nat → Loc) (w0 : World) (S0 : Nat → Prop) : VR μ0 w0 S0 c v := by
 cases c with
 | agg cs =>
   obtain ⟨a, rfl, hl, hc⟩ := h.agg_inv
   exact .agg cs a hl fun j c u hj hu => (hc j c u hj hu).bareC (List.all_eq_true.1 hb c (List.mem_of_getElem? hj)) μ0 w0 S0
 | _ => exact h.bareC hb μ0 w0 S0
theorem VR.bareT {c : AVal} {v : Value} (h : VR μ w S c v) (hb : c.bareT = true) (μ0 : Nat → Loc) (w0 : World) (S0 : Nat → Prop) : VR μ0 w0 S0 c v := by
 cases c with
 | tup cs =>
   obtain ⟨a, rfl, hl, hc⟩ := h.tup_inv
   exact .tup cs a hl fun j c u hj hu => (hc j c u hj hu).bareV (List.all_eq_true.1 hb c (List.mem_of_getElem? hj)) μ0 w0 S0
 | _ => exact h.bareV hb μ0 w0 S0
def after (μ μ' : Nat → Loc) (ids lent : List Nat) (id n : Nat) (b : Nat) : Loc :=
 match index ids b with
 | some j => μ' j
 | none => if id ≤ b ∧ b < id + (n - ids.length) then μ' (ids.length + (b - id)) else die μ lent b
theorem back_rep {ids lent : List Nat} {id : Nat} {back : Heap} (r : HRep μ w S hp) (hn : nodupB ids = true) (hlent : lent.all (fun b => !ids.contains b) = true) (halive : ids.all (fun b => (hp.get b).isSome) = true)
   (r' : HRep μ' w' S' back) (x : Ext (pick μ ids) (With S μ lent) w μ' S' w') (hlen : ids.length ≤ back.length) (hkeep : ∀ j, j < ids.length → pick μ ids j ≠ .free → μ' j = pick μ ids j ∨ μ' j = .dead)
   (hfree : (List.range (back.length - ids.length)).all (fun j => hp.isFree (id + j)) = true) :
   HRep (after μ μ' ids lent id back.length) w' S' (layBack (backTo ids id) (kill hp lent) 0 back) ∧ Ext μ S w (after μ μ' ids lent id back.length) S' w' ∧ Up μ (after μ μ' ids lent id back.length) ∧ Follows (backTo ids id) μ' (after μ μ' ids lent id back.length) := by
 have hlent : ∀ b, b ∈ lent → b ∉ ids := fun b hb => by have := List.all_eq_true.1 hlent b hb; simpa using this
 have halive : ∀ b, b ∈ ids → (hp.get b).isSome = true := fun b hb => List.all_eq_true.1 halive b hb
 have hfree : ∀ i, i < back.length - ids.length → hp.isFree (id + i) = true := fun i hi => List.all_eq_true.1 hfree i (by simpa using hi)
 have hdis : ∀ b i, b ∈ ids → i < back.length - ids.length → b ≠ id + i := fun b i hb hi e => by
   have h1 := halive b hb
   have h2 := Heap.free_get (hfree i hi)
   rw [e, h2] at h1
   cases h1
 -- the new numbers
 have rnlt : ∀ {j b}, ids[j]? = some b → backTo ids id j = some b := fun {j b} h => by unfold backTo; rw [h]
 have rnge : ∀ {j}, ids.length ≤ j → backTo ids id j = some (id + (j - ids.length)) := fun {j} h => by unfold backTo; rw [List.getElem?_eq_none h]
 have rninj : ∀ i i', i < back.length → i' < back.length → backTo ids id (0 + i) = backTo ids id (0 + i') → i = i' := by
   intro i i' hi hi' e
   rw [Nat.zero_add, Nat.zero_add] at e
   rcases Nat.lt_or_ge i ids.length with h1 | h1 <;> rcases Nat.lt_or_ge i' ids.length with h2 | h2
   · have a1 := List.getElem?_eq_getElem h1
     have a2 := List.getElem?_eq_getElem h2
     rw [rnlt a1, rnlt a2] at e
     have e := Option.some.inj e
     exact nodupB_inj hn a1 (by rw [a2, e])
   · have a1 := List.getElem?_eq_getElem h1
     rw [rnlt a1, rnge h2] at e
     simp only [Option.some.injEq] at e
     exact absurd e (hdis _ _ (List.mem_of_getElem? a1) (by omega))
   · have a2 := List.getElem?_eq_getElem h2
     rw [rnge h1, rnlt a2] at e
     simp only [Option.some.injEq] at e
     exact absurd e.symm (hdis _ _ (List.mem_of_getElem? a2) (by omega))
   · rw [rnge h1, rnge h2] at e
     simp only [Option.some.injEq] at e
     omega
 have at1 : ∀ {j b}, ids[j]? = some b → after μ μ' ids lent id back.length b = μ' j := fun {j b} h => by unfold after; rw [get_index hn h]
 have at2 : ∀ {i}, i < back.length - ids.length → after μ μ' ids lent id back.length (id + i) = μ' (ids.length + i) := fun {i} hi => by
   unfold after
   cases hx : index ids (id + i) with
   | some j => exact absurd rfl (hdis _ i (List.mem_of_getElem? (index_get hx)) hi)
   | none =>
     simp only
     rw [if_pos (by omega), show id + i - id = i by omega]
 have at3 : ∀ {b}, b ∉ ids → ¬ (id ≤ b ∧ b < id + (back.length - ids.length)) → after μ μ' ids lent id back.length b = die μ lent b := fun {b} h1 h2 => by
   unfold after
   cases hx : index ids b with
   | some j => exact absurd (List.mem_of_getElem? (index_get hx)) h1
   | none => simp only; rw [if_neg h2]
 have atrn : ∀ {j b}, j < back.length → backTo ids id j = some b → after μ μ' ids lent id back.length b = μ' j := fun {j b} hj h => by
   rcases Nat.lt_or_ge j ids.length with h1 | h1
   · have a1 := List.getElem?_eq_getElem h1
     rw [rnlt a1] at h
     cases h
     exact at1 a1
   · rw [rnge h1] at h
     cases h
     rw [at2 (by omega), show ids.length + (j - ids.length) = j by omega]
 -- a number is one of those that came back, or it is not
 have parts : ∀ b, (∃ j, j < back.length ∧ backTo ids id j = some b) ∨ (b ∉ ids ∧ ¬ (id ≤ b ∧ b < id + (back.length - ids.length))) := fun b => by
   by_cases h1 : b ∈ ids
   · obtain ⟨j, hj⟩ := List.getElem?_of_mem h1
     exact .inl ⟨j, Nat.lt_of_lt_of_le (List.getElem?_eq_some_iff.1 hj).1 hlen, rnlt hj⟩
   · by_cases h2 : id ≤ b ∧ b < id + (back.length - ids.length)
     · refine .inl ⟨ids.length + (b - id), by omega, ?_⟩
       rw [rnge (by omega)]
       congr 1
       omega
     · exact .inr ⟨h1, h2⟩
 have notrn : ∀ {b}, b ∉ ids → ¬ (id ≤ b ∧ b < id + (back.length - ids.length)) → ∀ i, i < back.length → backTo ids id (0 + i) ≠ some b := fun {b} h1 h2 i hi e => by
   rw [Nat.zero_add] at e
   rcases Nat.lt_or_ge i ids.length with h3 | h3
   · have a1 := List.getElem?_eq_getElem h3
     rw [rnlt a1] at e
     cases e
     exact h1 (List.mem_of_getElem? a1)
   · rw [rnge h3] at e
     cases e
     exact h2 (by omega)
 have rnlen : ∀ {j b}, j < back.length → backTo ids id j = some b → b < (kill hp lent).length := fun {j b} hj h => by
   rw [kill_length]
   rcases Nat.lt_or_ge j ids.length with h1 | h1
   · have a1 := List.getElem?_eq_getElem h1
     rw [rnlt a1] at h
     cases h
     obtain ⟨k, hk⟩ := Option.isSome_iff_exists.1 (halive _ (List.mem_of_getElem? a1))
     exact Heap.get_lt hk
   · rw [rnge h1] at h
     cases h
     exact Heap.free_lt (hfree _ (by omega))
 have slot1 : ∀ {j b s}, back[j]? = some s → backTo ids id j = some b → (layBack (backTo ids id) (kill hp lent) 0 back)[b]? = some (s.ren (backTo ids id)) := fun {j b s} hs h =>
   layBack_at (backTo ids id) back (kill hp lent) 0 j b s rninj hs (by rw [Nat.zero_add]; exact h) (rnlen (List.getElem?_eq_some_iff.1 hs).1 h)
 have slot2 : ∀ {b}, b ∉ ids → ¬ (id ≤ b ∧ b < id + (back.length - ids.length)) → (layBack (backTo ids id) (kill hp lent) 0 back)[b]? = (kill hp lent)[b]? := fun {b} h1 h2 => layBack_other _ back _ 0 b (notrn h1 h2)
 have follows : Follows (backTo ids id) μ' (after μ μ' ids lent id back.length) := fun j c hc hf => by
   rcases Nat.lt_or_ge j back.length with h1 | h1
   · exact atrn h1 hc
   · exact absurd (r'.free j (.inr h1)) hf
 have up : Up μ (after μ μ' ids lent id back.length) := fun b hb => by
   by_cases h1 : b ∈ ids
   · obtain ⟨j, hj⟩ := List.getElem?_of_mem h1
     rw [at1 hj]
     have hp : pick μ ids j = μ b := by unfold pick; rw [hj]
     rw [← hp]
     exact hkeep j (List.getElem?_eq_some_iff.1 hj).1 (by rw [hp]; exact hb)
   · by_cases h2 : id ≤ b ∧ b < id + (back.length - ids.length)
     · have := r.free (id + (b - id)) (.inl (hfree (b - id) (by omega)))
       rw [show id + (b - id) = b by omega] at this
       exact absurd this hb
     · rw [at3 h1 h2]
       exact die_up lent b hb
 have hereinv : ∀ {b m n e}, after μ μ' ids lent id back.length b = .here m n e → (∃ j, j < back.length ∧ backTo ids id j = some b ∧ μ' j = .here m n e) ∨ (b ∉ ids ∧ b ∉ lent ∧ μ b = .here m n e) := fun {b m n e} h => by
   rcases parts b with ⟨j, hj, hb⟩ | ⟨h1, h2⟩
   · rw [atrn hj hb] at h; exact .inl ⟨j, hj, hb, h⟩
   · rw [at3 h1 h2] at h
     obtain ⟨h3, h4⟩ := die_here h
     exact .inr ⟨h1, h3, h4⟩
 have notpick : ∀ {b m n e}, b ∉ ids → μ b = .here m n e → ¬ Owned (pick μ ids) m := fun {b m n e} h1 h2 ho => by
   obtain ⟨c, hc, n', e', hc'⟩ := pick_owned ho
   exact h1 (by rw [r.inj b c m n n' e e' h2 hc']; exact hc)
 have Skeep : ∀ m, S m → w'.heap[m]? = w.heap[m]? := fun m hm => x.same m (r.inS m hm) (fun ho => by
   obtain ⟨c, hc, n', e', hc'⟩ := pick_owned ho
   exact r.apart m ⟨c, n', e', hc'⟩ hm)
 have Ssub : ∀ m, S m → S' m := fun m hm => x.sub m (.inl hm)
 have krep := (kill_rep r lent).1
 refine ⟨⟨fun b k hk => ?_, fun b hk => ?_, fun b hk => ?_, fun b b' m n n' e e' h h' => ?_, fun m ho hS => ?_, r'.inS, r'.gl⟩, ⟨x.os, x.tape, x.output, x.size, fun m hm ho => ?_, Ssub, fun m hm => ?_, fun m ho => ?_⟩, up, follows⟩
 · rcases parts b with ⟨j, hj, hb⟩ | ⟨h1, h2⟩
   · have hs := List.getElem?_eq_getElem hj
     rw [get_of_slot, slot1 hs hb] at hk
     rw [atrn hj hb]
     cases hbj : back[j] with
     | free => rw [hbj] at hk; cases hk
     | dead => rw [hbj] at hk; cases hk
     | live k0 =>
       rw [hbj] at hk
       cases hk
       exact (r'.live j k0 (by rw [get_of_slot, hs, hbj])).ren follows
   · rw [get_of_slot, slot2 h1 h2, ← get_of_slot, kill_get] at hk
     split at hk
     · cases hk
     · rename_i hl
       rw [at3 h1 h2, die_out hl]
       exact (r.live b k hk).mono up Skeep Ssub (fun m n e he => x.same m (r.lt ⟨b, n, e, he⟩) (notpick h1 he))
 · rcases parts b with ⟨j, hj, hb⟩ | ⟨h1, h2⟩
   · have hs := List.getElem?_eq_getElem hj
     rw [get_of_slot, slot1 hs hb] at hk
     rw [atrn hj hb]
     refine r'.gone j ?_
     rw [get_of_slot, hs]
     cases hbj : back[j] with
     | free => rfl
     | dead => rfl
     | live k0 => rw [hbj] at hk; cases hk
   · rw [get_of_slot, slot2 h1 h2, ← get_of_slot] at hk
     rw [at3 h1 h2]
     exact krep.gone b hk
 · rcases parts b with ⟨j, hj, hb⟩ | ⟨h1, h2⟩
   · have hs := List.getElem?_eq_getElem hj
     rcases hk with hk | hk
     · rw [free_of_slot, slot1 hs hb] at hk
       cases hbj : back[j] <;> rw [hbj] at hk <;> cases hk
     · rw [layBack_length] at hk
       have := rnlen hj hb
       omega
   · rw [at3 h1 h2]
     refine krep.free b ?_
     rcases hk with hk | hk
     · rw [free_of_slot, slot2 h1 h2, ← free_of_slot] at hk; exact .inl hk
     · rw [layBack_length] at hk; exact .inr hk
 · rcases hereinv h with ⟨j, hj, hb, hl⟩ | ⟨h1, h2, hl⟩ <;> rcases hereinv h' with ⟨j', hj', hb', hl'⟩ | ⟨h1', h2', hl'⟩
   · have := r'.inj j j' m n n' e e' hl hl'
     subst this
     rw [hb] at hb'
     cases hb'
     rfl
   · rcases x.own m ⟨j, n, e, hl⟩ with h3 | h3
     · exact absurd h3 (notpick h1' hl')
     · have := r.lt ⟨b', n', e', hl'⟩; omega
   · rcases x.own m ⟨j', n', e', hl'⟩ with h3 | h3
     · exact absurd h3 (notpick h1 hl)
     · have := r.lt ⟨b, n, e, hl⟩; omega
   · exact r.inj b b' m n n' e e' hl hl'
 · obtain ⟨b, n, e, hb⟩ := ho
   rcases hereinv hb with ⟨j, hj, hb', hl⟩ | ⟨h1, h2, hl⟩
   · exact r'.apart m ⟨j, n, e, hl⟩ hS
   · rcases x.new m hS with (h3 | ⟨c, hc, n', e', hc'⟩) | h3 | h3
     · exact r.apart m ⟨b, n, e, hl⟩ h3
     · exact h2 (by rw [r.inj b c m n n' e e' hl hc']; exact hc)
     · exact notpick h1 hl h3
     · have := r.lt ⟨b, n, e, hl⟩; omega
 · exact x.same m hm (fun ho' => by obtain ⟨c, hc, n', e', hc'⟩ := pick_owned ho'; exact ho ⟨c, n', e', hc'⟩)
 · rcases x.new m hm with (h3 | ⟨c, hc, n', e', hc'⟩) | h3 | h3
   · exact .inl h3
   · exact .inr (.inl ⟨c, n', e', hc'⟩)
   · obtain ⟨c, hc, n', e', hc'⟩ := pick_owned h3; exact .inr (.inl ⟨c, n', e', hc'⟩)
   · exact .inr (.inr h3)
 · obtain ⟨b, n, e, hb⟩ := ho
   rcases hereinv hb with ⟨j, hj, hb', hl⟩ | ⟨h1, h2, hl⟩
   · rcases x.own m ⟨j, n, e, hl⟩ with h3 | h3
     · obtain ⟨c, hc, n', e', hc'⟩ := pick_owned h3; exact .inl ⟨c, n', e', hc'⟩
     · exact .inr h3
   · exact .inl ⟨b, n, e, hl⟩
def chkCall (op : Op) (ao : AOp) : Bool :=
 match op, ao with
 | .call { callee := .value fo, args, argTypes }, .call f' args' _ _ => chkOpd fo f' && all2 (fun x (q : Bool × Opd) => chkOpd x q.2) args.toList args'
 | _, _ => false
theorem argView_sound (r : HRep μ w S hp) {a : Bool × AVal} {v' : AVal} {l : List Nat} {cv : Value} (h : VR μ w S a.2 cv) (hv : argView hp a = some (v', l)) : VR μ w (With S μ l) v' cv := by
 unfold argView at hv
 split at hv
 · simp only [Option.some.injEq, Prod.mk.injEq] at hv
   obtain ⟨rfl, rfl⟩ := hv
   exact h.mono (Up.refl _) (fun _ _ => rfl) (fun m hm => .inl hm)
 · exact viewV_sound r h hv μ
theorem call_sound {K : Oracle} (hK : Valid P K) (r : HRep μ w S hp) {a : Act} {rr : Opd → AVal} (hρ : ∀ x y, chkOpd x y = true → VR μ w S (rr y) (a.eval x)) {o : Oper} {f' : Opd} {args' : List (Bool × Opd)} {quiet : Bool} {room id base : Nat} {sees : Sees} {v : AVal} {hp' : Heap}
   (hc : chkCall o.op (.call f' args' quiet room) = true) (h : callVal K hp base sees id room quiet (rr f') (args'.map fun q => (q.1, rr q.2)) = some (v, hp')) (next : Act → World → Prop) (Q : Exit → Act → World → Prop)
   (hnext : ∀ cv w' μ1 S1, HRep μ1 w' S1 hp' → Ext μ S w μ1 S1 w' → Up μ μ1 → VR μ1 w' S1 v cv → next (a.put o.dst cv) w') : o.wp P a w next Q := by
 obtain ⟨dst, op, ty, pos, aft, guard⟩ := o
 simp only at hc hnext
 unfold chkCall at hc
 split at hc
 case h_2 => cases hc
 rename_i fo args argTypes f1 args1 q1 r1' heq
 cases heq
 simp only [Bool.and_eq_true] at hc
 obtain ⟨hf, ha⟩ := hc
 unfold callVal at h
 split at h
 case h_2 => cases h
 rename_i f cap hfv
 have e1 := hρ _ _ hf
 rw [hfv] at e1
 obtain ⟨caps, hfo, hcl, hcaps⟩ := e1.fn_inv
 split at h
 case h_1 => cases h
 rename_i vs lent hargs
 simp only at h
 split at h
 case isFalse => cases h
 rename_i hcond
 obtain ⟨hn, hvis, hlent, halive, hq⟩ := hcond
 split at h
 case h_2 => cases h
 rename_i res back hk
 obtain ⟨⟨fn, hfn, hname, hbody⟩, hok⟩ := hK _ _ _ _ _ hk
 obtain ⟨hvl, hvg⟩ := allOn_get hargs
 have hal := all2_length ha
 have hlent' : ∀ b, b ∈ lent → b ∉ reach hp [] ((vs ++ cap).flatMap AVal.ownV) := fun b hb => by have := List.all_eq_true.1 hlent b hb; simpa using this
 generalize hids : reach hp [] ((vs ++ cap).flatMap AVal.ownV) = ids at *
 -- the call in the model
 have hrun : (execOp a.eval ⟨dst, .call { callee := .value fo, args, argTypes }, ty, pos, aft, guard⟩).run P w = .ok (.enter f (args.map a.eval ++ caps)) w := by
   simp [execOp, resolve, hfo, Deferred.ofValue, invoke, callFunc, hfn]
   rw [if_neg (by simpa using hname), if_neg (fun e => by rw [e] at hbody; cases hbody)]
 unfold Oper.wp
 rw [hrun]
 show Calls P f _ w _
 have rc : HRep (pick μ ids) w (With S μ lent) (packHeap hp ids) := by
   refine pack_rep r hn (fun m hm => .inl hm) (fun m ho hS => ?_) (fun m hS => ?_)
   · obtain ⟨c, hc, n', e', hc'⟩ := pick_owned ho
     rcases hS with hS | ⟨b, hb, n, e, hb'⟩
     · exact r.apart m ⟨c, n', e', hc'⟩ hS
     · exact hlent' b hb (by rw [r.inj b c m n n' e e' hb' hc']; exact hc)
   · rcases hS with hS | ⟨b, hb, n, e, hb'⟩
     · exact r.inS m hS
     · exact r.lt ⟨b, n, e, hb'⟩
 have hcall := hok (pick μ ids) w (With S μ lent) (args.map a.eval ++ caps) rc (by
     simp only [List.length_map, List.length_append, Array.size_append, Array.size_map]
     rw [hvl, hcl]
     simp
     simpa using hal.symm) (fun j av cv hj hcv => by
     rw [List.getElem?_map] at hj
     simp only [Option.map_eq_some_iff] at hj
     obtain ⟨a0, h0, rfl⟩ := hj
     refine VR.renV (pick_follows ids) ?_
     have hvs : vs.length = args.size := by rw [hvl]; simp; simpa using hal.symm
     rw [List.getElem?_append] at h0
     rw [Array.getElem?_append] at hcv
     split at h0
     · rename_i hjl
       rw [if_pos (by simp; omega)] at hcv
       obtain ⟨x0, li, h1, h2, h3⟩ := hvg j a0 h0
       rw [List.getElem?_map] at h1
       simp only [Option.map_eq_some_iff] at h1
       obtain ⟨q, hq', rfl⟩ := h1
       rw [Array.getElem?_map] at hcv
       simp only [Option.map_eq_some_iff] at hcv
       obtain ⟨xo, hxo, rfl⟩ := hcv
       have hx := hρ xo q.2 (all2_get ha j xo q (by simpa using hxo) hq')
       exact (argView_sound r (a := (q.1, rr q.2)) hx h2).mono (Up.refl _) (fun _ _ => rfl) (With.mono h3)
     · rename_i hjl
       rw [if_neg (by simp; omega)] at hcv
       exact (hcaps _ a0 cv h0 (by simpa [hvs] using hcv)).mono (Up.refl _) (fun _ _ => rfl) (fun m hm => .inl hm))
 refine hcall.mono fun e w' ⟨rv, μ', S', he, r', x', hv', hlen', hkeep⟩ => ?_
 subst he
 simp only
 have hpl : (packHeap hp ids).length = ids.length := by simp [packHeap]
 split at h
 · -- a plain value
   rename_i hb
   simp only [Option.some.injEq, Prod.mk.injEq] at h
   obtain ⟨rfl, rfl⟩ := h
   have hnone : ∀ m, ¬ Owned (pick μ ids) m := fun m ho => by
     obtain ⟨c, hc, _⟩ := pick_owned ho
     rw [hb.2] at hc
     cases hc
   have hsame : ∀ m, m < w.heap.size → w'.heap[m]? = w.heap[m]? := fun m hm => x'.same m hm (hnone m)
   refine hnext rv w' μ S ⟨fun b k hk => ?_, r.gone, r.free, r.inj, r.apart, fun m hm => Nat.lt_of_lt_of_le (r.inS m hm) x'.size, r.gl.mono (fun m hm => hsame m (r.inS m hm)) (fun _ h => h)⟩ ⟨x'.os, x'.tape, x'.output, x'.size, fun m hm _ => hsame m hm, fun _ h => h, fun _ h => .inl h, fun _ h => .inl h⟩ (Up.refl _) (hv'.bareT hb.1 μ w' S)
   exact (r.live b k hk).mono (Up.refl _) (fun m hm => hsame m (r.inS m hm)) (fun _ h => h) (fun m n e he => hsame m (r.lt ⟨b, n, e, he⟩))
 · split at h
   · cases h
   · split at h
     · rename_i hback
       simp only [Option.some.injEq, Prod.mk.injEq] at h
       obtain ⟨rfl, rfl⟩ := h
       obtain ⟨h1, h2, h3, h4⟩ := back_rep r hn hlent halive r' x' hback.1 (fun j hj hne => hkeep j (by rw [hpl]; exact hj) hne) hback.2.2
       exact hnext rv w' _ S' h1 h2 h3 (hv'.renT h4)
     · cases h
end
end AM
end Go.Proofs.YtjngkfdclcgfhaaGreatDoor
end
section
namespace Go.Proofs.YtjngkfdclcgfhaaGreatDoor
namespace AM
section
variable {P : Program} {μ μ' : Nat → Loc} {w w' : World} {S S' : Nat → Prop} {hp : Heap} {K : Oracle}
def chkLoad (P : Program) (op : Op) (ao : AOp) : Bool :=
 match op, ao with
 | .load t x, .load agg n x' => szB P t n && aggB P t agg && (agg || n == 1) && chkOpd x x'
 | .convert s d x, .load agg n x' => (match P.underlying s with | some (.slice e) => (match P.underlying e with | some (.int .u8) => true | _ => false) | _ => false) && (match P.underlying d with | some .string => true | _ => false) && !agg && n == 0 && chkOpd x x'
 | _, _ => false
def chkStore (P : Program) (op : Op) (ao : AOp) : Bool :=
 match op, ao with
 | .store t x y, .store n x' y' => szB P t n && chkOpd x x' && chkOpd y y'
 | _, _ => false
def chkSliceArr (P : Program) (op : Op) (ao : AOp) : Bool :=
 match op, ao with
 | .slice t x none none none, .sliceArr n e x' => (match P.underlying t with | some (.array m el) => m == n && szB P el e | _ => false) && chkOpd x x' && e != 0
 | _, _ => false
def isStop : AOp → Bool
 | .un .not (.const .undef) => true
 | _ => false
theorem stop_pure {r : Opd → AVal} (hk : ∀ c, r (.const c) = c) {ao : AOp} (h : isStop ao = true) : isPure ao = true ∧ pureOp ao r = none := by
 unfold isStop at h
 split at h
 · exact ⟨rfl, by simp [pureOp, hk, unop]⟩
 · cases h
def chkOp (P : Program) (op : Op) (ao : AOp) : Bool :=
 if isStop ao then true
 else if isPure ao then chkPure P op ao
 else if isNew ao then chkNew P op ao
 else match ao with
   | .load .. => chkLoad P op ao
   | .store .. => chkStore P op ao
   | .append .. => chkAppend P op ao
   | .sliceArr .. => chkSliceArr P op ao
   | .call .. => chkCall op ao
   | _ => false
def chkGuard (ops : Array Oper) (g : Option (Nat × Bool)) (g' : Option (Nat × Bool)) : Bool :=
 match g, g' with
 | none, none => true
 | some (j, want), some (t, want') => ((ops[j]?).bind (·.dst)) == some t && want == want'
 | _, _ => false
def chkOper (P : Program) (ops : Array Oper) (o : Oper) (ao : AOper) : Bool := o.dst == ao.dst && chkGuard ops o.guard ao.guard && chkOp P o.op ao.op
theorem chunks_get : ∀ (n e : Nat) (cs : List AVal), n * e ≤ cs.length → (chunks e n cs).length = n ∧ ∀ (i : Nat) (x : List AVal), (chunks e n cs)[i]? = some x → x.length = e ∧ ∀ (j : Nat) (c : AVal), x[j]? = some c → cs[i * e + j]? = some c
 | 0, e, cs, _ => ⟨rfl, by simp [chunks]⟩
 | n + 1, e, cs, h => by
   have h' : e + n * e ≤ cs.length := by rw [Nat.add_mul] at h; omega
   obtain ⟨h1, h2⟩ := chunks_get n e (cs.drop e) (by simp; omega)
   refine ⟨by simp [chunks, h1], fun i x hi => ?_⟩
   cases i with
   | zero =>
     simp [chunks] at hi
     subst hi
     refine ⟨by simp; omega, fun j c hj => ?_⟩
     rw [List.getElem?_take] at hj
     split at hj
     · rw [Nat.zero_mul, Nat.zero_add]; exact hj
     · cases hj
   | succ i =>
     simp [chunks] at hi
     obtain ⟨h3, h4⟩ := h2 i x hi
     refine ⟨h3, fun j c hj => ?_⟩
     have := h4 j c hj
     rw [List.getElem?_drop] at this
     rw [← this]
     congr 1
     rw [Nat.add_mul]
     omega
theorem sliceArr_sound (r : HRep μ w S hp) {ρ : Operand → Value} {rr : Opd → AVal} (hρ : ∀ x y, chkOpd x y = true → VR μ w S (rr y) (ρ x)) {o : Oper} {n e : Nat} {x' : Opd} {v : AVal} {hp' : Heap} (hc : chkSliceArr P o.op (.sliceArr n e x') = true)
   (h : sliceArrVal hp n e (rr x') = some (v, hp')) : Makes P μ w S (execOp ρ o) v hp' := by
 obtain ⟨dst, op, ty, pos, aft, guard⟩ := o
 simp only at hc
 unfold chkSliceArr at hc
 split at hc
 case h_2 => cases hc
 rename_i t x n0 e0 x0 heq
 cases heq
 simp only [Bool.and_eq_true, bne_iff_ne] at hc
 obtain ⟨⟨h1, h2⟩, h3⟩ := hc
 split at h1
 case h_2 => cases h1
 rename_i m el hu
 simp only [Bool.and_eq_true, beq_iff_eq] at h1
 obtain ⟨rfl, h1⟩ := h1
 unfold sliceArrVal at h
 split at h
 case h_2 => cases h
 rename_i cs off l hv
 split at h
 case isFalse => cases h
 rename_i hl
 simp only [Option.some.injEq, Prod.mk.injEq] at h
 obtain ⟨rfl, rfl⟩ := h
 have hir := viewP_sound r DEEP _ _ l _ (hρ _ _ h2) hv
 obtain ⟨r1, x1⟩ := kill_rep r l
 generalize hcx : ρ x = cx at hir
 cases hir with
 | iptr cs off mm oo g hm hcell hsub =>
 obtain ⟨hlen, hget⟩ := chunks_get m e (cs.drop off) (by simp; omega)
 refine ⟨.slice (some ⟨mm, oo + off, none⟩) m m, w, die μ l, With S μ l, ?_, r1, x1, die_up l, .imm _ _ ?_⟩
 · have hb : (Instr.sliceBounds false m m none none none).run P w = .ok (0, m, m) w := run_bounds (.inl ⟨rfl, rfl⟩) (.inl ⟨rfl, rfl, rfl⟩) (.inl ⟨rfl, rfl⟩) (Nat.zero_le _) (Nat.le_refl _) (Nat.le_refl _)
   simp [execOp, hcx, Instr.sliceAt, run_underlying hu, Instr.sureAddr, hb, run_sizeOf h1, add_mk]
 · have key := IR.imm (w := w) (S := With S μ l) e (chunks e m (cs.drop off)) (some ⟨mm, oo + off, none⟩) m (fun i j => g (off + (i * e + j))) (by omega) (fun hh => by cases hh) (fun i x hi => (hget i x hi).1) (fun i x j c hi hj => by
     have := (hget i x hi).2 j c hj
     rw [List.getElem?_drop] at this
     refine ⟨mm, oo + off, rfl, hm, ?_⟩
     rw [Nat.add_assoc]
     exact hcell _ _ this) (fun i x j c hi hj => by
     have := (hget i x hi).2 j c hj
     rw [List.getElem?_drop] at this
     exact hsub _ _ this)
   rw [hlen] at key
   exact key
structure Rep (μ : Nat → Loc) (w : World) (S : Nat → Prop) (st : St) (a : Act) : Prop where
 tmps : Tmps μ w S st.tmps a
 heap : HRep μ w S st.heap
theorem eff_sound (hK : Valid P K) {a : Act} {tmps : List AVal} (ht : Tmps μ w S tmps a) (r : HRep μ w S hp) {o : Oper} {ao : AOper} {base : Nat} {v : AVal} {hp' : Heap} (hc : chkOp P o.op ao.op = true)
   (h : effOp K base ao (look tmps) hp = some (v, hp')) (next : Act → World → Prop) (Q : Exit → Act → World → Prop)
   (hnext : ∀ cv w' μ1 S1, HRep μ1 w' S1 hp' → Ext μ S w μ1 S1 w' → Up μ μ1 → VR μ1 w' S1 v cv → next (a.put o.dst cv) w') : o.wp P a w next Q := by
 have hρ : ∀ x y, chkOpd x y = true → VR μ w S (look tmps y) (a.eval x) := fun x y hxy => ht.look r.gl hxy
 have made : Makes P μ w S (execOp a.eval o) v hp' → o.wp P a w next Q := fun ⟨cv, w', μ1, S1, hr, h1, h2, h3, h4⟩ => by
   unfold Oper.wp
   rw [hr]
   exact hnext cv w' μ1 S1 h1 h2 h3 h4
 unfold effOp at h
 split at h
 case isFalse => cases h
 unfold eff0 at h
 unfold chkOp at hc
 by_cases hst : isStop ao.op = true
 · obtain ⟨s1, s2⟩ := stop_pure (r := look tmps) (fun c => rfl) hst
   rw [if_pos s1, s2] at h
   cases h
 rw [if_neg hst] at hc
 split at h
 · rename_i hp
   rw [if_pos hp] at hc
   simp only [Option.map_eq_some_iff] at h
   obtain ⟨v0, hv0, heq⟩ := h
   simp only [Prod.mk.injEq] at heq
   obtain ⟨rfl, rfl⟩ := heq
   obtain ⟨cv, hr, hcv⟩ := pure_sound hρ (fun c => rfl) (fun c => rfl) hc hv0
   exact made ⟨cv, w, μ, S, hr, r, Ext.refl _ _ _, Up.refl _, hcv⟩
 · rename_i hp
   rw [if_neg hp] at hc
   split at h
   · rename_i hn
     rw [if_pos hn] at hc
     split at h
     · rename_i hf
       simp only [Option.map_eq_some_iff] at h
       obtain ⟨⟨v0, k⟩, hv0, heq⟩ := h
       simp only [Prod.mk.injEq] at heq
       obtain ⟨rfl, rfl⟩ := heq
       exact made (new_sound r hρ hc hf hv0)
     · cases h
   · rename_i hn
     rw [if_neg hn] at hc
     split at h
     · -- load
       rename_i agg n x' hop
       split at h
       · simp only [Option.map_eq_some_iff] at h
         obtain ⟨v0, hv0, heq⟩ := h
         simp only [Prod.mk.injEq] at heq
         obtain ⟨rfl, rfl⟩ := heq
         rw [hop] at hc
         simp only at hc
         obtain ⟨dst, op, ty, pos, aft, guard⟩ := o
         simp only at hc
         unfold chkLoad at hc
         split at hc
         · rename_i t x agg1 n1 x1 heq
           cases heq
           simp only [Bool.and_eq_true, Bool.or_eq_true, beq_iff_eq] at hc
           obtain ⟨⟨⟨h1, h2⟩, h3⟩, h4⟩ := hc
           obtain ⟨cv, hr, hcv⟩ := load_sound (P := P) r h1 h2 (hρ _ _ h4) hv0 h3
           exact made ⟨cv, w, μ, S, by simp [execOp, hr], r, Ext.refl _ _ _, Up.refl _, hcv⟩
         · rename_i s d x agg1 n1 x1 heq
           cases heq
           simp only [Bool.and_eq_true, beq_iff_eq, Bool.not_eq_true'] at hc
           obtain ⟨⟨⟨⟨h1, h2⟩, rfl⟩, rfl⟩, h4⟩ := hc
           split at h1
           · rename_i el hs
             split at h1
             · rename_i he
               split at h2
               · rename_i hd
                 obtain ⟨cv, hr, hcv⟩ := str_sound (P := P) r hs he hd (hρ _ _ h4) hv0
                 exact made ⟨cv, w, μ, S, by simp [execOp, hr], r, Ext.refl _ _ _, Up.refl _, hcv⟩
               · cases h2
             · cases h1
           · cases h1
         · cases hc
       · cases h
     · -- store
       rename_i n x' y' hop
       split at h
       · simp only [Option.map_eq_some_iff] at h
         obtain ⟨h0, hv0, heq⟩ := h
         simp only [Prod.mk.injEq] at heq
         obtain ⟨rfl, rfl⟩ := heq
         rw [hop] at hc
         simp only at hc
         obtain ⟨dst, op, ty, pos, aft, guard⟩ := o
         simp only at hc hnext made
         unfold chkStore at hc
         split at hc
         · rename_i t x y n1 x1 y1 heq
           cases heq
           simp only [Bool.and_eq_true] at hc
           obtain ⟨⟨h1, h2⟩, h3⟩ := hc
           obtain ⟨w', μ1, S1, hr, r1, x1, u1⟩ := store_sound (P := P) r h1 (hρ _ _ h2) (hρ _ _ h3) hv0
           have hrun : (execOp a.eval ⟨dst, .store t x y, ty, pos, aft, guard⟩).run P w = .ok .skip w' := by simp [execOp, hr]
           unfold Oper.wp
           rw [hrun]
           exact hnext undef w' μ1 S1 r1 x1 u1 (.undef _)
         · cases hc
       · cases h
     · -- append
       rename_i e bytes flat s' x' hop
       split at h
       · rw [hop] at hc
         simp only at hc
         exact made (append_sound r hρ hc h)
       · cases h
     · -- a slice of an array
       rename_i n e x' hop
       split at h
       · rw [hop] at hc
         simp only at hc
         exact made (sliceArr_sound r hρ hc h)
       · cases h
     · -- a call
       rename_i f' args' quiet room hop
       split at h
       · rw [hop] at hc
         simp only at hc
         exact call_sound hK r hρ hc h next Q hnext
       · cases h
     · cases h
theorem Tmps.put {a : Act} {tmps : List AVal} (ht : Tmps μ w S tmps a) (r : HRep μ w S hp) {d : Option Nat} {v : AVal} {cv : Value} (x : Ext μ S w μ' S' w') (u : Up μ μ') (hv : VR μ' w' S' v cv) : Tmps μ' w' S' (setTmp tmps d v) (a.put d cv) := by
 cases d with
 | none => exact ⟨ht.size, fun t c hc => (ht.vr t c hc).ext r x u, ht.defers⟩
 | some d =>
   refine ⟨by simp [setTmp, Act.put, ht.size], fun t c hc => ?_, ht.defers⟩
   simp only [setTmp, List.getElem?_set] at hc
   simp only [Act.put, Array.getD_eq_getD_getElem?, Array.getElem?_setIfInBounds]
   split at hc
   · rename_i hd
     subst hd
     split at hc
     · rename_i hl
       simp only [Option.some.injEq] at hc
       subst hc
       rw [if_pos rfl, if_pos (by rw [← ht.size]; exact hl)]
       exact hv
     · cases hc
   · rename_i hd
     rw [if_neg hd]
     have := (ht.vr t c hc).ext r x u
     simpa [Array.getD_eq_getD_getElem?] using this
theorem runOp_sound (hK : Valid P K) {ops : Array Oper} {a : Act} {st st' : St} (rep : Rep μ w S st a) {o : Oper} {ao : AOper} {base : Nat} (hc : chkOper P ops o ao = true) (h : runOp K base ao st = some st') (next : Act → World → Prop) (Q : Exit → Act → World → Prop)
   (hnext : ∀ a' w' μ1 S1, Rep μ1 w' S1 st' a' → Ext μ S w μ1 S1 w' → Up μ μ1 → st'.k = st.k → next a' w') : if Region.wanted o (yielded ops a.tmps) then o.wp P a w next Q else next (a.put o.dst undef) w := by
 unfold chkOper at hc
 simp only [Bool.and_eq_true, beq_iff_eq] at hc
 obtain ⟨⟨hd, hg⟩, hop⟩ := hc
 have go : (effOp K base ao (look st.tmps) st.heap).map (fun (x : AVal × Heap) => (⟨setTmp st.tmps ao.dst x.1, x.2, st.k⟩ : St)) = some st' → o.wp P a w next Q := fun he => by
   simp only [Option.map_eq_some_iff] at he
   obtain ⟨⟨v, hp'⟩, hev, rfl⟩ := he
   refine eff_sound hK rep.tmps rep.heap hop hev next Q fun cv w' μ1 S1 r1 x1 u1 hv => ?_
   refine hnext _ w' μ1 S1 ⟨?_, r1⟩ x1 u1 rfl
   rw [hd]
   exact rep.tmps.put rep.heap x1 u1 hv
 unfold runOp at h
 split at h
 · rename_i hag
   rw [hag] at hg
   have hog : o.guard = none := by unfold chkGuard at hg; split at hg <;> simp_all
   rw [if_pos (by simp [Region.wanted, hog])]
   exact go h
 · rename_i t want hag
   rw [hag] at hg
   unfold chkGuard at hg
   split at hg
   · cases ‹some _ = none›
   · rename_i j want1 t1 want2 hog heq
     cases heq
     simp only [Bool.and_eq_true, beq_iff_eq] at hg
     obtain ⟨hj, rfl⟩ := hg
     have atT : ∀ {c : AVal}, st.tmps.getD t .undef = c → c ≠ .undef → ∃ u, a.tmps[t]? = some u ∧ VR μ w S c u := fun {c} hc hne => by
       have hlt : t < st.tmps.length := by
         rcases Nat.lt_or_ge t st.tmps.length with h1 | h1
         · exact h1
         · rw [List.getD_eq_getElem?_getD, List.getElem?_eq_none h1] at hc; exact absurd hc.symm hne
       have hl2 : t < a.tmps.size := by rw [← rep.tmps.size]; exact hlt
       have hv := rep.tmps.vr t c (by rw [List.getD_eq_getElem?_getD, List.getElem?_eq_getElem hlt] at hc; rw [List.getElem?_eq_getElem hlt]; simpa using hc)
       rw [Array.getD_eq_getD_getElem?, Array.getElem?_eq_getElem hl2] at hv
       exact ⟨a.tmps[t], Array.getElem?_eq_getElem hl2, hv⟩
     have skip_ : some (⟨setTmp st.tmps ao.dst (.tup []), st.heap, st.k⟩ : St) = some st' → next (a.put o.dst undef) w := fun h => by
       simp only [Option.some.injEq] at h
       subst h
       refine hnext _ w μ S ⟨?_, rep.heap⟩ (Ext.refl _ _ _) (Up.refl _) rfl
       rw [hd]
       exact rep.tmps.put rep.heap (Ext.refl _ _ _) (Up.refl _) (.tup [] #[] rfl (by simp))
     split at h
     · rename_i b hb
       obtain ⟨u, hat, hv⟩ := atT hb (by simp)
       have hv := hv.bool_inv
       subst hv
       have hw : Region.wanted o (yielded ops a.tmps) = (b == want1) := by
         simp only [Region.wanted, hog, yielded, hj, Option.bind_some, hat]
         cases b <;> cases want1 <;> rfl
       rw [hw]
       split at h
       · rename_i hbw
         rw [if_pos (by simp [hbw])]
         exact go h
       · rename_i hbw
         rw [if_neg (by simpa using hbw)]
         exact skip_ h
     · rename_i hb
       obtain ⟨u, hat, hv⟩ := atT hb (by simp)
       obtain ⟨ar, rfl, hl, _⟩ := hv.tup_inv
       have hw : Region.wanted o (yielded ops a.tmps) = false := by
         simp only [Region.wanted, hog, yielded, hj, Option.bind_some, hat]
         rfl
       rw [hw, if_neg (by simp)]
       exact skip_ h
     · cases h
   · cases hg
theorem runOps_sound (hK : Valid P K) {ops : Array Oper} {base : Nat} {Q : Exit → Act → World → Prop} : ∀ (l : List Oper) (al : List AOper) (st st' : St) (a : Act) (w : World) (μ : Nat → Loc) (S : Nat → Prop), all2 (chkOper P ops) l al = true → Rep μ w S st a → runOps K base al st = some st' →
   (∀ a' w' μ1 S1, Rep μ1 w' S1 st' a' → Ext μ S w μ1 S1 w' → Up μ μ1 → st'.k = st.k → Q .normal a' w') → wpList P ops Q l a w
 | [], [], st, st', a, w, μ, S, _, rep, h, hq => by
   simp [runOps] at h
   subst h
   exact hq a w μ S rep (Ext.refl _ _ _) (Up.refl _) rfl
 | o :: l, ao :: al, st, st', a, w, μ, S, hc, rep, h, hq => by
   simp only [all2, Bool.and_eq_true] at hc
   simp only [runOps, Option.bind_eq_some_iff] at h
   obtain ⟨s1, h1, h2⟩ := h
   unfold wpList
   have := runOp_sound hK (ops := ops) rep hc.1 h1 (wpList P ops Q l) Q (fun a1 w1 μ1 S1 r1 x1 u1 hk1 =>
     runOps_sound hK l al s1 st' a1 w1 μ1 S1 hc.2 r1 h2 (fun a2 w2 μ2 S2 r2 x2 u2 hk2 => hq a2 w2 μ2 S2 r2 (x1.trans x2) (u1.trans u2) (hk2.trans hk1)))
   split
   · rename_i hw; rw [if_pos hw] at this; exact .inl this
   · rename_i hw; rw [if_neg hw] at this; exact this
 | [], ao :: al, _, _, _, _, _, _, hc, _, _, _ => by simp [all2] at hc
 | o :: l, [], _, _, _, _, _, _, hc, _, _, _ => by simp [all2] at hc
end
end AM
end Go.Proofs.YtjngkfdclcgfhaaGreatDoor
end
