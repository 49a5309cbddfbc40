/-
  What the proof of SpecTexts leans on, part 8. (Many texts laid together by program.)
-/
import Derived.Test.YtjngkfdclcgfhaaGreatDoorPkTg
set_option linter.unnecessarySimpa false
set_option linter.unusedSimpArgs false
set_option linter.unusedVariables false
section
namespace Go.Proofs.YtjngkfdclcgfhaaGreatDoor
namespace AM
def Opd.tmps : Opd → List Nat
 | .tmp t => [t]
 | _ => []
def AOp.opds : AOp → List Opd
 | .move x | .box _ x | .load _ _ x | .nilCheck x | .un _ x | .conv _ x | .fieldAddr _ x | .field _ _ _ x | .extract x _ | .sliceArr _ _ x | .len x | .lenStr x => [x]
 | .pick a b c => [a, b, c]
 | .alloc .. => []
 | .build _ ps => ps.map (·.2.2)
 | .buildSlice _ _ _ _ ps => ps.map (·.2)
 | .store _ a b | .bin _ a b | .eqB _ a b | .eqP _ a b | .eqI _ a b | .eqAgg _ a b | .makeSlice _ _ _ _ a b | .indexSl _ a b | .indexArr _ _ a b | .indexVal _ _ _ a b | .indexStr a b | .append _ _ _ a b | .minmax _ a b | .flt _ a b => [a, b]
 | .slice _ x a b c => [x] ++ a.toList ++ b.toList ++ c.toList
 | .sliceStr x a b => [x] ++ a.toList ++ b.toList
 | .makeFunc _ c => c
 | .call f args _ _ => f :: args.map (·.2)
def AOper.uses (o : AOper) : List Nat := o.op.opds.flatMap Opd.tmps ++ (match o.guard with | some (t, _) => [t] | none => [])
def AOp.loc : AOp → Bool
 | .append .. => false
 | _ => true
def AOp.ids : AOp → Nat
 | .box .. | .alloc .. | .buildSlice .. | .makeSlice .. | .append .. => 1
 | .call _ _ _ room => room
 | _ => 0
def blind (x y : AOper) : Bool := match y.sees with | some (l, _) => (List.range x.op.ids).all (fun i => !l.contains (x.at_ + i)) | none => false
def disj (a b : List Nat) : Bool := a.all fun x => !b.contains x
def far (x y : AOper) : Bool := match x.sees, y.sees with
 | some (l1, some o1), some (l2, some o2) => disj l1 l2 && disj o1 o2
 | _, _ => false
def pairOK (x y : AOper) : Bool :=
 (match x.dst with | some d => !y.uses.contains d && y.dst != some d | none => true) && (match y.dst with | some d => !x.uses.contains d | none => true) &&
 (x.op.cls == 0 || y.op.cls == 0 || (((x.op.cls == 1 && y.op.cls == 1) || (x.op.loc && y.op.loc && far x y)) && blind x y && blind y x && (decide (x.at_ + x.op.ids ≤ y.at_) || decide (y.at_ + y.op.ids ≤ x.at_))))
section
variable {K : Oracle} {base : Nat}
theorem fillP_congr {ρ ρ' : Opd → AVal} : ∀ (ps : List (Nat × Nat × Opd)) (cs : List AVal), (∀ x, x ∈ ps.map (·.2.2) → ρ x = ρ' x) → fillP ρ cs ps = fillP ρ' cs ps
 | [], _, _ => rfl
 | (off, n, x) :: ps, cs, h => by
   simp only [fillP]
   rw [h x (by simp)]
   split
   · exact fillP_congr ps _ (fun y hy => h y (by simp at hy ⊢; exact .inr hy))
   · rfl
theorem fillS_congr {ρ ρ' : Opd → AVal} (e : Nat) : ∀ (ps : List (Nat × Opd)) (cs : List (List AVal)), (∀ x, x ∈ ps.map (·.2) → ρ x = ρ' x) → fillS ρ e cs ps = fillS ρ' e cs ps
 | [], _, _ => rfl
 | (i, x) :: ps, cs, h => by
   simp only [fillS]
   rw [h x (by simp)]
   split
   · exact fillS_congr e ps _ (fun y hy => h y (by simp at hy ⊢; exact .inr hy))
   · rfl
theorem eff0_congr {o : AOper} {ρ ρ' : Opd → AVal} (hp : Heap) (h : ∀ x, x ∈ o.op.opds → ρ x = ρ' x) : eff0 K base o ρ hp = eff0 K base o ρ' hp := by
 obtain ⟨dst, op, guard, at_, sees⟩ := o
 simp only at h
 unfold eff0
 simp only
 cases op with
 | build zero ps => simp only [isPure, if_true, pureOp]; rw [fillP_congr ps zero (fun x hx => h x hx)]
 | buildSlice e len flat zero ps => simp only [isPure, isNew, Bool.false_eq_true, if_false, if_true, newOp]; rw [fillS_congr e ps _ (fun x hx => h x hx)]
 | slice e x a b c =>
   have h1 := h x (by simp [AOp.opds])
   have h2 : ∀ y, a = some y → ρ y = ρ' y := fun y hy => h y (by simp [AOp.opds, hy])
   have h3 : ∀ y, b = some y → ρ y = ρ' y := fun y hy => h y (by simp [AOp.opds, hy])
   have h4 : ∀ y, c = some y → ρ y = ρ' y := fun y hy => h y (by simp [AOp.opds, hy])
   simp only [isPure, if_true, pureOp]
   have e1 : bound ρ a 0 = bound ρ' a 0 := by cases a with | none => rfl | some y => simp only [bound]; rw [h2 y rfl]
   have e2 : optIdx ρ b = optIdx ρ' b := by cases b with | none => rfl | some y => simp only [optIdx]; rw [h3 y rfl]
   have e3 : optIdx ρ c = optIdx ρ' c := by cases c with | none => rfl | some y => simp only [optIdx]; rw [h4 y rfl]
   rw [h1, e1, e2, e3]
 | sliceStr x a b =>
   have h1 := h x (by simp [AOp.opds])
   have h2 : ∀ y, a = some y → ρ y = ρ' y := fun y hy => h y (by simp [AOp.opds, hy])
   have h3 : ∀ y, b = some y → ρ y = ρ' y := fun y hy => h y (by simp [AOp.opds, hy])
   simp only [isPure, if_true, pureOp]
   have e1 : ∀ d, bound ρ a d = bound ρ' a d := fun d => by cases a with | none => rfl | some y => simp only [bound]; rw [h2 y rfl]
   have e2 : ∀ d, bound ρ b d = bound ρ' b d := fun d => by cases b with | none => rfl | some y => simp only [bound]; rw [h3 y rfl]
   simp only [h1, e1, e2]
 | makeFunc f cap =>
   have e1 : cap.map ρ = cap.map ρ' := List.map_congr_left (fun x hx => h x hx)
   simp only [isPure, if_true, pureOp, e1]
 | call f args quiet room =>
   have h1 := h f (by simp [AOp.opds])
   have h2 : ∀ q, q ∈ args → ρ q.2 = ρ' q.2 := fun q hq => h q.2 (by simp only [AOp.opds, List.mem_cons, List.mem_map]; exact .inr ⟨q, hq, rfl⟩)
   have e1 : args.map (fun (q : Bool × Opd) => (q.1, ρ q.2)) = args.map (fun (q : Bool × Opd) => (q.1, ρ' q.2)) := List.map_congr_left (fun q hq => by rw [h2 q hq])
   have e2 : args.all (fun (q : Bool × Opd) => seesB base sees (ρ q.2)) = args.all (fun (q : Bool × Opd) => seesB base sees (ρ' q.2)) := by
     clear e1 h
     induction args with
     | nil => rfl
     | cons q args ih => simp only [List.all_cons]; rw [h2 q (by simp), ih (fun q' hq' => h2 q' (by simp [hq']))]
   simp only [isPure, isNew, Bool.false_eq_true, if_false]
   rw [h1]
   have e1' : args.map (fun (x : Bool × Opd) => match x with | (m, x) => (m, ρ x)) = args.map (fun (x : Bool × Opd) => match x with | (m, x) => (m, ρ' x)) := e1
   have e2' : args.all (fun (x : Bool × Opd) => match x with | (_, x) => seesB base sees (ρ x)) = args.all (fun (x : Bool × Opd) => match x with | (_, x) => seesB base sees (ρ' x)) := e2
   rw [e1', e2']
 | alloc zero => rfl
 | pick a b c => simp only [isPure, if_true, pureOp, h a (by simp [AOp.opds]), h b (by simp [AOp.opds]), h c (by simp [AOp.opds])]
 | move x | nilCheck x | un _ x | conv _ x | fieldAddr _ x | field _ _ _ x | extract x _ | len x | lenStr x => simp only [isPure, if_true, pureOp, h x (by simp [AOp.opds])]
 | box n x => simp only [isPure, isNew, Bool.false_eq_true, if_false, if_true, newOp, h x (by simp [AOp.opds])]
 | load agg n x => simp only [isPure, isNew, Bool.false_eq_true, if_false, h x (by simp [AOp.opds])]
 | sliceArr n e x => simp only [isPure, isNew, Bool.false_eq_true, if_false, h x (by simp [AOp.opds])]
 | makeSlice e bytes flat zero a b => simp only [isPure, isNew, Bool.false_eq_true, if_false, if_true, newOp, h a (by simp [AOp.opds]), h b (by simp [AOp.opds])]
 | store n a b => simp only [isPure, isNew, Bool.false_eq_true, if_false, h a (by simp [AOp.opds]), h b (by simp [AOp.opds])]
 | append e bytes flat a b => simp only [isPure, isNew, Bool.false_eq_true, if_false, h a (by simp [AOp.opds]), h b (by simp [AOp.opds])]
 | bin _ a b | eqB _ a b | eqP _ a b | eqI _ a b | eqAgg _ a b | indexSl _ a b | indexArr _ _ a b | indexVal _ _ _ a b | indexStr a b | minmax _ a b | flt _ a b =>
   simp only [isPure, if_true, pureOp, h a (by simp [AOp.opds]), h b (by simp [AOp.opds])]
theorem eff_congr {o : AOper} {ρ ρ' : Opd → AVal} (hp : Heap) (h : ∀ x, x ∈ o.op.opds → ρ x = ρ' x) : effOp K base o ρ hp = effOp K base o ρ' hp := by
 have ht : touchL hp o.op ρ = touchL hp o.op ρ' := by
   cases ho : o.op with
   | store n a x => rw [ho] at h; simp only [touchL, h a (by simp [AOp.opds]), h x (by simp [AOp.opds])]
   | sliceArr n e x => rw [ho] at h; simp only [touchL, h x (by simp [AOp.opds])]
   | call f args q room =>
     rw [ho] at h
     have h2 : ∀ q, q ∈ args → ρ q.2 = ρ' q.2 := fun q hq => h q.2 (by simp only [AOp.opds, List.mem_cons, List.mem_map]; exact .inr ⟨q, hq, rfl⟩)
     have e1 : args.map (fun (q : Bool × Opd) => (q.1, ρ q.2)) = args.map (fun (q : Bool × Opd) => (q.1, ρ' q.2)) := List.map_congr_left (fun q hq => by rw [h2 q hq])
     show callL hp (ρ f) (args.map fun q => (q.1, ρ q.2)) = callL hp (ρ' f) (args.map fun q => (q.1, ρ' q.2))
     rw [e1, h f (by simp [AOp.opds])]
   | _ => rfl
 unfold effOp tightOk
 rw [ht, eff0_congr hp h]
theorem eff_easy {o : AOper} (hcls : o.op.cls ≠ 2) (ρ : Opd → AVal) (hp : Heap) : effOp K base o ρ hp = eff0 K base o ρ hp := by
 unfold effOp
 rw [if_pos (by simp [tightOk, hcls])]
def effG (K : Oracle) (base : Nat) (o : AOper) (tmps : List AVal) (hp : Heap) : Option (AVal × Heap) :=
 match o.guard with
 | none => effOp K base o (look tmps) hp
 | some (t, want) => match tmps.getD t .undef with
   | .bool b => if b = want then effOp K base o (look tmps) hp else some (.tup [], hp)
   | .tup [] => some (.tup [], hp)
   | _ => none
theorem runOp_eq (o : AOper) (st : St) : runOp K base o st = (effG K base o st.tmps st.heap).map fun x => ⟨setTmp st.tmps o.dst x.1, x.2, st.k⟩ := by
 unfold runOp effG
 cases hg : o.guard with
 | none => rfl
 | some g =>
   obtain ⟨t, want⟩ := g
   simp only
   cases st.tmps.getD t .undef with
   | bool b => simp only; split <;> rfl
   | tup l => cases l <;> rfl
   | _ => rfl
theorem look_set {tmps : List AVal} {d : Nat} {v : AVal} {x : Opd} (h : d ∉ x.tmps) : look (tmps.set d v) x = look tmps x := by
 cases x with
 | tmp t =>
   have : d ≠ t := by simpa [Opd.tmps] using h
   simp [look, List.getD_eq_getElem?_getD, List.getElem?_set, this]
 | const c => rfl
 | func f => rfl
 | glob b => rfl
theorem effG_set {o : AOper} {tmps : List AVal} {d : Option Nat} {v : AVal} (hp : Heap) (h : ∀ t, d = some t → t ∉ o.uses) : effG K base o (setTmp tmps d v) hp = effG K base o tmps hp := by
 cases d with
 | none => rfl
 | some d =>
   have hd := h d rfl
   simp only [AOper.uses, List.mem_append, not_or] at hd
   have hl : ∀ x, x ∈ o.op.opds → look (tmps.set d v) x = look tmps x := fun x hx => look_set (fun hm => hd.1 (by simp only [List.mem_flatMap]; exact ⟨x, hx, hm⟩))
   unfold effG
   cases hg : o.guard with
   | none => simp only [setTmp]; exact eff_congr hp hl
   | some g =>
     obtain ⟨t, want⟩ := g
     have ht : d ≠ t := by rw [hg] at hd; simpa using hd.2
     simp only [setTmp]
     have : (tmps.set d v).getD t .undef = tmps.getD t .undef := by simp [List.getD_eq_getElem?_getD, List.getElem?_set, ht]
     rw [this, eff_congr hp hl]
theorem allOn_congr {α β : Type} {f g : α → Option (β × List Nat)} : ∀ {xs : List α} {ys : List β} {l : List Nat}, allOn f xs = some (ys, l) → (∀ x y li, f x = some (y, li) → (∀ b, b ∈ li → b ∈ l) → g x = some (y, li)) → allOn g xs = some (ys, l)
 | [], ys, l, h, _ => h
 | x :: xs, ys, l, h, hg => by
   simp only [allOn] at h ⊢
   split at h
   · rename_i y lx hx
     split at h
     · rename_i ys' m hxs
       simp only [Option.some.injEq, Prod.mk.injEq] at h
       obtain ⟨rfl, rfl⟩ := h
       rw [hg x y lx hx (fun b hb => by simp [hb])]
       simp only
       rw [allOn_congr hxs (fun x y li hf hb => hg x y li hf (fun b hb' => by simp [hb b hb']))]
     · cases h
   · cases h
theorem viewP_congr {hp hp' : Heap} : ∀ (d : Nat) (v v' : AVal) (l : List Nat), viewP hp d v = some (v', l) → (∀ b, b ∈ l → hp.get b = hp'.get b) → viewP hp' d v = some (v', l) := by
 intro d
 induction d with
 | zero => intro v v' l h _; simpa only [viewP] using h
 | succ d ih =>
   intro v v' l h hb
   cases v with
   | sl b off len e =>
     simp only [viewP] at h ⊢
     split at h
     · rename_i k hk
       split at h
       · rename_i hl
         split at h
         · rename_i hf
           simp only [Option.some.injEq, Prod.mk.injEq] at h
           obtain ⟨rfl, rfl⟩ := h
           rw [← hb b (by simp), hk]
           simp only
           rw [if_pos hl, if_pos hf]
         · rename_i hf
           split at h
           · rename_i xs l1 hall
             simp only [Option.some.injEq, Prod.mk.injEq] at h
             obtain ⟨rfl, rfl⟩ := h
             rw [← hb b (by simp), hk]
             simp only
             rw [if_pos hl, if_neg hf, allOn_congr hall (fun r y li hr hli => allOn_congr hr (fun x y lj hx hlj => ih x y lj hx (fun c hc => hb c (by simp [hli c (hlj c hc)]))))]
           · cases h
       · cases h
     · cases h
   | ptr b i f =>
     simp only [viewP] at h ⊢
     split at h
     · rename_i k hk
       split at h
       · rename_i x hx
         split at h
         · rename_i hf
           simp only [Option.some.injEq, Prod.mk.injEq] at h
           obtain ⟨rfl, rfl⟩ := h
           rw [← hb b (by simp), hk]
           simp only
           rw [hx]
           simp only
           rw [if_pos hf]
         · rename_i hf
           split at h
           · rename_i y l1 hall
             simp only [Option.some.injEq, Prod.mk.injEq] at h
             obtain ⟨rfl, rfl⟩ := h
             rw [← hb b (by simp), hk]
             simp only
             rw [hx]
             simp only
             rw [if_neg hf, allOn_congr hall (fun x y lj hx hlj => ih x y lj hx (fun c hc => hb c (by simp [hlj c hc])))]
           · cases h
       · cases h
     · cases h
   | fn f cap =>
     simp only [viewP] at h ⊢
     split at h
     · rename_i c l1 hall
       simp only [Option.some.injEq, Prod.mk.injEq] at h
       obtain ⟨rfl, rfl⟩ := h
       rw [allOn_congr hall (fun x y lj hx hlj => ih x y lj hx (fun c hc => hb c (hlj c hc)))]
     · cases h
   | undef => simpa only [viewP] using h
   | bool b => simpa only [viewP] using h
   | int k n => simpa only [viewP] using h
   | str s => simpa only [viewP] using h
   | nilp => simpa only [viewP] using h
   | iptr cs o => simpa only [viewP] using h
   | imm e xs => simpa only [viewP] using h
   | zsl => simpa only [viewP] using h
   | nilfn => simpa only [viewP] using h
   | nili => simpa only [viewP] using h
   | fl n => simpa only [viewP] using h
   | cx a b => simpa only [viewP] using h
   | agg cs => simpa only [viewP] using h
   | tup cs => simpa only [viewP] using h
theorem argView_congr {hp hp' : Heap} {a : Bool × AVal} {v' : AVal} {l : List Nat} (h : argView hp a = some (v', l)) (hb : ∀ b, b ∈ l → hp.get b = hp'.get b) : argView hp' a = some (v', l) := by
 unfold argView at h ⊢
 split
 · rename_i ha; rw [if_pos ha] at h; exact h
 · rename_i ha
   rw [if_neg ha] at h
   unfold viewV at h ⊢
   split at h
   · rename_i cs hcs
     split at h
     · rename_i c l1 hall
       simp only [Option.some.injEq, Prod.mk.injEq] at h
       obtain ⟨rfl, rfl⟩ := h
       rw [allOn_congr hall (fun x y lj hx hlj => viewP_congr DEEP x y lj hx (fun c hc => hb c (hlj c hc)))]
     · cases h
   · exact viewP_congr DEEP _ _ l h hb
def Mine (base : Nat) (o : AOper) (b : Nat) : Prop := base + o.at_ ≤ b ∧ b < base + o.at_ + o.op.ids
structure Agree (base : Nat) (o : AOper) (hp hp' : Heap) : Prop where
 len : hp.length = hp'.length
 slot : ∀ b, visible base o.sees b = true ∨ Mine base o b → hp[b]? = hp'[b]?
theorem Agree.get {o : AOper} {hp hp' : Heap} (h : Agree base o hp hp') {b : Nat} (hb : visible base o.sees b = true) : hp.get b = hp'.get b := by
 rw [get_of_slot, get_of_slot, h.slot b (.inl hb)]
def Wr (base : Nat) (o : AOper) (b : Nat) : Prop := Mine base o b ∨ (o.op.cls = 2 ∧ visible base o.sees b = true)
def Local (K : Oracle) (base : Nat) (o : AOper) (tmps : List AVal) : Prop :=
 ∀ hp hp' v h1, Agree base o hp hp' → effG K base o tmps hp = some (v, h1) → ∃ h1', effG K base o tmps hp' = some (v, h1') ∧ h1.length = hp.length ∧ h1'.length = hp'.length ∧ (∀ b, ¬ Wr base o b → h1[b]? = hp[b]? ∧ h1'[b]? = hp'[b]?) ∧ ∀ b, Wr base o b → h1[b]? = h1'[b]?
theorem seesB_vis {sees : Sees} {v : AVal} (h : seesB base sees v = true) {b : Nat} (hb : b ∈ v.ownV) : visible base sees b = true := List.all_eq_true.1 h b hb
theorem loadVal_congr {hp hp' : Heap} {agg : Bool} {n : Nat} {a : AVal} (h : ∀ b, b ∈ a.ownV → hp.get b = hp'.get b) : loadVal hp agg n a = loadVal hp' agg n a := by
 have : loadCells hp n a = loadCells hp' n a := by
   cases a with
   | ptr b i f => simp only [loadCells]; rw [h b (by simp [AVal.ownV, AVal.ownC, AVal.ownP])]
   | _ => rfl
 have h2 : strVal hp a = strVal hp' a := by
   cases a with
   | sl b off len e => simp only [strVal]; rw [h b (by simp [AVal.ownV, AVal.ownC, AVal.ownP])]
   | _ => rfl
 unfold loadVal
 rw [this, h2]
theorem reach_nil (hp : Heap) : reach hp [] [] = [] := by simp [reach, reachOnce, alive, addNew]
set_option maxHeartbeats 2000000 in
theorem eff_local {o : AOper} {ρ : Opd → AVal} (hcls : o.op.cls = 1) {hp hp' : Heap} {v : AVal} {h1 : Heap} (ag : Agree base o hp hp') (h : effOp K base o ρ hp = some (v, h1)) :
   ∃ h1', effOp K base o ρ hp' = some (v, h1') ∧ h1.length = hp.length ∧ h1'.length = hp'.length ∧ (∀ b, ¬ Mine base o b → h1[b]? = hp[b]? ∧ h1'[b]? = hp'[b]?) ∧ ∀ b, Mine base o b → h1[b]? = h1'[b]? := by
 rw [eff_easy (by rw [hcls]; decide)] at h ⊢
 unfold eff0 at h ⊢
 split at h
 · rename_i hp; simp [AOp.cls, hp] at hcls
 · rename_i hpu
   rw [if_neg hpu]
   split at h
   · rename_i hn
     rw [if_pos hn]
     have hids : o.op.ids = 1 := by
       cases ho : o.op <;> rw [ho] at hn <;> simp [isNew] at hn <;> rfl
     have hmine : Mine base o (base + o.at_) := ⟨Nat.le_refl _, by rw [hids]; omega⟩
     have hfree : hp.isFree (base + o.at_) = hp'.isFree (base + o.at_) := by rw [free_of_slot, free_of_slot, ag.slot _ (.inr hmine)]
     split at h
     · rename_i hf
       rw [hfree] at hf
       rw [if_pos hf]
       simp only [Option.map_eq_some_iff] at h
       obtain ⟨⟨v0, k⟩, hv0, heq⟩ := h
       simp only [Prod.mk.injEq] at heq
       obtain ⟨rfl, rfl⟩ := heq
       refine ⟨_, by rw [hv0]; rfl, by simp, by simp, fun b hb => ?_, fun b hb => ?_⟩
       · have hne : base + o.at_ ≠ b := fun e => hb (by rw [← e]; exact hmine)
         simp [List.getElem?_set, hne]
       · have : b = base + o.at_ := by obtain ⟨a1, a2⟩ := hb; rw [hids] at a2; omega
         subst this
         simp only [List.getElem?_set, if_true, ag.len]
     · cases h
   · rename_i hn
     rw [if_neg hn]
     cases ho : o.op with
     | load agg n a =>
       rw [ho] at h
       simp only at h ⊢
       split at h
       · rename_i hs
         rw [if_pos hs, ← loadVal_congr (fun b hb => ag.get (seesB_vis hs hb))]
         simp only [Option.map_eq_some_iff] at h
         obtain ⟨v0, hv0, heq⟩ := h
         simp only [Prod.mk.injEq] at heq
         obtain ⟨rfl, rfl⟩ := heq
         refine ⟨hp', by rw [hv0]; rfl, rfl, rfl, fun b _ => ⟨rfl, rfl⟩, fun b hb => ?_⟩
         obtain ⟨a1, a2⟩ := hb
         rw [ho] at a2
         simp [AOp.ids] at a2
         omega
       · cases h
     | call f args quiet room =>
       rw [ho] at h
       have hq : quiet = true := by
         cases quiet with
         | true => rfl
         | false => rw [ho] at hcls; simp [AOp.cls, isPure, isNew] at hcls
       subst hq
       simp only at h ⊢
       split at h
       case isFalse => cases h
       rename_i hsees
       rw [if_pos hsees]
       have hmine : ∀ i, i < room → Mine base o (base + o.at_ + i) := fun i hi => ⟨by omega, by rw [ho]; simp [AOp.ids]; omega⟩
       unfold callVal at h ⊢
       split at h
       case h_2 => cases h
       rename_i fn cap hf
       split at h
       case h_1 => cases h
       rename_i vs lent hargs
       simp only at h
       split at h
       case isFalse => cases h
       rename_i hcond
       obtain ⟨c1, c2, c3, c4, c5⟩ := hcond
       have hroots : (vs ++ cap).flatMap AVal.ownV = [] := by
         rcases c5 with c5 | c5
         · cases c5
         · simpa using c5
       have hids : ∀ hp : Heap, reach hp [] ((vs ++ cap).flatMap AVal.ownV) = [] := fun hp => by rw [hroots]; exact reach_nil hp
       have hlent : ∀ b, b ∈ lent → hp.get b = hp'.get b := fun b hb => ag.get (List.all_eq_true.1 c2 b hb)
       have hargs' : allOn (argView hp') (args.map fun x => match x with | (m, x) => (m, ρ x)) = some (vs, lent) := allOn_congr hargs (fun x y li hx hli => argView_congr hx (fun b hb => hlent b (hli b hb)))
       rw [hargs']
       simp only
       rw [hids hp] at h
       rw [hids hp', if_pos ⟨rfl, c2, by simp, by simp, .inr (by rw [hroots]; rfl)⟩]
       have hpk : packHeap hp [] = packHeap hp' [] := rfl
       rw [← hpk]
       split at h
       case h_2 => cases h
       rename_i r back hk
       split at h
       · rename_i hbare
         rw [if_pos hbare]
         simp only [Option.some.injEq, Prod.mk.injEq] at h
         obtain ⟨rfl, rfl⟩ := h
         exact ⟨hp', rfl, rfl, rfl, fun b _ => ⟨rfl, rfl⟩, fun b hb => ag.slot b (.inr hb)⟩
       · rename_i hbare
         rw [if_neg hbare]
         split at h
         case isTrue => cases h
         rename_i hl
         have hl0 : lent = [] := by cases lent with | nil => rfl | cons a b => exact absurd ⟨by trivial, by simp⟩ hl
         subst hl0
         rw [if_neg (by simp)]
         split at h
         case isFalse => cases h
         rename_i hback
         obtain ⟨b1, b2, b3⟩ := hback
         simp only [List.length_nil, Nat.zero_add, Nat.sub_zero] at b1 b2 b3
         have hfree : ∀ i, i < back.length → hp'.isFree (base + o.at_ + i) = true := fun i hi => by
           have h3 := List.all_eq_true.1 b3 i (by simpa using hi)
           rw [free_of_slot] at h3 ⊢
           rw [← ag.slot _ (.inr (hmine i (by omega)))]
           exact h3
         rw [if_pos ⟨by simp, by simpa using b2, by simp only [List.length_nil, Nat.sub_zero, List.all_eq_true]; intro i hi; exact hfree i (by simpa using hi)⟩]
         simp only [Option.some.injEq, Prod.mk.injEq] at h
         obtain ⟨rfl, rfl⟩ := h
         have hto : ∀ i, backTo [] (base + o.at_) i = some (base + o.at_ + i) := fun i => by simp [backTo]
         have hinj : ∀ i i', i < back.length → i' < back.length → backTo [] (base + o.at_) (0 + i) = backTo [] (base + o.at_) (0 + i') → i = i' := fun i i' _ _ e => by
           rw [hto, hto] at e
           simp only [Option.some.injEq] at e
           omega
         have hkill : ∀ hp : Heap, kill hp [] = hp := fun _ => rfl
         simp only [hkill]
         refine ⟨_, rfl, layBack_length _ _ _ _, layBack_length _ _ _ _, fun b hb => ?_, fun b hb => ?_⟩
         · have hne : ∀ i, i < back.length → backTo [] (base + o.at_) (0 + i) ≠ some b := fun i hi e => by
             rw [hto] at e
             simp only [Option.some.injEq] at e
             exact hb (by rw [← e, Nat.zero_add]; exact hmine i (by omega))
           exact ⟨layBack_other _ _ _ 0 b hne, layBack_other _ _ _ 0 b hne⟩
         · by_cases hin : b < base + o.at_ + back.length
           · obtain ⟨a1, a2⟩ := hb
             have hi : b - (base + o.at_) < back.length := by omega
             have hs := List.getElem?_eq_getElem hi
             have hb1 : backTo [] (base + o.at_) (0 + (b - (base + o.at_))) = some b := by rw [hto]; congr 1; omega
             have hfr := hfree _ hi
             rw [show base + o.at_ + (b - (base + o.at_)) = b by omega] at hfr
             have hlt' := Heap.free_lt hfr
             have hlt : b < hp.length := by rw [ag.len]; exact hlt'
             rw [layBack_at _ back hp 0 _ b _ hinj hs hb1 hlt, layBack_at _ back hp' 0 _ b _ hinj hs hb1 hlt']
           · have hne : ∀ i, i < back.length → backTo [] (base + o.at_) (0 + i) ≠ some b := fun i hi e => by
               rw [hto] at e
               simp only [Option.some.injEq] at e
               omega
             rw [layBack_other _ _ _ 0 b hne, layBack_other _ _ _ 0 b hne]
             exact ag.slot b (.inr hb)
     | _ => first | (exfalso; rw [ho] at hn; exact hn rfl) | (exfalso; rw [ho] at hpu; exact hpu rfl) | (exfalso; rw [ho] at hcls; simp [AOp.cls, isPure, isNew] at hcls; done)
theorem effG_pure {o : AOper} (hcls : o.op.cls = 0) {tmps : List AVal} {hp h1 : Heap} {v : AVal} (h : effG K base o tmps hp = some (v, h1)) : h1 = hp ∧ ∀ hp', effG K base o tmps hp' = some (v, hp') := by
 have hp0 : isPure o.op = true := by
   unfold AOp.cls at hcls
   split at hcls
   · assumption
   · split at hcls
     · cases hcls
     · split at hcls <;> cases hcls
 have key : ∀ {h1 : Heap} {v : AVal}, effOp K base o (look tmps) hp = some (v, h1) → h1 = hp ∧ ∀ hp', effOp K base o (look tmps) hp' = some (v, hp') := fun {h1 v} he => by
   rw [eff_easy (by rw [hcls]; decide)] at he
   unfold eff0 at he
   rw [if_pos hp0] at he
   simp only [Option.map_eq_some_iff] at he
   obtain ⟨v0, hv0, heq⟩ := he
   simp only [Prod.mk.injEq] at heq
   obtain ⟨rfl, rfl⟩ := heq
   exact ⟨rfl, fun hp' => by rw [eff_easy (by rw [hcls]; decide)]; unfold eff0; rw [if_pos hp0, hv0]; rfl⟩
 unfold effG at h ⊢
 cases hg : o.guard with
 | none => rw [hg] at h; exact key h
 | some g =>
   obtain ⟨t, want⟩ := g
   rw [hg] at h
   simp only at h ⊢
   cases hb : tmps.getD t .undef with
   | bool b =>
     rw [hb] at h
     simp only at h ⊢
     split at h
     · rename_i hbw
       obtain ⟨h2, h3⟩ := key h
       exact ⟨h2, fun hp' => by rw [if_pos hbw]; exact h3 hp'⟩
     · rename_i hbw
       simp only [Option.some.injEq, Prod.mk.injEq] at h
       obtain ⟨rfl, rfl⟩ := h
       exact ⟨rfl, fun hp' => by rw [if_neg hbw]⟩
   | tup l =>
     rw [hb] at h
     cases l with
     | nil =>
       simp only [Option.some.injEq, Prod.mk.injEq] at h
       obtain ⟨rfl, rfl⟩ := h
       exact ⟨rfl, fun hp' => rfl⟩
     | cons x l => cases h
   | _ => rw [hb] at h; cases h
theorem set_slot {hp hp' : Heap} {b : Nat} (h : hp[b]? = hp'[b]?) (c : Nat) (x : Slot) : (hp.set c x)[b]? = (hp'.set c x)[b]? := by
 have hl : b < hp.length ↔ b < hp'.length := by
   constructor
   · intro hb
     rw [List.getElem?_eq_getElem hb] at h
     exact (List.getElem?_eq_some_iff.1 h.symm).1
   · intro hb
     rw [List.getElem?_eq_getElem hb] at h
     exact (List.getElem?_eq_some_iff.1 h).1
 rw [List.getElem?_set, List.getElem?_set]
 by_cases hc : c = b
 · subst hc
   rw [if_pos rfl, if_pos rfl]
   by_cases hb : c < hp.length
   · rw [if_pos hb, if_pos (hl.1 hb)]
   · rw [if_neg hb, if_neg (fun h => hb (hl.2 h))]
 · rw [if_neg hc, if_neg hc, h]
theorem kill_slot : ∀ (l : List Nat) {hp hp' : Heap} {b : Nat}, hp[b]? = hp'[b]? → (kill hp l)[b]? = (kill hp' l)[b]?
 | [], _, _, _, h => h
 | c :: l, _, _, _, h => kill_slot l (set_slot h c .dead)
theorem kill_other : ∀ (l : List Nat) (hp : Heap) {b : Nat}, b ∉ l → (kill hp l)[b]? = hp[b]?
 | [], _, _, _ => rfl
 | c :: l, hp, b, h => by
   simp only [kill]
   rw [kill_other l _ (fun hb => h (List.mem_cons_of_mem _ hb)), List.getElem?_set_ne]
   exact fun e => h (e ▸ List.mem_cons_self)
theorem layBack_slot (rn : Nat → Option Nat) : ∀ (back : Heap) {hp hp' : Heap} (j : Nat) {b : Nat}, hp[b]? = hp'[b]? → (layBack rn hp j back)[b]? = (layBack rn hp' j back)[b]?
 | [], _, _, _, _, h => h
 | s :: rest, _, _, j, b, h => by
   simp only [layBack]
   refine layBack_slot rn rest (j + 1) ?_
   split
   · exact set_slot h _ _
   · exact h
theorem get_slot {hp hp' : Heap} {b : Nat} (h : hp[b]? = hp'[b]?) : hp.get b = hp'.get b := by rw [get_of_slot, get_of_slot, h]
theorem mem_addNew {b : Nat} : ∀ (l acc : List Nat), b ∈ acc → b ∈ addNew acc l
 | [], acc, h => h
 | c :: l, acc, h => by
   simp only [addNew]
   refine mem_addNew l _ ?_
   split
   · exact h
   · exact List.mem_append_left _ h
theorem alive_slot {hp hp' : Heap} (l : List Nat) (h : ∀ b, b ∈ l → hp.get b = hp'.get b) : alive hp l = alive hp' l := by
 unfold alive
 exact List.filter_congr fun b hb => by rw [h b hb]
theorem reachOnce_slot {hp hp' : Heap} (acc : List Nat) (h1 : ∀ b, b ∈ acc → hp.get b = hp'.get b) (h2 : ∀ b, b ∈ acc.flatMap (ownsAt hp) → hp.get b = hp'.get b) : reachOnce hp acc = reachOnce hp' acc := by
 show addNew acc (alive hp (acc.flatMap (ownsAt hp))) = addNew acc (alive hp' (acc.flatMap (ownsAt hp')))
 have e : acc.flatMap (ownsAt hp) = acc.flatMap (ownsAt hp') := by
   rw [List.flatMap_def, List.flatMap_def]
   congr 1
   exact List.map_congr_left fun b hb => by unfold ownsAt; rw [h1 b hb]
 rw [← e, alive_slot _ h2]
theorem reach_slot {hp hp' : Heap} (roots : List Nat) (h0 : ∀ b, b ∈ roots → hp.get b = hp'.get b) (h1 : ∀ b, b ∈ reach hp [] roots → hp.get b = hp'.get b)
   (h2 : ∀ b, b ∈ (reach hp [] roots).flatMap (ownsAt hp) → hp.get b = hp'.get b) : reach hp [] roots = reach hp' [] roots := by
 have up : ∀ acc b, b ∈ acc → b ∈ reachOnce hp acc := fun acc b hb => mem_addNew _ _ hb
 have fl : ∀ (A B : List Nat), (∀ b, b ∈ A → b ∈ B) → ∀ b, b ∈ A.flatMap (ownsAt hp) → b ∈ B.flatMap (ownsAt hp) := fun A B hAB b hb => by
   rw [List.mem_flatMap] at hb ⊢
   obtain ⟨c, hc, hb⟩ := hb
   exact ⟨c, hAB c hc, hb⟩
 unfold reach at h1 h2 ⊢
 rw [← alive_slot roots h0]
 generalize addNew [] (alive hp roots) = a0 at *
 have u0 : ∀ b, b ∈ a0 → b ∈ reachOnce hp (reachOnce hp (reachOnce hp a0)) := fun b hb => up _ _ (up _ _ (up _ _ hb))
 have u1 : ∀ b, b ∈ reachOnce hp a0 → b ∈ reachOnce hp (reachOnce hp (reachOnce hp a0)) := fun b hb => up _ _ (up _ _ hb)
 have u2 : ∀ b, b ∈ reachOnce hp (reachOnce hp a0) → b ∈ reachOnce hp (reachOnce hp (reachOnce hp a0)) := fun b hb => up _ _ hb
 rw [← reachOnce_slot a0 (fun b hb => h1 b (u0 b hb)) (fun b hb => h2 b (fl _ _ u0 b hb)),
   ← reachOnce_slot (reachOnce hp a0) (fun b hb => h1 b (u1 b hb)) (fun b hb => h2 b (fl _ _ u1 b hb)),
   ← reachOnce_slot (reachOnce hp (reachOnce hp a0)) (fun b hb => h1 b (u2 b hb)) (fun b hb => h2 b (fl _ _ u2 b hb))]
theorem store_local {hp hp' h1 : Heap} {n : Nat} {a x : AVal} (V : Nat → Prop) (hag : ∀ b, V b → hp[b]? = hp'[b]?) (ha : ∀ b, b ∈ a.ownV → V b) (hl : ∀ b, b ∈ storeL hp a x → V b) (h : storeVal hp n a x = some h1) :
   ∃ h1', storeVal hp' n a x = some h1' ∧ storeL hp' a x = storeL hp a x ∧ h1.length = hp.length ∧ h1'.length = hp'.length ∧ (∀ b, ¬ V b → h1[b]? = hp[b]? ∧ h1'[b]? = hp'[b]?) ∧ ∀ b, V b → h1[b]? = h1'[b]? := by
 unfold storeVal at h ⊢
 split at h
 case h_2 => cases h
 rename_i b i f
 have hb : V b := ha b (by simp [AVal.ownV, AVal.ownC, AVal.ownP])
 unfold storeL at hl ⊢
 simp only at hl ⊢
 rw [← get_slot (hag b hb)]
 split at h
 case h_2 => cases h
 rename_i k hk
 simp only [hk] at hl ⊢
 split at h
 case isFalse => cases h
 rename_i hc
 rw [if_pos hc]
 split at h
 case h_2 => cases h
 rename_i us hp1 hset
 have key : ∃ l hp1', settle hp' k.flat (cellsOf x) = some (us, hp1') ∧ hp1 = kill hp l ∧ hp1' = kill hp' l ∧ (∀ b, b ∈ l → V b) ∧ ((if k.flat = true then match allOn (viewP hp' DEEP) (cellsOf x) with | some (_, l) => l | none => [] else []) = if k.flat = true then match allOn (viewP hp DEEP) (cellsOf x) with | some (_, l) => l | none => [] else []) := by
   unfold settle at hset ⊢
   split at hset
   · rename_i hf
     simp only [hf, if_true] at hl ⊢
     split at hset
     case h_2 => cases hset
     rename_i us0 l hall
     simp only [Option.some.injEq, Prod.mk.injEq] at hset
     obtain ⟨rfl, rfl⟩ := hset
     simp only [hall] at hl
     have hall' : allOn (viewP hp' DEEP) (cellsOf x) = some (us0, l) := allOn_congr hall (fun x y li hx hli => viewP_congr DEEP x y li hx (fun c hc => get_slot (hag c (hl c (hli c hc)))))
     exact ⟨l, kill hp' l, by rw [hall'], rfl, rfl, hl, by rw [hall', hall]⟩
   · rename_i hf
     simp only [Option.some.injEq, Prod.mk.injEq] at hset
     obtain ⟨rfl, rfl⟩ := hset
     refine ⟨[], hp', by rw [if_neg hf], rfl, rfl, fun b hb => by simp at hb, by rw [if_neg hf, if_neg hf]⟩
 obtain ⟨l, hp1', hset', rfl, rfl, hlV, hL⟩ := key
 rw [hset']
 simp only
 have hslot : ∀ c, V c → (kill hp l)[c]? = (kill hp' l)[c]? := fun c hc => kill_slot l (hag c hc)
 rw [← get_slot (hslot b hb)]
 split at h
 case h_2 => cases h
 rename_i k1 hk1
 split at h
 case h_2 => cases h
 rename_i y hy
 split at h
 case isFalse => cases h
 rename_i hle
 rw [if_pos hle]
 simp only [Option.some.injEq] at h
 subst h
 refine ⟨_, rfl, hL, by simp [kill_length], by simp [kill_length], fun c hc => ?_, fun c hc => set_slot (hslot c hc) _ _⟩
 have hne : b ≠ c := fun e => hc (e ▸ hb)
 rw [List.getElem?_set_ne hne, List.getElem?_set_ne hne]
 exact ⟨kill_other l hp (fun hm => hc (hlV c hm)), kill_other l hp' (fun hm => hc (hlV c hm))⟩
theorem call_local {hp hp' h1 : Heap} {sees : Sees} {id room : Nat} {fv v : AVal} {args : List (Bool × AVal)} (V : Nat → Prop) (hag : ∀ b, V b → hp[b]? = hp'[b]?) (hvis : ∀ b, visible base sees b = true → V b) (hid : ∀ i, i < room → V (id + i)) (hl : ∀ b, b ∈ callL hp fv args → V b) (h : callVal K hp base sees id room false fv args = some (v, h1)) :
   ∃ h1', callVal K hp' base sees id room false fv args = some (v, h1') ∧ callL hp' fv args = callL hp fv args ∧ h1.length = hp.length ∧ h1'.length = hp'.length ∧ (∀ b, ¬ V b → h1[b]? = hp[b]? ∧ h1'[b]? = hp'[b]?) ∧ ∀ b, V b → h1[b]? = h1'[b]? := by
 unfold callVal at h ⊢
 split at h
 case h_2 => cases h
 rename_i fn cap
 split at h
 case h_1 => cases h
 rename_i vs lent hargs
 simp only at h
 split at h
 case isFalse => cases h
 rename_i hcond
 obtain ⟨c1, c2, c3, c4, c5⟩ := hcond
 have hlent : ∀ b, b ∈ lent → V b := fun b hb => hvis b (List.all_eq_true.1 c2 b hb)
 have hargs' : allOn (argView hp') args = some (vs, lent) := allOn_congr hargs (fun x y li hx hli => argView_congr hx (fun b hb => get_slot (hag b (hlent b (hli b hb)))))
 unfold callL at hl ⊢
 simp only [hargs, hargs'] at hl ⊢
 generalize hro : (vs ++ cap).flatMap AVal.ownV = roots at *
 have g0 : ∀ b, b ∈ roots → hp.get b = hp'.get b := fun b hb => get_slot (hag b (hl b (by simp only [List.mem_append]; exact .inl (.inl hb))))
 have g1 : ∀ b, b ∈ reach hp [] roots → V b := fun b hb => hl b (by simp only [List.mem_append]; exact .inl (.inr hb))
 have g1' : ∀ b, b ∈ reach hp [] roots → hp.get b = hp'.get b := fun b hb => get_slot (hag b (g1 b hb))
 have g2 : ∀ b, b ∈ (reach hp [] roots).flatMap (ownsAt hp) → hp.get b = hp'.get b := fun b hb => get_slot (hag b (hl b (by simp only [List.mem_append]; exact .inr hb)))
 have hreach := reach_slot roots g0 g1' g2
 rw [← hreach]
 have hfl : (reach hp [] roots).flatMap (ownsAt hp') = (reach hp [] roots).flatMap (ownsAt hp) := by
   rw [List.flatMap_def, List.flatMap_def]
   congr 1
   exact List.map_congr_left fun b hb => by unfold ownsAt; rw [g1' b hb]
 rw [hfl]
 generalize hids : reach hp [] roots = ids at *
 have c4' : ids.all (fun b => (hp'.get b).isSome) = true := by
   rw [List.all_eq_true] at c4 ⊢
   exact fun b hb => by rw [← g1' b hb]; exact c4 b hb
 rw [if_pos ⟨c1, c2, c3, c4', c5⟩]
 have hpk : packHeap hp' ids = packHeap hp ids := by
   unfold packHeap
   exact List.map_congr_left fun b hb => by rw [← g1' b hb]
 rw [hpk]
 split at h
 case h_2 => cases h
 rename_i r back hk
 split at h
 · rename_i hbare
   simp only
   rw [if_pos hbare]
   simp only [Option.some.injEq, Prod.mk.injEq] at h
   obtain ⟨rfl, rfl⟩ := h
   exact ⟨hp', rfl, trivial, rfl, rfl, fun b _ => ⟨rfl, rfl⟩, fun b hb => hag b hb⟩
 · rename_i hbare
   simp only
   rw [if_neg hbare]
   rw [if_neg (by simp)] at h ⊢
   split at h
   case isFalse => cases h
   rename_i hback
   obtain ⟨b1, b2, b3⟩ := hback
   have hfree : (List.range (back.length - ids.length)).all (fun j => hp'.isFree (id + j)) = true := by
     rw [List.all_eq_true] at b3 ⊢
     intro j hj
     have := b3 j hj
     rw [free_of_slot] at this ⊢
     rw [← hag _ (hid j (by simp at hj; omega))]
     exact this
   rw [if_pos ⟨b1, b2, hfree⟩]
   simp only [Option.some.injEq, Prod.mk.injEq] at h
   obtain ⟨rfl, rfl⟩ := h
   have hto : ∀ i, i < back.length → ∀ b, backTo ids id (0 + i) = some b → V b := fun i hi b hb => by
     rw [Nat.zero_add] at hb
     unfold backTo at hb
     split at hb
     · rename_i c hc
       simp only [Option.some.injEq] at hb
       subst hb
       exact g1 _ (List.mem_of_getElem? hc)
     · rename_i hnone
       have := List.getElem?_eq_none_iff.1 hnone
       simp only [Option.some.injEq] at hb
       subst hb
       exact hid _ (by omega)
   refine ⟨_, rfl, trivial, by rw [layBack_length, kill_length], by rw [layBack_length, kill_length], fun b hb => ?_, fun b hb => layBack_slot _ _ _ (kill_slot _ (hag b hb))⟩
   rw [layBack_other _ _ _ _ b (fun i hi e => hb (hto i hi b e)), layBack_other _ _ _ _ b (fun i hi e => hb (hto i hi b e))]
   exact ⟨kill_other _ _ (fun hm => hb (hlent b hm)), kill_other _ _ (fun hm => hb (hlent b hm))⟩
theorem eff_local2 {o : AOper} {ρ : Opd → AVal} (hcls : o.op.cls = 2) (hloc : o.op.loc = true) (ht : tightB o.sees = true) {hp hp' : Heap} {v : AVal} {h1 : Heap} (ag : Agree base o hp hp') (h : effOp K base o ρ hp = some (v, h1)) :
   ∃ h1', effOp K base o ρ hp' = some (v, h1') ∧ h1.length = hp.length ∧ h1'.length = hp'.length ∧ (∀ b, ¬ Wr base o b → h1[b]? = hp[b]? ∧ h1'[b]? = hp'[b]?) ∧ ∀ b, Wr base o b → h1[b]? = h1'[b]? := by
 have hag : ∀ b, Wr base o b → hp[b]? = hp'[b]? := fun b hb => ag.slot b (hb.elim .inr fun h => .inl h.2)
 have hv : ∀ b, visible base o.sees b = true → Wr base o b := fun b hb => .inr ⟨hcls, hb⟩
 have tk : ∀ hp, tightOk base o ρ hp = true ↔ (touchL hp o.op ρ).all (visible base o.sees) = true := fun hp => by simp [tightOk, hcls, ht]
 unfold effOp at h
 split at h
 case isFalse => cases h
 rename_i htk
 rw [tk] at htk
 have hl : ∀ b, b ∈ touchL hp o.op ρ → Wr base o b := fun b hb => hv b (List.all_eq_true.1 htk b hb)
 have fin : ∀ h1', eff0 K base o ρ hp' = some (v, h1') → touchL hp' o.op ρ = touchL hp o.op ρ → effOp K base o ρ hp' = some (v, h1') := fun h1' e1 e2 => by
   unfold effOp
   rw [if_pos ((tk hp').2 (by rw [e2]; exact htk)), e1]
 unfold eff0 at h fin
 cases ho : o.op with
 | store n a x =>
   rw [ho] at h fin hl
   simp only [isPure, isNew, Bool.false_eq_true, if_false, touchL] at h fin hl
   split at h
   case isFalse => cases h
   rename_i hs
   simp only [Option.map_eq_some_iff] at h
   obtain ⟨h0, hst, heq⟩ := h
   simp only [Prod.mk.injEq] at heq
   obtain ⟨rfl, rfl⟩ := heq
   obtain ⟨h1', e1, e2, l1, l2, o1, m1⟩ := store_local (Wr base o) hag (fun b hb => hv b (seesB_vis hs.1 hb)) hl hst
   exact ⟨h1', fin h1' (by rw [if_pos hs, e1]; rfl) e2, l1, l2, o1, m1⟩
 | sliceArr n e x =>
   rw [ho] at h fin hl
   simp only [isPure, isNew, Bool.false_eq_true, if_false, touchL] at h fin hl
   split at h
   case isFalse => cases h
   rename_i hs
   unfold sliceArrVal at h fin
   split at h
   case h_2 => cases h
   rename_i cs off l hvw
   simp only [hvw] at hl
   have hvw' := viewP_congr (hp' := hp') DEEP _ _ l hvw (fun c hc => get_slot (hag c (hl c hc)))
   split at h
   case isFalse => cases h
   rename_i hle
   simp only [Option.some.injEq, Prod.mk.injEq] at h
   obtain ⟨rfl, rfl⟩ := h
   refine ⟨kill hp' l, fin _ (by rw [if_pos hs, hvw']; simp only; rw [if_pos hle]) (by rw [hvw', hvw]), kill_length _ _, kill_length _ _, fun b hb => ⟨kill_other l hp (fun hm => hb (hl b hm)), kill_other l hp' (fun hm => hb (hl b hm))⟩, fun b hb => kill_slot l (hag b hb)⟩
 | call f args quiet room =>
   have hq : quiet = false := by
     cases quiet with
     | false => rfl
     | true => rw [ho] at hcls; simp [AOp.cls, isPure, isNew] at hcls
   subst hq
   have hid : ∀ i, i < room → Wr base o (base + o.at_ + i) := fun i hi => .inl ⟨by omega, by rw [ho]; simp [AOp.ids]; omega⟩
   rw [ho] at h fin hl
   simp only [isPure, isNew, Bool.false_eq_true, if_false, touchL] at h fin hl
   split at h
   case isFalse => cases h
   rename_i hs
   obtain ⟨h1', e1, e2, l1, l2, o1, m1⟩ := call_local (Wr base o) hag hv hid hl h
   exact ⟨h1', fin h1' (by rw [if_pos hs]; exact e1) e2, l1, l2, o1, m1⟩
 | append e bytes flat a b => rw [ho] at hloc; cases hloc
 | _ => exfalso; rw [ho] at hcls; simp [AOp.cls, isPure, isNew] at hcls
theorem eff_locals {o : AOper} {ρ : Opd → AVal} (hcls : o.op.cls = 1 ∨ (o.op.cls = 2 ∧ o.op.loc = true ∧ tightB o.sees = true)) {hp hp' : Heap} {v : AVal} {h1 : Heap} (ag : Agree base o hp hp') (h : effOp K base o ρ hp = some (v, h1)) :
   ∃ h1', effOp K base o ρ hp' = some (v, h1') ∧ h1.length = hp.length ∧ h1'.length = hp'.length ∧ (∀ b, ¬ Wr base o b → h1[b]? = hp[b]? ∧ h1'[b]? = hp'[b]?) ∧ ∀ b, Wr base o b → h1[b]? = h1'[b]? := by
 rcases hcls with hcls | ⟨hcls, hloc, ht⟩
 · obtain ⟨h1', e1, l1, l2, o1, m1⟩ := eff_local hcls ag h
   exact ⟨h1', e1, l1, l2, fun b hb => o1 b (fun hm => hb (.inl hm)), fun b hb => hb.elim (m1 b) fun hc => by rw [hcls] at hc; cases hc.1⟩
 · exact eff_local2 hcls hloc ht ag h
theorem effG_local {o : AOper} (hcls : o.op.cls = 1 ∨ (o.op.cls = 2 ∧ o.op.loc = true ∧ tightB o.sees = true)) (tmps : List AVal) : Local K base o tmps := by
 intro hp hp' v h1 ag h
 unfold effG at h ⊢
 cases hg : o.guard with
 | none => rw [hg] at h; exact eff_locals hcls ag h
 | some g =>
   obtain ⟨t, want⟩ := g
   rw [hg] at h
   simp only at h ⊢
   cases hb : tmps.getD t .undef with
   | bool b =>
     rw [hb] at h
     simp only at h ⊢
     split at h
     · rename_i hbw
       obtain ⟨h1', h2, h3⟩ := eff_locals hcls ag h
       exact ⟨h1', by rw [if_pos hbw]; exact h2, h3⟩
     · rename_i hbw
       simp only [Option.some.injEq, Prod.mk.injEq] at h
       obtain ⟨rfl, rfl⟩ := h
       exact ⟨hp', by rw [if_neg hbw], rfl, rfl, fun b _ => ⟨rfl, rfl⟩, fun b hb => ag.slot b (hb.elim .inr fun h => .inl h.2)⟩
   | tup l =>
     rw [hb] at h
     cases l with
     | nil =>
       simp only [Option.some.injEq, Prod.mk.injEq] at h
       obtain ⟨rfl, rfl⟩ := h
       exact ⟨hp', rfl, rfl, rfl, fun b _ => ⟨rfl, rfl⟩, fun b hb => ag.slot b (hb.elim .inr fun h => .inl h.2)⟩
     | cons x l => cases h
   | _ => rw [hb] at h; cases h
theorem setTmp_comm {tmps : List AVal} {d d' : Option Nat} {v v' : AVal} (h : ∀ t, d = some t → d' ≠ some t) : setTmp (setTmp tmps d v) d' v' = setTmp (setTmp tmps d' v') d v := by
 cases d with
 | none => rfl
 | some t =>
   cases d' with
   | none => rfl
   | some t' =>
     have : t ≠ t' := fun e => h t rfl (by rw [e])
     simp only [setTmp]
     exact List.set_comm v v' this
theorem blind_inv {x y : AOper} (h : blind x y = true) {b : Nat} (hb : Mine base x b) : visible base y.sees b = false := by
 unfold blind at h
 split at h
 · rename_i l old hl
   obtain ⟨a1, a2⟩ := hb
   have := List.all_eq_true.1 h (b - (base + x.at_)) (by simp; omega)
   unfold visible
   rw [hl]
   rw [show x.at_ + (b - (base + x.at_)) = b - base by omega] at this
   have h2 : l.contains (b - base) = false := by simpa using this
   cases old with
   | none =>
     simp only
     rw [h2]
     simp
     omega
   | some old =>
     simp only
     rw [if_neg (by omega), h2]
 · cases h
theorem disj_inv {a b : List Nat} (h : disj a b = true) {x : Nat} (h1 : a.contains x = true) (h2 : b.contains x = true) : False := by
 have := List.all_eq_true.1 h x (by simpa using h1)
 rw [h2] at this
 cases this
theorem far_inv {x y : AOper} (h : far x y = true) {b : Nat} (h1 : visible base x.sees b = true) (h2 : visible base y.sees b = true) : False := by
 unfold far at h
 split at h
 · rename_i l1 o1 l2 o2 hx hy
   rw [hx] at h1
   rw [hy] at h2
   simp only [Bool.and_eq_true] at h
   unfold visible at h1 h2
   simp only at h1 h2
   split at h1
   · rename_i hb; rw [if_pos hb] at h2; exact disj_inv h.2 h1 h2
   · rename_i hb; rw [if_neg hb] at h2; exact disj_inv h.1 h1 h2
 · cases h
theorem far_tight {x y : AOper} (h : far x y = true) : tightB x.sees = true ∧ tightB y.sees = true := by
 unfold far at h
 split at h
 · rename_i l1 o1 l2 o2 hx hy
   rw [hx, hy]
   exact ⟨rfl, rfl⟩
 · cases h
theorem cls_cases (op : AOp) : op.cls = 0 ∨ op.cls = 1 ∨ op.cls = 2 := by
 unfold AOp.cls
 split
 · exact .inl rfl
 · split
   · exact .inr (.inl rfl)
   · split <;> simp
theorem swap {x y : AOper} (hok : pairOK x y = true) {st s1 s2 : St} (h1 : runOp K base x st = some s1) (h2 : runOp K base y s1 = some s2) : ∃ t1, runOp K base y st = some t1 ∧ runOp K base x t1 = some s2 := by
 unfold pairOK at hok
 simp only [Bool.and_eq_true] at hok
 obtain ⟨⟨hxd, hyd⟩, hcls⟩ := hok
 have hx1 : ∀ t, x.dst = some t → t ∉ y.uses := fun t ht => by rw [ht] at hxd; simp at hxd; exact hxd.1
 have hx2 : ∀ t, x.dst = some t → y.dst ≠ some t := fun t ht => by rw [ht] at hxd; simp at hxd; exact hxd.2
 have hy1 : ∀ t, y.dst = some t → t ∉ x.uses := fun t ht => by rw [ht] at hyd; simpa using hyd
 rw [runOp_eq] at h1 h2
 simp only [Option.map_eq_some_iff] at h1
 obtain ⟨⟨vx, hpx⟩, ex, rfl⟩ := h1
 simp only at h2
 rw [effG_set _ hx1] at h2
 simp only [Option.map_eq_some_iff] at h2
 obtain ⟨⟨vy, hpy⟩, ey, rfl⟩ := h2
 have done_ : ∀ hp2, effG K base y st.tmps st.heap = some (vy, hp2) → effG K base x st.tmps hp2 = some (vx, hpy) → ∃ t1, runOp K base y st = some t1 ∧ runOp K base x t1 = some ⟨setTmp (setTmp st.tmps x.dst vx) y.dst vy, hpy, st.k⟩ := fun hp2 e1 e2 => by
   refine ⟨⟨setTmp st.tmps y.dst vy, hp2, st.k⟩, by rw [runOp_eq, e1]; rfl, ?_⟩
   rw [runOp_eq]
   simp only
   rw [effG_set _ hy1, e2]
   simp only [Option.map_some]
   rw [setTmp_comm hx2]
 rcases cls_cases x.op with hc | hcx
 · obtain ⟨rfl, hall⟩ := effG_pure hc ex
   exact done_ hpy ey (hall hpy)
 rcases cls_cases y.op with hc | hcy
 · obtain ⟨rfl, hall⟩ := effG_pure hc ey
   exact done_ st.heap (hall st.heap) ex
 simp only [Bool.or_eq_true, Bool.and_eq_true, beq_iff_eq, decide_eq_true_eq] at hcls
 rcases hcls with (hc | hc) | ⟨⟨⟨hcl, hbx⟩, hby⟩, hdis⟩
 · rw [hc] at hcx; rcases hcx with hcx | hcx <;> cases hcx
 · rw [hc] at hcy; rcases hcy with hcy | hcy <;> cases hcy
 · -- neither sees the other's blocks
   have nb : ∀ b, Mine base x b → ¬ Mine base y b := fun b ha hb => by
     obtain ⟨a1, a2⟩ := ha
     obtain ⟨b1, b2⟩ := hb
     rcases hdis with h | h <;> omega
   have lx0 : x.op.cls = 1 ∨ (x.op.cls = 2 ∧ x.op.loc = true ∧ tightB x.sees = true) := by
     rcases hcl with hcl | hcl
     · exact .inl hcl.1
     · rcases hcx with h | h
       · exact .inl h
       · exact .inr ⟨h, hcl.1.1, (far_tight hcl.2).1⟩
   have ly0 : y.op.cls = 1 ∨ (y.op.cls = 2 ∧ y.op.loc = true ∧ tightB y.sees = true) := by
     rcases hcl with hcl | hcl
     · exact .inl hcl.2
     · rcases hcy with h | h
       · exact .inl h
       · exact .inr ⟨h, hcl.1.2, (far_tight hcl.2).2⟩
   -- what one writes the other does not see
   have wx : ∀ b, Wr base x b → ¬ (visible base y.sees b = true ∨ Mine base y b) := fun b hw hb => by
     rcases hw with hm | ⟨hc2, hvx⟩
     · rcases hb with hb | hb
       · rw [blind_inv hbx hm] at hb; cases hb
       · exact nb b hm hb
     · rcases hb with hb | hb
       · rcases hcl with hcl | hcl
         · rw [hcl.1] at hc2; cases hc2
         · exact far_inv hcl.2 hvx hb
       · rw [blind_inv hby hb] at hvx; cases hvx
   have wy : ∀ b, Wr base y b → ¬ (visible base x.sees b = true ∨ Mine base x b) := fun b hw hb => by
     rcases hw with hm | ⟨hc2, hvy⟩
     · rcases hb with hb | hb
       · rw [blind_inv hby hm] at hb; cases hb
       · exact nb b hb hm
     · rcases hb with hb | hb
       · rcases hcl with hcl | hcl
         · rw [hcl.2] at hc2; cases hc2
         · exact far_inv hcl.2 hb hvy
       · rw [blind_inv hbx hb] at hvy; cases hvy
   have sub : ∀ o b, Wr base o b → visible base o.sees b = true ∨ Mine base o b := fun o b h => h.elim .inr fun h => .inl h.2
   obtain ⟨_, _, lx, _, ox, _⟩ := effG_local lx0 st.tmps st.heap st.heap vx hpx ⟨rfl, fun _ _ => rfl⟩ ex
   have ag1 : Agree base y hpx st.heap := ⟨lx, fun b hb => (ox b fun hm => wx b hm hb).1⟩
   obtain ⟨hp2, ey2, ly, ly2, oy, my⟩ := effG_local ly0 st.tmps hpx st.heap vy hpy ag1 ey
   have ag2 : Agree base x st.heap hp2 := ⟨ly2.symm, fun b hb => ((oy b fun hm => wy b hm hb).2).symm⟩
   obtain ⟨hp3, ex2, _, lx2, ox2, mx2⟩ := effG_local lx0 st.tmps st.heap hp2 vx hpx ag2 ex
   have : hp3 = hpy := by
     apply List.ext_getElem?
     intro b
     by_cases hmx : Wr base x b
     · rw [← mx2 b hmx, (oy b (fun hy => wy b hy (sub x b hmx))).1]
     · rw [(ox2 b hmx).2]
       by_cases hmy : Wr base y b
       · exact (my b hmy).symm
       · rw [(oy b hmy).2, (oy b hmy).1, (ox b hmx).1]
   rw [this] at ex2
   exact done_ hp2 ey2 ex2
end
end AM
end Go.Proofs.YtjngkfdclcgfhaaGreatDoor
end
