/-
  Operations whose order is open: two neighbours that have nothing to do with each other may change places.
-/
import Derived.Test.YtgpehdiancphnaaAmM
set_option linter.unusedVariables false
set_option linter.unusedSimpArgs false
namespace Go.Proofs.Ytgpehdiancphnaa
namespace AM

def Opd.tmps : Opd → List Nat
  | .tmp t => [t]
  | _ => []

def AOp.opds : AOp → List Opd
  | .move x | .box _ x | .load _ _ x | .nilCheck x | .un _ x | .conv _ x | .fieldAddr _ x | .field _ _ _ x | .extract x _ | .sliceArr _ _ x | .len x | .lenStr x => [x]
  | .pick a b c => [a, b, c]
  | .alloc .. => []
  | .build _ ps => ps.map (·.2.2)
  | .buildSlice _ _ _ _ ps => ps.map (·.2)
  | .store _ a b | .bin _ a b | .eqB _ a b | .eqP _ a b | .eqI _ a b | .eqAgg _ a b | .makeSlice _ _ _ _ a b | .indexSl _ a b | .indexArr _ _ a b | .indexVal _ _ _ a b | .indexStr a b | .append _ _ _ a b | .minmax _ a b => [a, b]
  | .slice _ x a b c => [x] ++ a.toList ++ b.toList ++ c.toList
  | .sliceStr x a b => [x] ++ a.toList ++ b.toList
  | .makeFunc _ c => c
  | .call f args _ _ => f :: args.map (·.2)

def AOper.uses (o : AOper) : List Nat := o.op.opds.flatMap Opd.tmps ++ (match o.guard with | some (t, _) => [t] | none => [])

/-- 0: no block; 1: looks at blocks, makes new ones; 2: changes blocks -/
def AOp.cls (op : AOp) : Nat :=
  if isPure op then 0 else if isNew op then 1 else match op with
    | .load .. => 1
    | .call _ _ true _ => 1
    | _ => 2

def AOp.ids : AOp → Nat
  | .box .. | .alloc .. | .buildSlice .. | .makeSlice .. | .append .. => 1
  | .call _ _ _ room => room
  | _ => 0

def blind (x y : AOper) : Bool := match y.sees with | some l => (List.range x.op.ids).all (fun i => !l.contains (x.at_ + i)) | none => false

def pairOK (x y : AOper) : Bool :=
  (match x.dst with | some d => !y.uses.contains d && y.dst != some d | none => true) && (match y.dst with | some d => !x.uses.contains d | none => true) &&
  (x.op.cls == 0 || y.op.cls == 0 || (x.op.cls == 1 && y.op.cls == 1 && blind x y && blind y x && (decide (x.at_ + x.op.ids ≤ y.at_) || decide (y.at_ + y.op.ids ≤ x.at_))))

section
variable {K : Oracle} {base : Nat}

theorem fillP_congr {ρ ρ' : Opd → AVal} : ∀ (ps : List (Nat × Nat × Opd)) (cs : List AVal), (∀ x, x ∈ ps.map (·.2.2) → ρ x = ρ' x) → fillP ρ cs ps = fillP ρ' cs ps
  | [], _, _ => rfl
  | (off, n, x) :: ps, cs, h => by
    simp only [fillP]
    rw [h x (by simp)]
    split
    · exact fillP_congr ps _ (fun y hy => h y (by simp at hy ⊢; exact .inr hy))
    · rfl
theorem fillS_congr {ρ ρ' : Opd → AVal} (e : Nat) : ∀ (ps : List (Nat × Opd)) (cs : List (List AVal)), (∀ x, x ∈ ps.map (·.2) → ρ x = ρ' x) → fillS ρ e cs ps = fillS ρ' e cs ps
  | [], _, _ => rfl
  | (i, x) :: ps, cs, h => by
    simp only [fillS]
    rw [h x (by simp)]
    split
    · exact fillS_congr e ps _ (fun y hy => h y (by simp at hy ⊢; exact .inr hy))
    · rfl

theorem eff_congr {o : AOper} {ρ ρ' : Opd → AVal} (hp : Heap) (h : ∀ x, x ∈ o.op.opds → ρ x = ρ' x) : effOp K base o ρ hp = effOp K base o ρ' hp := by
  obtain ⟨dst, op, guard, at_, sees⟩ := o
  simp only at h
  unfold effOp
  simp only
  cases op with
  | build zero ps => simp only [isPure, if_true, pureOp]; rw [fillP_congr ps zero (fun x hx => h x hx)]
  | buildSlice e len flat zero ps => simp only [isPure, isNew, Bool.false_eq_true, if_false, if_true, newOp]; rw [fillS_congr e ps _ (fun x hx => h x hx)]
  | slice e x a b c =>
    have h1 := h x (by simp [AOp.opds])
    have h2 : ∀ y, a = some y → ρ y = ρ' y := fun y hy => h y (by simp [AOp.opds, hy])
    have h3 : ∀ y, b = some y → ρ y = ρ' y := fun y hy => h y (by simp [AOp.opds, hy])
    have h4 : ∀ y, c = some y → ρ y = ρ' y := fun y hy => h y (by simp [AOp.opds, hy])
    simp only [isPure, if_true, pureOp]
    have e1 : bound ρ a 0 = bound ρ' a 0 := by cases a with | none => rfl | some y => simp only [bound]; rw [h2 y rfl]
    have e2 : optIdx ρ b = optIdx ρ' b := by cases b with | none => rfl | some y => simp only [optIdx]; rw [h3 y rfl]
    have e3 : optIdx ρ c = optIdx ρ' c := by cases c with | none => rfl | some y => simp only [optIdx]; rw [h4 y rfl]
    rw [h1, e1, e2, e3]
  | sliceStr x a b =>
    have h1 := h x (by simp [AOp.opds])
    have h2 : ∀ y, a = some y → ρ y = ρ' y := fun y hy => h y (by simp [AOp.opds, hy])
    have h3 : ∀ y, b = some y → ρ y = ρ' y := fun y hy => h y (by simp [AOp.opds, hy])
    simp only [isPure, if_true, pureOp]
    have e1 : ∀ d, bound ρ a d = bound ρ' a d := fun d => by cases a with | none => rfl | some y => simp only [bound]; rw [h2 y rfl]
    have e2 : ∀ d, bound ρ b d = bound ρ' b d := fun d => by cases b with | none => rfl | some y => simp only [bound]; rw [h3 y rfl]
    simp only [h1, e1, e2]
  | makeFunc f cap =>
    have e1 : cap.map ρ = cap.map ρ' := List.map_congr_left (fun x hx => h x hx)
    simp only [isPure, if_true, pureOp, e1]
  | call f args quiet room =>
    have h1 := h f (by simp [AOp.opds])
    have h2 : ∀ q, q ∈ args → ρ q.2 = ρ' q.2 := fun q hq => h q.2 (by simp only [AOp.opds, List.mem_cons, List.mem_map]; exact .inr ⟨q, hq, rfl⟩)
    have e1 : args.map (fun (q : Bool × Opd) => (q.1, ρ q.2)) = args.map (fun (q : Bool × Opd) => (q.1, ρ' q.2)) := List.map_congr_left (fun q hq => by rw [h2 q hq])
    have e2 : args.all (fun (q : Bool × Opd) => seesB base sees (ρ q.2)) = args.all (fun (q : Bool × Opd) => seesB base sees (ρ' q.2)) := by
      clear e1 h
      induction args with
      | nil => rfl
      | cons q args ih => simp only [List.all_cons]; rw [h2 q (by simp), ih (fun q' hq' => h2 q' (by simp [hq']))]
    simp only [isPure, isNew, Bool.false_eq_true, if_false]
    rw [h1]
    have e1' : args.map (fun (x : Bool × Opd) => match x with | (m, x) => (m, ρ x)) = args.map (fun (x : Bool × Opd) => match x with | (m, x) => (m, ρ' x)) := e1
    have e2' : args.all (fun (x : Bool × Opd) => match x with | (_, x) => seesB base sees (ρ x)) = args.all (fun (x : Bool × Opd) => match x with | (_, x) => seesB base sees (ρ' x)) := e2
    rw [e1', e2']
  | alloc zero => rfl
  | pick a b c => simp only [isPure, if_true, pureOp, h a (by simp [AOp.opds]), h b (by simp [AOp.opds]), h c (by simp [AOp.opds])]
  | move x | nilCheck x | un _ x | conv _ x | fieldAddr _ x | field _ _ _ x | extract x _ | len x | lenStr x => simp only [isPure, if_true, pureOp, h x (by simp [AOp.opds])]
  | box n x => simp only [isPure, isNew, Bool.false_eq_true, if_false, if_true, newOp, h x (by simp [AOp.opds])]
  | load agg n x => simp only [isPure, isNew, Bool.false_eq_true, if_false, h x (by simp [AOp.opds])]
  | sliceArr n e x => simp only [isPure, isNew, Bool.false_eq_true, if_false, h x (by simp [AOp.opds])]
  | makeSlice e bytes flat zero a b => simp only [isPure, isNew, Bool.false_eq_true, if_false, if_true, newOp, h a (by simp [AOp.opds]), h b (by simp [AOp.opds])]
  | store n a b => simp only [isPure, isNew, Bool.false_eq_true, if_false, h a (by simp [AOp.opds]), h b (by simp [AOp.opds])]
  | append e bytes flat a b => simp only [isPure, isNew, Bool.false_eq_true, if_false, h a (by simp [AOp.opds]), h b (by simp [AOp.opds])]
  | bin _ a b | eqB _ a b | eqP _ a b | eqI _ a b | eqAgg _ a b | indexSl _ a b | indexArr _ _ a b | indexVal _ _ _ a b | indexStr a b | minmax _ a b =>
    simp only [isPure, if_true, pureOp, h a (by simp [AOp.opds]), h b (by simp [AOp.opds])]

/-- with the guard -/
def effG (K : Oracle) (base : Nat) (o : AOper) (tmps : List AVal) (hp : Heap) : Option (AVal × Heap) :=
  match o.guard with
  | none => effOp K base o (look tmps) hp
  | some (t, want) => match tmps.getD t .undef with
    | .bool b => if b = want then effOp K base o (look tmps) hp else some (.tup [], hp)
    | .tup [] => some (.tup [], hp)
    | _ => none

theorem runOp_eq (o : AOper) (st : St) : runOp K base o st = (effG K base o st.tmps st.heap).map fun x => ⟨setTmp st.tmps o.dst x.1, x.2, st.k⟩ := by
  unfold runOp effG
  cases hg : o.guard with
  | none => rfl
  | some g =>
    obtain ⟨t, want⟩ := g
    simp only
    cases st.tmps.getD t .undef with
    | bool b => simp only; split <;> rfl
    | tup l => cases l <;> rfl
    | _ => rfl

theorem look_set {tmps : List AVal} {d : Nat} {v : AVal} {x : Opd} (h : d ∉ x.tmps) : look (tmps.set d v) x = look tmps x := by
  cases x with
  | tmp t =>
    have : d ≠ t := by simpa [Opd.tmps] using h
    simp [look, List.getD_eq_getElem?_getD, List.getElem?_set, this]
  | const c => rfl
  | func f => rfl

theorem effG_set {o : AOper} {tmps : List AVal} {d : Option Nat} {v : AVal} (hp : Heap) (h : ∀ t, d = some t → t ∉ o.uses) : effG K base o (setTmp tmps d v) hp = effG K base o tmps hp := by
  cases d with
  | none => rfl
  | some d =>
    have hd := h d rfl
    simp only [AOper.uses, List.mem_append, not_or] at hd
    have hl : ∀ x, x ∈ o.op.opds → look (tmps.set d v) x = look tmps x := fun x hx => look_set (fun hm => hd.1 (by simp only [List.mem_flatMap]; exact ⟨x, hx, hm⟩))
    unfold effG
    cases hg : o.guard with
    | none => simp only [setTmp]; exact eff_congr hp hl
    | some g =>
      obtain ⟨t, want⟩ := g
      have ht : d ≠ t := by rw [hg] at hd; simpa using hd.2
      simp only [setTmp]
      have : (tmps.set d v).getD t .undef = tmps.getD t .undef := by simp [List.getD_eq_getElem?_getD, List.getElem?_set, ht]
      rw [this, eff_congr hp hl]


theorem allOn_congr {α β : Type} {f g : α → Option (β × List Nat)} : ∀ {xs : List α} {ys : List β} {l : List Nat}, allOn f xs = some (ys, l) → (∀ x y li, f x = some (y, li) → (∀ b, b ∈ li → b ∈ l) → g x = some (y, li)) → allOn g xs = some (ys, l)
  | [], ys, l, h, _ => h
  | x :: xs, ys, l, h, hg => by
    simp only [allOn] at h ⊢
    split at h
    · rename_i y lx hx
      split at h
      · rename_i ys' m hxs
        simp only [Option.some.injEq, Prod.mk.injEq] at h
        obtain ⟨rfl, rfl⟩ := h
        rw [hg x y lx hx (fun b hb => by simp [hb])]
        simp only
        rw [allOn_congr hxs (fun x y li hf hb => hg x y li hf (fun b hb' => by simp [hb b hb']))]
      · cases h
    · cases h

theorem viewP_congr {hp hp' : Heap} : ∀ (d : Nat) (v v' : AVal) (l : List Nat), viewP hp d v = some (v', l) → (∀ b, b ∈ l → hp.get b = hp'.get b) → viewP hp' d v = some (v', l) := by
  intro d
  induction d with
  | zero => intro v v' l h _; simpa only [viewP] using h
  | succ d ih =>
    intro v v' l h hb
    cases v with
    | sl b off len e =>
      simp only [viewP] at h ⊢
      split at h
      · rename_i k hk
        split at h
        · rename_i hl
          split at h
          · rename_i hf
            simp only [Option.some.injEq, Prod.mk.injEq] at h
            obtain ⟨rfl, rfl⟩ := h
            rw [← hb b (by simp), hk]
            simp only
            rw [if_pos hl, if_pos hf]
          · rename_i hf
            split at h
            · rename_i xs l1 hall
              simp only [Option.some.injEq, Prod.mk.injEq] at h
              obtain ⟨rfl, rfl⟩ := h
              rw [← hb b (by simp), hk]
              simp only
              rw [if_pos hl, if_neg hf, allOn_congr hall (fun r y li hr hli => allOn_congr hr (fun x y lj hx hlj => ih x y lj hx (fun c hc => hb c (by simp [hli c (hlj c hc)]))))]
            · cases h
        · cases h
      · cases h
    | ptr b i f =>
      simp only [viewP] at h ⊢
      split at h
      · rename_i k hk
        split at h
        · rename_i x hx
          split at h
          · rename_i hf
            simp only [Option.some.injEq, Prod.mk.injEq] at h
            obtain ⟨rfl, rfl⟩ := h
            rw [← hb b (by simp), hk]
            simp only
            rw [hx]
            simp only
            rw [if_pos hf]
          · rename_i hf
            split at h
            · rename_i y l1 hall
              simp only [Option.some.injEq, Prod.mk.injEq] at h
              obtain ⟨rfl, rfl⟩ := h
              rw [← hb b (by simp), hk]
              simp only
              rw [hx]
              simp only
              rw [if_neg hf, allOn_congr hall (fun x y lj hx hlj => ih x y lj hx (fun c hc => hb c (by simp [hlj c hc])))]
            · cases h
        · cases h
      · cases h
    | fn f cap =>
      simp only [viewP] at h ⊢
      split at h
      · rename_i c l1 hall
        simp only [Option.some.injEq, Prod.mk.injEq] at h
        obtain ⟨rfl, rfl⟩ := h
        rw [allOn_congr hall (fun x y lj hx hlj => ih x y lj hx (fun c hc => hb c (hlj c hc)))]
      · cases h
    | undef => simpa only [viewP] using h
    | bool b => simpa only [viewP] using h
    | int k n => simpa only [viewP] using h
    | str s => simpa only [viewP] using h
    | nilp => simpa only [viewP] using h
    | iptr cs o => simpa only [viewP] using h
    | imm e xs => simpa only [viewP] using h
    | zsl => simpa only [viewP] using h
    | nilfn => simpa only [viewP] using h
    | nili => simpa only [viewP] using h
    | agg cs => simpa only [viewP] using h
    | tup cs => simpa only [viewP] using h

theorem argView_congr {hp hp' : Heap} {a : Bool × AVal} {v' : AVal} {l : List Nat} (h : argView hp a = some (v', l)) (hb : ∀ b, b ∈ l → hp.get b = hp'.get b) : argView hp' a = some (v', l) := by
  unfold argView at h ⊢
  split
  · rename_i ha; rw [if_pos ha] at h; exact h
  · rename_i ha
    rw [if_neg ha] at h
    unfold viewV at h ⊢
    split at h
    · rename_i cs hcs
      split at h
      · rename_i c l1 hall
        simp only [Option.some.injEq, Prod.mk.injEq] at h
        obtain ⟨rfl, rfl⟩ := h
        rw [allOn_congr hall (fun x y lj hx hlj => viewP_congr DEEP x y lj hx (fun c hc => hb c (hlj c hc)))]
      · cases h
    · exact viewP_congr DEEP _ _ l h hb

/-- the numbers of the operation's own blocks -/
def Mine (base : Nat) (o : AOper) (b : Nat) : Prop := base + o.at_ ≤ b ∧ b < base + o.at_ + o.op.ids

structure Agree (base : Nat) (o : AOper) (hp hp' : Heap) : Prop where
  len : hp.length = hp'.length
  slot : ∀ b, visible base o.sees b = true ∨ Mine base o b → hp[b]? = hp'[b]?

theorem Agree.get {o : AOper} {hp hp' : Heap} (h : Agree base o hp hp') {b : Nat} (hb : visible base o.sees b = true) : hp.get b = hp'.get b := by
  rw [get_of_slot, get_of_slot, h.slot b (.inl hb)]

/-- an operation that looks only at what it may see, and writes only its own -/
def Local (K : Oracle) (base : Nat) (o : AOper) (tmps : List AVal) : Prop :=
  ∀ hp hp' v h1, Agree base o hp hp' → effG K base o tmps hp = some (v, h1) → ∃ h1', effG K base o tmps hp' = some (v, h1') ∧ h1.length = hp.length ∧ h1'.length = hp'.length ∧ (∀ b, ¬ Mine base o b → h1[b]? = hp[b]? ∧ h1'[b]? = hp'[b]?) ∧ ∀ b, Mine base o b → h1[b]? = h1'[b]?

theorem seesB_vis {sees : Option (List Nat)} {v : AVal} (h : seesB base sees v = true) {b : Nat} (hb : b ∈ v.ownV) : visible base sees b = true := List.all_eq_true.1 h b hb

theorem loadVal_congr {hp hp' : Heap} {agg : Bool} {n : Nat} {a : AVal} (h : ∀ b, b ∈ a.ownV → hp.get b = hp'.get b) : loadVal hp agg n a = loadVal hp' agg n a := by
  have : loadCells hp n a = loadCells hp' n a := by
    cases a with
    | ptr b i f => simp only [loadCells]; rw [h b (by simp [AVal.ownV, AVal.ownC, AVal.ownP])]
    | _ => rfl
  unfold loadVal
  rw [this]

theorem reach_nil (hp : Heap) : reach hp [] [] = [] := by simp [reach, reachOnce, alive, addNew]

set_option maxHeartbeats 2000000 in
theorem eff_local {o : AOper} {ρ : Opd → AVal} (hcls : o.op.cls = 1) {hp hp' : Heap} {v : AVal} {h1 : Heap} (ag : Agree base o hp hp') (h : effOp K base o ρ hp = some (v, h1)) :
    ∃ h1', effOp K base o ρ hp' = some (v, h1') ∧ h1.length = hp.length ∧ h1'.length = hp'.length ∧ (∀ b, ¬ Mine base o b → h1[b]? = hp[b]? ∧ h1'[b]? = hp'[b]?) ∧ ∀ b, Mine base o b → h1[b]? = h1'[b]? := by
  unfold effOp at h ⊢
  split at h
  · rename_i hp; simp [AOp.cls, hp] at hcls
  · rename_i hpu
    rw [if_neg hpu]
    split at h
    · rename_i hn
      rw [if_pos hn]
      have hids : o.op.ids = 1 := by
        cases ho : o.op <;> rw [ho] at hn <;> simp [isNew] at hn <;> rfl
      have hmine : Mine base o (base + o.at_) := ⟨Nat.le_refl _, by rw [hids]; omega⟩
      have hfree : hp.isFree (base + o.at_) = hp'.isFree (base + o.at_) := by rw [free_of_slot, free_of_slot, ag.slot _ (.inr hmine)]
      split at h
      · rename_i hf
        rw [hfree] at hf
        rw [if_pos hf]
        simp only [Option.map_eq_some_iff] at h
        obtain ⟨⟨v0, k⟩, hv0, heq⟩ := h
        simp only [Prod.mk.injEq] at heq
        obtain ⟨rfl, rfl⟩ := heq
        refine ⟨_, by rw [hv0]; rfl, by simp, by simp, fun b hb => ?_, fun b hb => ?_⟩
        · have hne : base + o.at_ ≠ b := fun e => hb (by rw [← e]; exact hmine)
          simp [List.getElem?_set, hne]
        · have : b = base + o.at_ := by obtain ⟨a1, a2⟩ := hb; rw [hids] at a2; omega
          subst this
          simp only [List.getElem?_set, if_true, ag.len]
      · cases h
    · rename_i hn
      rw [if_neg hn]
      cases ho : o.op with
      | load agg n a =>
        rw [ho] at h
        simp only at h ⊢
        split at h
        · rename_i hs
          rw [if_pos hs, ← loadVal_congr (fun b hb => ag.get (seesB_vis hs hb))]
          simp only [Option.map_eq_some_iff] at h
          obtain ⟨v0, hv0, heq⟩ := h
          simp only [Prod.mk.injEq] at heq
          obtain ⟨rfl, rfl⟩ := heq
          refine ⟨hp', by rw [hv0]; rfl, rfl, rfl, fun b _ => ⟨rfl, rfl⟩, fun b hb => ?_⟩
          obtain ⟨a1, a2⟩ := hb
          rw [ho] at a2
          simp [AOp.ids] at a2
          omega
        · cases h
      | call f args quiet room =>
        rw [ho] at h
        have hq : quiet = true := by
          cases quiet with
          | true => rfl
          | false => rw [ho] at hcls; simp [AOp.cls, isPure, isNew] at hcls
        subst hq
        simp only at h ⊢
        split at h
        case isFalse => cases h
        rename_i hsees
        rw [if_pos hsees]
        have hmine : ∀ i, i < room → Mine base o (base + o.at_ + i) := fun i hi => ⟨by omega, by rw [ho]; simp [AOp.ids]; omega⟩
        unfold callVal at h ⊢
        split at h
        case h_2 => cases h
        rename_i fn cap hf
        split at h
        case h_1 => cases h
        rename_i vs lent hargs
        simp only at h
        split at h
        case isFalse => cases h
        rename_i hcond
        obtain ⟨c1, c2, c3, c4, c5⟩ := hcond
        have hroots : (vs ++ cap).flatMap AVal.ownV = [] := by
          rcases c5 with c5 | c5
          · cases c5
          · simpa using c5
        have hids : ∀ hp : Heap, reach hp [] ((vs ++ cap).flatMap AVal.ownV) = [] := fun hp => by rw [hroots]; exact reach_nil hp
        have hlent : ∀ b, b ∈ lent → hp.get b = hp'.get b := fun b hb => ag.get (List.all_eq_true.1 c2 b hb)
        have hargs' : allOn (argView hp') (args.map fun x => match x with | (m, x) => (m, ρ x)) = some (vs, lent) := allOn_congr hargs (fun x y li hx hli => argView_congr hx (fun b hb => hlent b (hli b hb)))
        rw [hargs']
        simp only
        rw [hids hp] at h
        rw [hids hp', if_pos ⟨rfl, c2, by simp, by simp, .inr (by rw [hroots]; rfl)⟩]
        have hpk : packHeap hp [] = packHeap hp' [] := rfl
        rw [← hpk]
        split at h
        case h_2 => cases h
        rename_i r back hk
        split at h
        · rename_i hbare
          rw [if_pos hbare]
          simp only [Option.some.injEq, Prod.mk.injEq] at h
          obtain ⟨rfl, rfl⟩ := h
          exact ⟨hp', rfl, rfl, rfl, fun b _ => ⟨rfl, rfl⟩, fun b hb => ag.slot b (.inr hb)⟩
        · rename_i hbare
          rw [if_neg hbare]
          split at h
          case isTrue => cases h
          rename_i hl
          have hl0 : lent = [] := by cases lent with | nil => rfl | cons a b => exact absurd ⟨by trivial, by simp⟩ hl
          subst hl0
          rw [if_neg (by simp)]
          split at h
          case isFalse => cases h
          rename_i hback
          obtain ⟨b1, b2, b3⟩ := hback
          simp only [List.length_nil, Nat.zero_add, Nat.sub_zero] at b1 b2 b3
          have hfree : ∀ i, i < back.length → hp'.isFree (base + o.at_ + i) = true := fun i hi => by
            have h3 := List.all_eq_true.1 b3 i (by simpa using hi)
            rw [free_of_slot] at h3 ⊢
            rw [← ag.slot _ (.inr (hmine i (by omega)))]
            exact h3
          rw [if_pos ⟨by simp, by simpa using b2, by simp only [List.length_nil, Nat.sub_zero, List.all_eq_true]; intro i hi; exact hfree i (by simpa using hi)⟩]
          simp only [Option.some.injEq, Prod.mk.injEq] at h
          obtain ⟨rfl, rfl⟩ := h
          have hto : ∀ i, backTo [] (base + o.at_) i = some (base + o.at_ + i) := fun i => by simp [backTo]
          have hinj : ∀ i i', i < back.length → i' < back.length → backTo [] (base + o.at_) (0 + i) = backTo [] (base + o.at_) (0 + i') → i = i' := fun i i' _ _ e => by
            rw [hto, hto] at e
            simp only [Option.some.injEq] at e
            omega
          have hkill : ∀ hp : Heap, kill hp [] = hp := fun _ => rfl
          simp only [hkill]
          refine ⟨_, rfl, layBack_length _ _ _ _, layBack_length _ _ _ _, fun b hb => ?_, fun b hb => ?_⟩
          · have hne : ∀ i, i < back.length → backTo [] (base + o.at_) (0 + i) ≠ some b := fun i hi e => by
              rw [hto] at e
              simp only [Option.some.injEq] at e
              exact hb (by rw [← e, Nat.zero_add]; exact hmine i (by omega))
            exact ⟨layBack_other _ _ _ 0 b hne, layBack_other _ _ _ 0 b hne⟩
          · by_cases hin : b < base + o.at_ + back.length
            · obtain ⟨a1, a2⟩ := hb
              have hi : b - (base + o.at_) < back.length := by omega
              have hs := List.getElem?_eq_getElem hi
              have hb1 : backTo [] (base + o.at_) (0 + (b - (base + o.at_))) = some b := by rw [hto]; congr 1; omega
              have hfr := hfree _ hi
              rw [show base + o.at_ + (b - (base + o.at_)) = b by omega] at hfr
              have hlt' := Heap.free_lt hfr
              have hlt : b < hp.length := by rw [ag.len]; exact hlt'
              rw [layBack_at _ back hp 0 _ b _ hinj hs hb1 hlt, layBack_at _ back hp' 0 _ b _ hinj hs hb1 hlt']
            · have hne : ∀ i, i < back.length → backTo [] (base + o.at_) (0 + i) ≠ some b := fun i hi e => by
                rw [hto] at e
                simp only [Option.some.injEq] at e
                omega
              rw [layBack_other _ _ _ 0 b hne, layBack_other _ _ _ 0 b hne]
              exact ag.slot b (.inr hb)
      | _ => first | (exfalso; rw [ho] at hn; exact hn rfl) | (exfalso; rw [ho] at hpu; exact hpu rfl) | (exfalso; rw [ho] at hcls; simp [AOp.cls, isPure, isNew] at hcls; done)

theorem effG_pure {o : AOper} (hcls : o.op.cls = 0) {tmps : List AVal} {hp h1 : Heap} {v : AVal} (h : effG K base o tmps hp = some (v, h1)) : h1 = hp ∧ ∀ hp', effG K base o tmps hp' = some (v, hp') := by
  have hp0 : isPure o.op = true := by
    unfold AOp.cls at hcls
    split at hcls
    · assumption
    · split at hcls
      · cases hcls
      · split at hcls <;> cases hcls
  have key : ∀ {h1 : Heap} {v : AVal}, effOp K base o (look tmps) hp = some (v, h1) → h1 = hp ∧ ∀ hp', effOp K base o (look tmps) hp' = some (v, hp') := fun {h1 v} he => by
    unfold effOp at he ⊢
    rw [if_pos hp0] at he
    simp only [Option.map_eq_some_iff] at he
    obtain ⟨v0, hv0, heq⟩ := he
    simp only [Prod.mk.injEq] at heq
    obtain ⟨rfl, rfl⟩ := heq
    exact ⟨rfl, fun hp' => by rw [if_pos hp0, hv0]; rfl⟩
  unfold effG at h ⊢
  cases hg : o.guard with
  | none => rw [hg] at h; exact key h
  | some g =>
    obtain ⟨t, want⟩ := g
    rw [hg] at h
    simp only at h ⊢
    cases hb : tmps.getD t .undef with
    | bool b =>
      rw [hb] at h
      simp only at h ⊢
      split at h
      · rename_i hbw
        obtain ⟨h2, h3⟩ := key h
        exact ⟨h2, fun hp' => by rw [if_pos hbw]; exact h3 hp'⟩
      · rename_i hbw
        simp only [Option.some.injEq, Prod.mk.injEq] at h
        obtain ⟨rfl, rfl⟩ := h
        exact ⟨rfl, fun hp' => by rw [if_neg hbw]⟩
    | tup l =>
      rw [hb] at h
      cases l with
      | nil =>
        simp only [Option.some.injEq, Prod.mk.injEq] at h
        obtain ⟨rfl, rfl⟩ := h
        exact ⟨rfl, fun hp' => rfl⟩
      | cons x l => cases h
    | _ => rw [hb] at h; cases h

theorem effG_local {o : AOper} (hcls : o.op.cls = 1) (tmps : List AVal) : Local K base o tmps := by
  intro hp hp' v h1 ag h
  unfold effG at h ⊢
  cases hg : o.guard with
  | none => rw [hg] at h; exact eff_local hcls ag h
  | some g =>
    obtain ⟨t, want⟩ := g
    rw [hg] at h
    simp only at h ⊢
    cases hb : tmps.getD t .undef with
    | bool b =>
      rw [hb] at h
      simp only at h ⊢
      split at h
      · rename_i hbw
        obtain ⟨h1', h2, h3⟩ := eff_local hcls ag h
        exact ⟨h1', by rw [if_pos hbw]; exact h2, h3⟩
      · rename_i hbw
        simp only [Option.some.injEq, Prod.mk.injEq] at h
        obtain ⟨rfl, rfl⟩ := h
        exact ⟨hp', by rw [if_neg hbw], rfl, rfl, fun b _ => ⟨rfl, rfl⟩, fun b hb => ag.slot b (.inr hb)⟩
    | tup l =>
      rw [hb] at h
      cases l with
      | nil =>
        simp only [Option.some.injEq, Prod.mk.injEq] at h
        obtain ⟨rfl, rfl⟩ := h
        exact ⟨hp', rfl, rfl, rfl, fun b _ => ⟨rfl, rfl⟩, fun b hb => ag.slot b (.inr hb)⟩
      | cons x l => cases h
    | _ => rw [hb] at h; cases h

theorem setTmp_comm {tmps : List AVal} {d d' : Option Nat} {v v' : AVal} (h : ∀ t, d = some t → d' ≠ some t) : setTmp (setTmp tmps d v) d' v' = setTmp (setTmp tmps d' v') d v := by
  cases d with
  | none => rfl
  | some t =>
    cases d' with
    | none => rfl
    | some t' =>
      have : t ≠ t' := fun e => h t rfl (by rw [e])
      simp only [setTmp]
      exact List.set_comm v v' this

theorem blind_inv {x y : AOper} (h : blind x y = true) {b : Nat} (hb : Mine base x b) : visible base y.sees b = false := by
  unfold blind at h
  split at h
  · rename_i l hl
    obtain ⟨a1, a2⟩ := hb
    have := List.all_eq_true.1 h (b - (base + x.at_)) (by simp; omega)
    unfold visible
    rw [hl]
    simp only
    rw [show x.at_ + (b - (base + x.at_)) = b - base by omega] at this
    have h2 : l.contains (b - base) = false := by simpa using this
    rw [h2]
    simp
    omega
  · cases h

/-- two neighbours change places -/
theorem swap {x y : AOper} (hok : pairOK x y = true) {st s1 s2 : St} (h1 : runOp K base x st = some s1) (h2 : runOp K base y s1 = some s2) : ∃ t1, runOp K base y st = some t1 ∧ runOp K base x t1 = some s2 := by
  unfold pairOK at hok
  simp only [Bool.and_eq_true] at hok
  obtain ⟨⟨hxd, hyd⟩, hcls⟩ := hok
  have hx1 : ∀ t, x.dst = some t → t ∉ y.uses := fun t ht => by rw [ht] at hxd; simp at hxd; exact hxd.1
  have hx2 : ∀ t, x.dst = some t → y.dst ≠ some t := fun t ht => by rw [ht] at hxd; simp at hxd; exact hxd.2
  have hy1 : ∀ t, y.dst = some t → t ∉ x.uses := fun t ht => by rw [ht] at hyd; simpa using hyd
  rw [runOp_eq] at h1 h2
  simp only [Option.map_eq_some_iff] at h1
  obtain ⟨⟨vx, hpx⟩, ex, rfl⟩ := h1
  simp only at h2
  rw [effG_set _ hx1] at h2
  simp only [Option.map_eq_some_iff] at h2
  obtain ⟨⟨vy, hpy⟩, ey, rfl⟩ := h2
  have done_ : ∀ hp2, effG K base y st.tmps st.heap = some (vy, hp2) → effG K base x st.tmps hp2 = some (vx, hpy) → ∃ t1, runOp K base y st = some t1 ∧ runOp K base x t1 = some ⟨setTmp (setTmp st.tmps x.dst vx) y.dst vy, hpy, st.k⟩ := fun hp2 e1 e2 => by
    refine ⟨⟨setTmp st.tmps y.dst vy, hp2, st.k⟩, by rw [runOp_eq, e1]; rfl, ?_⟩
    rw [runOp_eq]
    simp only
    rw [effG_set _ hy1, e2]
    simp only [Option.map_some]
    rw [setTmp_comm hx2]
  simp only [Bool.or_eq_true, Bool.and_eq_true, beq_iff_eq, decide_eq_true_eq] at hcls
  rcases hcls with (hc | hc) | ⟨⟨⟨⟨hcx, hcy⟩, hbx⟩, hby⟩, hdis⟩
  · obtain ⟨rfl, hall⟩ := effG_pure hc ex
    exact done_ hpy ey (hall hpy)
  · obtain ⟨rfl, hall⟩ := effG_pure hc ey
    exact done_ st.heap (hall st.heap) ex
  · -- neither sees the other's blocks
    have nb : ∀ b, Mine base x b → ¬ Mine base y b := fun b ha hb => by
      obtain ⟨a1, a2⟩ := ha
      obtain ⟨b1, b2⟩ := hb
      rcases hdis with h | h <;> omega
    obtain ⟨_, _, lx, _, ox, _⟩ := effG_local hcx st.tmps st.heap st.heap vx hpx ⟨rfl, fun _ _ => rfl⟩ ex
    have ag1 : Agree base y hpx st.heap := ⟨lx, fun b hb => by
      refine (ox b fun hm => ?_).1
      rcases hb with hb | hb
      · rw [blind_inv hbx hm] at hb; cases hb
      · exact nb b hm hb⟩
    obtain ⟨hp2, ey2, ly, ly2, oy, my⟩ := effG_local hcy st.tmps hpx st.heap vy hpy ag1 ey
    have ag2 : Agree base x st.heap hp2 := ⟨ly2.symm, fun b hb => by
      refine ((oy b fun hm => ?_).2).symm
      rcases hb with hb | hb
      · rw [blind_inv hby hm] at hb; cases hb
      · exact nb b hb hm⟩
    obtain ⟨hp3, ex2, _, lx2, ox2, mx2⟩ := effG_local hcx st.tmps st.heap hp2 vx hpx ag2 ex
    have : hp3 = hpy := by
      apply List.ext_getElem?
      intro b
      by_cases hmx : Mine base x b
      · rw [← mx2 b hmx, (oy b (nb b hmx)).1]
      · rw [(ox2 b hmx).2]
        by_cases hmy : Mine base y b
        · exact (my b hmy).symm
        · rw [(oy b hmy).2, (oy b hmy).1, (ox b hmx).1]
    rw [this] at ex2
    exact done_ hp2 ey2 ex2
end

end AM
end Go.Proofs.Ytgpehdiancphnaa
