/-
  Results in one form: of all that a value of plain data may be in the abstract machine, one stands for the rest.
-/
import Derived.Test.YtfelhbeiegppgaaNmN
set_option linter.unusedVariables false
set_option linter.unusedSimpArgs false
namespace Go.Proofs.Ytfelhbeiegppgaa
namespace NM
open AM

/-- as RI, but an empty list is never the nil slice -/
inductive RIc : NVal → AVal → Prop
  | bool (b : Bool) : RIc (.bool b) (.bool b)
  | int (k : IntKind) (n : Int) : RIc (.int k n) (.int k n)
  | str (s : List UInt8) : RIc (.str s) (.str s)
  | nilp : RIc .nilp .nilp
  | zsl : RIc .zsl .zsl
  | nilfn : RIc .nilfn .nilfn
  | nili : RIc .nili .nili
  | lst (t : Ty) (xs : List (den t)) (e : Nat) (ys : List (List AVal)) : e = (ops t).size → xs.length = ys.length → (∀ (i : Nat) (x : den t) (y : List AVal), xs[i]? = some x → ys[i]? = some y → ((ops t).cells x).length = y.length) →
      (∀ (i : Nat) (x : den t) (y : List AVal) (j : Nat) (c : NVal) (d : AVal), xs[i]? = some x → ys[i]? = some y → ((ops t).cells x)[j]? = some c → y[j]? = some d → RIc c d) → RIc (.lst t xs) (.imm e ys)
  | iptr (cs : List NVal) (ds : List AVal) (off : Nat) : cs.length = ds.length → (∀ (j : Nat) (c : NVal) (d : AVal), cs[j]? = some c → ds[j]? = some d → RIc c d) → RIc (.iptr cs off) (.iptr ds off)
  | rows (e : Nat) (xs : List (List NVal)) (ys : List (List AVal)) : xs.length = ys.length → (∀ (i : Nat) (x : List NVal) (y : List AVal), xs[i]? = some x → ys[i]? = some y → x.length = y.length) →
      (∀ (i : Nat) (x : List NVal) (y : List AVal) (j : Nat) (c : NVal) (d : AVal), xs[i]? = some x → ys[i]? = some y → x[j]? = some c → y[j]? = some d → RIc c d) → RIc (.rows e xs) (.imm e ys)
  | fn (f : Nat) (cap : List NVal) (cap' : List AVal) : cap.length = cap'.length → (∀ (j : Nat) (c : NVal) (d : AVal), cap[j]? = some c → cap'[j]? = some d → RIc c d) → RIc (.fn f cap) (.fn f cap')

section
variable {w : World} {S : Nat → Prop} {μ : Nat → AM.Loc} {hp : NHeap}

theorem RIc.ri {v : NVal} {a : AVal} (h : RIc v a) : RI v a := by
  induction h with
  | bool b => exact .bool b
  | int k n => exact .int k n
  | str s => exact .str s
  | nilp => exact .nilp
  | zsl => exact .zsl
  | nilfn => exact .nilfn
  | nili => exact .nili
  | lst t xs e ys he hl hr hc ih => exact .lst t xs e ys he hl hr ih
  | iptr cs ds off hl hc ih => exact .iptr cs ds off hl ih
  | rows e xs ys hl hr hc ih => exact .rows e xs ys hl hr ih
  | fn f cap cap' hl hc ih => exact .fn f cap cap' hl ih

/-- what any form stands for, the one form stands for -/
theorem RIc.canon {v : NVal} {a' : AVal} (h : RIc v a') : ∀ {a : AVal} {cv : Value}, RI v a → IR w S a cv → IR w S a' cv := by
  induction h with
  | bool b => intro a cv h1 h2; cases h1; exact h2
  | int k n => intro a cv h1 h2; cases h1; exact h2
  | str s => intro a cv h1 h2; cases h1; exact h2
  | nilp => intro a cv h1 h2; cases h1; exact h2
  | zsl => intro a cv h1 h2; cases h1; exact h2
  | nilfn => intro a cv h1 h2; cases h1; exact h2
  | nili => intro a cv h1 h2; cases h1; exact h2
  | lst t xs e ys he hl hr hc ih =>
    intro a cv h1 h2
    rcases h1.lst_inv with ⟨zs, rfl, hz⟩ | ⟨rfl, rfl⟩
    · cases h2 with
      | imm _ _ A cap g i1 i2 i3 i4 i5 =>
        have hlen : zs.length = ys.length := hz.1.symm.trans hl
        rw [hlen] at i1 ⊢
        have find : ∀ (i : Nat) (y : List AVal) (j : Nat) (d : AVal), ys[i]? = some y → y[j]? = some d → ∃ x z c d', xs[i]? = some x ∧ zs[i]? = some z ∧ ((ops t).cells x)[j]? = some c ∧ z[j]? = some d' ∧ RI c d' := by
          intro i y j d hi hj
          have hx : i < xs.length := by rw [hl]; exact (List.getElem?_eq_some_iff.1 hi).1
          have hzl : i < zs.length := by rw [hlen]; exact (List.getElem?_eq_some_iff.1 hi).1
          have hxz := hz.2 i xs[i] zs[i] (List.getElem?_eq_getElem hx) (List.getElem?_eq_getElem hzl)
          have hxy := hr i xs[i] y (List.getElem?_eq_getElem hx) hi
          have hjl := (List.getElem?_eq_some_iff.1 hj).1
          have hjc : j < ((ops t).cells xs[i]).length := by omega
          have hjz : j < zs[i].length := by rw [← hxz.1]; exact hjc
          exact ⟨xs[i], zs[i], _, _, List.getElem?_eq_getElem hx, List.getElem?_eq_getElem hzl, List.getElem?_eq_getElem hjc, List.getElem?_eq_getElem hjz, hxz.2 j _ _ (List.getElem?_eq_getElem hjc) (List.getElem?_eq_getElem hjz)⟩
        subst he
        refine .imm _ ys A cap g i1 i2 (fun i y hi => ?_) (fun i y j d hi hj => ?_) (fun i y j d hi hj => ?_)
        · have hx : i < xs.length := by rw [hl]; exact (List.getElem?_eq_some_iff.1 hi).1
          rw [← hr i xs[i] y (List.getElem?_eq_getElem hx) hi]
          exact (good t).1 _
        · obtain ⟨x, z, c, d', e1, e2, e3, e4, e5⟩ := find i y j d hi hj
          exact i4 i z j d' e2 e4
        · obtain ⟨x, z, c, d', e1, e2, e3, e4, e5⟩ := find i y j d hi hj
          exact ih i x y j c d e1 hi e3 hj e5 (i5 i z j d' e2 e4)
    · cases h2 with
      | zsl A =>
        have : ys = [] := List.eq_nil_of_length_eq_zero hl.symm
        subst this
        exact .imm e [] A 0 (fun _ _ => undef) (Nat.le_refl _) (fun _ => rfl) (fun i x h => by simp at h) (fun i x j c h => by simp at h) (fun i x j c h => by simp at h)
  | iptr cs ds off hl hc ih =>
    intro a cv h1 h2
    obtain ⟨ds', rfl, hd⟩ := h1.iptr_inv
    have find : ∀ (j : Nat) (c : AVal), ds[j]? = some c → ∃ x d', cs[j]? = some x ∧ ds'[j]? = some d' ∧ RI x d' := fun j c hj => by
      have hx : j < cs.length := by rw [hl]; exact (List.getElem?_eq_some_iff.1 hj).1
      obtain ⟨d', hd1, hd2⟩ := hd.get (List.getElem?_eq_getElem hx)
      exact ⟨_, d', List.getElem?_eq_getElem hx, hd1, hd2⟩
    cases h2 with
    | iptr _ _ m o g i1 i2 i3 =>
      refine .iptr ds off m o g i1 (fun j c hj => ?_) (fun j c hj => ?_)
      · obtain ⟨x, d', e1, e2, e3⟩ := find j c hj
        exact i2 j d' e2
      · obtain ⟨x, d', e1, e2, e3⟩ := find j c hj
        exact ih j x c e1 hj e3 (i3 j d' e2)
  | rows e xs ys hl hr hc ih =>
    intro a cv h1 h2
    rcases h1.rows_inv with ⟨zs, rfl, hz⟩ | ⟨rfl, rfl⟩
    · cases h2 with
      | imm _ _ A cap g i1 i2 i3 i4 i5 =>
        have hlen : zs.length = ys.length := hz.1.symm.trans hl
        rw [hlen] at i1 ⊢
        have find : ∀ (i : Nat) (y : List AVal), ys[i]? = some y → ∃ x z, xs[i]? = some x ∧ zs[i]? = some z ∧ A2 RI x z ∧ x.length = y.length := by
          intro i y hi
          have hx : i < xs.length := by rw [hl]; exact (List.getElem?_eq_some_iff.1 hi).1
          obtain ⟨z, hz1, hz2⟩ := hz.get (List.getElem?_eq_getElem hx)
          exact ⟨_, z, List.getElem?_eq_getElem hx, hz1, hz2, hr i _ y (List.getElem?_eq_getElem hx) hi⟩
        have find2 : ∀ (i : Nat) (y : List AVal) (j : Nat) (d : AVal), ys[i]? = some y → y[j]? = some d → ∃ x z c d', xs[i]? = some x ∧ zs[i]? = some z ∧ x[j]? = some c ∧ z[j]? = some d' ∧ RI c d' := by
          intro i y j d hi hj
          obtain ⟨x, z, e1, e2, e3, e4⟩ := find i y hi
          have hjx : j < x.length := by rw [e4]; exact (List.getElem?_eq_some_iff.1 hj).1
          obtain ⟨d', hd1, hd2⟩ := e3.get (List.getElem?_eq_getElem hjx)
          exact ⟨x, z, _, d', e1, e2, List.getElem?_eq_getElem hjx, hd1, hd2⟩
        refine .imm _ ys A cap g i1 i2 (fun i y hi => ?_) (fun i y j d hi hj => ?_) (fun i y j d hi hj => ?_)
        · obtain ⟨x, z, e1, e2, e3, e4⟩ := find i y hi
          rw [← e4, e3.1]
          exact i3 i z e2
        · obtain ⟨x, z, c, d', e1, e2, e3, e4, e5⟩ := find2 i y j d hi hj
          exact i4 i z j d' e2 e4
        · obtain ⟨x, z, c, d', e1, e2, e3, e4, e5⟩ := find2 i y j d hi hj
          exact ih i x y j c d e1 hi e3 hj e5 (i5 i z j d' e2 e4)
    · cases h2 with
      | zsl A =>
        have : ys = [] := List.eq_nil_of_length_eq_zero hl.symm
        subst this
        exact .imm e [] A 0 (fun _ _ => undef) (Nat.le_refl _) (fun _ => rfl) (fun i x h => by simp at h) (fun i x j c h => by simp at h) (fun i x j c h => by simp at h)
  | fn f cap cap' hl hc ih =>
    intro a cv h1 h2
    cases h1 with
    | fn _ _ cap'' hl2 hc2 =>
      cases h2 with
      | fn _ _ caps i1 i2 =>
        refine .fn f cap' caps (by omega) fun j c v hj hv => ?_
        have hx : j < cap.length := by rw [hl]; exact (List.getElem?_eq_some_iff.1 hj).1
        have hx2 : j < cap''.length := by rw [← hl2]; exact hx
        exact ih j _ c (List.getElem?_eq_getElem hx) hj (hc2 j _ _ (List.getElem?_eq_getElem hx) (List.getElem?_eq_getElem hx2)) (i2 j _ v (List.getElem?_eq_getElem hx2) hv)

/-- every Lean value has its one form -/
def Ex {α : Type} (o : Ops α) : Prop := ∀ x, ∃ ds, A2 RIc (o.cells x) ds
theorem ex_int (k : IntKind) : Ex (intO k) := fun x => ⟨[.int k x], .single (.int k x)⟩
theorem ex_bool : Ex boolO := fun x => ⟨[.bool x], .single (.bool x)⟩
theorem ex_str : Ex strO := fun x => ⟨[.str x], .single (.str x)⟩
theorem ex_unit : Ex unitO := fun x => ⟨[], .nil⟩
theorem ex_pair {α β : Type} {a : Ops α} {b : Ops β} (ha : Ex a) (hb : Ex b) : Ex (pairO a b) := fun x => by
  obtain ⟨d1, h1⟩ := ha x.1
  obtain ⟨d2, h2⟩ := hb x.2
  exact ⟨d1 ++ d2, h1.append h2⟩
theorem ex_iso {α β : Type} {o : Ops β} {f : α → β} {g : β → α} (ho : Ex o) : Ex (isoO o f g) := fun x => ho (f x)
theorem ex_list {t : Ty} (ho : Ex (ops t)) : Ex (listO t (ops t)) := fun xs => by
  have : ∃ ys, A2 (fun x y => A2 RIc ((ops t).cells x) y) xs ys := by
    induction xs with
    | nil => exact ⟨[], .nil⟩
    | cons x xs ih =>
      obtain ⟨ys, h⟩ := ih
      obtain ⟨y, hy⟩ := ho x
      exact ⟨y :: ys, .cons hy h⟩
  obtain ⟨ys, h⟩ := this
  exact ⟨[.imm (ops t).size ys], .single (.lst t xs _ ys rfl h.1 (fun i x y hx hy => (h.2 i x y hx hy).1) (fun i x y j c d hx hy hc hd => (h.2 i x y hx hy).2 j c d hc hd))⟩

/-- the data of a form -/
def InjO {α : Type} (o : Ops α) : Prop := ∀ x x' ds, A2 RI (o.cells x) ds → A2 RI (o.cells x') ds → x = x'
theorem inj_int (k : IntKind) : InjO (intO k) := fun x x' ds h h' => by
  obtain ⟨d, ds, rfl, h1, _⟩ := h.cons_inv
  have h2 := h'.head
  cases h1; cases h2; rfl
theorem inj_bool : InjO boolO := fun x x' ds h h' => by
  obtain ⟨d, ds, rfl, h1, _⟩ := h.cons_inv
  have h2 := h'.head
  cases h1; cases h2; rfl
theorem inj_str : InjO strO := fun x x' ds h h' => by
  obtain ⟨d, ds, rfl, h1, _⟩ := h.cons_inv
  have h2 := h'.head
  cases h1; cases h2; rfl
theorem inj_unit : InjO unitO := fun _ _ _ _ _ => rfl
theorem inj_pair {α β : Type} {a : Ops α} {b : Ops β} (ga : Good a) (ha : InjO a) (hb : InjO b) : InjO (pairO a b) := fun x x' ds h h' => by
  have l1 := ga.1 x.1
  have l2 := ga.1 x'.1
  have e1 := ha x.1 x'.1 (ds.take a.size) (by have := A2.take a.size h; rwa [show ((pairO a b).cells x).take a.size = a.cells x.1 from by simp [pairO, ← l1]] at this) (by have := A2.take a.size h'; rwa [show ((pairO a b).cells x').take a.size = a.cells x'.1 from by simp [pairO, ← l2]] at this)
  have e2 := hb x.2 x'.2 (ds.drop a.size) (by have := A2.drop a.size h; rwa [show ((pairO a b).cells x).drop a.size = b.cells x.2 from by simp [pairO, ← l1]] at this) (by have := A2.drop a.size h'; rwa [show ((pairO a b).cells x').drop a.size = b.cells x'.2 from by simp [pairO, ← l2]] at this)
  exact Prod.ext e1 e2
theorem inj_iso {α β : Type} {o : Ops β} {f : α → β} {g : β → α} (ho : InjO o) (hgf : ∀ x, g (f x) = x) : InjO (isoO o f g) := fun x x' ds h h' => by
  have := ho (f x) (f x') ds h h'
  rw [← hgf x, this, hgf]
theorem inj_A2 {t : Ty} (ho : InjO (ops t)) : ∀ {xs xs' : List (den t)} {ys : List (List AVal)}, A2 (RX t) xs ys → A2 (RX t) xs' ys → xs = xs'
  | [], xs', ys, h, h' => by
    have := h.nil_inv
    subst this
    exact (List.eq_nil_of_length_eq_zero h'.1).symm
  | x :: xs, xs', ys, h, h' => by
    obtain ⟨y, ys', rfl, h1, h2⟩ := h.cons_inv
    cases xs' with
    | nil => have := h'.1; simp at this
    | cons x' xs' => rw [ho x x' y h1 h'.head, inj_A2 ho h2 h'.tail]
theorem inj_list {t : Ty} (ho : InjO (ops t)) : InjO (listO t (ops t)) := fun xs xs' ds h h' => by
  obtain ⟨d, ds, rfl, h1, _⟩ := h.cons_inv
  have h2 := h'.head
  rcases h1.lst_inv with ⟨ys, rfl, hy⟩ | ⟨rfl, rfl⟩
  · rcases h2.lst_inv with ⟨zs, hz, hz2⟩ | ⟨hz, _⟩
    · cases hz; exact inj_A2 ho hy hz2
    · cases hz
  · rcases h2.lst_inv with ⟨zs, hz, hz2⟩ | ⟨_, rfl⟩
    · cases hz
    · rfl

/-- both facts of a type -/
def Bth {α : Type} (o : Ops α) : Prop := Ex o ∧ InjO o ∧ Good o
theorem b_pair {α β : Type} {a : Ops α} {b : Ops β} (ha : Bth a) (hb : Bth b) : Bth (pairO a b) := ⟨ex_pair ha.1 hb.1, inj_pair ha.2.2 ha.2.1 hb.2.1, good_pair ha.2.2 hb.2.2⟩
theorem b_iso {α β : Type} {o : Ops β} {f : α → β} {g : β → α} (ho : Bth o) (hfg : ∀ y, f (g y) = y) (hgf : ∀ x, g (f x) = x) : Bth (isoO o f g) := ⟨ex_iso ho.1, inj_iso ho.2.1 hgf, good_iso ho.2.2 hfg⟩
theorem b_list {t : Ty} (ho : Bth (ops t)) : Bth (listO t (ops t)) := ⟨ex_list ho.1, inj_list ho.2.1, good_list ho.2.2⟩
theorem b_int (k : IntKind) : Bth (intO k) := ⟨ex_int k, inj_int k, good_int k⟩
theorem b_bool : Bth boolO := ⟨ex_bool, inj_bool, good_bool⟩
theorem b_str : Bth strO := ⟨ex_str, inj_str, good_str⟩
theorem b_unit : Bth unitO := ⟨ex_unit, inj_unit, good_unit⟩
theorem b_i64 : Bth i64O := b_int _
theorem b_res : Bth resO := b_iso (b_pair b_i64 (b_pair b_i64 (b_pair b_i64 b_i64))) (fun _ => rfl) (fun _ => rfl)
theorem b_dep : Bth depO := b_iso (b_pair b_i64 b_bool) (fun _ => rfl) (fun _ => rfl)
theorem b_ints : Bth intsO := b_list (t := .int .i64) (b_int _)
theorem b_deps : Bth depsO := b_list (t := .dep) b_dep
theorem b_queue : Bth queueO := b_iso (b_pair b_i64 (b_pair b_ints (b_pair b_i64 (b_pair b_i64 (b_pair b_i64 b_i64))))) (fun _ => rfl) (fun _ => rfl)
theorem b_weights : Bth weightsO := b_iso (b_pair b_i64 (b_pair b_i64 (b_pair b_i64 b_i64))) (fun _ => rfl) (fun _ => rfl)
theorem b_spec : Bth specO := b_iso (b_pair (b_list (t := .res) b_res) (b_pair (b_list (t := .list (.int .i64)) b_ints) (b_pair (b_list (t := .queue) b_queue) (b_pair b_i64 (b_pair b_weights (b_pair b_i64 (b_pair b_i64 (b_pair b_i64 (b_pair b_i64 (b_pair b_i64 (b_pair b_i64 (b_pair b_i64 (b_pair b_i64 (b_pair b_i64 b_i64)))))))))))))) (fun _ => rfl) (fun _ => rfl)
theorem b_job : Bth jobO := b_iso (b_pair b_i64 (b_pair b_i64 (b_pair b_i64 (b_pair b_i64 (b_pair b_res (b_pair b_i64 (b_pair b_deps (b_pair b_i64 (b_pair b_bool (b_pair b_bool (b_pair b_i64 (b_pair b_i64 (b_pair b_i64 (b_pair b_i64 b_i64)))))))))))))) (fun _ => rfl) (fun _ => rfl)
theorem b_share : Bth shareO := b_iso (b_pair b_i64 b_i64) (fun _ => rfl) (fun _ => rfl)
theorem b_shares : Bth (listO .share shareO) := b_list (t := .share) b_share
theorem b_alloc : Bth allocO := b_iso (b_pair b_i64 (b_pair b_res b_shares)) (fun _ => rfl) (fun _ => rfl)
theorem b_run : Bth runO := b_iso (b_pair b_res (b_pair b_shares b_i64)) (fun _ => rfl) (fun _ => rfl)
theorem b_booking : Bth bookingO := b_iso (b_pair b_i64 (b_pair b_i64 (b_pair b_i64 b_i64))) (fun _ => rfl) (fun _ => rfl)
theorem b_step : Bth stepO := b_iso (b_pair b_i64 b_res) (fun _ => rfl) (fun _ => rfl)
theorem b_request : Bth requestO := b_iso (b_pair b_i64 (b_pair b_i64 (b_pair b_i64 (b_pair b_i64 (b_pair b_i64 (b_pair b_i64 (b_pair b_res (b_pair b_i64 (b_pair b_i64 (b_pair b_deps (b_pair b_i64 (b_pair b_i64 (b_pair b_i64 b_i64))))))))))))) (fun _ => rfl) (fun _ => rfl)
theorem b_reply : Bth replyO := b_iso (b_pair b_i64 (b_pair b_i64 (b_pair b_i64 (b_pair b_i64 b_ints)))) (fun _ => rfl) (fun _ => rfl)
theorem b_call : Bth callO := b_iso (b_pair b_i64 b_request) (fun _ => rfl) (fun _ => rfl)
theorem b_entry : Bth entryO := b_iso (b_pair b_i64 (b_pair b_i64 (b_pair b_request (b_pair b_reply (b_pair b_i64 b_bool))))) (fun _ => rfl) (fun _ => rfl)
theorem bth (t : Ty) : Bth (ops t) := by
  induction t with
  | int k => exact b_int k
  | bool => exact b_bool
  | str => exact b_str
  | list t ih => exact b_list ih
  | unit => exact b_unit
  | pair a b iha ihb => exact b_pair iha ihb
  | res => exact b_res
  | dep => exact b_dep
  | queue => exact b_queue
  | weights => exact b_weights
  | spec => exact b_spec
  | job => exact b_job
  | share => exact b_share
  | alloc => exact b_alloc
  | run => exact b_run
  | booking => exact b_booking
  | step => exact b_step
  | request => exact b_request
  | reply => exact b_reply
  | call => exact b_call
  | entry => exact b_entry

noncomputable def acells (t : Ty) (x : den t) : List AVal := Classical.choose ((bth t).1 x)
theorem acells_rel (t : Ty) (x : den t) : A2 RIc ((ops t).cells x) (acells t x) := Classical.choose_spec ((bth t).1 x)

mutual
noncomputable def can (lens : Nat → Nat) : (s : Sh) → s.den → AVal
  | .v t, x => match t.isAgg with
    | true => .agg (acells t x)
    | false => (acells t x).headD .undef
  | .undef, _ => .undef
  | .nilp, _ => .nilp
  | .zsl, _ => .zsl
  | .nilfn, _ => .nilfn
  | .nili, _ => .nili
  | .ptr b i f, _ => .ptr b i f
  | .slw b e, _ => .sl b 0 (lens b) e
  | .fn f l, x => .fn f (cans lens l x)
  | .agg l, x => .agg (cans lens l x)
  | .tup l, x => .tup (cans lens l x)
  | .iptr l off, x => .iptr (cans lens l x) off
  | .rows e l, x => .imm e (cansR lens l x)
  | .nil, _ => .undef
  | .cons _ _, _ => .undef
noncomputable def cans (lens : Nat → Nat) : (s : Sh) → s.den → List AVal
  | .cons a l, x => can lens a x.1 :: cans lens l x.2
  | .v _, _ | .undef, _ | .nilp, _ | .zsl, _ | .nilfn, _ | .nili, _ | .ptr _ _ _, _ | .slw _ _, _ | .fn _ _, _ | .agg _, _ | .tup _, _ | .iptr _ _, _ | .rows _ _, _ | .nil, _ => []
noncomputable def cansR (lens : Nat → Nat) : (s : Sh) → s.den → List (List AVal)
  | .cons a l, x => cans lens a x.1 :: cansR lens l x.2
  | .v _, _ | .undef, _ | .nilp, _ | .zsl, _ | .nilfn, _ | .nili, _ | .ptr _ _ _, _ | .slw _ _, _ | .fn _ _, _ | .agg _, _ | .tup _, _ | .iptr _ _, _ | .rows _ _, _ | .nil, _ => []
end

/- shapes that results may have -/
mutual
def okI : Sh → Bool
  | .v t => !t.isAgg
  | .nilp | .zsl | .nilfn | .nili => true
  | .fn _ l | .iptr l _ => okIs l
  | .rows _ l => okIR l
  | .undef | .ptr _ _ _ | .slw _ _ | .agg _ | .tup _ | .nil | .cons _ _ => false
def okIs : Sh → Bool
  | .cons a l => okI a && okIs l
  | .nil => true
  | .v _ | .undef | .nilp | .zsl | .nilfn | .nili | .ptr _ _ _ | .slw _ _ | .fn _ _ | .agg _ | .tup _ | .iptr _ _ | .rows _ _ => false
def okIR : Sh → Bool
  | .cons a l => okIs a && okIR l
  | .nil => true
  | .v _ | .undef | .nilp | .zsl | .nilfn | .nili | .ptr _ _ _ | .slw _ _ | .fn _ _ | .agg _ | .tup _ | .iptr _ _ | .rows _ _ => false
end
def okP (lv : Nat → Bool) : Sh → Bool
  | .ptr _ _ _ => true
  | .slw b _ => lv b
  | .fn _ _ => false
  | s => okI s
def okAll (p : Sh → Bool) : Sh → Bool
  | .nil => true
  | .cons a l => p a && okAll p l
  | _ => false
def okC (lv : Nat → Bool) : Sh → Bool
  | .fn _ l => okAll (okP lv) l
  | s => okP lv s
def okV (lv : Nat → Bool) : Sh → Bool
  | .agg l => okAll (okC lv) l
  | .v _ => true
  | s => okC lv s
def okT (lv : Nat → Bool) : Sh → Bool
  | .tup l => okAll (okV lv) l
  | s => okV lv s

/-- how long the live blocks are -/
def Lens (hp : NHeap) (lv : Nat → Bool) (lens : Nat → Nat) : Prop := ∀ b, lv b = true → ∃ k, nget hp b = some k ∧ k.len = lens b

theorem okAll_rel {p : Sh → Bool} {lens : Nat → Nat} {R : NVal → AVal → Prop} (hp : ∀ (s : Sh) (x : s.den), p s = true → R (put s x) (can lens s x)) : ∀ {s : Sh} {x : s.den}, okAll p s = true → A2 R (puts s x) (cans lens s x)
  | .cons a l, x, h => by
    simp only [okAll, Bool.and_eq_true] at h
    simp only [puts, cans]
    exact .cons (hp a x.1 h.1) (okAll_rel hp h.2)
  | .nil, x, h => by simp only [puts, cans]; exact .nil
  | .v _, _, h => by cases h
  | .undef, _, h => by cases h
  | .nilp, _, h => by cases h
  | .zsl, _, h => by cases h
  | .nilfn, _, h => by cases h
  | .nili, _, h => by cases h
  | .ptr _ _ _, _, h => by cases h
  | .slw _ _, _, h => by cases h
  | .fn _ _, _, h => by cases h
  | .agg _, _, h => by cases h
  | .tup _, _, h => by cases h
  | .iptr _ _, _, h => by cases h
  | .rows _ _, _, h => by cases h
/-- and with what they stand for -/
theorem okAll_conv {p : Sh → Bool} {lens : Nat → Nat} {R : NVal → AVal → Prop} {V : AVal → Value → Prop} (hp : ∀ (s : Sh) (x : s.den) (a : AVal) (cv : Value), p s = true → R (put s x) a → V a cv → V (can lens s x) cv) : ∀ {s : Sh} {x : s.den} {ds : List AVal}, okAll p s = true → A2 R (puts s x) ds →
    (cans lens s x).length = ds.length ∧ ∀ (j : Nat) (c : AVal) (d : AVal) (cv : Value), (cans lens s x)[j]? = some c → ds[j]? = some d → V d cv → V c cv
  | .cons a l, x, ds, h, hr => by
    simp only [okAll, Bool.and_eq_true] at h
    simp only [puts] at hr
    obtain ⟨d, ds', rfl, h1, h2⟩ := hr.cons_inv
    obtain ⟨i1, i2⟩ := okAll_conv hp (x := x.2) h.2 h2
    simp only [cans]
    refine ⟨by simp [i1], fun j c d' cv hc hd hv => ?_⟩
    cases j with
    | zero => simp at hc hd; subst hc; subst hd; exact hp a x.1 _ cv h.1 h1 hv
    | succ j => simp at hc hd; exact i2 j c d' cv hc hd hv
  | .nil, x, ds, h, hr => by
    simp only [puts] at hr
    rw [hr.nil_inv]
    simp only [cans]
    exact ⟨by simp, fun j c d cv hc => by simp at hc⟩
  | .v _, _, _, h, _ => by cases h
  | .undef, _, _, h, _ => by cases h
  | .nilp, _, _, h, _ => by cases h
  | .zsl, _, _, h, _ => by cases h
  | .nilfn, _, _, h, _ => by cases h
  | .nili, _, _, h, _ => by cases h
  | .ptr _ _ _, _, _, h, _ => by cases h
  | .slw _ _, _, _, h, _ => by cases h
  | .fn _ _, _, _, h, _ => by cases h
  | .agg _, _, _, h, _ => by cases h
  | .tup _, _, _, h, _ => by cases h
  | .iptr _ _, _, _, h, _ => by cases h
  | .rows _ _, _, _, h, _ => by cases h

/-- a type of one cell -/
theorem one_cells {t : Ty} (ht : t.isAgg = false) (x : den t) : ∃ c d, (ops t).cells x = [c] ∧ acells t x = [d] ∧ RIc c d ∧ nimmP c = true := by
  have hr := acells_rel t x
  have hs := (good t).1 x
  have h1 : (ops t).size = 1 := by cases t <;> first | rfl | cases ht
  rw [h1] at hs
  obtain ⟨c, hc⟩ := List.length_eq_one_iff.1 hs
  rw [hc] at hr
  obtain ⟨d, ds, hd, h2, h3⟩ := hr.cons_inv
  rw [h3.nil_inv] at hd
  exact ⟨c, d, hc, hd, h2, (good t).2.2.1 x c (by rw [hc]; exact List.mem_cons_self)⟩

mutual
theorem canI_rel {lens : Nat → Nat} : ∀ (s : Sh) (x : s.den), okI s = true → RIc (put s x) (can lens s x)
  | .v t, x, h => by
    have ht : t.isAgg = false := by simpa [okI] using h
    obtain ⟨c, d, h1, h2, h3, h4⟩ := one_cells ht x
    simp only [put, can, putV, ht, h1, h2]
    exact h3
  | .nilp, x, h => by simp only [put, can]; exact .nilp
  | .zsl, x, h => by simp only [put, can]; exact .zsl
  | .nilfn, x, h => by simp only [put, can]; exact .nilfn
  | .nili, x, h => by simp only [put, can]; exact .nili
  | .fn f l, x, h => by
    simp only [okI] at h
    simp only [put, can]
    have := canIs_rel (lens := lens) l x h
    exact .fn _ _ _ this.1 this.2
  | .iptr l off, x, h => by
    simp only [okI] at h
    simp only [put, can]
    have := canIs_rel (lens := lens) l x h
    exact .iptr _ _ _ this.1 this.2
  | .rows e l, x, h => by
    simp only [okI] at h
    simp only [put, can]
    have := canIR_rel (lens := lens) l x h
    exact .rows _ _ _ this.1 (fun i x y hx hy => (this.2 i x y hx hy).1) (fun i x y j c d hx hy hc hd => (this.2 i x y hx hy).2 j c d hc hd)
  | .undef, x, h => by simp [okI] at h
  | .ptr _ _ _, x, h => by simp [okI] at h
  | .slw _ _, x, h => by simp [okI] at h
  | .agg _, x, h => by simp [okI] at h
  | .tup _, x, h => by simp [okI] at h
  | .nil, x, h => by simp [okI] at h
  | .cons _ _, x, h => by simp [okI] at h
theorem canIs_rel {lens : Nat → Nat} : ∀ (s : Sh) (x : s.den), okIs s = true → A2 RIc (puts s x) (cans lens s x)
  | .cons a l, x, h => by
    simp only [okIs, Bool.and_eq_true] at h
    simp only [puts, cans]
    exact .cons (canI_rel a x.1 h.1) (canIs_rel l x.2 h.2)
  | .nil, x, h => by simp only [puts, cans]; exact .nil
  | .v _, x, h => by simp [okIs] at h
  | .undef, x, h => by simp [okIs] at h
  | .nilp, x, h => by simp [okIs] at h
  | .zsl, x, h => by simp [okIs] at h
  | .nilfn, x, h => by simp [okIs] at h
  | .nili, x, h => by simp [okIs] at h
  | .ptr _ _ _, x, h => by simp [okIs] at h
  | .slw _ _, x, h => by simp [okIs] at h
  | .fn _ _, x, h => by simp [okIs] at h
  | .agg _, x, h => by simp [okIs] at h
  | .tup _, x, h => by simp [okIs] at h
  | .iptr _ _, x, h => by simp [okIs] at h
  | .rows _ _, x, h => by simp [okIs] at h
theorem canIR_rel {lens : Nat → Nat} : ∀ (s : Sh) (x : s.den), okIR s = true → A2 (A2 RIc) (putsR s x) (cansR lens s x)
  | .cons a l, x, h => by
    simp only [okIR, Bool.and_eq_true] at h
    simp only [putsR, cansR]
    exact .cons (canIs_rel a x.1 h.1) (canIR_rel l x.2 h.2)
  | .nil, x, h => by simp only [putsR, cansR]; exact .nil
  | .v _, x, h => by simp [okIR] at h
  | .undef, x, h => by simp [okIR] at h
  | .nilp, x, h => by simp [okIR] at h
  | .zsl, x, h => by simp [okIR] at h
  | .nilfn, x, h => by simp [okIR] at h
  | .nili, x, h => by simp [okIR] at h
  | .ptr _ _ _, x, h => by simp [okIR] at h
  | .slw _ _, x, h => by simp [okIR] at h
  | .fn _ _, x, h => by simp [okIR] at h
  | .agg _, x, h => by simp [okIR] at h
  | .tup _, x, h => by simp [okIR] at h
  | .iptr _ _, x, h => by simp [okIR] at h
  | .rows _ _, x, h => by simp [okIR] at h
end
/-- but for functions -/
theorem canI_imm (s : Sh) (x : s.den) (h : okI s = true) (hn : ∀ f l, s ≠ .fn f l) : nimmP (put s x) = true := by
  cases s <;> simp only [okI] at h <;> try (cases h; done)
  case v t =>
    have ht : t.isAgg = false := by simpa using h
    obtain ⟨c, d, h1, h2, h3, h4⟩ := one_cells ht x
    simp only [put, putV, ht, h1]
    exact h4
  case fn f l => exact absurd rfl (hn f l)
  all_goals (simp only [put]; rfl)
theorem canP_rel {lv : Nat → Bool} {lens : Nat → Nat} (hl : Lens hp lv lens) (s : Sh) (x : s.den) (h : okP lv s = true) : RP hp (put s x) (can lens s x) := by
  cases s with
  | ptr b i f => simp only [put, can]; exact .ptr _ _ _
  | slw b e =>
    simp only [put, can]
    obtain ⟨k, hk, hkl⟩ := hl b h
    refine .slw _ _ _ ?_
    unfold lenAt
    rw [nget_iff.1 hk]
    exact hkl
  | _ => first | exact .ro (canI_rel _ x h).ri | cases h
theorem canC_rel {lv : Nat → Bool} {lens : Nat → Nat} (hl : Lens hp lv lens) (s : Sh) (x : s.den) (h : okC lv s = true) : RC hp (put s x) (can lens s x) := by
  cases s with
  | fn f l => simp only [put, can]; exact .fn _ _ _ (okAll_rel (canP_rel hl) h)
  | _ => exact .p (canP_rel hl _ x h)
theorem canV_rel {lv : Nat → Bool} {lens : Nat → Nat} (hl : Lens hp lv lens) (s : Sh) (x : s.den) (h : okV lv s = true) : RV hp (put s x) (can lens s x) := by
  cases s with
  | agg l => simp only [put, can]; exact .agg _ _ (okAll_rel (canC_rel hl) h)
  | v t =>
    cases ht : t.isAgg with
    | true =>
      simp only [put, can, putV, ht]
      exact .agg _ _ ((acells_rel t x).mono fun _ _ h => h.ri.c)
    | false => exact .c (.p (.ro (canI_rel (.v t) x (by simp [okI, ht])).ri))
  | _ => exact .c (canC_rel hl _ x h)
theorem canT_rel {lv : Nat → Bool} {lens : Nat → Nat} (hl : Lens hp lv lens) (s : Sh) (x : s.den) (h : okT lv s = true) : RTs hp (put s x) (can lens s x) := by
  cases s with
  | tup l => simp only [put, can]; exact .tup _ _ (okAll_rel (canV_rel hl) h)
  | _ => exact .v (canV_rel hl _ x h)

theorem canI_conv {lens : Nat → Nat} (s : Sh) (x : s.den) (a : AVal) (cv : Value) (h : okI s = true) (hr : RI (put s x) a) (hv : IR w S a cv) : IR w S (can lens s x) cv := (canI_rel (lens := lens) s x h).canon hr hv
theorem canI_convV {lens : Nat → Nat} (s : Sh) (x : s.den) (a : AVal) (cv : Value) (h : okI s = true) (hn : ∀ f l, s ≠ .fn f l) (hr : RC hp (put s x) a) (hv : VR μ w S a cv) : VR μ w S (can lens s x) cv := by
  obtain ⟨h1, h2⟩ := hr.imm (canI_imm s x h hn)
  exact .imm _ _ (canI_conv s x a cv h h1 (hv.imm_of h2))
theorem canP_conv {lv : Nat → Bool} {lens : Nat → Nat} (hl : Lens hp lv lens) (s : Sh) (x : s.den) (a : AVal) (cv : Value) (h : okP lv s = true) (hr : RP hp (put s x) a) (hv : VR μ w S a cv) : VR μ w S (can lens s x) cv := by
  cases s with
  | ptr b i f => simp only [put] at hr; simp only [can]; rw [hr.rt.ptr_inv] at hv; exact hv
  | slw b e =>
    simp only [put] at hr
    simp only [can]
    obtain ⟨n, e1, e2⟩ := hr.rt.slw_inv
    obtain ⟨k, hk, hkl⟩ := hl b h
    unfold lenAt at e2
    rw [nget_iff.1 hk] at e2
    rw [e1, ← (show k.len = n from e2), hkl] at hv
    exact hv
  | _ => first | exact canI_convV _ x a cv h (by simp) (.p hr) hv | cases h
theorem canC_conv {lv : Nat → Bool} {lens : Nat → Nat} (hl : Lens hp lv lens) (s : Sh) (x : s.den) (a : AVal) (cv : Value) (h : okC lv s = true) (hr : RC hp (put s x) a) (hv : VR μ w S a cv) : VR μ w S (can lens s x) cv := by
  have notfn : (∀ f cs, put s x ≠ .fn f cs) → RP hp (put s x) a := fun hn => by
    generalize put s x = v at hr hn
    cases hr with
    | p h => exact h
    | fn f cap cap' h => exact absurd rfl (hn f cap)
  cases s with
  | fn f l =>
    simp only [put] at hr
    simp only [can]
    obtain ⟨cap', rfl, hc⟩ := hr.fn_inv
    obtain ⟨i1, i2⟩ := okAll_conv (lens := lens) (V := VR μ w S) (canP_conv hl) h hc
    have hv' : ∃ caps : Array Value, cv = .func (.func f) #[] caps ∧ cap'.length = caps.size ∧ ∀ (j : Nat) (c : AVal) (u : Value), cap'[j]? = some c → caps[j]? = some u → VR μ w S c u := by
      cases hv with
      | imm _ _ hv => cases hv with | fn _ _ caps h1 h2 => exact ⟨caps, rfl, h1, fun j c u hj hu => .imm _ _ (h2 j c u hj hu)⟩
      | fn _ _ caps h1 h2 => exact ⟨caps, rfl, h1, h2⟩
    obtain ⟨caps, rfl, h1, h2⟩ := hv'
    refine .fn _ _ _ (i1.trans h1) fun j c u hj hu => ?_
    have hj' : j < cap'.length := by rw [← i1]; exact (List.getElem?_eq_some_iff.1 hj).1
    exact i2 j c cap'[j] u hj (List.getElem?_eq_getElem hj') (h2 j _ u (List.getElem?_eq_getElem hj') hu)
  | v t => exact canI_convV (.v t) x a cv h (by simp) hr hv
  | _ => first | exact canP_conv hl _ x a cv h (notfn (by simp [put])) hv | cases h
theorem canV_conv {lv : Nat → Bool} {lens : Nat → Nat} (hl : Lens hp lv lens) (s : Sh) (x : s.den) (a : AVal) (cv : Value) (h : okV lv s = true) (hr : RV hp (put s x) a) (hv : VR μ w S a cv) : VR μ w S (can lens s x) cv := by
  have notagg : (∀ cs, put s x ≠ .agg cs) → RC hp (put s x) a := fun hn => by
    generalize put s x = v at hr hn
    cases hr with
    | c h => exact h
    | agg cs ds h => exact absurd rfl (hn cs)
  have aggs : ∀ (ds cs : List AVal), a = .agg ds → cs.length = ds.length → (∀ (j : Nat) (c d : AVal) (u : Value), cs[j]? = some c → ds[j]? = some d → VR μ w S d u → VR μ w S c u) → VR μ w S (.agg cs) cv := fun ds cs e i1 i2 => by
    rw [e] at hv
    cases hv with
    | imm _ _ hv => cases hv
    | agg _ arr h1 h2 =>
      refine .agg _ _ (i1.trans h1) fun j c u hj hu => ?_
      have hj' : j < ds.length := by rw [← i1]; exact (List.getElem?_eq_some_iff.1 hj).1
      exact i2 j c ds[j] u hj (List.getElem?_eq_getElem hj') (h2 j _ u (List.getElem?_eq_getElem hj') hu)
  cases s with
  | agg l =>
    simp only [put] at hr
    simp only [can]
    obtain ⟨ds, e, hc⟩ := (RT.v hr).agg_inv
    obtain ⟨i1, i2⟩ := okAll_conv (lens := lens) (V := VR μ w S) (canC_conv hl) h hc
    exact aggs ds _ e i1 i2
  | v t =>
    cases ht : t.isAgg with
    | true =>
      simp only [put, putV, ht] at hr
      simp only [can, ht]
      obtain ⟨ds, e, hc⟩ := (RT.v hr).agg_inv
      have hac := acells_rel t x
      refine aggs ds _ e (hac.1.symm.trans hc.1) fun j c d u hj hd hu => ?_
      have hj' : j < ((ops t).cells x).length := by rw [hac.1]; exact (List.getElem?_eq_some_iff.1 hj).1
      have hcell := List.getElem?_eq_getElem hj'
      obtain ⟨h1, h2⟩ := (hc.2 j _ d hcell hd).imm ((good t).2.2.1 x _ (List.mem_of_getElem? hcell))
      exact .imm _ _ ((hac.2 j _ c hcell hj).canon h1 (hu.imm_of h2))
    | false =>
      have hi : okI (.v t) = true := by simp [okI, ht]
      refine canI_convV (.v t) x a cv hi (by simp) (notagg fun cs e => ?_) hv
      have := canI_imm (.v t) x hi (by simp)
      rw [e] at this
      cases this
  | _ => first | exact canC_conv hl _ x a cv h (notagg (by simp [put])) hv | cases h
theorem canT_conv {lv : Nat → Bool} {lens : Nat → Nat} (hl : Lens hp lv lens) (s : Sh) (x : s.den) (a : AVal) (cv : Value) (h : okT lv s = true) (hr : RTs hp (put s x) a) (hv : VR μ w S a cv) : VR μ w S (can lens s x) cv := by
  have rest : ∀ (s : Sh) (x : s.den), okV lv s = true → RTs hp (put s x) a → RV hp (put s x) a := fun s x h hr => by
    have h3 := canV_rel hl s x h
    generalize put s x = v at hr h3
    cases hr with
    | undef => exact .c (.p .undef)
    | v h => exact h
    | tup cs ds h => exact absurd rfl (h3.not_tup.1 cs)
  cases s with
  | tup l =>
    simp only [put] at hr
    simp only [can]
    obtain ⟨ds, rfl, hc⟩ := hr.rt.tup_inv
    obtain ⟨i1, i2⟩ := okAll_conv (lens := lens) (V := VR μ w S) (canV_conv hl) h hc
    cases hv with
    | imm _ _ hv => cases hv
    | tup _ arr h1 h2 =>
      refine .tup _ _ (i1.trans h1) fun j c u hj hu => ?_
      have hj' : j < ds.length := by rw [← i1]; exact (List.getElem?_eq_some_iff.1 hj).1
      exact i2 j c ds[j] u hj (List.getElem?_eq_getElem hj') (h2 j _ u (List.getElem?_eq_getElem hj') hu)
  | _ => exact canV_conv hl _ x a cv h (rest _ x h hr) hv
end

end NM
end Go.Proofs.Ytfelhbeiegppgaa
