/-
  What the proof of PlanStays leans on, part 17. (Many texts laid together by program.)
-/
import Derived.Test.YtmnhkpekmgobbaaPkTp
set_option linter.unnecessarySimpa false
set_option linter.unusedSimpArgs false
set_option linter.unusedVariables false
section
namespace Go.Proofs.Ytmnhkpekmgobbaa
namespace NM
open AM
inductive RIc : NVal → AVal → Prop
 | bool (b : Bool) : RIc (.bool b) (.bool b)
 | int (k : IntKind) (n : Int) : RIc (.int k n) (.int k n)
 | str (s : List UInt8) : RIc (.str s) (.str s)
 | nilp : RIc .nilp .nilp
 | zsl : RIc .zsl .zsl
 | nilfn : RIc .nilfn .nilfn
 | nili : RIc .nili .nili
 | lst (t : Ty) (xs : List (den t)) (e : Nat) (ys : List (List AVal)) : e = (ops t).size → xs.length = ys.length → (∀ (i : Nat) (x : den t) (y : List AVal), xs[i]? = some x → ys[i]? = some y → ((ops t).cells x).length = y.length) →
     (∀ (i : Nat) (x : den t) (y : List AVal) (j : Nat) (c : NVal) (d : AVal), xs[i]? = some x → ys[i]? = some y → ((ops t).cells x)[j]? = some c → y[j]? = some d → RIc c d) → RIc (.lst t xs) (.imm e ys)
 | iptr (cs : List NVal) (ds : List AVal) (off : Nat) : cs.length = ds.length → (∀ (j : Nat) (c : NVal) (d : AVal), cs[j]? = some c → ds[j]? = some d → RIc c d) → RIc (.iptr cs off) (.iptr ds off)
 | rows (e : Nat) (xs : List (List NVal)) (ys : List (List AVal)) : xs.length = ys.length → (∀ (i : Nat) (x : List NVal) (y : List AVal), xs[i]? = some x → ys[i]? = some y → x.length = y.length) →
     (∀ (i : Nat) (x : List NVal) (y : List AVal) (j : Nat) (c : NVal) (d : AVal), xs[i]? = some x → ys[i]? = some y → x[j]? = some c → y[j]? = some d → RIc c d) → RIc (.rows e xs) (.imm e ys)
 | fn (f : Nat) (cap : List NVal) (cap' : List AVal) : cap.length = cap'.length → (∀ (j : Nat) (c : NVal) (d : AVal), cap[j]? = some c → cap'[j]? = some d → RIc c d) → RIc (.fn f cap) (.fn f cap')
section
variable {w : World} {S : Nat → Prop} {μ : Nat → AM.Loc} {hp : NHeap}
theorem RIc.ri {v : NVal} {a : AVal} (h : RIc v a) : RI v a := by
 induction h with
 | bool b => exact .bool b
 | int k n => exact .int k n
 | str s => exact .str s
 | nilp => exact .nilp
 | zsl => exact .zsl
 | nilfn => exact .nilfn
 | nili => exact .nili
 | lst t xs e ys he hl hr hc ih => exact .lst t xs e ys he hl hr ih
 | iptr cs ds off hl hc ih => exact .iptr cs ds off hl ih
 | rows e xs ys hl hr hc ih => exact .rows e xs ys hl hr ih
 | fn f cap cap' hl hc ih => exact .fn f cap cap' hl ih
theorem RIc.canon {v : NVal} {a' : AVal} (h : RIc v a') : ∀ {a : AVal} {cv : Value}, RI v a → IR w S a cv → IR w S a' cv := by
 induction h with
 | bool b => intro a cv h1 h2; cases h1; exact h2
 | int k n => intro a cv h1 h2; cases h1; exact h2
 | str s => intro a cv h1 h2; cases h1; exact h2
 | nilp => intro a cv h1 h2; cases h1; exact h2
 | zsl => intro a cv h1 h2; cases h1; exact h2
 | nilfn => intro a cv h1 h2; cases h1; exact h2
 | nili => intro a cv h1 h2; cases h1; exact h2
 | lst t xs e ys he hl hr hc ih =>
   intro a cv h1 h2
   rcases h1.lst_inv with ⟨zs, rfl, hz⟩ | ⟨rfl, rfl⟩
   · cases h2 with
     | imm _ _ A cap g i1 i2 i3 i4 i5 =>
       have hlen : zs.length = ys.length := hz.1.symm.trans hl
       rw [hlen] at i1 ⊢
       have find : ∀ (i : Nat) (y : List AVal) (j : Nat) (d : AVal), ys[i]? = some y → y[j]? = some d → ∃ x z c d', xs[i]? = some x ∧ zs[i]? = some z ∧ ((ops t).cells x)[j]? = some c ∧ z[j]? = some d' ∧ RI c d' := by
         intro i y j d hi hj
         have hx : i < xs.length := by rw [hl]; exact (List.getElem?_eq_some_iff.1 hi).1
         have hzl : i < zs.length := by rw [hlen]; exact (List.getElem?_eq_some_iff.1 hi).1
         have hxz := hz.2 i xs[i] zs[i] (List.getElem?_eq_getElem hx) (List.getElem?_eq_getElem hzl)
         have hxy := hr i xs[i] y (List.getElem?_eq_getElem hx) hi
         have hjl := (List.getElem?_eq_some_iff.1 hj).1
         have hjc : j < ((ops t).cells xs[i]).length := by omega
         have hjz : j < zs[i].length := by rw [← hxz.1]; exact hjc
         exact ⟨xs[i], zs[i], _, _, List.getElem?_eq_getElem hx, List.getElem?_eq_getElem hzl, List.getElem?_eq_getElem hjc, List.getElem?_eq_getElem hjz, hxz.2 j _ _ (List.getElem?_eq_getElem hjc) (List.getElem?_eq_getElem hjz)⟩
       subst he
       refine .imm _ ys A cap g i1 i2 (fun i y hi => ?_) (fun i y j d hi hj => ?_) (fun i y j d hi hj => ?_)
       · have hx : i < xs.length := by rw [hl]; exact (List.getElem?_eq_some_iff.1 hi).1
         rw [← hr i xs[i] y (List.getElem?_eq_getElem hx) hi]
         exact (good t).1 _
       · obtain ⟨x, z, c, d', e1, e2, e3, e4, e5⟩ := find i y j d hi hj
         exact i4 i z j d' e2 e4
       · obtain ⟨x, z, c, d', e1, e2, e3, e4, e5⟩ := find i y j d hi hj
         exact ih i x y j c d e1 hi e3 hj e5 (i5 i z j d' e2 e4)
   · cases h2 with
     | zsl A =>
       have : ys = [] := List.eq_nil_of_length_eq_zero hl.symm
       subst this
       exact .imm e [] A 0 (fun _ _ => undef) (Nat.le_refl _) (fun _ => rfl) (fun i x h => by simp at h) (fun i x j c h => by simp at h) (fun i x j c h => by simp at h)
 | iptr cs ds off hl hc ih =>
   intro a cv h1 h2
   obtain ⟨ds', rfl, hd⟩ := h1.iptr_inv
   have find : ∀ (j : Nat) (c : AVal), ds[j]? = some c → ∃ x d', cs[j]? = some x ∧ ds'[j]? = some d' ∧ RI x d' := fun j c hj => by
     have hx : j < cs.length := by rw [hl]; exact (List.getElem?_eq_some_iff.1 hj).1
     obtain ⟨d', hd1, hd2⟩ := hd.get (List.getElem?_eq_getElem hx)
     exact ⟨_, d', List.getElem?_eq_getElem hx, hd1, hd2⟩
   cases h2 with
   | iptr _ _ m o g i1 i2 i3 =>
     refine .iptr ds off m o g i1 (fun j c hj => ?_) (fun j c hj => ?_)
     · obtain ⟨x, d', e1, e2, e3⟩ := find j c hj
       exact i2 j d' e2
     · obtain ⟨x, d', e1, e2, e3⟩ := find j c hj
       exact ih j x c e1 hj e3 (i3 j d' e2)
 | rows e xs ys hl hr hc ih =>
   intro a cv h1 h2
   rcases h1.rows_inv with ⟨zs, rfl, hz⟩ | ⟨rfl, rfl⟩
   · cases h2 with
     | imm _ _ A cap g i1 i2 i3 i4 i5 =>
       have hlen : zs.length = ys.length := hz.1.symm.trans hl
       rw [hlen] at i1 ⊢
       have find : ∀ (i : Nat) (y : List AVal), ys[i]? = some y → ∃ x z, xs[i]? = some x ∧ zs[i]? = some z ∧ A2 RI x z ∧ x.length = y.length := by
         intro i y hi
         have hx : i < xs.length := by rw [hl]; exact (List.getElem?_eq_some_iff.1 hi).1
         obtain ⟨z, hz1, hz2⟩ := hz.get (List.getElem?_eq_getElem hx)
         exact ⟨_, z, List.getElem?_eq_getElem hx, hz1, hz2, hr i _ y (List.getElem?_eq_getElem hx) hi⟩
       have find2 : ∀ (i : Nat) (y : List AVal) (j : Nat) (d : AVal), ys[i]? = some y → y[j]? = some d → ∃ x z c d', xs[i]? = some x ∧ zs[i]? = some z ∧ x[j]? = some c ∧ z[j]? = some d' ∧ RI c d' := by
         intro i y j d hi hj
         obtain ⟨x, z, e1, e2, e3, e4⟩ := find i y hi
         have hjx : j < x.length := by rw [e4]; exact (List.getElem?_eq_some_iff.1 hj).1
         obtain ⟨d', hd1, hd2⟩ := e3.get (List.getElem?_eq_getElem hjx)
         exact ⟨x, z, _, d', e1, e2, List.getElem?_eq_getElem hjx, hd1, hd2⟩
       refine .imm _ ys A cap g i1 i2 (fun i y hi => ?_) (fun i y j d hi hj => ?_) (fun i y j d hi hj => ?_)
       · obtain ⟨x, z, e1, e2, e3, e4⟩ := find i y hi
         rw [← e4, e3.1]
         exact i3 i z e2
       · obtain ⟨x, z, c, d', e1, e2, e3, e4, e5⟩ := find2 i y j d hi hj
         exact i4 i z j d' e2 e4
       · obtain ⟨x, z, c, d', e1, e2, e3, e4, e5⟩ := find2 i y j d hi hj
         exact ih i x y j c d e1 hi e3 hj e5 (i5 i z j d' e2 e4)
   · cases h2 with
     | zsl A =>
       have : ys = [] := List.eq_nil_of_length_eq_zero hl.symm
       subst this
       exact .imm e [] A 0 (fun _ _ => undef) (Nat.le_refl _) (fun _ => rfl) (fun i x h => by simp at h) (fun i x j c h => by simp at h) (fun i x j c h => by simp at h)
 | fn f cap cap' hl hc ih =>
   intro a cv h1 h2
   cases h1 with
   | fn _ _ cap'' hl2 hc2 =>
     cases h2 with
     | fn _ _ caps i1 i2 =>
       refine .fn f cap' caps (by omega) fun j c v hj hv => ?_
       have hx : j < cap.length := by rw [hl]; exact (List.getElem?_eq_some_iff.1 hj).1
       have hx2 : j < cap''.length := by rw [← hl2]; exact hx
       exact ih j _ c (List.getElem?_eq_getElem hx) hj (hc2 j _ _ (List.getElem?_eq_getElem hx) (List.getElem?_eq_getElem hx2)) (i2 j _ v (List.getElem?_eq_getElem hx2) hv)
def Ex {α : Type} (o : Ops α) : Prop := ∀ x, ∃ ds, A2 RIc (o.cells x) ds
theorem ex_int (k : IntKind) : Ex (intO k) := fun x => ⟨[.int k x], .single (.int k x)⟩
theorem ex_bool : Ex boolO := fun x => ⟨[.bool x], .single (.bool x)⟩
theorem ex_str : Ex strO := fun x => ⟨[.str x], .single (.str x)⟩
theorem ex_unit : Ex unitO := fun x => ⟨[], .nil⟩
theorem ex_pair {α β : Type} {a : Ops α} {b : Ops β} (ha : Ex a) (hb : Ex b) : Ex (pairO a b) := fun x => by
 obtain ⟨d1, h1⟩ := ha x.1
 obtain ⟨d2, h2⟩ := hb x.2
 exact ⟨d1 ++ d2, h1.append h2⟩
theorem ex_iso {α β : Type} {o : Ops β} {f : α → β} {g : β → α} (ho : Ex o) : Ex (isoO o f g) := fun x => ho (f x)
theorem ex_list {t : Ty} (ho : Ex (ops t)) : Ex (listO t (ops t)) := fun xs => by
 have : ∃ ys, A2 (fun x y => A2 RIc ((ops t).cells x) y) xs ys := by
   induction xs with
   | nil => exact ⟨[], .nil⟩
   | cons x xs ih =>
     obtain ⟨ys, h⟩ := ih
     obtain ⟨y, hy⟩ := ho x
     exact ⟨y :: ys, .cons hy h⟩
 obtain ⟨ys, h⟩ := this
 exact ⟨[.imm (ops t).size ys], .single (.lst t xs _ ys rfl h.1 (fun i x y hx hy => (h.2 i x y hx hy).1) (fun i x y j c d hx hy hc hd => (h.2 i x y hx hy).2 j c d hc hd))⟩
def InjO {α : Type} (o : Ops α) : Prop := ∀ x x' ds, A2 RI (o.cells x) ds → A2 RI (o.cells x') ds → x = x'
theorem inj_int (k : IntKind) : InjO (intO k) := fun x x' ds h h' => by
 obtain ⟨d, ds, rfl, h1, _⟩ := h.cons_inv
 have h2 := h'.head
 cases h1; cases h2; rfl
theorem inj_bool : InjO boolO := fun x x' ds h h' => by
 obtain ⟨d, ds, rfl, h1, _⟩ := h.cons_inv
 have h2 := h'.head
 cases h1; cases h2; rfl
theorem inj_str : InjO strO := fun x x' ds h h' => by
 obtain ⟨d, ds, rfl, h1, _⟩ := h.cons_inv
 have h2 := h'.head
 cases h1; cases h2; rfl
theorem inj_unit : InjO unitO := fun _ _ _ _ _ => rfl
theorem inj_pair {α β : Type} {a : Ops α} {b : Ops β} (ga : Good a) (ha : InjO a) (hb : InjO b) : InjO (pairO a b) := fun x x' ds h h' => by
 have l1 := ga.1 x.1
 have l2 := ga.1 x'.1
 have e1 := ha x.1 x'.1 (ds.take a.size) (by have := A2.take a.size h; rwa [show ((pairO a b).cells x).take a.size = a.cells x.1 from by simp [pairO, ← l1]] at this) (by have := A2.take a.size h'; rwa [show ((pairO a b).cells x').take a.size = a.cells x'.1 from by simp [pairO, ← l2]] at this)
 have e2 := hb x.2 x'.2 (ds.drop a.size) (by have := A2.drop a.size h; rwa [show ((pairO a b).cells x).drop a.size = b.cells x.2 from by simp [pairO, ← l1]] at this) (by have := A2.drop a.size h'; rwa [show ((pairO a b).cells x').drop a.size = b.cells x'.2 from by simp [pairO, ← l2]] at this)
 exact Prod.ext e1 e2
theorem inj_iso {α β : Type} {o : Ops β} {f : α → β} {g : β → α} (ho : InjO o) (hgf : ∀ x, g (f x) = x) : InjO (isoO o f g) := fun x x' ds h h' => by
 have := ho (f x) (f x') ds h h'
 rw [← hgf x, this, hgf]
theorem inj_A2 {t : Ty} (ho : InjO (ops t)) : ∀ {xs xs' : List (den t)} {ys : List (List AVal)}, A2 (RX t) xs ys → A2 (RX t) xs' ys → xs = xs'
 | [], xs', ys, h, h' => by
   have := h.nil_inv
   subst this
   exact (List.eq_nil_of_length_eq_zero h'.1).symm
 | x :: xs, xs', ys, h, h' => by
   obtain ⟨y, ys', rfl, h1, h2⟩ := h.cons_inv
   cases xs' with
   | nil => have := h'.1; simp at this
   | cons x' xs' => rw [ho x x' y h1 h'.head, inj_A2 ho h2 h'.tail]
theorem inj_list {t : Ty} (ho : InjO (ops t)) : InjO (listO t (ops t)) := fun xs xs' ds h h' => by
 obtain ⟨d, ds, rfl, h1, _⟩ := h.cons_inv
 have h2 := h'.head
 rcases h1.lst_inv with ⟨ys, rfl, hy⟩ | ⟨rfl, rfl⟩
 · rcases h2.lst_inv with ⟨zs, hz, hz2⟩ | ⟨hz, _⟩
   · cases hz; exact inj_A2 ho hy hz2
   · cases hz
 · rcases h2.lst_inv with ⟨zs, hz, hz2⟩ | ⟨_, rfl⟩
   · cases hz
   · rfl
def Bth {α : Type} (o : Ops α) : Prop := Ex o ∧ InjO o ∧ Good o
theorem b_pair {α β : Type} {a : Ops α} {b : Ops β} (ha : Bth a) (hb : Bth b) : Bth (pairO a b) := ⟨ex_pair ha.1 hb.1, inj_pair ha.2.2 ha.2.1 hb.2.1, good_pair ha.2.2 hb.2.2⟩
theorem b_iso {α β : Type} {o : Ops β} {f : α → β} {g : β → α} (ho : Bth o) (hfg : ∀ y, f (g y) = y) (hgf : ∀ x, g (f x) = x) : Bth (isoO o f g) := ⟨ex_iso ho.1, inj_iso ho.2.1 hgf, good_iso ho.2.2 hfg⟩
theorem b_list {t : Ty} (ho : Bth (ops t)) : Bth (listO t (ops t)) := ⟨ex_list ho.1, inj_list ho.2.1, good_list ho.2.2⟩
theorem b_int (k : IntKind) : Bth (intO k) := ⟨ex_int k, inj_int k, good_int k⟩
theorem b_bool : Bth boolO := ⟨ex_bool, inj_bool, good_bool⟩
theorem b_str : Bth strO := ⟨ex_str, inj_str, good_str⟩
theorem b_unit : Bth unitO := ⟨ex_unit, inj_unit, good_unit⟩
theorem b_i64 : Bth i64O := b_int _
theorem b_res : Bth resO := b_iso (b_pair b_i64 (b_pair b_i64 (b_pair b_i64 b_i64))) (fun _ => rfl) (fun _ => rfl)
theorem b_dep : Bth depO := b_iso (b_pair b_i64 b_bool) (fun _ => rfl) (fun _ => rfl)
theorem b_ints : Bth intsO := b_list (t := .int .i64) (b_int _)
theorem b_deps : Bth depsO := b_list (t := .dep) b_dep
theorem b_queue : Bth queueO := b_iso (b_pair b_i64 (b_pair b_ints (b_pair b_i64 (b_pair b_i64 (b_pair b_i64 b_i64))))) (fun _ => rfl) (fun _ => rfl)
theorem b_weights : Bth weightsO := b_iso (b_pair b_i64 (b_pair b_i64 (b_pair b_i64 b_i64))) (fun _ => rfl) (fun _ => rfl)
theorem b_spec : Bth specO := b_iso (b_pair (b_list (t := .res) b_res) (b_pair (b_list (t := .list (.int .i64)) b_ints) (b_pair (b_list (t := .queue) b_queue) (b_pair b_i64 (b_pair b_weights (b_pair b_i64 (b_pair b_i64 (b_pair b_i64 (b_pair b_i64 (b_pair b_i64 (b_pair b_i64 (b_pair b_i64 (b_pair b_i64 (b_pair b_i64 b_i64)))))))))))))) (fun _ => rfl) (fun _ => rfl)
theorem b_job : Bth jobO := b_iso (b_pair b_i64 (b_pair b_i64 (b_pair b_i64 (b_pair b_i64 (b_pair b_res (b_pair b_i64 (b_pair b_deps (b_pair b_i64 (b_pair b_bool (b_pair b_bool (b_pair b_i64 (b_pair b_i64 (b_pair b_i64 (b_pair b_i64 b_i64)))))))))))))) (fun _ => rfl) (fun _ => rfl)
theorem b_share : Bth shareO := b_iso (b_pair b_i64 b_i64) (fun _ => rfl) (fun _ => rfl)
theorem b_shares : Bth (listO .share shareO) := b_list (t := .share) b_share
theorem b_alloc : Bth allocO := b_iso (b_pair b_i64 (b_pair b_res b_shares)) (fun _ => rfl) (fun _ => rfl)
theorem b_run : Bth runO := b_iso (b_pair b_res (b_pair b_shares b_i64)) (fun _ => rfl) (fun _ => rfl)
theorem b_booking : Bth bookingO := b_iso (b_pair b_i64 (b_pair b_i64 (b_pair b_i64 b_i64))) (fun _ => rfl) (fun _ => rfl)
theorem b_step : Bth stepO := b_iso (b_pair b_i64 b_res) (fun _ => rfl) (fun _ => rfl)
theorem b_request : Bth requestO := b_iso (b_pair b_i64 (b_pair b_i64 (b_pair b_i64 (b_pair b_i64 (b_pair b_i64 (b_pair b_i64 (b_pair b_res (b_pair b_i64 (b_pair b_i64 (b_pair b_deps (b_pair b_i64 (b_pair b_i64 (b_pair b_i64 b_i64))))))))))))) (fun _ => rfl) (fun _ => rfl)
theorem b_reply : Bth replyO := b_iso (b_pair b_i64 (b_pair b_i64 (b_pair b_i64 (b_pair b_i64 b_ints)))) (fun _ => rfl) (fun _ => rfl)
theorem b_call : Bth callO := b_iso (b_pair b_i64 b_request) (fun _ => rfl) (fun _ => rfl)
theorem b_entry : Bth entryO := b_iso (b_pair b_i64 (b_pair b_i64 (b_pair b_request (b_pair b_reply (b_pair b_i64 b_bool))))) (fun _ => rfl) (fun _ => rfl)
theorem bth (t : Ty) : Bth (ops t) := by
 induction t with
 | int k => exact b_int k
 | bool => exact b_bool
 | str => exact b_str
 | list t ih => exact b_list ih
 | unit => exact b_unit
 | pair a b iha ihb => exact b_pair iha ihb
 | res => exact b_res
 | dep => exact b_dep
 | queue => exact b_queue
 | weights => exact b_weights
 | spec => exact b_spec
 | job => exact b_job
 | share => exact b_share
 | alloc => exact b_alloc
 | run => exact b_run
 | booking => exact b_booking
 | step => exact b_step
 | request => exact b_request
 | reply => exact b_reply
 | call => exact b_call
 | entry => exact b_entry
noncomputable def acells (t : Ty) (x : den t) : List AVal := Classical.choose ((bth t).1 x)
theorem acells_rel (t : Ty) (x : den t) : A2 RIc ((ops t).cells x) (acells t x) := Classical.choose_spec ((bth t).1 x)
mutual
noncomputable def can (lens : Nat → Nat) : (s : Sh) → s.den → AVal
 | .v t, x => match t.isAgg with
   | true => .agg (acells t x)
   | false => (acells t x).headD .undef
 | .undef, _ => .undef
 | .nilp, _ => .nilp
 | .zsl, _ => .zsl
 | .nilfn, _ => .nilfn
 | .nili, _ => .nili
 | .ptr b i f, _ => .ptr b i f
 | .slw b e, _ => .sl b 0 (lens b) e
 | .fn f l, x => .fn f (cans lens l x)
 | .agg l, x => .agg (cans lens l x)
 | .tup l, x => .tup (cans lens l x)
 | .iptr l off, x => .iptr (cans lens l x) off
 | .rows e l, x => .imm e (cansR lens l x)
 | .nil, _ => .undef
 | .cons _ _, _ => .undef
noncomputable def cans (lens : Nat → Nat) : (s : Sh) → s.den → List AVal
 | .cons a l, x => can lens a x.1 :: cans lens l x.2
 | .v _, _ | .undef, _ | .nilp, _ | .zsl, _ | .nilfn, _ | .nili, _ | .ptr _ _ _, _ | .slw _ _, _ | .fn _ _, _ | .agg _, _ | .tup _, _ | .iptr _ _, _ | .rows _ _, _ | .nil, _ => []
noncomputable def cansR (lens : Nat → Nat) : (s : Sh) → s.den → List (List AVal)
 | .cons a l, x => cans lens a x.1 :: cansR lens l x.2
 | .v _, _ | .undef, _ | .nilp, _ | .zsl, _ | .nilfn, _ | .nili, _ | .ptr _ _ _, _ | .slw _ _, _ | .fn _ _, _ | .agg _, _ | .tup _, _ | .iptr _ _, _ | .rows _ _, _ | .nil, _ => []
end
/- shapes that results may have -/
mutual
def okI : Sh → Bool
 | .v t => !t.isAgg
 | .nilp | .zsl | .nilfn | .nili => true
 | .fn _ l | .iptr l _ => okIs l
 | .rows _ l => okIR l
 | .undef | .ptr _ _ _ | .slw _ _ | .agg _ | .tup _ | .nil | .cons _ _ => false
def okIs : Sh → Bool
 | .cons a l => okI a && okIs l
 | .nil => true
 | .v _ | .undef | .nilp | .zsl | .nilfn | .nili | .ptr _ _ _ | .slw _ _ | .fn _ _ | .agg _ | .tup _ | .iptr _ _ | .rows _ _ => false
def okIR : Sh → Bool
 | .cons a l => okIs a && okIR l
 | .nil => true
 | .v _ | .undef | .nilp | .zsl | .nilfn | .nili | .ptr _ _ _ | .slw _ _ | .fn _ _ | .agg _ | .tup _ | .iptr _ _ | .rows _ _ => false
end
def okP (lv : Nat → Bool) : Sh → Bool
 | .ptr _ _ _ => true
 | .slw b _ => lv b
 | .fn _ _ => false
 | s => okI s
def okAll (p : Sh → Bool) : Sh → Bool
 | .nil => true
 | .cons a l => p a && okAll p l
 | _ => false
def okC (lv : Nat → Bool) : Sh → Bool
 | .fn _ l => okAll (okP lv) l
 | s => okP lv s
def okV (lv : Nat → Bool) : Sh → Bool
 | .agg l => okAll (okC lv) l
 | .v _ => true
 | s => okC lv s
def okT (lv : Nat → Bool) : Sh → Bool
 | .tup l => okAll (okV lv) l
 | s => okV lv s
def Lens (hp : NHeap) (lv : Nat → Bool) (lens : Nat → Nat) : Prop := ∀ b, lv b = true → ∃ k, nget hp b = some k ∧ k.len = lens b
theorem okAll_rel {p : Sh → Bool} {lens : Nat → Nat} {R : NVal → AVal → Prop} (hp : ∀ (s : Sh) (x : s.den), p s = true → R (put s x) (can lens s x)) : ∀ {s : Sh} {x : s.den}, okAll p s = true → A2 R (puts s x) (cans lens s x)
 | .cons a l, x, h => by
   simp only [okAll, Bool.and_eq_true] at h
   simp only [puts, cans]
   exact .cons (hp a x.1 h.1) (okAll_rel hp h.2)
 | .nil, x, h => by simp only [puts, cans]; exact .nil
 | .v _, _, h => by cases h
 | .undef, _, h => by cases h
 | .nilp, _, h => by cases h
 | .zsl, _, h => by cases h
 | .nilfn, _, h => by cases h
 | .nili, _, h => by cases h
 | .ptr _ _ _, _, h => by cases h
 | .slw _ _, _, h => by cases h
 | .fn _ _, _, h => by cases h
 | .agg _, _, h => by cases h
 | .tup _, _, h => by cases h
 | .iptr _ _, _, h => by cases h
 | .rows _ _, _, h => by cases h
theorem okAll_conv {p : Sh → Bool} {lens : Nat → Nat} {R : NVal → AVal → Prop} {V : AVal → Value → Prop} (hp : ∀ (s : Sh) (x : s.den) (a : AVal) (cv : Value), p s = true → R (put s x) a → V a cv → V (can lens s x) cv) : ∀ {s : Sh} {x : s.den} {ds : List AVal}, okAll p s = true → A2 R (puts s x) ds →
   (cans lens s x).length = ds.length ∧ ∀ (j : Nat) (c : AVal) (d : AVal) (cv : Value), (cans lens s x)[j]? = some c → ds[j]? = some d → V d cv → V c cv
 | .cons a l, x, ds, h, hr => by
   simp only [okAll, Bool.and_eq_true] at h
   simp only [puts] at hr
   obtain ⟨d, ds', rfl, h1, h2⟩ := hr.cons_inv
   obtain ⟨i1, i2⟩ := okAll_conv hp (x := x.2) h.2 h2
   simp only [cans]
   refine ⟨by simp [i1], fun j c d' cv hc hd hv => ?_⟩
   cases j with
   | zero => simp at hc hd; subst hc; subst hd; exact hp a x.1 _ cv h.1 h1 hv
   | succ j => simp at hc hd; exact i2 j c d' cv hc hd hv
 | .nil, x, ds, h, hr => by
   simp only [puts] at hr
   rw [hr.nil_inv]
   simp only [cans]
   exact ⟨by simp, fun j c d cv hc => by simp at hc⟩
 | .v _, _, _, h, _ => by cases h
 | .undef, _, _, h, _ => by cases h
 | .nilp, _, _, h, _ => by cases h
 | .zsl, _, _, h, _ => by cases h
 | .nilfn, _, _, h, _ => by cases h
 | .nili, _, _, h, _ => by cases h
 | .ptr _ _ _, _, _, h, _ => by cases h
 | .slw _ _, _, _, h, _ => by cases h
 | .fn _ _, _, _, h, _ => by cases h
 | .agg _, _, _, h, _ => by cases h
 | .tup _, _, _, h, _ => by cases h
 | .iptr _ _, _, _, h, _ => by cases h
 | .rows _ _, _, _, h, _ => by cases h
theorem one_cells {t : Ty} (ht : t.isAgg = false) (x : den t) : ∃ c d, (ops t).cells x = [c] ∧ acells t x = [d] ∧ RIc c d ∧ nimmP c = true := by
 have hr := acells_rel t x
 have hs := (good t).1 x
 have h1 : (ops t).size = 1 := by cases t <;> first | rfl | cases ht
 rw [h1] at hs
 obtain ⟨c, hc⟩ := List.length_eq_one_iff.1 hs
 rw [hc] at hr
 obtain ⟨d, ds, hd, h2, h3⟩ := hr.cons_inv
 rw [h3.nil_inv] at hd
 exact ⟨c, d, hc, hd, h2, (good t).2.2.1 x c (by rw [hc]; exact List.mem_cons_self)⟩
mutual
theorem canI_rel {lens : Nat → Nat} : ∀ (s : Sh) (x : s.den), okI s = true → RIc (put s x) (can lens s x)
 | .v t, x, h => by
   have ht : t.isAgg = false := by simpa [okI] using h
   obtain ⟨c, d, h1, h2, h3, h4⟩ := one_cells ht x
   simp only [put, can, putV, ht, h1, h2]
   exact h3
 | .nilp, x, h => by simp only [put, can]; exact .nilp
 | .zsl, x, h => by simp only [put, can]; exact .zsl
 | .nilfn, x, h => by simp only [put, can]; exact .nilfn
 | .nili, x, h => by simp only [put, can]; exact .nili
 | .fn f l, x, h => by
   simp only [okI] at h
   simp only [put, can]
   have := canIs_rel (lens := lens) l x h
   exact .fn _ _ _ this.1 this.2
 | .iptr l off, x, h => by
   simp only [okI] at h
   simp only [put, can]
   have := canIs_rel (lens := lens) l x h
   exact .iptr _ _ _ this.1 this.2
 | .rows e l, x, h => by
   simp only [okI] at h
   simp only [put, can]
   have := canIR_rel (lens := lens) l x h
   exact .rows _ _ _ this.1 (fun i x y hx hy => (this.2 i x y hx hy).1) (fun i x y j c d hx hy hc hd => (this.2 i x y hx hy).2 j c d hc hd)
 | .undef, x, h => by simp [okI] at h
 | .ptr _ _ _, x, h => by simp [okI] at h
 | .slw _ _, x, h => by simp [okI] at h
 | .agg _, x, h => by simp [okI] at h
 | .tup _, x, h => by simp [okI] at h
 | .nil, x, h => by simp [okI] at h
 | .cons _ _, x, h => by simp [okI] at h
theorem canIs_rel {lens : Nat → Nat} : ∀ (s : Sh) (x : s.den), okIs s = true → A2 RIc (puts s x) (cans lens s x)
 | .cons a l, x, h => by
   simp only [okIs, Bool.and_eq_true] at h
   simp only [puts, cans]
   exact .cons (canI_rel a x.1 h.1) (canIs_rel l x.2 h.2)
 | .nil, x, h => by simp only [puts, cans]; exact .nil
 | .v _, x, h => by simp [okIs] at h
 | .undef, x, h => by simp [okIs] at h
 | .nilp, x, h => by simp [okIs] at h
 | .zsl, x, h => by simp [okIs] at h
 | .nilfn, x, h => by simp [okIs] at h
 | .nili, x, h => by simp [okIs] at h
 | .ptr _ _ _, x, h => by simp [okIs] at h
 | .slw _ _, x, h => by simp [okIs] at h
 | .fn _ _, x, h => by simp [okIs] at h
 | .agg _, x, h => by simp [okIs] at h
 | .tup _, x, h => by simp [okIs] at h
 | .iptr _ _, x, h => by simp [okIs] at h
 | .rows _ _, x, h => by simp [okIs] at h
theorem canIR_rel {lens : Nat → Nat} : ∀ (s : Sh) (x : s.den), okIR s = true → A2 (A2 RIc) (putsR s x) (cansR lens s x)
 | .cons a l, x, h => by
   simp only [okIR, Bool.and_eq_true] at h
   simp only [putsR, cansR]
   exact .cons (canIs_rel a x.1 h.1) (canIR_rel l x.2 h.2)
 | .nil, x, h => by simp only [putsR, cansR]; exact .nil
 | .v _, x, h => by simp [okIR] at h
 | .undef, x, h => by simp [okIR] at h
 | .nilp, x, h => by simp [okIR] at h
 | .zsl, x, h => by simp [okIR] at h
 | .nilfn, x, h => by simp [okIR] at h
 | .nili, x, h => by simp [okIR] at h
 | .ptr _ _ _, x, h => by simp [okIR] at h
 | .slw _ _, x, h => by simp [okIR] at h
 | .fn _ _, x, h => by simp [okIR] at h
 | .agg _, x, h => by simp [okIR] at h
 | .tup _, x, h => by simp [okIR] at h
 | .iptr _ _, x, h => by simp [okIR] at h
 | .rows _ _, x, h => by simp [okIR] at h
end
theorem canI_imm (s : Sh) (x : s.den) (h : okI s = true) (hn : ∀ f l, s ≠ .fn f l) : nimmP (put s x) = true := by
 cases s <;> simp only [okI] at h <;> try (cases h; done)
 case v t =>
   have ht : t.isAgg = false := by simpa using h
   obtain ⟨c, d, h1, h2, h3, h4⟩ := one_cells ht x
   simp only [put, putV, ht, h1]
   exact h4
 case fn f l => exact absurd rfl (hn f l)
 all_goals (simp only [put]; rfl)
theorem canP_rel {lv : Nat → Bool} {lens : Nat → Nat} (hl : Lens hp lv lens) (s : Sh) (x : s.den) (h : okP lv s = true) : RP hp (put s x) (can lens s x) := by
 cases s with
 | ptr b i f => simp only [put, can]; exact .ptr _ _ _
 | slw b e =>
   simp only [put, can]
   obtain ⟨k, hk, hkl⟩ := hl b h
   refine .slw _ _ _ ?_
   unfold lenAt
   rw [nget_iff.1 hk]
   exact hkl
 | _ => first | exact .ro (canI_rel _ x h).ri | cases h
theorem canC_rel {lv : Nat → Bool} {lens : Nat → Nat} (hl : Lens hp lv lens) (s : Sh) (x : s.den) (h : okC lv s = true) : RC hp (put s x) (can lens s x) := by
 cases s with
 | fn f l => simp only [put, can]; exact .fn _ _ _ (okAll_rel (canP_rel hl) h)
 | _ => exact .p (canP_rel hl _ x h)
theorem canV_rel {lv : Nat → Bool} {lens : Nat → Nat} (hl : Lens hp lv lens) (s : Sh) (x : s.den) (h : okV lv s = true) : RV hp (put s x) (can lens s x) := by
 cases s with
 | agg l => simp only [put, can]; exact .agg _ _ (okAll_rel (canC_rel hl) h)
 | v t =>
   cases ht : t.isAgg with
   | true =>
     simp only [put, can, putV, ht]
     exact .agg _ _ ((acells_rel t x).mono fun _ _ h => h.ri.c)
   | false => exact .c (.p (.ro (canI_rel (.v t) x (by simp [okI, ht])).ri))
 | _ => exact .c (canC_rel hl _ x h)
theorem canT_rel {lv : Nat → Bool} {lens : Nat → Nat} (hl : Lens hp lv lens) (s : Sh) (x : s.den) (h : okT lv s = true) : RTs hp (put s x) (can lens s x) := by
 cases s with
 | tup l => simp only [put, can]; exact .tup _ _ (okAll_rel (canV_rel hl) h)
 | _ => exact .v (canV_rel hl _ x h)
theorem canI_conv {lens : Nat → Nat} (s : Sh) (x : s.den) (a : AVal) (cv : Value) (h : okI s = true) (hr : RI (put s x) a) (hv : IR w S a cv) : IR w S (can lens s x) cv := (canI_rel (lens := lens) s x h).canon hr hv
theorem canI_convV {lens : Nat → Nat} (s : Sh) (x : s.den) (a : AVal) (cv : Value) (h : okI s = true) (hn : ∀ f l, s ≠ .fn f l) (hr : RC hp (put s x) a) (hv : VR μ w S a cv) : VR μ w S (can lens s x) cv := by
 obtain ⟨h1, h2⟩ := hr.imm (canI_imm s x h hn)
 exact .imm _ _ (canI_conv s x a cv h h1 (hv.imm_of h2))
theorem canP_conv {lv : Nat → Bool} {lens : Nat → Nat} (hl : Lens hp lv lens) (s : Sh) (x : s.den) (a : AVal) (cv : Value) (h : okP lv s = true) (hr : RP hp (put s x) a) (hv : VR μ w S a cv) : VR μ w S (can lens s x) cv := by
 cases s with
 | ptr b i f => simp only [put] at hr; simp only [can]; rw [hr.rt.ptr_inv] at hv; exact hv
 | slw b e =>
   simp only [put] at hr
   simp only [can]
   obtain ⟨n, e1, e2⟩ := hr.rt.slw_inv
   obtain ⟨k, hk, hkl⟩ := hl b h
   unfold lenAt at e2
   rw [nget_iff.1 hk] at e2
   rw [e1, ← (show k.len = n from e2), hkl] at hv
   exact hv
 | _ => first | exact canI_convV _ x a cv h (by simp) (.p hr) hv | cases h
theorem canC_conv {lv : Nat → Bool} {lens : Nat → Nat} (hl : Lens hp lv lens) (s : Sh) (x : s.den) (a : AVal) (cv : Value) (h : okC lv s = true) (hr : RC hp (put s x) a) (hv : VR μ w S a cv) : VR μ w S (can lens s x) cv := by
 have notfn : (∀ f cs, put s x ≠ .fn f cs) → RP hp (put s x) a := fun hn => by
   generalize put s x = v at hr hn
   cases hr with
   | p h => exact h
   | fn f cap cap' h => exact absurd rfl (hn f cap)
 cases s with
 | fn f l =>
   simp only [put] at hr
   simp only [can]
   obtain ⟨cap', rfl, hc⟩ := hr.fn_inv
   obtain ⟨i1, i2⟩ := okAll_conv (lens := lens) (V := VR μ w S) (canP_conv hl) h hc
   have hv' : ∃ caps : Array Value, cv = .func (.func f) #[] caps ∧ cap'.length = caps.size ∧ ∀ (j : Nat) (c : AVal) (u : Value), cap'[j]? = some c → caps[j]? = some u → VR μ w S c u := by
     cases hv with
     | imm _ _ hv => cases hv with | fn _ _ caps h1 h2 => exact ⟨caps, rfl, h1, fun j c u hj hu => .imm _ _ (h2 j c u hj hu)⟩
     | fn _ _ caps h1 h2 => exact ⟨caps, rfl, h1, h2⟩
   obtain ⟨caps, rfl, h1, h2⟩ := hv'
   refine .fn _ _ _ (i1.trans h1) fun j c u hj hu => ?_
   have hj' : j < cap'.length := by rw [← i1]; exact (List.getElem?_eq_some_iff.1 hj).1
   exact i2 j c cap'[j] u hj (List.getElem?_eq_getElem hj') (h2 j _ u (List.getElem?_eq_getElem hj') hu)
 | v t => exact canI_convV (.v t) x a cv h (by simp) hr hv
 | _ => first | exact canP_conv hl _ x a cv h (notfn (by simp [put])) hv | cases h
theorem canV_conv {lv : Nat → Bool} {lens : Nat → Nat} (hl : Lens hp lv lens) (s : Sh) (x : s.den) (a : AVal) (cv : Value) (h : okV lv s = true) (hr : RV hp (put s x) a) (hv : VR μ w S a cv) : VR μ w S (can lens s x) cv := by
 have notagg : (∀ cs, put s x ≠ .agg cs) → RC hp (put s x) a := fun hn => by
   generalize put s x = v at hr hn
   cases hr with
   | c h => exact h
   | agg cs ds h => exact absurd rfl (hn cs)
 have aggs : ∀ (ds cs : List AVal), a = .agg ds → cs.length = ds.length → (∀ (j : Nat) (c d : AVal) (u : Value), cs[j]? = some c → ds[j]? = some d → VR μ w S d u → VR μ w S c u) → VR μ w S (.agg cs) cv := fun ds cs e i1 i2 => by
   rw [e] at hv
   cases hv with
   | imm _ _ hv => cases hv
   | agg _ arr h1 h2 =>
     refine .agg _ _ (i1.trans h1) fun j c u hj hu => ?_
     have hj' : j < ds.length := by rw [← i1]; exact (List.getElem?_eq_some_iff.1 hj).1
     exact i2 j c ds[j] u hj (List.getElem?_eq_getElem hj') (h2 j _ u (List.getElem?_eq_getElem hj') hu)
 cases s with
 | agg l =>
   simp only [put] at hr
   simp only [can]
   obtain ⟨ds, e, hc⟩ := (RT.v hr).agg_inv
   obtain ⟨i1, i2⟩ := okAll_conv (lens := lens) (V := VR μ w S) (canC_conv hl) h hc
   exact aggs ds _ e i1 i2
 | v t =>
   cases ht : t.isAgg with
   | true =>
     simp only [put, putV, ht] at hr
     simp only [can, ht]
     obtain ⟨ds, e, hc⟩ := (RT.v hr).agg_inv
     have hac := acells_rel t x
     refine aggs ds _ e (hac.1.symm.trans hc.1) fun j c d u hj hd hu => ?_
     have hj' : j < ((ops t).cells x).length := by rw [hac.1]; exact (List.getElem?_eq_some_iff.1 hj).1
     have hcell := List.getElem?_eq_getElem hj'
     obtain ⟨h1, h2⟩ := (hc.2 j _ d hcell hd).imm ((good t).2.2.1 x _ (List.mem_of_getElem? hcell))
     exact .imm _ _ ((hac.2 j _ c hcell hj).canon h1 (hu.imm_of h2))
   | false =>
     have hi : okI (.v t) = true := by simp [okI, ht]
     refine canI_convV (.v t) x a cv hi (by simp) (notagg fun cs e => ?_) hv
     have := canI_imm (.v t) x hi (by simp)
     rw [e] at this
     cases this
 | _ => first | exact canC_conv hl _ x a cv h (notagg (by simp [put])) hv | cases h
theorem canT_conv {lv : Nat → Bool} {lens : Nat → Nat} (hl : Lens hp lv lens) (s : Sh) (x : s.den) (a : AVal) (cv : Value) (h : okT lv s = true) (hr : RTs hp (put s x) a) (hv : VR μ w S a cv) : VR μ w S (can lens s x) cv := by
 have rest : ∀ (s : Sh) (x : s.den), okV lv s = true → RTs hp (put s x) a → RV hp (put s x) a := fun s x h hr => by
   have h3 := canV_rel hl s x h
   generalize put s x = v at hr h3
   cases hr with
   | undef => exact .c (.p .undef)
   | v h => exact h
   | tup cs ds h => exact absurd rfl (h3.not_tup.1 cs)
 cases s with
 | tup l =>
   simp only [put] at hr
   simp only [can]
   obtain ⟨ds, rfl, hc⟩ := hr.rt.tup_inv
   obtain ⟨i1, i2⟩ := okAll_conv (lens := lens) (V := VR μ w S) (canV_conv hl) h hc
   cases hv with
   | imm _ _ hv => cases hv
   | tup _ arr h1 h2 =>
     refine .tup _ _ (i1.trans h1) fun j c u hj hu => ?_
     have hj' : j < ds.length := by rw [← i1]; exact (List.getElem?_eq_some_iff.1 hj).1
     exact i2 j c ds[j] u hj (List.getElem?_eq_getElem hj') (h2 j _ u (List.getElem?_eq_getElem hj') hu)
 | _ => exact canV_conv hl _ x a cv h (rest _ x h hr) hv
end
end NM
end Go.Proofs.Ytmnhkpekmgobbaa
end
section
namespace Go.Proofs.Ytmnhkpekmgobbaa
namespace NM
open AM
noncomputable def canS (lens : Nat → Nat) : (h : HS) → h.den → Slot
 | .dead, _ => .dead
 | .typed t, xs => .live ⟨(ops t).size, true, xs.map (acells t)⟩
 | .cell flat r, x => .live ⟨(puts r x).length, flat, [cans lens r x]⟩
 | .one flat t, x => .live ⟨((ops t).cells x).length, flat, [acells t x]⟩
 | .many e r, x => .live ⟨e, false, cansR lens r x⟩
noncomputable def canH (lens : Nat → Nat) : (l : List HS) → denH l → Heap
 | [], _ => []
 | h :: l, x => canS lens h x.1 :: canH lens l x.2
def okRs (p : Sh → Bool) : Sh → Bool
 | .cons a l => okAll p a && okRs p l
 | .nil => true
 | .v _ | .undef | .nilp | .zsl | .nilfn | .nili | .ptr _ _ _ | .slw _ _ | .fn _ _ | .agg _ | .tup _ | .iptr _ _ | .rows _ _ => false
def okS (lv : Nat → Bool) : HS → Bool
 | .dead => true
 | .typed _ => true
 | .cell flat r => if flat then okAll okI r else okAll (okC lv) r
 | .one _ _ => true
 | .many _ r => okRs (okC lv) r
def liveB (l : List HS) (b : Nat) : Bool := match l[b]? with
 | some .dead => false
 | none => false
 | _ => true
def lensOf (hp : NHeap) (b : Nat) : Nat := match nget hp b with
 | some k => k.len
 | none => 0
section
variable {P : Program} {w : World} {S : Nat → Prop} {μ : Nat → AM.Loc} {hp : NHeap} {ahp : Heap}
theorem putH_live : ∀ {l : List HS} {x : denH l} {b : Nat}, liveB l b = true → ∃ k, nget (putH l x) b = some k
 | [], x, b, h => by simp [liveB] at h
 | h :: l, x, b, hb => by
   cases b with
   | zero =>
     simp only [liveB, List.getElem?_cons_zero] at hb
     cases h with
     | dead => cases hb
     | typed t => exact ⟨_, rfl⟩
     | cell flat r => exact ⟨_, rfl⟩
     | one flat t => exact ⟨_, rfl⟩
     | many e r => exact ⟨_, rfl⟩
   | succ b =>
     have := putH_live (l := l) (x := x.2) (b := b) (by simpa [liveB] using hb)
     simpa [nget, putH] using this
theorem putH_lens {l : List HS} {x : denH l} : Lens (putH l x) (liveB l) (lensOf (putH l x)) := fun b hb => by
 obtain ⟨k, hk⟩ := putH_live (x := x) hb
 exact ⟨k, hk, by unfold lensOf; rw [hk]⟩
theorem acells_map {t : Ty} (xs : List (den t)) : A2 (RX t) xs (xs.map (acells t)) := ⟨by simp, fun j x y hx hy => by
 rw [List.getElem?_map, hx] at hy
 cases hy
 exact (acells_rel t x).mono fun _ _ h => h.ri⟩
theorem okRs_rel {p : Sh → Bool} {lens : Nat → Nat} {R : NVal → AVal → Prop} (hp : ∀ (s : Sh) (x : s.den), p s = true → R (put s x) (can lens s x)) : ∀ {s : Sh} {x : s.den}, okRs p s = true → A2 (A2 R) (putsR s x) (cansR lens s x)
 | .cons a l, x, h => by
   simp only [okRs, Bool.and_eq_true] at h
   simp only [putsR, cansR]
   exact .cons (okAll_rel hp h.1) (okRs_rel hp h.2)
 | .nil, x, h => by simp only [putsR, cansR]; exact .nil
 | .v _, _, h => by cases h
 | .undef, _, h => by cases h
 | .nilp, _, h => by cases h
 | .zsl, _, h => by cases h
 | .nilfn, _, h => by cases h
 | .nili, _, h => by cases h
 | .ptr _ _ _, _, h => by cases h
 | .slw _ _, _, h => by cases h
 | .fn _ _, _, h => by cases h
 | .agg _, _, h => by cases h
 | .tup _, _, h => by cases h
 | .iptr _ _, _, h => by cases h
 | .rows _ _, _, h => by cases h
theorem okRs_conv {p : Sh → Bool} {lens : Nat → Nat} {R : NVal → AVal → Prop} {V : AVal → Value → Prop} (hp : ∀ (s : Sh) (x : s.den) (a : AVal) (cv : Value), p s = true → R (put s x) a → V a cv → V (can lens s x) cv) : ∀ {s : Sh} {x : s.den} {dss : List (List AVal)}, okRs p s = true → A2 (A2 R) (putsR s x) dss →
   (cansR lens s x).length = dss.length ∧ ∀ (i : Nat) (y y' : List AVal), dss[i]? = some y → (cansR lens s x)[i]? = some y' → y'.length = y.length ∧ ∀ (j : Nat) (c : AVal) (d : AVal) (cv : Value), y'[j]? = some c → y[j]? = some d → V d cv → V c cv
 | .cons a l, x, dss, h, hr => by
   simp only [okRs, Bool.and_eq_true] at h
   simp only [putsR] at hr
   obtain ⟨d, ds', rfl, h1, h2⟩ := hr.cons_inv
   obtain ⟨i1, i2⟩ := okRs_conv hp (x := x.2) h.2 h2
   simp only [cansR]
   refine ⟨by simp [i1], fun i y y' hy hy' => ?_⟩
   cases i with
   | zero => simp at hy hy'; subst hy; subst hy'; exact okAll_conv hp h.1 h1
   | succ i => simp at hy hy'; exact i2 i y y' hy hy'
 | .nil, x, dss, h, hr => by
   simp only [putsR] at hr
   rw [hr.nil_inv]
   simp only [cansR]
   exact ⟨by simp, fun i y y' hy => by simp at hy⟩
 | .v _, _, _, h, _ => by cases h
 | .undef, _, _, h, _ => by cases h
 | .nilp, _, _, h, _ => by cases h
 | .zsl, _, _, h, _ => by cases h
 | .nilfn, _, _, h, _ => by cases h
 | .nili, _, _, h, _ => by cases h
 | .ptr _ _ _, _, _, h, _ => by cases h
 | .slw _ _, _, _, h, _ => by cases h
 | .fn _ _, _, _, h, _ => by cases h
 | .agg _, _, _, h, _ => by cases h
 | .tup _, _, _, h, _ => by cases h
 | .iptr _ _, _, _, h, _ => by cases h
 | .rows _ _, _, _, h, _ => by cases h
theorem canH_rel {G : NHeap} {lv : Nat → Bool} {lens : Nat → Nat} (hl : Lens G lv lens) : ∀ {l : List HS} {x : denH l}, l.all (okS lv) = true → A2 (RS G) (putH l x) (canH lens l x)
 | [], x, _ => .nil
 | h :: l, x, ho => by
   simp only [List.all_cons, Bool.and_eq_true] at ho
   refine .cons ?_ (canH_rel hl ho.2)
   cases h with
   | dead => exact .dead
   | typed t => exact .live _ _ ⟨rfl, rfl, acells_map x.1⟩
   | many e r => exact .live _ _ ⟨rfl, rfl, fun hf => (by cases hf), fun _ => okRs_rel (canC_rel hl) (by simpa [okS] using ho.1)⟩
   | one flat t => exact .live _ _ ⟨rfl, rfl, fun _ => .single ((acells_rel t x.1).mono fun _ _ h => h.ri), fun _ => .single ((acells_rel t x.1).mono fun _ _ h => h.ri.c)⟩
   | cell flat r =>
     refine .live _ _ ⟨rfl, rfl, fun hf => ?_, fun hf => ?_⟩
     · subst hf
       exact .single (okAll_rel (fun s x h => (canI_rel s x h).ri) (by simpa [okS] using ho.1))
     · subst hf
       exact .single (okAll_rel (canC_rel hl) (by simpa [okS] using ho.1))
def BConv (μ : Nat → AM.Loc) (w : World) (S : Nat → Prop) (k k' : AM.Blk) : Prop := ∀ l, BlkR μ w S l k → BlkR μ w S l k'
theorem blk_conv {k k' : AM.Blk} (he : k'.e = k.e) (hf : k'.flat = k.flat) (hl : k'.elems.length = k.elems.length)
   (hr : ∀ (i : Nat) (x x' : List AVal), k.elems[i]? = some x → k'.elems[i]? = some x' → x'.length = x.length ∧ ∀ (j : Nat) (c c' : AVal) (v : Value), x[j]? = some c → x'[j]? = some c' → Blk.R μ w S k.flat c v → Blk.R μ w S k.flat c' v) : BConv μ w S k k' := by
 intro l h
 have row : ∀ (i : Nat) (x' : List AVal), k'.elems[i]? = some x' → ∃ x, k.elems[i]? = some x := fun i x' hx => by
   have := (List.getElem?_eq_some_iff.1 hx).1
   exact ⟨_, List.getElem?_eq_getElem (by omega)⟩
 cases l with
 | free => exact h
 | dead => exact h
 | void =>
   have h : k.elems = [] := h
   show k'.elems = []
   rw [h] at hl
   exact List.eq_nil_of_length_eq_zero hl
 | here m n e =>
   obtain ⟨h1, h2, h3, cells, t, h4, h5, h6⟩ := h
   refine ⟨h1.trans he.symm, by omega, fun i x' hx => ?_, cells, t, h4, by rw [he]; exact h5, fun i x' j c' hx hc => ?_⟩
   · obtain ⟨x, hx0⟩ := row i x' hx
     rw [he, (hr i x x' hx0 hx).1]
     exact h3 i x hx0
   · obtain ⟨x, hx0⟩ := row i x' hx
     obtain ⟨r1, r2⟩ := hr i x x' hx0 hx
     have hj : j < x.length := by rw [← r1]; exact (List.getElem?_eq_some_iff.1 hc).1
     obtain ⟨v, hv, hR⟩ := h6 i x j x[j] hx0 (List.getElem?_eq_getElem hj)
     rw [he, hf]
     exact ⟨v, hv, r2 j _ c' v (List.getElem?_eq_getElem hj) hc hR⟩
inductive SConv (μ : Nat → AM.Loc) (w : World) (S : Nat → Prop) : Slot → Slot → Prop
 | dead : SConv μ w S .dead .dead
 | live (k k' : AM.Blk) : BConv μ w S k k' → SConv μ w S (.live k) (.live k')
theorem hrep_conv {ahp' : Heap} (h : HRep μ w S ahp) (hc : A2 (SConv μ w S) ahp ahp') : HRep μ w S ahp' where
 live b k' hb := by
   rw [aget_iff] at hb
   have hlt : b < ahp.length := by rw [hc.1]; exact (List.getElem?_eq_some_iff.1 hb).1
   have hs := hc.2 b ahp[b] _ (List.getElem?_eq_getElem hlt) hb
   generalize hg : ahp[b] = s at hs
   cases hs with
   | live k _ hk => exact hk _ (h.live b k (aget_iff.2 (by rw [List.getElem?_eq_getElem hlt, hg])))
 gone b hb := by
   refine h.gone b ?_
   cases hg : ahp.get b with
   | none => rfl
   | some k =>
     exfalso
     rw [aget_iff] at hg
     obtain ⟨s', hs', hs⟩ := hc.get hg
     cases hs with
     | live _ k' hk => rw [aget_iff.2 hs'] at hb; cases hb
 free b hb := by
   refine h.free b (.inr ?_)
   rcases hb with hb | hb
   · exfalso
     unfold Heap.isFree at hb
     split at hb
     · rename_i hs'
       have hlt : b < ahp.length := by rw [hc.1]; exact (List.getElem?_eq_some_iff.1 hs').1
       have hs := hc.2 b ahp[b] _ (List.getElem?_eq_getElem hlt) hs'
       generalize ahp[b] = s at hs
       cases hs
     · cases hb
   · rw [hc.1]; exact hb
 inj := h.inj
 apart := h.apart
 inS := h.inS
 gl := h.gl
theorem canH_conv {G : NHeap} {lv : Nat → Bool} {lens : Nat → Nat} (hl : Lens G lv lens) : ∀ {l : List HS} {x : denH l} {ahp : Heap}, l.all (okS lv) = true → A2 (RS G) (putH l x) ahp → A2 (SConv μ w S) ahp (canH lens l x)
 | [], x, ahp, _, hr => by rw [hr.nil_inv]; exact .nil
 | h :: l, x, ahp, ho, hr => by
   simp only [List.all_cons, Bool.and_eq_true] at ho
   simp only [putH] at hr
   obtain ⟨s, ahp', rfl, h1, h2⟩ := hr.cons_inv
   refine .cons ?_ (canH_conv hl ho.2 h2)
   cases h with
   | dead => cases h1; exact .dead
   | typed t =>
     simp only [putS] at h1
     cases h1 with
     | live _ k hk =>
       obtain ⟨k1, k2, k3⟩ := hk
       refine .live _ _ (blk_conv k1.symm k2.symm (by simp [← k3.1]) fun i y y' hy hy' => ?_)
       rw [List.getElem?_map, Option.map_eq_some_iff] at hy'
       obtain ⟨z, hz, rfl⟩ := hy'
       have hzy := k3.2 i z y hz hy
       have hac := acells_rel t z
       refine ⟨hac.1.symm.trans hzy.1, fun j c c' v hc hc' hR => ?_⟩
       have hj : j < ((ops t).cells z).length := by rw [hac.1]; exact (List.getElem?_eq_some_iff.1 hc').1
       have e1 := hac.2 j _ c' (List.getElem?_eq_getElem hj) hc'
       have e2 := hzy.2 j _ c (List.getElem?_eq_getElem hj) hc
       rw [k2] at hR ⊢
       exact ⟨e1.canon e2 hR.1, hR.2⟩
   | many e r =>
     simp only [putS] at h1
     cases h1 with
     | live _ k hk =>
       obtain ⟨k1, k2, k3, k4⟩ := hk
       obtain ⟨i1, i2⟩ := okRs_conv (lens := lens) (V := VR μ w S) (canC_conv hl) (by simpa [okS] using ho.1) (k4 rfl)
       refine .live _ _ (blk_conv k1.symm k2.symm i1 fun i y y' hy hy' => ?_)
       obtain ⟨j1, j2⟩ := i2 i y y' hy hy'
       rw [k2]
       exact ⟨j1, fun j c c' v hc hc' hR => ⟨j2 j c' c v hc' hc hR.1, hR.2⟩⟩
   | one flat t =>
     simp only [putS] at h1
     cases h1 with
     | live _ k hk =>
       obtain ⟨ds, dss, hds, q5, q6⟩ := (RB.row' hk).cons_inv
       rw [q6.nil_inv] at hds
       obtain ⟨k1, k2, k3, k4⟩ := hk
       refine .live _ _ (blk_conv k1.symm k2.symm (by simp [hds]) fun i y y' hy hy' => ?_)
       have hi : i = 0 := by
         have := (List.getElem?_eq_some_iff.1 hy').1
         simp at this
         omega
       subst hi
       rw [hds] at hy
       simp at hy hy'
       subst hy
       subst hy'
       have hac := acells_rel t x.1
       refine ⟨hac.1.symm.trans q5.1, fun j c c' v hc hc' hR => ⟨?_, hR.2⟩⟩
       have hj : j < ((ops t).cells x.1).length := by rw [hac.1]; exact (List.getElem?_eq_some_iff.1 hc').1
       have hcell := List.getElem?_eq_getElem hj
       have e1 := hac.2 j _ c' hcell hc'
       obtain ⟨e2, e3⟩ := (q5.2 j _ c hcell hc).imm ((good t).2.2.1 x.1 _ (List.mem_of_getElem? hcell))
       have hR := hR.1
       split
       · rename_i hf
         rw [if_pos hf] at hR
         exact e1.canon e2 hR
       · rename_i hf
         rw [if_neg hf] at hR
         exact .imm _ _ (e1.canon e2 (hR.imm_of e3))
   | cell flat r =>
     simp only [putS] at h1
     cases h1 with
     | live _ k hk =>
       obtain ⟨k1, k2, k3, k4⟩ := hk
       have one : ∃ ds, k.elems = [ds] := by
         cases flat with
         | true => obtain ⟨d, ds, e, _, e2⟩ := (k3 rfl).cons_inv; rw [e2.nil_inv] at e; exact ⟨d, e⟩
         | false => obtain ⟨d, ds, e, _, e2⟩ := (k4 rfl).cons_inv; rw [e2.nil_inv] at e; exact ⟨d, e⟩
       obtain ⟨ds, hds⟩ := one
       refine .live _ _ (blk_conv k1.symm k2.symm (by simp [hds]) fun i y y' hy hy' => ?_)
       have hi : i = 0 := by
         have := (List.getElem?_eq_some_iff.1 hy').1
         simp at this
         omega
       subst hi
       rw [hds] at hy
       simp at hy hy'
       subst hy
       subst hy'
       rw [k2]
       cases flat with
       | true =>
         have hd := k3 rfl
         rw [hds] at hd
         obtain ⟨i1, i2⟩ := okAll_conv (lens := lens) (V := IR w S) (R := RI) (fun s x a cv h => canI_conv s x a cv h) (by simpa [okS] using ho.1) hd.head
         exact ⟨i1, fun j c c' v hc hc' hR => ⟨i2 j c' c v hc' hc hR.1, hR.2⟩⟩
       | false =>
         have hd := k4 rfl
         rw [hds] at hd
         obtain ⟨i1, i2⟩ := okAll_conv (lens := lens) (V := VR μ w S) (canC_conv hl) (by simpa [okS] using ho.1) hd.head
         exact ⟨i1, fun j c c' v hc hc' hR => ⟨i2 j c' c v hc' hc hR.1, hR.2⟩⟩
theorem RT.strict {v : NVal} {a : AVal} (h : RT hp v a) (hv : v ≠ .undef) : RTs hp v a := by
 cases h with
 | undef => exact absurd rfl hv
 | v h => exact .v h
 | tup cs ds h => exact .tup _ _ h
theorem RT.rv {v : NVal} {a : AVal} (h : RT hp v a) (hv : nisV v = true) : RV hp v a := by
 cases h with
 | undef => cases hv
 | v h => exact h
 | tup cs ds h => cases hv
variable {ω : Type} {o : ω}
theorem nres_sound {st : NSt} {ast : St} (hs : SR st ast) {r : RVar} {k : NVal → Option ω} (h : nres st.heap st.tmps r k = some o) : ∃ v a, resOf ast.heap ast.tmps r = some a ∧ RT st.heap v a ∧ k v = some o := by
 cases r with
 | tmp t => exact ⟨_, _, rfl, hs.tmps.getD (RT.undef .undef) t, h⟩
 | cell agg n t =>
   obtain ⟨u, c, h1, h2, h3⟩ := nloadV_sound hs.heap h (hs.tmps.getD (RT.undef .undef) t)
   exact ⟨u, c, h1, h2, h3⟩
theorem nress_sound {st : NSt} {ast : St} (hs : SR st ast) : ∀ {rs : List RVar} {k : List NVal → Option ω}, nress st.heap st.tmps rs k = some o → ∃ vs as', allOf (resOf ast.heap ast.tmps) rs = some as' ∧ A2 (RT st.heap) vs as' ∧ k vs = some o
 | [], k, h => ⟨[], [], rfl, .nil, h⟩
 | r :: rs, k, h => by
   simp only [nress] at h
   obtain ⟨v, a, h1, h2, h3⟩ := nres_sound hs h
   obtain ⟨vs, as', g1, g2, g3⟩ := nress_sound hs h3
   exact ⟨v :: vs, a :: as', by simp only [allOf]; rw [h1, g1], .cons h2 g2, g3⟩
theorem nresults_sound {st : NSt} {ast : St} (hs : SR st ast) {rs : List RVar} {k : NVal → Option ω} (h : nresults st.heap st.tmps rs k = some o) : ∃ v a, resultsOf ast.heap ast.tmps rs = some a ∧ k v = some o ∧ (nokR v = true → RTs st.heap v a) := by
 unfold nresults at h
 unfold resultsOf
 split at h
 · obtain ⟨v, a, h1, h2, h3⟩ := nres_sound hs h
   exact ⟨v, a, h1, h3, fun hv => h2.strict (fun e => by rw [e] at hv; cases hv)⟩
 · rename_i hne
   obtain ⟨vs, as', h1, h2, h3⟩ := nress_sound hs h
   refine ⟨.tup vs, .tup as', ?_, h3, fun hv => .tup _ _ ?_⟩
   · split
     · rename_i y; exact absurd rfl (hne y)
     · rw [h1]; rfl
   · have hv : vs.all nisV = true := hv
     rw [List.all_eq_true] at hv
     exact ⟨h2.1, fun j x y hx hy => (h2.2 j x y hx hy).rv (hv x (List.mem_of_getElem? hx))⟩
theorem nleave_sound {st : NSt} {ast : St} (hs : SR st ast) (hg : noGone st.heap) {f : NFunc} {af : AFunc} (hr : af.results = f.results) (hfz : af.freeze = f.freeze) {k : NVal → NHeap → Option ω} (h : nleave f st k = some o) :
   ∃ r back r' back', leave af ast = some (r', back') ∧ RTs back r r' ∧ RH back back' ∧ k r back = some o := by
 unfold nleave at h
 obtain ⟨r0, a0, h1, h2, h3⟩ := nresults_sound hs h
 unfold leave
 rw [hr, h1, hfz]
 simp only
 split at h2
 · rename_i hok
   have h3 := h3 hok
   split at h2
   · cases h2
   · rename_i r shown hv
     have hview : ∃ a, (if f.freeze then viewT ast.heap DEEP a0 else some (a0, [])) = some (a, shown) ∧ RT st.heap r a := by
       split at hv
       · rename_i hf
         rw [if_pos hf]
         exact viewT_rel hs.heap hv h3.rt
       · rename_i hf
         rw [if_neg hf]
         cases hv
         exact ⟨a0, rfl, h3.rt⟩
     obtain ⟨a, e1, e2⟩ := hview
     rw [e1]
     simp only at h2 ⊢
     split at h2
     · rename_i hc
       obtain ⟨c1, c2, c3, c4⟩ := hc
       have e3 : RTs st.heap r a := e2.strict (fun e => by rw [e] at c1; cases c1)
       have hreach := hs.heap.reach hg (List.range st.k) (skT r).ownT
       rw [e3.own] at hreach c2 c3 c4 h2
       rw [hreach] at c2 c3 c4 h2
       rw [hs.k, if_pos ⟨c2, c3, c4⟩]
       exact ⟨_, _, _, _, rfl, renT_rel (pack_keeps _) e3, pack_rel hs.heap fun b hb hn => hs.heap.getNone hg hn, h2⟩
     · cases h2
 · cases h2
theorem get_RTs {s : Sh} {v : NVal} {a : AVal} {x : s.den} (hu : s.isUndef = false) (h : get s v = some x) (hr : RTs hp v a) : RTs hp (put s x) a := by
 cases hr with
 | undef => exact (get_undef hu h).elim
 | v hr => exact .v (get_RV s v a x hu h hr)
 | tup cs ds hr =>
   cases s with
   | tup l =>
     simp only [get] at h
     simp only [put]
     exact .tup _ _ (gets_R get_RV h hr)
   | v t =>
     exfalso
     simp only [get, getV] at h
     split at h
     · cases h
     · have := (good t).2.2.2 _ _ (.tup cs) h List.mem_cons_self
       cases this
   | undef => cases hu
   | _ => (simp [get] at h; done)
theorem getO_rel {res : Sh} {l : List HS} {y : denO res l} {r : NVal} {back : NHeap} {r' : AVal} {back' : Heap} (hu : res.isUndef = false) (h : getO res l r back = some y) (hr : RTs back r r') (hb : RH back back') : RTs (outH res l y) (outV res l y) r' ∧ RH (outH res l y) back' := by
 cases l with
 | nil =>
   simp only [getO] at h
   split at h
   · exact ⟨get_RTs hu h hr, hb⟩
   · cases h
 | cons h0 l =>
   simp only [getO] at h
   split at h
   · rename_i x hx
     split at h
     · rename_i z hz
       cases h
       exact ⟨(get_RTs hu hx hr).mono (getH_len hz), getH_rel hz hb⟩
     · cases h
   · cases h
end
end NM
end Go.Proofs.Ytmnhkpekmgobbaa
end
