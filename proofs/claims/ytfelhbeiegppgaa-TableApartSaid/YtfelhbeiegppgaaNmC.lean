/-
  The machine of plain data and the abstract machine: how their values and blocks go together.
-/
import Derived.Test.YtfelhbeiegppgaaNmB
set_option linter.unusedVariables false
set_option linter.unusedSimpArgs false
namespace Go.Proofs.Ytfelhbeiegppgaa
namespace NM
open AM

/-- two lists, element by element -/
def A2 {α β : Type} (R : α → β → Prop) (xs : List α) (ys : List β) : Prop := xs.length = ys.length ∧ ∀ (j : Nat) (x : α) (y : β), xs[j]? = some x → ys[j]? = some y → R x y

namespace A2
variable {α β : Type} {R R' : α → β → Prop} {xs xs' : List α} {ys ys' : List β} {x : α} {y : β}
theorem nil : A2 R [] [] := ⟨rfl, fun j x y h => by simp at h⟩
theorem cons (h : R x y) (hs : A2 R xs ys) : A2 R (x :: xs) (y :: ys) := ⟨by simp [hs.1], fun j a b ha hb => by
  cases j with
  | zero => simp at ha hb; subst ha; subst hb; exact h
  | succ j => simp at ha hb; exact hs.2 j a b ha hb⟩
theorem head (h : A2 R (x :: xs) (y :: ys)) : R x y := h.2 0 x y rfl rfl
theorem tail (h : A2 R (x :: xs) (y :: ys)) : A2 R xs ys := ⟨by have := h.1; simp at this; exact this, fun j a b ha hb => h.2 (j + 1) a b (by simpa using ha) (by simpa using hb)⟩
theorem nil_inv (h : A2 R [] ys) : ys = [] := by have := h.1; simp at this; exact List.eq_nil_of_length_eq_zero this.symm
theorem cons_inv (h : A2 R (x :: xs) ys) : ∃ y ys', ys = y :: ys' ∧ R x y ∧ A2 R xs ys' := by
  cases ys with
  | nil => have := h.1; simp at this
  | cons y ys => exact ⟨y, ys, rfl, h.head, h.tail⟩
theorem get (h : A2 R xs ys) {j : Nat} (hj : xs[j]? = some x) : ∃ y, ys[j]? = some y ∧ R x y := by
  obtain ⟨hl, e⟩ := List.getElem?_eq_some_iff.1 hj
  have hl' : j < ys.length := by rw [← h.1]; exact hl
  exact ⟨ys[j], List.getElem?_eq_getElem hl', h.2 j _ _ hj (List.getElem?_eq_getElem hl')⟩
theorem mono (hR : ∀ x y, R x y → R' x y) (h : A2 R xs ys) : A2 R' xs ys := ⟨h.1, fun j a b ha hb => hR _ _ (h.2 j a b ha hb)⟩
theorem append (h : A2 R xs ys) (h' : A2 R xs' ys') : A2 R (xs ++ xs') (ys ++ ys') := ⟨by simp [h.1, h'.1], fun j a b ha hb => by
  rw [List.getElem?_append] at ha hb
  rw [h.1] at ha
  split at ha
  · rename_i hl; rw [if_pos hl] at hb; exact h.2 j a b ha hb
  · rename_i hl; rw [if_neg hl] at hb; exact h'.2 _ a b ha hb⟩
theorem take (n : Nat) (h : A2 R xs ys) : A2 R (xs.take n) (ys.take n) := ⟨by simp [h.1], fun j a b ha hb => by
  rw [List.getElem?_take] at ha hb
  split at ha
  · rename_i hl; rw [if_pos hl] at hb; exact h.2 j a b ha hb
  · cases ha⟩
theorem drop (n : Nat) (h : A2 R xs ys) : A2 R (xs.drop n) (ys.drop n) := ⟨by simp [h.1], fun j a b ha hb => by
  rw [List.getElem?_drop] at ha hb
  exact h.2 _ a b ha hb⟩
theorem set (h : A2 R xs ys) (n : Nat) (hx : R x y) : A2 R (xs.set n x) (ys.set n y) := ⟨by simp [h.1], fun j a b ha hb => by
  rw [List.getElem?_set] at ha hb
  rw [h.1] at ha
  split at ha
  · rename_i hj
    rw [if_pos hj] at hb
    split at ha
    · rename_i hl; rw [if_pos hl] at hb; cases ha; cases hb; exact hx
    · cases ha
  · rename_i hj; rw [if_neg hj] at hb; exact h.2 j a b ha hb⟩
theorem map {α' β' : Type} {R' : α' → β' → Prop} {f : α → α'} {g : β → β'} (hR : ∀ x y, R x y → R' (f x) (g y)) (h : A2 R xs ys) : A2 R' (xs.map f) (ys.map g) := ⟨by simp [h.1], fun j a b ha hb => by
  simp only [List.getElem?_map, Option.map_eq_some_iff] at ha hb
  obtain ⟨a', ha, rfl⟩ := ha
  obtain ⟨b', hb, rfl⟩ := hb
  exact hR _ _ (h.2 j a' b' ha hb)⟩
theorem replicate (n : Nat) (h : R x y) : A2 R (List.replicate n x) (List.replicate n y) := ⟨by simp, fun j a b ha hb => by
  simp only [List.getElem?_replicate] at ha hb
  split at ha
  · rename_i hl; rw [if_pos hl] at hb; cases ha; cases hb; exact h
  · cases ha⟩
theorem getD (h : A2 R xs ys) {d : α} {d' : β} (hd : R d d') (j : Nat) : R (xs.getD j d) (ys.getD j d') := by
  rw [List.getD_eq_getElem?_getD, List.getD_eq_getElem?_getD]
  cases hx : xs[j]? with
  | none =>
    have : ys[j]? = none := by
      rw [List.getElem?_eq_none_iff] at hx ⊢
      rw [← h.1]; exact hx
    rw [this]; exact hd
  | some x => obtain ⟨y, hy, hr⟩ := h.get hx; rw [hy]; exact hr
theorem single (h : R x y) : A2 R [x] [y] := cons h nil
theorem flatMap_eq {γ : Type} {f : α → List γ} {g : β → List γ} (hR : ∀ x y, R x y → f x = g y) : ∀ {xs : List α} {ys : List β}, A2 R xs ys → xs.flatMap f = ys.flatMap g
  | [], [], _ => rfl
  | [], _ :: _, h => by have := h.1; simp at this
  | _ :: _, [], h => by have := h.1; simp at this
  | x :: xs, y :: ys, h => by simp only [List.flatMap_cons, hR x y h.head, flatMap_eq hR h.tail]
theorem all_of {p : α → Bool} {q : β → Bool} (hR : ∀ x y, R x y → p x = true → q y = true) (h : A2 R xs ys) (hp : xs.all p = true) : ys.all q = true := by
  rw [List.all_eq_true] at hp ⊢
  intro y hy
  obtain ⟨j, hj, rfl⟩ := List.getElem_of_mem hy
  have hl : j < xs.length := by rw [h.1]; exact hj
  exact hR _ _ (h.2 j _ _ (List.getElem?_eq_getElem hl) (List.getElem?_eq_getElem hj)) (hp _ (List.getElem_mem hl))
end A2

/-- read-only values -/
inductive RI : NVal → AVal → Prop
  | bool (b : Bool) : RI (.bool b) (.bool b)
  | int (k : IntKind) (n : Int) : RI (.int k n) (.int k n)
  | str (s : List UInt8) : RI (.str s) (.str s)
  | nilp : RI .nilp .nilp
  | zsl : RI .zsl .zsl
  | nilfn : RI .nilfn .nilfn
  | nili : RI .nili .nili
  | iptr (cs : List NVal) (ds : List AVal) (off : Nat) : cs.length = ds.length → (∀ (j : Nat) (c : NVal) (d : AVal), cs[j]? = some c → ds[j]? = some d → RI c d) → RI (.iptr cs off) (.iptr ds off)
  | lst (t : Ty) (xs : List (den t)) (e : Nat) (ys : List (List AVal)) : e = (ops t).size → xs.length = ys.length → (∀ (i : Nat) (x : den t) (y : List AVal), xs[i]? = some x → ys[i]? = some y → ((ops t).cells x).length = y.length) →
      (∀ (i : Nat) (x : den t) (y : List AVal) (j : Nat) (c : NVal) (d : AVal), xs[i]? = some x → ys[i]? = some y → ((ops t).cells x)[j]? = some c → y[j]? = some d → RI c d) → RI (.lst t xs) (.imm e ys)
  | lst0 (t : Ty) : RI (.lst t []) .zsl
  | rows (e : Nat) (xs : List (List NVal)) (ys : List (List AVal)) : xs.length = ys.length → (∀ (i : Nat) (x : List NVal) (y : List AVal), xs[i]? = some x → ys[i]? = some y → x.length = y.length) →
      (∀ (i : Nat) (x : List NVal) (y : List AVal) (j : Nat) (c : NVal) (d : AVal), xs[i]? = some x → ys[i]? = some y → x[j]? = some c → y[j]? = some d → RI c d) → RI (.rows e xs) (.imm e ys)
  | rows0 (e : Nat) : RI (.rows e []) .zsl
  | fn (f : Nat) (cap : List NVal) (cap' : List AVal) : cap.length = cap'.length → (∀ (j : Nat) (c : NVal) (d : AVal), cap[j]? = some c → cap'[j]? = some d → RI c d) → RI (.fn f cap) (.fn f cap')

/-- data of a type, and a row of cells -/
def RX (t : Ty) (x : den t) (y : List AVal) : Prop := A2 RI ((ops t).cells x) y

theorem RI.mk_lst {t : Ty} {xs : List (den t)} {ys : List (List AVal)} (h : A2 (RX t) xs ys) : RI (.lst t xs) (.imm (ops t).size ys) :=
  .lst t xs _ ys rfl h.1 (fun i x y hx hy => (h.2 i x y hx hy).1) (fun i x y j c d hx hy hc hd => (h.2 i x y hx hy).2 j c d hc hd)
theorem RI.mk_rows {e : Nat} {xs : List (List NVal)} {ys : List (List AVal)} (h : A2 (A2 RI) xs ys) : RI (.rows e xs) (.imm e ys) :=
  .rows e xs ys h.1 (fun i x y hx hy => (h.2 i x y hx hy).1) (fun i x y j c d hx hy hc hd => (h.2 i x y hx hy).2 j c d hc hd)
theorem RI.lst_inv {t : Ty} {xs : List (den t)} {a : AVal} (h : RI (.lst t xs) a) : (∃ ys, a = .imm (ops t).size ys ∧ A2 (RX t) xs ys) ∨ (a = .zsl ∧ xs = []) := by
  cases h with
  | lst _ _ e ys he hl h1 h2 => subst he; exact .inl ⟨ys, rfl, hl, fun i x y hx hy => ⟨h1 i x y hx hy, fun j c d hc hd => h2 i x y j c d hx hy hc hd⟩⟩
  | lst0 => exact .inr ⟨rfl, rfl⟩
theorem RI.rows_inv {e : Nat} {xs : List (List NVal)} {a : AVal} (h : RI (.rows e xs) a) : (∃ ys, a = .imm e ys ∧ A2 (A2 RI) xs ys) ∨ (a = .zsl ∧ xs = []) := by
  cases h with
  | rows _ _ ys hl h1 h2 => exact .inl ⟨ys, rfl, hl, fun i x y hx hy => ⟨h1 i x y hx hy, fun j c d hc hd => h2 i x y j c d hx hy hc hd⟩⟩
  | rows0 => exact .inr ⟨rfl, rfl⟩

/-- reading cells as data of a type: whatever they were told as, the same cells -/
def Good {α : Type} (o : Ops α) : Prop := (∀ x, (o.cells x).length = o.size) ∧ (∀ cs x ds, o.un cs = some x → A2 RI cs ds → A2 RI (o.cells x) ds) ∧ (∀ x c, c ∈ o.cells x → nimmP c = true) ∧ (∀ cs x c, o.un cs = some x → c ∈ cs → nimmP c = true)

theorem good_int (k : IntKind) : Good (intO k) := by
  refine ⟨fun x => rfl, fun cs x ds h hr => ?_, fun x c hc => by simp [intO] at hc; subst hc; rfl, fun cs x c h hc => ?_⟩
  · simp only [intO] at h ⊢
    split at h
    · split at h
      · rename_i hk; cases h; subst hk; exact hr
      · cases h
    · cases h
  · simp only [intO] at h
    split at h
    · simp at hc; subst hc; rfl
    · cases h
theorem good_bool : Good boolO := by
  refine ⟨fun x => rfl, fun cs x ds h hr => ?_, fun x c hc => by simp [boolO] at hc; subst hc; rfl, fun cs x c h hc => ?_⟩
  · simp only [boolO] at h ⊢
    split at h
    · cases h; exact hr
    · cases h
  · simp only [boolO] at h
    split at h
    · simp at hc; subst hc; rfl
    · cases h
theorem good_str : Good strO := by
  refine ⟨fun x => rfl, fun cs x ds h hr => ?_, fun x c hc => by simp [strO] at hc; subst hc; rfl, fun cs x c h hc => ?_⟩
  · simp only [strO] at h ⊢
    split at h
    · cases h; exact hr
    · cases h
  · simp only [strO] at h
    split at h
    · simp at hc; subst hc; rfl
    · cases h
theorem good_unit : Good unitO := by
  refine ⟨fun x => rfl, fun cs x ds h hr => ?_, fun x c hc => by simp [unitO] at hc, fun cs x c h hc => ?_⟩
  · simp only [unitO] at h ⊢
    split at h
    · exact hr
    · cases h
  · simp only [unitO] at h
    split at h
    · cases hc
    · cases h
theorem good_pair {α β : Type} {a : Ops α} {b : Ops β} (ha : Good a) (hb : Good b) : Good (pairO a b) := by
  refine ⟨fun x => by simp [pairO, ha.1, hb.1], fun cs x ds h hr => ?_, fun x c hc => ?_, fun cs x c h hc => ?_⟩
  · simp only [pairO, Option.bind_eq_some_iff] at h
    obtain ⟨u, hu, v, hv, he⟩ := h
    cases he
    have h1 := ha.2.1 _ _ _ hu (hr.take a.size)
    have h2 := hb.2.1 _ _ _ hv (hr.drop a.size)
    have := h1.append h2
    rwa [List.take_append_drop] at this
  · simp only [pairO, List.mem_append] at hc
    rcases hc with hc | hc
    · exact ha.2.2.1 _ _ hc
    · exact hb.2.2.1 _ _ hc
  · simp only [pairO, Option.bind_eq_some_iff] at h
    obtain ⟨u, hu, v, hv, he⟩ := h
    rw [← List.take_append_drop a.size cs, List.mem_append] at hc
    rcases hc with hc | hc
    · exact ha.2.2.2 _ _ _ hu hc
    · exact hb.2.2.2 _ _ _ hv hc
theorem good_iso {α β : Type} {o : Ops β} {f : α → β} {g : β → α} (ho : Good o) (hfg : ∀ y, f (g y) = y) : Good (isoO o f g) := by
  refine ⟨fun x => by simp [isoO, ho.1], fun cs x ds h hr => ?_, fun x c hc => ho.2.2.1 (f x) c hc, fun cs x c h hc => ?_⟩
  · simp only [isoO, Option.bind_eq_some_iff] at h
    obtain ⟨u, hu, he⟩ := h
    cases he
    have := ho.2.1 _ _ _ hu hr
    simpa only [isoO, hfg] using this
  · simp only [isoO, Option.bind_eq_some_iff] at h
    obtain ⟨u, hu, he⟩ := h
    exact ho.2.2.2 _ _ _ hu hc

theorem allOf_A2 {t : Ty} (ho : Good (ops t)) : ∀ {rs : List (List NVal)} {xs : List (den t)} {ys : List (List AVal)}, allOf (ops t).un rs = some xs → A2 (A2 RI) rs ys → A2 (RX t) xs ys
  | [], xs, ys, h, hr => by simp [allOf] at h; subst h; rw [hr.nil_inv]; exact .nil
  | r :: rs, xs, ys, h, hr => by
    simp only [allOf] at h
    split at h
    · rename_i y hy
      split at h
      · rename_i zs hz
        cases h
        obtain ⟨b, bs, rfl, h1, h2⟩ := hr.cons_inv
        exact .cons (ho.2.1 _ _ _ hy h1) (allOf_A2 ho hz h2)
      · cases h
    · cases h

theorem gList_ok {t : Ty} (ho : Good (ops t)) {v : NVal} {xs : List (den t)} {a : AVal} (h : gList t (ops t) v = some xs) (hr : RI v a) : RI (.lst t xs) a := by
  unfold gList at h
  split at h
  · split at h
    · rename_i he; subst he; cases h; exact hr
    · cases h
  · rename_i e rs
    split at h
    · rename_i he
      rcases hr.rows_inv with ⟨ys, rfl, hy⟩ | ⟨rfl, rfl⟩
      · subst he; exact .mk_lst (allOf_A2 ho h hy)
      · simp [allOf] at h; subst h; exact .lst0 t
    · cases h
  · cases h; cases hr; exact .lst0 t
  · cases h
theorem good_list {t : Ty} (ho : Good (ops t)) : Good (listO t (ops t)) := by
  refine ⟨fun x => rfl, fun cs x ds h hr => ?_, fun x c hc => by simp [listO] at hc; subst hc; rfl, fun cs x c h hc => ?_⟩
  · simp only [listO] at h ⊢
    split at h
    · rename_i c
      obtain ⟨d, ds', rfl, h1, h2⟩ := hr.cons_inv
      rw [h2.nil_inv]
      exact .single (gList_ok ho h h1)
    · cases h
  · simp only [listO] at h
    split at h
    · simp at hc
      subst hc
      unfold gList at h
      split at h <;> first | rfl | cases h
    · cases h

theorem good_i64 : Good i64O := good_int _
theorem good_res : Good resO := good_iso (good_pair good_i64 (good_pair good_i64 (good_pair good_i64 good_i64))) (fun _ => rfl)
theorem good_dep : Good depO := good_iso (good_pair good_i64 good_bool) (fun _ => rfl)
theorem good_ints : Good intsO := good_list (t := .int .i64) (good_int _)
theorem good_deps : Good depsO := good_list (t := .dep) good_dep
theorem good_queue : Good queueO := good_iso (good_pair good_i64 (good_pair good_ints (good_pair good_i64 (good_pair good_i64 (good_pair good_i64 good_i64))))) (fun _ => rfl)
theorem good_weights : Good weightsO := good_iso (good_pair good_i64 (good_pair good_i64 (good_pair good_i64 good_i64))) (fun _ => rfl)
theorem good_spec : Good specO := good_iso (good_pair (good_list (t := .res) good_res) (good_pair (good_list (t := .list (.int .i64)) good_ints) (good_pair (good_list (t := .queue) good_queue) (good_pair good_i64 (good_pair good_weights (good_pair good_i64 (good_pair good_i64 (good_pair good_i64 (good_pair good_i64 (good_pair good_i64 (good_pair good_i64 (good_pair good_i64 (good_pair good_i64 (good_pair good_i64 good_i64)))))))))))))) (fun _ => rfl)
theorem good_job : Good jobO := good_iso (good_pair good_i64 (good_pair good_i64 (good_pair good_i64 (good_pair good_i64 (good_pair good_res (good_pair good_i64 (good_pair good_deps (good_pair good_i64 (good_pair good_bool (good_pair good_bool (good_pair good_i64 (good_pair good_i64 (good_pair good_i64 (good_pair good_i64 good_i64)))))))))))))) (fun _ => rfl)
theorem good_share : Good shareO := good_iso (good_pair good_i64 good_i64) (fun _ => rfl)
theorem good_shares : Good (listO .share shareO) := good_list (t := .share) good_share
theorem good_alloc : Good allocO := good_iso (good_pair good_i64 (good_pair good_res good_shares)) (fun _ => rfl)
theorem good_run : Good runO := good_iso (good_pair good_res (good_pair good_shares good_i64)) (fun _ => rfl)
theorem good_booking : Good bookingO := good_iso (good_pair good_i64 (good_pair good_i64 (good_pair good_i64 good_i64))) (fun _ => rfl)
theorem good_step : Good stepO := good_iso (good_pair good_i64 good_res) (fun _ => rfl)
theorem good_request : Good requestO := good_iso (good_pair good_i64 (good_pair good_i64 (good_pair good_i64 (good_pair good_i64 (good_pair good_i64 (good_pair good_i64 (good_pair good_res (good_pair good_i64 (good_pair good_i64 (good_pair good_deps (good_pair good_i64 (good_pair good_i64 (good_pair good_i64 good_i64))))))))))))) (fun _ => rfl)
theorem good_reply : Good replyO := good_iso (good_pair good_i64 (good_pair good_i64 (good_pair good_i64 (good_pair good_i64 good_ints)))) (fun _ => rfl)
theorem good_call : Good callO := good_iso (good_pair good_i64 good_request) (fun _ => rfl)
theorem good_entry : Good entryO := good_iso (good_pair good_i64 (good_pair good_i64 (good_pair good_request (good_pair good_reply (good_pair good_i64 good_bool))))) (fun _ => rfl)
theorem good (t : Ty) : Good (ops t) := by
  induction t with
  | int k => exact good_int k
  | bool => exact good_bool
  | str => exact good_str
  | list t ih => exact good_list ih
  | unit => exact good_unit
  | pair a b iha ihb => exact good_pair iha ihb
  | res => exact good_res
  | dep => exact good_dep
  | queue => exact good_queue
  | weights => exact good_weights
  | spec => exact good_spec
  | job => exact good_job
  | share => exact good_share
  | alloc => exact good_alloc
  | run => exact good_run
  | booking => exact good_booking
  | step => exact good_step
  | request => exact good_request
  | reply => exact good_reply
  | call => exact good_call
  | entry => exact good_entry

end NM
end Go.Proofs.Ytfelhbeiegppgaa
