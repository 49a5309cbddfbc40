/-
  Tables of keys: what is kept of one user, and how a request stored changes it.
-/
import Derived.Test.YtnggfgfeghmddaaPKeysB
set_option linter.unusedVariables false
set_option linter.unusedSimpArgs false
namespace Go.Proofs.Ytnggfgfeghmddaa
namespace NM
open AM

structure KU (keep m : Int) (E : List Entry) : Prop where
  asc : AscE E
  above : ∀ e, e ∈ E → m < e.request.key
  len : (E.length : Int) ≤ keep
  few : FewE E
/-- a request, and its reply, that was stored -/
def InU (m : Int) (E : List Entry) (x : Request × Reply) : Prop := x.1.key ≤ m ∨ ∃ e, e ∈ E ∧ e.request = x.1 ∧ e.reply = x.2
/-- what becomes of one user's entries -/
theorem ku_put {keep m : Int} {E : List Entry} (h1 : 1 ≤ keep) (h16 : keep ≤ 16) (h : KU keep m E) (e : Entry) (hn : (fndE e.request.key E).2 = false) (hm : m < e.request.key) (hfe : e.request.after.length ≤ 10 ∧ e.reply.nums.length ≤ 100) :
    (insL (fndE e.request.key E).1 E e).length = E.length + 1 ∧
    (keep < ((insL (fndE e.request.key E).1 E e).length : Int) → ∃ y, (insL (fndE e.request.key E).1 E e)[0]? = some y ∧ KU keep y.request.key (delL 0 1 (insL (fndE e.request.key E).1 E e)) ∧ m ≤ y.request.key ∧
      (∀ x, InU m E x → InU y.request.key (delL 0 1 (insL (fndE e.request.key E).1 E e)) x) ∧ InU y.request.key (delL 0 1 (insL (fndE e.request.key E).1 E e)) (e.request, e.reply)) ∧
    (¬ keep < ((insL (fndE e.request.key E).1 E e).length : Int) → KU keep m (insL (fndE e.request.key E).1 E e) ∧ (∀ x, InU m E x → InU m (insL (fndE e.request.key E).1 E e) x) ∧ InU m (insL (fndE e.request.key E).1 E e) (e.request, e.reply)) := by
  have hlen := len_insE (e := e) (fndE_le e.request.key E)
  have hasc := ascE_ins (e := e) rfl h.asc hn
  have hmem : ∀ y, y ∈ insL (fndE e.request.key E).1 E e ↔ y = e ∨ y ∈ E := fun y => mem_insE
  have hElen := h.len
  generalize insL (fndE e.request.key E).1 E e = E' at *
  have habove : ∀ y, y ∈ E' → m < y.request.key := fun y hy => by
    rcases (hmem y).1 hy with rfl | hy
    · exact hm
    · exact h.above y hy
  have hfew : FewE E' := fun y hy => by
    rcases (hmem y).1 hy with rfl | hy
    · exact hfe
    · exact h.few y hy
  refine ⟨hlen, fun hk => ?_, fun hk => ⟨⟨hasc, habove, by omega, hfew⟩, fun x hx => ?_, .inr ⟨e, (hmem e).2 (.inl rfl), rfl, rfl⟩⟩⟩
  · cases E' with
    | nil => simp at hlen
    | cons y l =>
      have hd : delL 0 1 (y :: l) = l := by simp [delL]
      rw [hd]
      have hstay : ∀ z, z ∈ y :: l → z.request.key ≤ y.request.key ∨ z ∈ l := fun z hz => by
        rcases List.mem_cons.1 hz with rfl | hz
        · exact .inl (Int.le_refl _)
        · exact .inr hz
      refine ⟨y, rfl, ⟨hasc.2, hasc.1, by simp only [List.length_cons] at hlen; omega, fun z hz => hfew z (List.mem_cons_of_mem _ hz)⟩, by have := habove y (by simp); omega, fun x hx => ?_, ?_⟩
      · have hy := habove y (by simp)
        rcases hx with hx | ⟨z, hz, e1, e2⟩
        · exact .inl (by omega)
        · rcases hstay z ((hmem z).2 (.inr hz)) with h' | h'
          · exact .inl (by rw [← e1]; exact h')
          · exact .inr ⟨z, h', e1, e2⟩
      · rcases hstay e ((hmem e).2 (.inl rfl)) with h' | h'
        · exact .inl h'
        · exact .inr ⟨e, h', rfl, rfl⟩
  · rcases hx with hx | ⟨z, hz, e1, e2⟩
    · exact .inl hx
    · exact .inr ⟨z, (hmem z).2 (.inr hz), e1, e2⟩

theorem small240' {n : Nat} (h : n ≤ 1000) : smallB (n + 1) 240 = true := small240 (by omega)
theorem p_insE (k : Int) (l : List Entry) (e : Entry) (hl : l.length ≤ 1000) : f58_1 ((fndE k l).1 : Int) l [e] = some ((), ((), ([e], (insL (fndE k l).1 l e, ())))) := by
  unfold f58_1 insertG
  have q0 : (0 : Int) ≤ ((fndE k l).1 : Int) := by omega
  simp only [decide_eq_true q0, Int.toNat_natCast, decide_eq_true (fndE_le k l), small240' hl, Bool.and_self, cond_true]
theorem p_delE (l : List Entry) (hl : l.length ≤ 1000) (h1 : 1 ≤ l.length) : f59 0 1 l = some ((), ((), (delL 0 1 l, ()))) := by
  unfold f59 deleteG
  rw [decide_eq_true (by refine ⟨?_, ?_, ?_, ?_⟩ <;> omega)]
  rfl
theorem p_find1 (k m0 m1 : Int) (E0 E1 : List Entry) (ha : AscE E1) (hl : E1.length ≤ 1000) : f55_4 k m0 m1 E0 E1 = some ((((fndE k E1).1 : Int), ((fndE k E1).2, ())), ((((m0, ((), ())), (((m1, ((), ())), ())))), (E0, (E1, ())))) := by
  unfold f55_4 F55_4
  rw [p_bsearch k E1 ha hl]
  simp only [Option.bind_some, decide_true, Bool.and_self, cond_true]
theorem p_find0 (k m0 m1 : Int) (E0 E1 : List Entry) (ha : AscE E0) (hl : E0.length ≤ 1000) : f55_5 k m0 m1 E0 E1 = some ((((fndE k E0).1 : Int), ((fndE k E0).2, ())), ((((m0, ((), ())), (((m1, ((), ())), ())))), (E0, (E1, ())))) := by
  unfold f55_5 F55_5
  rw [p_bsearch k E0 ha hl]
  simp only [Option.bind_some, decide_true, Bool.and_self, cond_true]
theorem p_of0 (keep m0 m1 : Int) (E0 E1 : List Entry) : f53_3 0 keep m0 m1 E0 E1 = some (.inr (.inr ((), ((keep, ((), ())), (((m0, ((), ())), (((m1, ((), ())), ()))), (E0, (E1, ()))))))) := by
  unfold f53_3 F53_3
  rfl
theorem p_of1 (keep m0 m1 : Int) (E0 E1 : List Entry) : f53_3 1 keep m0 m1 E0 E1 = some (.inr (.inl ((), ((keep, ((), ())), (((m0, ((), ())), (((m1, ((), ())), ()))), (E0, (E1, ()))))))) := by
  unfold f53_3 F53_3
  rfl
/-- a request stored for the first user -/
theorem p_Store0 {keep m0 m1 : Int} {E0 E1 : List Entry} (h1 : 1 ≤ keep) (h16 : keep ≤ 16) (h : KU keep m0 E0) (r : Request) (a : Reply) (hr : r.after.length ≤ 10) (ha : a.nums.length ≤ 100) :
    (∃ e, e ≠ 0 ∧ f26_3 0 r a keep m0 m1 E0 E1 = some (.inl (e, ((keep, ((), ())), (((m0, ((), ())), (((m1, ((), ())), ()))), (E0, (E1, ()))))))) ∨
    (rightQ r = true ∧ ∃ m' E', KU keep m' E' ∧ m0 ≤ m' ∧ (∀ x, InU m0 E0 x → InU m' E' x) ∧ InU m' E' (r, a) ∧
      f26_3 0 r a keep m0 m1 E0 E1 = some (.inr (.inr (0, ((keep, ((), ())), (((m', ((), ())), (((m1, ((), ())), ()))), ((), (E1, (E', ()))))))))) := by
  have hl : E0.length ≤ 1000 := by have := h.len; omega
  unfold f26_3 F26_3
  simp only [p_of0, Option.bind_some, Sum.elim_inr, decide_true, Bool.and_self, cond_true, p_rightAsk]
  cases hq : rightQ r with
  | false => exact .inl ⟨2, by decide, rfl⟩
  | true =>
    simp only [Bool.not_true, cond_false, p_find0 _ _ _ _ _ h.asc hl, Option.bind_some, decide_true, Bool.and_self, cond_true]
    cases hf : (fndE r.key E0).2 with
    | true => exact .inl ⟨31, by decide, rfl⟩
    | false =>
      by_cases hm : r.key ≤ m0
      · simp only [hm, decide_true, cond_true, cond_false]
        exact .inl ⟨51, by decide, rfl⟩
      · obtain ⟨k1, k2, k3⟩ := ku_put h1 h16 h (Entry.mk 0 0 r a 0 false) hf (by show m0 < r.key; omega) ⟨hr, ha⟩
        have hins := p_insE r.key E0 (Entry.mk 0 0 r a 0 false) hl
        simp only [hm, decide_false, cond_false, p_copyQ _ hr, p_copyA _ ha, Option.bind_some, hins, List.length_cons, List.length_nil, Nat.zero_add, decide_true, Bool.and_self, cond_true]
        simp only at k1 k2 k3
        generalize insL (fndE r.key E0).1 E0 (Entry.mk 0 0 r a 0 false) = E' at *
        right
        by_cases hk : keep < (E'.length : Int)
        · obtain ⟨y, hy, ku, hle, hin, hnew⟩ := k2 hk
          refine ⟨trivial, _, _, ku, hle, hin, hnew, ?_⟩
          have h0 : 0 < E'.length := by omega
          have hEl : E'.length ≤ 1000 := by have := h.len; omega
          simp only [hk, decide_true, cond_true, decide_eq_true h0, hy, Option.bind_some, p_delE E' hEl h0]
        · obtain ⟨ku, hin, hnew⟩ := k3 hk
          refine ⟨trivial, _, _, ku, Int.le_refl _, hin, hnew, ?_⟩
          simp only [hk, decide_false, cond_false]
/-- .. for the second -/
theorem p_Store1 {keep m0 m1 : Int} {E0 E1 : List Entry} (h1 : 1 ≤ keep) (h16 : keep ≤ 16) (h : KU keep m1 E1) (r : Request) (a : Reply) (hr : r.after.length ≤ 10) (ha : a.nums.length ≤ 100) :
    (∃ e, e ≠ 0 ∧ f26_3 1 r a keep m0 m1 E0 E1 = some (.inl (e, ((keep, ((), ())), (((m0, ((), ())), (((m1, ((), ())), ()))), (E0, (E1, ()))))))) ∨
    (rightQ r = true ∧ ∃ m' E', KU keep m' E' ∧ m1 ≤ m' ∧ (∀ x, InU m1 E1 x → InU m' E' x) ∧ InU m' E' (r, a) ∧
      f26_3 1 r a keep m0 m1 E0 E1 = some (.inr (.inl (0, ((keep, ((), ())), (((m0, ((), ())), (((m', ((), ())), ()))), (E0, ((), (E', ()))))))))) := by
  have hl : E1.length ≤ 1000 := by have := h.len; omega
  unfold f26_3 F26_3
  simp only [p_of1, Option.bind_some, Sum.elim_inr, Sum.elim_inl, decide_true, Bool.and_self, cond_true, p_rightAsk]
  cases hq : rightQ r with
  | false => exact .inl ⟨2, by decide, rfl⟩
  | true =>
    simp only [Bool.not_true, cond_false, p_find1 _ _ _ _ _ h.asc hl, Option.bind_some, decide_true, Bool.and_self, cond_true]
    cases hf : (fndE r.key E1).2 with
    | true => exact .inl ⟨31, by decide, rfl⟩
    | false =>
      by_cases hm : r.key ≤ m1
      · simp only [hm, decide_true, cond_true, cond_false]
        exact .inl ⟨51, by decide, rfl⟩
      · obtain ⟨k1, k2, k3⟩ := ku_put h1 h16 h (Entry.mk 0 1 r a 0 false) hf (by show m1 < r.key; omega) ⟨hr, ha⟩
        have hins := p_insE r.key E1 (Entry.mk 0 1 r a 0 false) hl
        simp only [hm, decide_false, cond_false, p_copyQ _ hr, p_copyA _ ha, Option.bind_some, hins, List.length_cons, List.length_nil, Nat.zero_add, decide_true, Bool.and_self, cond_true]
        simp only at k1 k2 k3
        generalize insL (fndE r.key E1).1 E1 (Entry.mk 0 1 r a 0 false) = E' at *
        right
        by_cases hk : keep < (E'.length : Int)
        · obtain ⟨y, hy, ku, hle, hin, hnew⟩ := k2 hk
          refine ⟨trivial, _, _, ku, hle, hin, hnew, ?_⟩
          have h0 : 0 < E'.length := by omega
          have hEl : E'.length ≤ 1000 := by have := h.len; omega
          simp only [hk, decide_true, cond_true, decide_eq_true h0, hy, Option.bind_some, p_delE E' hEl h0]
        · obtain ⟨ku, hin, hnew⟩ := k3 hk
          refine ⟨trivial, _, _, ku, Int.le_refl _, hin, hnew, ?_⟩
          simp only [hk, decide_false, cond_false]

/- what is told -/
def pickU {α : Type} (u : Int) (a b : α) : α := if u = 1 then b else a
theorem p_Mark {u : Int} (hu : u = 0 ∨ u = 1) (keep m0 m1 : Int) (E0 E1 : List Entry) : f27 u keep m0 m1 E0 E1 = some (pickU u m0 m1, ((keep, ((), ())), (((m0, ((), ())), (((m1, ((), ())), ()))), (E0, (E1, ()))))) := by
  unfold f27 F27
  rcases hu with rfl | rfl
  · simp only [p_of0, Option.bind_some, Sum.elim_inr, decide_true, Bool.and_self, cond_true]; rfl
  · simp only [p_of1, Option.bind_some, Sum.elim_inr, Sum.elim_inl, decide_true, Bool.and_self, cond_true]; rfl
theorem p_Entries {u : Int} (hu : u = 0 ∨ u = 1) {keep m0 m1 : Int} {E0 E1 : List Entry} (h0 : KU keep m0 E0) (h1 : KU keep m1 E1) (h16 : keep ≤ 16) : f28 u keep m0 m1 E0 E1 = some (pickU u E0 E1, ((keep, ((), ())), (((m0, ((), ())), (((m1, ((), ())), ()))), (E0, (E1, ()))))) := by
  have l0 : E0.length ≤ 1000 := by have := h0.len; omega
  have l1 : E1.length ≤ 1000 := by have := h1.len; omega
  unfold f28 F28
  rcases hu with rfl | rfl
  · simp only [p_of0, Option.bind_some, Sum.elim_inr, decide_true, Bool.and_self, cond_true, p_copyE E0 l0 h0.few]; rfl
  · simp only [p_of1, Option.bind_some, Sum.elim_inr, Sum.elim_inl, decide_true, Bool.and_self, cond_true, p_copyE E1 l1 h1.few]; rfl
theorem sameQ_refl (r : Request) : sameQ r r = true := (sameQ_iff r r).2 rfl
/-- a request that was stored is looked for -/
theorem p_Look {u : Int} (hu : u = 0 ∨ u = 1) {keep m0 m1 : Int} {E0 E1 : List Entry} (h0 : KU keep m0 E0) (h1 : KU keep m1 E1) (h16 : keep ≤ 16) (x : Request × Reply) (hx : InU (pickU u m0 m1) (pickU u E0 E1) x) (ha : x.1.after.length ≤ 10) :
    (f29_1 u x.1 keep m0 m1 E0 E1 = some ((2, (x.2, ())), ((keep, ((), ())), (((m0, ((), ())), (((m1, ((), ())), ()))), (E0, (E1, ())))))) ∨
    (∃ a, f29_1 u x.1 keep m0 m1 E0 E1 = some ((4, (a, ())), ((keep, ((), ())), (((m0, ((), ())), (((m1, ((), ())), ()))), (E0, (E1, ())))))) := by
  have l0 : E0.length ≤ 1000 := by have := h0.len; omega
  have l1 : E1.length ≤ 1000 := by have := h1.len; omega
  unfold f29_1 F29_1
  rcases hu with rfl | rfl
  · have hx : InU m0 E0 x := hx
    simp only [p_of0, Option.bind_some, Sum.elim_inr, decide_true, Bool.and_self, cond_true, p_find0 _ _ _ _ _ h0.asc l0]
    by_cases hm : x.1.key ≤ m0
    · right
      have hf : (fndE x.1.key E0).2 = false := by
        cases hb : (fndE x.1.key E0).2 with
        | false => rfl
        | true =>
          have hlt := fndE_lt _ _ hb
          have hy : E0[(fndE x.1.key E0).1]? = some E0[(fndE x.1.key E0).1] := List.getElem?_eq_getElem _
          have h2 := fndE_is _ _ _ hy
          rw [hb] at h2
          have h3 := of_decide_eq_true h2.symm
          have h4 := h0.above _ (List.mem_of_getElem? hy)
          omega
      simp only [hf, cond_false, hm, decide_true, cond_true]
      exact ⟨_, rfl⟩
    · left
      obtain ⟨e, he, e1, e2⟩ := hx.resolve_left hm
      obtain ⟨f1, f2⟩ := fndE_mem x.1.key E0 h0.asc e he (by rw [e1])
      have hlt := fndE_lt _ _ f1
      have hq := h0.few e he
      have h00 : (0 : Int) ≤ ((fndE x.1.key E0).1 : Int) := by omega
      simp only [f1, cond_true, decide_eq_true h00, Int.toNat_natCast, decide_eq_true hlt, f2, Option.bind_some, e1, p_sameAsk x.1 x.1 (by omega), sameQ_refl, e2, p_copyA x.2 (by rw [← e2]; exact hq.2)]
  · have hx : InU m1 E1 x := hx
    simp only [p_of1, Option.bind_some, Sum.elim_inr, Sum.elim_inl, decide_true, Bool.and_self, cond_true, p_find1 _ _ _ _ _ h1.asc l1]
    by_cases hm : x.1.key ≤ m1
    · right
      have hf : (fndE x.1.key E1).2 = false := by
        cases hb : (fndE x.1.key E1).2 with
        | false => rfl
        | true =>
          have hlt := fndE_lt _ _ hb
          have hy : E1[(fndE x.1.key E1).1]? = some E1[(fndE x.1.key E1).1] := List.getElem?_eq_getElem _
          have h2 := fndE_is _ _ _ hy
          rw [hb] at h2
          have h3 := of_decide_eq_true h2.symm
          have h4 := h1.above _ (List.mem_of_getElem? hy)
          omega
      simp only [hf, cond_false, hm, decide_true, cond_true]
      exact ⟨_, rfl⟩
    · left
      obtain ⟨e, he, e1, e2⟩ := hx.resolve_left hm
      obtain ⟨f1, f2⟩ := fndE_mem x.1.key E1 h1.asc e he (by rw [e1])
      have hlt := fndE_lt _ _ f1
      have hq := h1.few e he
      have h00 : (0 : Int) ≤ ((fndE x.1.key E1).1 : Int) := by omega
      simp only [f1, cond_true, decide_eq_true h00, Int.toNat_natCast, decide_eq_true hlt, f2, Option.bind_some, e1, p_sameAsk x.1 x.1 (by omega), sameQ_refl, e2, p_copyA x.2 (by rw [← e2]; exact hq.2)]
end NM
end Go.Proofs.Ytnggfgfeghmddaa
