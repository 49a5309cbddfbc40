/-
  The statement TableDoes about plain data.
-/
import Derived.Test.YtnggfgfeghmddaaPTabC
set_option linter.unusedVariables false
set_option linter.unusedSimpArgs false
namespace Go.Proofs.Ytnggfgfeghmddaa
namespace NM
open AM

theorem awake18 : f7 = some true := by kernel_rfl
theorem inv_loop {σ ω β : Type} {f : σ → (σ → Option ω) → Option ω} {G : Option ω → Prop} (n : Nat) (hn : n < LOOPS) (mk : β → Nat → σ) (Inv : β → Nat → Prop)
    (hend : ∀ b, Inv b n → ∃ r, G r ∧ ∀ next, f (mk b n) next = r)
    (hstep : ∀ b i, i < n → Inv b i → (∃ b', Inv b' (i + 1) ∧ ∀ next, f (mk b i) next = next (mk b' (i + 1))) ∨ ∃ r, G r ∧ ∀ next, f (mk b i) next = r)
    (b : β) (hb : Inv b 0) : G (LN LOOPS f (mk b 0)) := by
  have key : ∀ m i b, i ≤ n → n - i < m → Inv b i → G (loopN f m (mk b i)) := by
    intro m
    induction m with
    | zero => intro i b _ h; omega
    | succ m ih =>
      intro i b hi hm hI
      simp only [loopN]
      by_cases h : i = n
      · subst h
        obtain ⟨r, hr, he⟩ := hend b hI
        rw [he]; exact hr
      · rcases hstep b i (by omega) hI with ⟨b', hb', he⟩ | ⟨r, hr, he⟩
        · rw [he]; exact ih (i + 1) b' (by omega) (by omega) hb'
        · rw [he]; exact hr
  exact key LOOPS 0 b (by omega) (by omega) hb
def fewB (l : List (Int × Job)) : Bool := !decide (40 < (l.length : Int)) && l.all (fun x => !decide (10 < (x.2.after.length : Int)))
theorem p_Few (l : List (Int × Job)) (hl : l.length ≤ maxLen) : f17 l = some (fewB l) := by
  unfold f17 F17 fewB
  rw [all_loop l (fun z => ((z, ()), ())) (fun x => !decide (10 < (x.2.after.length : Int))) true hl]
  · simp only [cond_somes, Bool.and_true]
    cases l.all _ <;> cases decide (40 < (l.length : Int)) <;> rfl
  · intro next
    simp only [l17_0, Int.lt_irrefl, decide_false, cond_false]
  · intro z x next h0 h1 h2 h3
    simp only [l17_0, h0, h1, h2, h3, decide_true, cond_true, Option.bind_some, chk0]
theorem few_of {l : List (Int × Job)} (h : fewB l = true) : l.length ≤ 40 ∧ ∀ x, x ∈ l → x.2.after.length ≤ 10 := by
  simp only [fewB, Bool.and_eq_true, Bool.not_eq_true', decide_eq_false_iff_not, List.all_eq_true] at h
  exact ⟨by omega, fun x hx => by have := h.2 x hx; omega⟩
/-- what a run comes to -/
theorem p_run0 {p : Int} (a : List (Int × Job)) (hl : a.length ≤ 40) (ha : ∀ x, x ∈ a → x.2.after.length ≤ 10) (hp : 0 ≤ p) (hp1 : p ≤ 256) : ∃ w, TGood p w ∧ f19 [] a p p = some ((w, (true, ())), ((p, (), ()), w, ())) := by
  unfold f19 F19
  refine inv_loop (G := fun r => ∃ w, TGood p w ∧ r = some ((w, (true, ())), ((p, (), ()), w, ()))) a.length (by unfold LOOPS; omega) (fun w i => (((), w, ((i : Nat) : Int), ()), ((p, (), ()), w, ()))) (fun w i => TGood p w) ?_ ?_ [] ⟨trivial, by simpa using hp, hp1, by simp⟩
  · intro w g
    refine ⟨_, ⟨w, g, rfl⟩, fun next => ?_⟩
    simp only [l19_0, Int.lt_irrefl, decide_false, cond_false]
  · intro w i hi g
    left
    obtain ⟨y, hy⟩ : ∃ y, a[i]? = some y := ⟨a[i], List.getElem?_eq_getElem _⟩
    have hyl := ha y (List.mem_of_getElem? hy)
    have q1 : (i : Int) < (a.length : Int) := by omega
    have q2 : (0 : Int) ≤ (i : Int) := by omega
    have q3 : IntKind.wrap .i64 ((i : Int) + 1) = ((i + 1 : Nat) : Int) := by rw [wi (by omega) (by omega)]; omega
    by_cases k1 : y.1 = 1
    · rcases put_both g y.2 hyl with ⟨e, e1, e2⟩ | ⟨l', g', e1, e2⟩
      · refine ⟨w, g, fun next => ?_⟩
        simp only [l19_0, decide_eq_true q1, decide_eq_true q2, cond_true, Int.toNat_natCast, hy, Option.bind_some, k1, decide_true, e1, e2, Sum.elim_inl, Sum.elim_inr, Bool.and_self, Bool.not_true, cond_false, p_alike g, q3]
      · refine ⟨l', g', fun next => ?_⟩
        simp only [l19_0, decide_eq_true q1, decide_eq_true q2, cond_true, Int.toNat_natCast, hy, Option.bind_some, k1, decide_true, e1, e2, Sum.elim_inl, Sum.elim_inr, Bool.and_self, Bool.not_true, cond_false, p_alike g', q3]
    · by_cases k2 : y.1 = 2
      · obtain ⟨e, l', g', hl', e1, e2⟩ := set_both g y.2 hyl
        refine ⟨l', g', fun next => ?_⟩
        simp only [l19_0, decide_eq_true q1, decide_eq_true q2, cond_true, Int.toNat_natCast, hy, Option.bind_some, k2, decide_eq_false (show ¬ (2 : Int) = 1 by omega), decide_true, e1, e2, hl', Bool.and_self, Bool.not_true, cond_false, p_alike g', q3]
      · rcases drop_both g y.2.id with ⟨e1, e2⟩ | ⟨l', g', e1, e2⟩
        · refine ⟨w, g, fun next => ?_⟩
          simp only [l19_0, decide_eq_true q1, decide_eq_true q2, cond_true, Int.toNat_natCast, hy, Option.bind_some, decide_eq_false k1, decide_eq_false k2, decide_true, e1, e2, Sum.elim_inl, Sum.elim_inr, Bool.and_self, Bool.not_true, cond_false, p_alike g, q3]
        · refine ⟨l', g', fun next => ?_⟩
          simp only [l19_0, decide_eq_true q1, decide_eq_true q2, cond_true, Int.toNat_natCast, hy, Option.bind_some, decide_eq_false k1, decide_eq_false k2, decide_true, e1, e2, Sum.elim_inl, Sum.elim_inr, Bool.and_self, Bool.not_true, cond_false, p_alike g', q3]
theorem p_run1 {p : Int} (a : List (Int × Job)) (hl : a.length ≤ 40) (ha : ∀ x, x ∈ a → x.2.after.length ≤ 10) (w0 : List Job) (g0 : TGood p w0) : ∃ w, TGood p w ∧ f19_1 w0 a p p w0 = some ((w, (true, ())), ((p, (), ()), (), w, ())) := by
  unfold f19_1 F19_1
  refine inv_loop (G := fun r => ∃ w, TGood p w ∧ r = some ((w, (true, ())), ((p, (), ()), (), w, ()))) a.length (by unfold LOOPS; omega) (fun w i => (((), w, ((i : Nat) : Int), ()), ((p, (), ()), (), w, ()))) (fun w i => TGood p w) ?_ ?_ w0 g0
  · intro w g
    refine ⟨_, ⟨w, g, rfl⟩, fun next => ?_⟩
    simp only [l19_1_0, Int.lt_irrefl, decide_false, cond_false]
  · intro w i hi g
    left
    obtain ⟨y, hy⟩ : ∃ y, a[i]? = some y := ⟨a[i], List.getElem?_eq_getElem _⟩
    have hyl := ha y (List.mem_of_getElem? hy)
    have q1 : (i : Int) < (a.length : Int) := by omega
    have q2 : (0 : Int) ≤ (i : Int) := by omega
    have q3 : IntKind.wrap .i64 ((i : Int) + 1) = ((i + 1 : Nat) : Int) := by rw [wi (by omega) (by omega)]; omega
    by_cases k1 : y.1 = 1
    · rcases put_both g y.2 hyl with ⟨e, e1, e2⟩ | ⟨l', g', e1, e2⟩
      · refine ⟨w, g, fun next => ?_⟩
        simp only [l19_1_0, decide_eq_true q1, decide_eq_true q2, cond_true, Int.toNat_natCast, hy, Option.bind_some, k1, decide_true, e1, e2, Sum.elim_inl, Sum.elim_inr, Bool.and_self, Bool.not_true, cond_false, p_alike g, q3]
      · refine ⟨l', g', fun next => ?_⟩
        simp only [l19_1_0, decide_eq_true q1, decide_eq_true q2, cond_true, Int.toNat_natCast, hy, Option.bind_some, k1, decide_true, e1, e2, Sum.elim_inl, Sum.elim_inr, Bool.and_self, Bool.not_true, cond_false, p_alike g', q3]
    · by_cases k2 : y.1 = 2
      · obtain ⟨e, l', g', hl', e1, e2⟩ := set_both g y.2 hyl
        refine ⟨l', g', fun next => ?_⟩
        simp only [l19_1_0, decide_eq_true q1, decide_eq_true q2, cond_true, Int.toNat_natCast, hy, Option.bind_some, k2, decide_eq_false (show ¬ (2 : Int) = 1 by omega), decide_true, e1, e2, hl', Bool.and_self, Bool.not_true, cond_false, p_alike g', q3]
      · rcases drop_both g y.2.id with ⟨e1, e2⟩ | ⟨l', g', e1, e2⟩
        · refine ⟨w, g, fun next => ?_⟩
          simp only [l19_1_0, decide_eq_true q1, decide_eq_true q2, cond_true, Int.toNat_natCast, hy, Option.bind_some, decide_eq_false k1, decide_eq_false k2, decide_true, e1, e2, Sum.elim_inl, Sum.elim_inr, Bool.and_self, Bool.not_true, cond_false, p_alike g, q3]
        · refine ⟨l', g', fun next => ?_⟩
          simp only [l19_1_0, decide_eq_true q1, decide_eq_true q2, cond_true, Int.toNat_natCast, hy, Option.bind_some, decide_eq_false k1, decide_eq_false k2, decide_true, e1, e2, Sum.elim_inl, Sum.elim_inr, Bool.and_self, Bool.not_true, cond_false, p_alike g', q3]
theorem law_TableDoes (p : Int) (a : List (Int × Job)) (ha : a.length ≤ maxLen) (b : List (Int × Job)) (hb : b.length ≤ maxLen) : f3 p a b = some true := by
  unfold f3 F3
  have n1 : f8 1 = some (Job.mk 0 0 0 0 (Res.mk 0 0 0 0) 0 [] 0 false false 0 0 0 0 0, (false, ())) := rfl
  have n2 : ∀ i, f10 i = some (Job.mk i 0 0 1 (Res.mk 1 0 0 0) 1 [] 1 false false 1 0 0 0 0) := fun i => rfl
  have n3 : ∀ j, f9 j = some 1 := fun j => rfl
  have n4 : ∀ j, f11 j = some 1 := fun j => rfl
  have n5 : ∀ j, f12 j = some 1 := fun j => rfl
  have n6 : f13 = some [] := rfl
  have n7 : f14 = some 0 := rfl
  have n8 : f15 = some 0 := rfl
  have n9 : f16 = some () := rfl
  have n10 : IntKind.wrap .i64 (IntKind.wrap .i64 ((([] : List Job).length : Int) + 0) + 0) = 0 := rfl
  have n11 : f15_1 p = some (p, ((p, (), ()), ())) := rfl
  simp only [awake18, n1, n2, n3, n4, n5, n6, n7, n8, n9, n10, n11, p_Few a ha, p_Few b hb, Option.bind_some, Bool.not_true, cond_false, decide_true]
  cases h1 : fewB a with
  | false => rfl
  | true =>
  cases h2 : fewB b with
  | false => rfl
  | true =>
  simp only [Bool.not_true, cond_false]
  obtain ⟨a1, a2⟩ := few_of h1
  obtain ⟨b1, b2⟩ := few_of h2
  unfold f18 F18
  by_cases h3 : p < 1
  · simp only [h3, decide_true, cond_true, Option.bind_some, Sum.elim_inl]
  · by_cases h4 : 256 < p
    · simp only [h3, h4, decide_true, decide_false, cond_true, cond_false, Option.bind_some, Sum.elim_inl]
    · obtain ⟨w, g, e1⟩ := p_run0 (p := p) a a1 a2 (by omega) (by omega)
      obtain ⟨v, g', e2⟩ := p_run1 b b1 b2 w g
      have hc : f16_1 p w = some ((), ((p, (), ()), w, (p, (), ()), w, ())) := by
        unfold f16_1 F16_1
        rw [p_Clone152 w g.small]
        simp only [Option.bind_some, decide_true, Bool.and_self, cond_true]
      simp only [h3, h4, decide_true, decide_false, cond_true, cond_false, Option.bind_some, Sum.elim_inr, Bool.not_true, n11, e1, hc, e2, Bool.and_self, p_alike g, p_alike g']
end NM
namespace tableDoes
open NM AM
theorem walk (x0 : Int) (x1 x2 : List (Int × Job)) (v0 v1 v2 : Value) (W : World) (h0 : V W (Lt W.heap.size) x0 v0) (h1 : V W (Lt W.heap.size) x1 v1) (h2 : V W (Lt W.heap.size) x2 v2) :
    Calls Try.prog 3 #[v0, v1, v2] W fun e w' => e = .returned (.bool true) ∧ Go.RowKit.Below W.heap.size W w' :=
  nlaw_walk NM.ok3 (x := (NEnc.f x0, NEnc.f x1, NEnc.f x2, ())) (law_TableDoes _ _ (by show (List.map _ x1).length ≤ _; rw [List.length_map]; exact (Rng.ok h1.1).1) _ (by show (List.map _ x2).length ≤ _; rw [List.length_map]; exact (Rng.ok h2.1).1)) (arg_cons x0 (arg_cons x1 (arg_cons x2 arg_nil))) rfl fun j a v ha hv => by
    match j with
    | 0 => simp at ha hv; subst ha; subst hv; exact h0.vr (fun _ h => h) _
    | 1 => simp at ha hv; subst ha; subst hv; exact h1.vr (fun _ h => h) _
    | 2 => simp at ha hv; subst ha; subst hv; exact h2.vr (fun _ h => h) _
end tableDoes
end Go.Proofs.Ytnggfgfeghmddaa
