/-
  The statement DepsStay about plain data: only jobs that are not over change, so what is met, and what is lost, stays so.
-/
import Derived.Test.YtnggfgfeghmddaaDepsM
import Derived.Test.YtnggfgfeghmddaaNmR
import Derived.KernelRfl
set_option linter.unusedVariables false
set_option linter.unusedSimpArgs false
namespace Go.Proofs.Ytnggfgfeghmddaa
namespace NM
open AM

theorem awake17 : f32 = some true := by kernel_rfl
theorem inv_loop {σ ω β : Type} {f : σ → (σ → Option ω) → Option ω} {G : Option ω → Prop} (n : Nat) (hn : n < LOOPS) (mk : β → Nat → σ) (Inv : β → Nat → Prop)
    (hend : ∀ b, Inv b n → ∃ r, G r ∧ ∀ next, f (mk b n) next = r)
    (hstep : ∀ b i, i < n → Inv b i → (∃ b', Inv b' (i + 1) ∧ ∀ next, f (mk b i) next = next (mk b' (i + 1))) ∨ ∃ r, G r ∧ ∀ next, f (mk b i) next = r)
    (b : β) (hb : Inv b 0) : G (LN LOOPS f (mk b 0)) := by
  have key : ∀ m i b, i ≤ n → n - i < m → Inv b i → G (loopN f m (mk b i)) := by
    intro m
    induction m with
    | zero => intro i b _ h; omega
    | succ m ih =>
      intro i b hi hm hI
      simp only [loopN]
      by_cases h : i = n
      · subst h
        obtain ⟨r, hr, he⟩ := hend b hI
        rw [he]; exact hr
      · rcases hstep b i (by omega) hI with ⟨b', hb', he⟩ | ⟨r, hr, he⟩
        · rw [he]; exact ih (i + 1) b' (by omega) (by omega) hb'
        · rw [he]; exact hr
  exact key LOOPS 0 b (by omega) (by omega) hb
def fewB (l : List Job) : Bool := !decide (30 < (l.length : Int)) && l.all (fun x => !decide (10 < (x.after.length : Int)))
theorem p_Few (l : List Job) (hl : l.length ≤ maxLen) : f33 l = some (fewB l) := by
  unfold f33 F33 fewB
  rw [all_loop l (fun z => ((z, ()), ())) (fun x => !decide (10 < (x.after.length : Int))) true hl]
  · simp only [cond_somes, Bool.and_true]
    cases l.all _ <;> cases decide (30 < (l.length : Int)) <;> rfl
  · intro next
    simp only [l33_0, Int.lt_irrefl, decide_false, cond_false]
  · intro z x next h0 h1 h2 h3
    simp only [l33_0, h0, h1, h2, h3, decide_true, cond_true, Option.bind_some, chk0]

def zeroJ : Job := Job.mk 0 0 0 0 (Res.mk 0 0 0 0) 0 [] 0 false false 0 0 0 0 0
def fj (id : Int) : List Job → Option Job
  | [] => none
  | x :: l => if x.id = id then some x else fj id l
theorem p_find (id : Int) (l : List Job) (hl : l.length ≤ 1000) : f67 id l = some (match fj id l with | some x => (x, (true, ())) | none => (zeroJ, (false, ()))) := by
  unfold f67 F67
  rw [list_loop (β := Unit) l (fun _ z => (((), z, ()), ((0, 0, 0, 0, 0, 0, 0, 0, 0, (), 0, false, false, 0, 0, 0, 0, 0, ()), ()))) (fun _ x => if x.id = id then .inr (some (x, (true, ()))) else .inl ()) (fun _ => some (zeroJ, (false, ()))) (by have : maxLen = 9223372036854775807 := rfl; omega) ?_ ?_ ()]
  · have : ∀ l : List Job, runL (fun (_ : Unit) (x : Job) => if x.id = id then .inr (some (x, (true, ()))) else .inl ()) (fun _ => some (zeroJ, (false, ()))) l () = some (match fj id l with | some x => (x, (true, ())) | none => (zeroJ, (false, ()))) := by
      intro l
      induction l with
      | nil => rfl
      | cons x l ih =>
        simp only [runL, fj]
        by_cases h : x.id = id
        · simp [h]
        · simp only [if_neg h]; exact ih
    exact this l
  · intro b next
    simp only [l67_0, Int.lt_irrefl, decide_false, cond_false]
    rfl
  · intro b z x next h0 h1 h2 h3
    by_cases h : x.id = id
    · simp only [l67_0, h0, h1, h2, h, decide_true, cond_true, Option.bind_some, if_true]
    · simp only [l67_0, h0, h1, h2, h3, h, decide_true, decide_false, cond_true, cond_false, Option.bind_some, if_false]
def overB (s : Int) : Bool := decide (s = 5) || decide (s = 6)
theorem p_Over (s : Int) : f69 s = some (overB s) := by
  unfold f69 F69 overB
  simp only [cond_somes, Bool.cond_true_left]
def metD (d : Dep) (x : Job) : Bool := overB x.state && (!d.ok || (decide (x.state = 5) && x.ok))
theorem p_met (d : Dep) (x : Job) : f68 d x = some (metD d x) := by
  unfold f68 F68 metD
  rw [p_Over]
  simp only [Option.bind_some, cond_somes]
  cases overB x.state <;> cases d.ok <;> cases decide (x.state = 5) <;> cases x.ok <;> rfl
def metP (l : List Job) (d : Dep) : Bool := match fj d.job l with | some x => metD d x | none => false
def lostP (l : List Job) (d : Dep) : Bool := match fj d.job l with | some x => overB x.state && !metD d x | none => false
theorem p_Met (j : Job) (l : List Job) (hl : l.length ≤ 1000) (hj : j.after.length ≤ 1000) : f34 j l = some (j.after.all (metP l)) := by
  unfold f34 F34
  rw [all_loop j.after (fun z => ((z, ()), ())) (metP l) true (by have : maxLen = 9223372036854775807 := rfl; omega)]
  · simp
  · intro next
    simp only [l34_0, Int.lt_irrefl, decide_false, cond_false]
  · intro z x next h0 h1 h2 h3
    simp only [l34_0, h0, h1, h2, h3, decide_true, cond_true, Option.bind_some, p_find _ l hl, metP]
    cases fj x.job l with
    | none => rfl
    | some y =>
      simp only [Bool.not_true, cond_false, p_met, Option.bind_some]
      cases metD x y <;> rfl
theorem p_Lost (j : Job) (l : List Job) (hl : l.length ≤ 1000) (hj : j.after.length ≤ 1000) : f35 j l = some (j.after.any (lostP l)) := by
  unfold f35 F35
  rw [any_loop j.after (fun z => ((z, ()), ())) (lostP l) false (by have : maxLen = 9223372036854775807 := rfl; omega)]
  · simp
  · intro next
    simp only [l35_0, Int.lt_irrefl, decide_false, cond_false]
  · intro z x next h0 h1 h2 h3
    simp only [l35_0, h0, h1, h2, h3, decide_true, cond_true, Option.bind_some, p_find _ l hl, lostP]
    cases fj x.job l with
    | none => rfl
    | some y =>
      simp only [cond_true, p_Over, p_met, Option.bind_some]
      cases overB y.state <;> cases metD x y <;> rfl
theorem p_Next (s w : Int) : ∃ r, f36 s w = some r ∧ (r ≠ 0 → overB s = false) := by
  unfold f36 F36
  by_cases h5 : s = 5
  · subst h5
    refine ⟨0, ?_, fun h => absurd rfl h⟩
    simp only [show ¬ (5 : Int) = 1 by omega, show ¬ (5 : Int) = 2 by omega, show ¬ (5 : Int) = 3 by omega, show ¬ (5 : Int) = 4 by omega, decide_false, cond_false, cond_self, Option.bind_some, Sum.elim_inl]
  · by_cases h6 : s = 6
    · subst h6
      refine ⟨0, ?_, fun h => absurd rfl h⟩
      simp only [show ¬ (6 : Int) = 1 by omega, show ¬ (6 : Int) = 2 by omega, show ¬ (6 : Int) = 3 by omega, show ¬ (6 : Int) = 4 by omega, decide_false, cond_false, cond_self, Option.bind_some, Sum.elim_inl]
    · have ho : overB s = false := by simp [overB, h5, h6]
      simp only [cond_somes, Option.bind_some]
      generalize cond (decide (w = 1)) _ _ = t
      cases t with
      | inl u => exact ⟨0, rfl, fun _ => ho⟩
      | inr v => exact ⟨v, rfl, fun _ => ho⟩
theorem p_Step (y : Job) (w now : Int) (ok : Bool) : ∃ r, f37 y w now ok = some r ∧ r.id = y.id := by
  obtain ⟨s, hs, _⟩ := p_Next y.state w
  unfold f37 F37
  rw [hs]
  simp only [Option.bind_some, cond_somes]
  refine ⟨_, rfl, ?_⟩
  by_cases h3 : w = 3
  · subst h3; simp; cases decide (5 ≤ s) <;> rfl
  by_cases h4 : w = 4
  · subst h4; simp; cases decide (5 ≤ s) <;> rfl
  by_cases h5 : w = 5
  · subst h5; simp; cases decide (5 ≤ s) <;> rfl
  by_cases h6 : w = 6
  · subst h6; simp; cases decide (5 ≤ s) <;> rfl
  by_cases h7 : w = 7
  · subst h7; by_cases hq : y.state = 3 <;> simp [hq] <;> cases decide (5 ≤ s) <;> rfl
  by_cases h8 : w = 8
  · subst h8; simp; cases decide (5 ≤ s) <;> rfl
  simp [h3, h4, h5, h6, h7, h8]; cases decide (5 ≤ s) <;> rfl
theorem fj_set {y r : Job} (hid : r.id = y.id) (ho : overB y.state = false) (id : Int) : ∀ (l : List Job) (k : Nat), l[k]? = some y → ∀ x, fj id l = some x → overB x.state = true → fj id (l.set k r) = some x
  | [], k, h, x, _, _ => by simp at h
  | z :: l, 0, h, x, hx, hox => by
    simp at h
    subst h
    simp only [List.set_cons_zero, fj] at hx ⊢
    rw [hid]
    by_cases he : z.id = id
    · rw [if_pos he] at hx
      cases hx
      rw [ho] at hox; cases hox
    · rw [if_neg he] at hx ⊢
      exact hx
  | z :: l, k + 1, h, x, hx, hox => by
    simp at h
    simp only [List.set_cons_succ, fj] at hx ⊢
    by_cases he : z.id = id
    · rw [if_pos he] at hx ⊢
      exact hx
    · rw [if_neg he] at hx ⊢
      exact fj_set hid ho id l k h x hx hox
theorem met_stays {y r : Job} {l : List Job} {k : Nat} (hid : r.id = y.id) (ho : overB y.state = false) (hk : l[k]? = some y) (ds : List Dep) (h : ds.all (metP l) = true) : ds.all (metP (l.set k r)) = true := by
  rw [List.all_eq_true] at h ⊢
  intro d hd
  have := h d hd
  unfold metP at this ⊢
  cases hf : fj d.job l with
  | none => rw [hf] at this; cases this
  | some x =>
    rw [hf] at this
    have hox : overB x.state = true := by
      simp only [metD, Bool.and_eq_true] at this
      exact this.1
    rw [fj_set hid ho d.job l k hk x hf hox]
    exact this
theorem lost_stays {y r : Job} {l : List Job} {k : Nat} (hid : r.id = y.id) (ho : overB y.state = false) (hk : l[k]? = some y) (ds : List Dep) (h : ds.any (lostP l) = true) : ds.any (lostP (l.set k r)) = true := by
  rw [List.any_eq_true] at h ⊢
  obtain ⟨d, hd, h⟩ := h
  refine ⟨d, hd, ?_⟩
  unfold lostP at h ⊢
  cases hf : fj d.job l with
  | none => rw [hf] at h; cases h
  | some x =>
    rw [hf] at h
    have hox : overB x.state = true := by
      simp only [Bool.and_eq_true] at h
      exact h.1
    rw [fj_set hid ho d.job l k hk x hf hox]
    exact h
theorem law_DepsStay (j : Job) (all : List Job) (hl : all.length ≤ maxLen) (al : List (Int × (Int × (Int × Bool)))) : f6 j all al = some true := by
  unfold f6 F6
  simp only [awake17, p_Few all hl, Option.bind_some, Bool.not_true, cond_false]
  cases hfew : fewB all with
  | false => rfl
  | true =>
  simp only [Bool.not_true, cond_false]
  have h30 : all.length ≤ 30 := by
    simp only [fewB, Bool.and_eq_true, Bool.not_eq_true', decide_eq_false_iff_not] at hfew
    omega
  by_cases h10 : 10 < (j.after.length : Int)
  · simp only [h10, decide_true, cond_true]
  by_cases h40 : 40 < (al.length : Int)
  · simp only [h10, h40, decide_true, decide_false, cond_true, cond_false]
  by_cases h0 : (all.length : Int) = 0
  · simp only [h10, h40, h0, decide_true, decide_false, cond_true, cond_false]
  have hsm : smallB (0 + all.length) 152 = true := by
    simp only [smallB, Bool.and_eq_true, decide_eq_true_eq]
    omega
  simp only [h10, h40, h0, decide_false, cond_false, hsm, cond_true, List.nil_append, p_Met j all (by omega) (by omega), p_Lost j all (by omega) (by omega), Option.bind_some]
  refine inv_loop (β := List Job) (G := fun r => r = some true) al.length (by unfold LOOPS; omega) (fun l i => (((), (), j.after.all (metP l), j.after.any (lostP l), (i : Int), ()), (j, l, ()))) (fun l i => l.length = all.length) ?_ ?_ all rfl
  · intro l hI
    refine ⟨_, rfl, fun next => ?_⟩
    simp only [l6_0, Int.lt_irrefl, decide_false, cond_false]
  · intro l i hi hI
    left
    obtain ⟨e, he⟩ : ∃ y, al[i]? = some y := ⟨al[i], List.getElem?_eq_getElem _⟩
    have q1 : (i : Int) < (al.length : Int) := by omega
    have q2 : (0 : Int) ≤ (i : Int) := by omega
    have q3 : IntKind.wrap .i64 ((i : Int) + 1) = ((i + 1 : Nat) : Int) := by rw [wi (by omega) (by omega)]; omega
    have q4 : ¬ (l.length : Int) = 0 := by omega
    obtain ⟨t, ht⟩ : ∃ t, t = Int.tmod e.1 (l.length : Int) := ⟨_, rfl⟩
    by_cases ht0 : t < 0
    · refine ⟨l, hI, fun next => ?_⟩
      simp only [l6_0, decide_eq_true q1, decide_eq_true q2, cond_true, Int.toNat_natCast, he, Option.bind_some, decide_eq_false q4, cond_false, ← ht, decide_eq_true ht0, q3]
    · have ht1 : t.toNat < l.length := by
        have := Int.tmod_lt_of_pos e.1 (show (0 : Int) < (l.length : Int) by omega)
        omega
      have ht2 : 0 ≤ t := by omega
      obtain ⟨y, hy⟩ : ∃ y, l[t.toNat]? = some y := ⟨l[t.toNat], List.getElem?_eq_getElem _⟩
      obtain ⟨s, hs, hso⟩ := p_Next y.state e.2.1
      by_cases hs0 : s = 0
      · refine ⟨l, hI, fun next => ?_⟩
        simp only [l6_0, decide_eq_true q1, decide_eq_true q2, cond_true, Int.toNat_natCast, he, Option.bind_some, decide_eq_false q4, cond_false, ← ht, decide_eq_false ht0, decide_eq_true ht2, decide_eq_true ht1, hy, hs, decide_eq_true hs0, q3]
      · obtain ⟨r, hr, hid⟩ := p_Step y e.2.1 e.2.2.1 e.2.2.2
        have hlen : (l.set t.toNat r).length = l.length := List.length_set ..
        refine ⟨l.set t.toNat r, by rw [hlen]; exact hI, fun next => ?_⟩
        simp only [l6_0, decide_eq_true q1, decide_eq_true q2, cond_true, Int.toNat_natCast, he, Option.bind_some, decide_eq_false q4, cond_false, ← ht, decide_eq_false ht0, decide_eq_true ht2, decide_eq_true ht1, hy, hs, decide_eq_false hs0, hr,
          p_Met j (l.set t.toNat r) (by omega) (by omega), p_Lost j (l.set t.toNat r) (by omega) (by omega), q3]
        have hm := met_stays (l := l) (k := t.toNat) hid (hso hs0) hy j.after
        have hx := lost_stays (l := l) (k := t.toNat) hid (hso hs0) hy j.after
        cases ha : j.after.all (metP l) with
        | true =>
          rw [hm ha]
          cases hb : j.after.any (lostP l) with
          | true => rw [hx hb]; rfl
          | false => rfl
        | false =>
          cases hb : j.after.any (lostP l) with
          | true => rw [hx hb]; rfl
          | false => rfl
end NM
namespace depsStay
open NM AM
theorem walk (x0 : Job) (x1 : List Job) (x2 : List (Int × (Int × (Int × Bool)))) (v0 v1 v2 : Value) (W : World) (h0 : V W (Lt W.heap.size) x0 v0) (h1 : V W (Lt W.heap.size) x1 v1) (h2 : V W (Lt W.heap.size) x2 v2) :
    Calls Try.prog 6 #[v0, v1, v2] W fun e w' => e = .returned (.bool true) ∧ Go.RowKit.Below W.heap.size W w' :=
  nlaw_walk NM.ok6 (x := (NEnc.f x0, NEnc.f x1, NEnc.f x2, ())) (law_DepsStay _ _ (by show (List.map _ x1).length ≤ _; rw [List.length_map]; exact (Rng.ok h1.1).1) _) (arg_cons x0 (arg_cons x1 (arg_cons x2 arg_nil))) rfl fun j a v ha hv => by
    match j with
    | 0 => simp at ha hv; subst ha; subst hv; exact h0.vr (fun _ h => h) _
    | 1 => simp at ha hv; subst ha; subst hv; exact h1.vr (fun _ h => h) _
    | 2 => simp at ha hv; subst ha; subst hv; exact h2.vr (fun _ h => h) _
end depsStay
end Go.Proofs.Ytnggfgfeghmddaa
