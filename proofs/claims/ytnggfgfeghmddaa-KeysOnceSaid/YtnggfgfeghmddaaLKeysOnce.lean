/-
  The statement KeysOnce about plain data.
-/
import Derived.Test.YtnggfgfeghmddaaPKeysC
set_option linter.unusedVariables false
set_option linter.unusedSimpArgs false
namespace Go.Proofs.Ytnggfgfeghmddaa
namespace NM
open AM

theorem awake37 : f23 = some true := by kernel_rfl
theorem inv_loop {σ ω β : Type} {f : σ → (σ → Option ω) → Option ω} {G : Option ω → Prop} (n : Nat) (hn : n < LOOPS) (mk : β → Nat → σ) (Inv : β → Nat → Prop)
    (hend : ∀ b, Inv b n → ∃ r, G r ∧ ∀ next, f (mk b n) next = r)
    (hstep : ∀ b i, i < n → Inv b i → (∃ b', Inv b' (i + 1) ∧ ∀ next, f (mk b i) next = next (mk b' (i + 1))) ∨ ∃ r, G r ∧ ∀ next, f (mk b i) next = r)
    (b : β) (hb : Inv b 0) : G (LN LOOPS f (mk b 0)) := by
  have key : ∀ m i b, i ≤ n → n - i < m → Inv b i → G (loopN f m (mk b i)) := by
    intro m
    induction m with
    | zero => intro i b _ h; omega
    | succ m ih =>
      intro i b hi hm hI
      simp only [loopN]
      by_cases h : i = n
      · subst h
        obtain ⟨r, hr, he⟩ := hend b hI
        rw [he]; exact hr
      · rcases hstep b i (by omega) hI with ⟨b', hb', he⟩ | ⟨r, hr, he⟩
        · rw [he]; exact ih (i + 1) b' (by omega) (by omega) hb'
        · rw [he]; exact hr
  exact key LOOPS 0 b (by omega) (by omega) hb
abbrev Done : Type := Bool × (Int × (Request × Reply))
def fewB (l : List Done) : Bool := !decide (40 < (l.length : Int)) && l.all (fun x => !decide (10 < (x.2.2.1.after.length : Int)) && !decide (100 < (x.2.2.2.nums.length : Int)))
theorem p_Few (l : List Done) (hl : l.length ≤ maxLen) : f24 l = some (fewB l) := by
  unfold f24 F24 fewB
  rw [all_loop l (fun z => ((z, ()), ())) (fun x => !decide (10 < (x.2.2.1.after.length : Int)) && !decide (100 < (x.2.2.2.nums.length : Int))) true hl]
  · simp only [cond_somes, Bool.and_true]
    cases l.all _ <;> cases decide (40 < (l.length : Int)) <;> rfl
  · intro next
    simp only [l24_0, Int.lt_irrefl, decide_false, cond_false]
  · intro z x next h0 h1 h2 h3
    simp only [l24_0, h0, h1, h2, h3, decide_true, cond_true, Option.bind_some, chk0]
    cases decide (10 < (x.2.2.1.after.length : Int)) <;> cases decide (100 < (x.2.2.2.nums.length : Int)) <;> rfl
theorem few_of {l : List Done} (h : fewB l = true) : l.length ≤ 40 ∧ ∀ x, x ∈ l → x.2.2.1.after.length ≤ 10 ∧ x.2.2.2.nums.length ≤ 100 := by
  simp only [fewB, Bool.and_eq_true, Bool.not_eq_true', decide_eq_false_iff_not, List.all_eq_true] at h
  exact ⟨by omega, fun x hx => by have := h.2 x hx; omega⟩
theorem r_Ints (l : List Int) (hl : l.length ≤ 1000) : f62 l l = some true := by
  unfold f62 F62
  simp only [decide_true, Bool.not_true, cond_false]
  rw [list_loop (β := Unit) l (fun _ z => ((z, ()), ())) (fun b x => .inl b) (fun _ => some true) (by rw [lml]; omega) ?_ ?_ ()]
  · rw [runL_fold]
  · intro b next
    simp only [l62_0, Int.lt_irrefl, decide_false, cond_false]
  · intro b z x next h0 h1 h2 h3
    simp only [l62_0, h0, h1, h2, h3, decide_true, cond_true, Option.bind_some, Bool.not_true, cond_false]
theorem r_SameA (a : Reply) (ha : a.nums.length ≤ 100) : f30 a a = some true := by
  unfold f30 F30
  simp only [decide_true, cond_true, r_Ints a.nums (by omega), Option.bind_some]
/-- what holds of those that are done -/
def DoneOk (m0 m1 : Int) (E0 E1 : List Entry) (x : Done) : Prop := ((x.2.1 = 0 ∧ InU m0 E0 x.2.2) ∨ (x.2.1 = 1 ∧ InU m1 E1 x.2.2)) ∧ rightQ x.2.2.1 = true ∧ x.2.2.1.after.length ≤ 10 ∧ x.2.2.2.nums.length ≤ 100
theorem pick0 {α : Type} (a b : α) : pickU 0 a b = a := rfl
theorem pick1 {α : Type} (a b : α) : pickU 1 a b = b := rfl
abbrev Mem : Type := (Int × (Unit × Unit)) × ((List Done) × ((Int × Int) × (((Int × (Unit × Unit)) × ((Int × (Unit × Unit)) × Unit)) × ((List Entry) × ((List Entry) × Unit)))))
abbrev mem (keep m0 m1 : Int) (E0 E1 : List Entry) (done : List Done) (k : Int × Int) : Mem := ((keep, ((), ())), (done, (k, (((m0, ((), ())), (((m1, ((), ())), ()))), (E0, (E1, ()))))))
theorem inner_loop {keep m0 m1 : Int} {E0 E1 : List Entry} {done : List Done} (k : Int × Int) (h0 : KU keep m0 E0) (h1 : KU keep m1 E1) (h16 : keep ≤ 16) (hl : done.length ≤ 100) (hd : ∀ x, x ∈ done → DoneOk m0 m1 E0 E1 x) (i : Int)
    (next : ((Unit × (Unit × (Unit × (Int × Unit)))) × Mem) → Option Bool) :
    LN LOOPS (fun (s45 : ((Unit × (Unit × (Unit × (Unit × (Int × Unit))))) × Mem)) nx46 => l5_0 f29_1 f30 f31 next i done nx46 s45.1.2.2.2.2.1 s45.2.1.1 s45.2.2.1 s45.2.2.2.1 s45.2.2.2.2.1.1.1 s45.2.2.2.2.1.2.1.1 s45.2.2.2.2.2.1 s45.2.2.2.2.2.2.1)
      (((), ((), ((), ((), ((0 : Int), ()))))), mem keep m0 m1 E0 E1 done k) = next (((), ((), ((), (IntKind.wrap .i64 (i + 1), ())))), mem keep m0 m1 E0 E1 done k) := by
  refine inv_loop (β := Unit) (G := fun r => r = next (((), ((), ((), (IntKind.wrap .i64 (i + 1), ())))), mem keep m0 m1 E0 E1 done k)) done.length (by unfold LOOPS; omega) (fun _ j => (((), ((), ((), ((), ((j : Int), ()))))), mem keep m0 m1 E0 E1 done k)) (fun _ _ => True) ?_ ?_ () trivial
  · intro b _
    refine ⟨_, rfl, fun nx => ?_⟩
    simp only [l5_0, Int.lt_irrefl, decide_false, cond_false]
  · intro b j hj _
    left
    refine ⟨(), trivial, fun nx => ?_⟩
    obtain ⟨y, hy⟩ : ∃ y, done[j]? = some y := ⟨done[j], List.getElem?_eq_getElem _⟩
    obtain ⟨hin, hq, ha, hn⟩ := hd y (List.mem_of_getElem? hy)
    have q1 : (j : Int) < (done.length : Int) := by omega
    have q2 : (0 : Int) ≤ (j : Int) := by omega
    have q3 : IntKind.wrap .i64 ((j : Int) + 1) = ((j + 1 : Nat) : Int) := by rw [wi (by omega) (by omega)]; omega
    have hlook : f29_1 y.2.1 y.2.2.1 keep m0 m1 E0 E1 = some ((2, (y.2.2.2, ())), ((keep, ((), ())), (((m0, ((), ())), (((m1, ((), ())), ()))), (E0, (E1, ()))))) ∨
        (∃ a, f29_1 y.2.1 y.2.2.1 keep m0 m1 E0 E1 = some ((4, (a, ())), ((keep, ((), ())), (((m0, ((), ())), (((m1, ((), ())), ()))), (E0, (E1, ())))))) := by
      rcases hin with ⟨hu, hx⟩ | ⟨hu, hx⟩
      · rw [hu]; exact p_Look (.inl rfl) h0 h1 h16 y.2.2 hx ha
      · rw [hu]; exact p_Look (.inr rfl) h0 h1 h16 y.2.2 hx ha
    rcases hlook with hlook | ⟨a, hlook⟩
    · simp only [l5_0, decide_eq_true q1, decide_eq_true q2, Int.toNat_natCast, decide_eq_true hj, hy, hlook, decide_true, Bool.and_self, Bool.not_true, cond_true, cond_false, Option.bind_some, r_SameA _ hn, r_rightAsk, hq, q3]
    · have h42 : ¬ (4 : Int) = 2 := by omega
      simp only [l5_0, decide_eq_true q1, decide_eq_true q2, Int.toNat_natCast, decide_eq_true hj, hy, hlook, decide_true, Bool.and_self, Bool.not_true, Bool.not_false, cond_true, cond_false, decide_eq_false h42, Option.bind_some, r_rightAsk, hq, q3]
theorem asc_at : ∀ {l : List Entry} {m : Int}, AscE l → (∀ e, e ∈ l → m < e.request.key) → ∀ (j : Nat) (y : Entry), l[j]? = some y → ∀ last, (∀ (z : Entry), l[j]? = some z → last < z.request.key) → last < y.request.key ∧ ∀ z, l[j + 1]? = some z → y.request.key < z.request.key
  | [], _, _, _, j, y, h, _, _ => by simp at h
  | x :: l, m, ha, hm, 0, y, h, last, hlast => by
    refine ⟨hlast y h, fun z hz => ?_⟩
    simp at h hz
    subst h
    exact ha.1 z (List.mem_of_getElem? hz)
  | x :: l, m, ha, hm, j + 1, y, h, last, hlast => by
    simp at h
    have := asc_at (m := m) ha.2 (fun e he => hm e (List.mem_cons_of_mem _ he)) j y h last (fun z hz => hlast z (by simpa using hz))
    exact ⟨this.1, fun z hz => this.2 z (by simpa using hz)⟩
theorem outer_loop {keep m0 m1 : Int} {E0 E1 : List Entry} {done : List Done} (k : Int × Int) (h0 : KU keep m0 E0) (h1 : KU keep m1 E1) (h16 : keep ≤ 16) (hl : done.length ≤ 100) (hd : ∀ x, x ∈ done → DoneOk m0 m1 E0 E1 x) (i : Int)
    (next : ((Unit × (Unit × (Unit × (Int × Unit)))) × Mem) → Option Bool) (m : Int) (E : List Entry) (hE : KU keep m E) (rest : (Int × (Unit × Unit)) × (((Int × (Unit × Unit)) × ((Int × (Unit × Unit)) × Unit)) × ((List Entry) × ((List Entry) × Unit)))) :
    LN LOOPS (fun (s33 : ((Unit × (Unit × (Unit × (Int × (Int × Unit))))) × Mem)) nx34 => l5_1 (@LN LOOPS) f29_1 f30 f31 next i (E, rest) nx34 s33.1.2.2.2.1 s33.1.2.2.2.2.1 s33.2.1.1 s33.2.2.1 s33.2.2.2.1 s33.2.2.2.2.1.1.1 s33.2.2.2.2.1.2.1.1 s33.2.2.2.2.2.1 s33.2.2.2.2.2.2.1)
      (((), ((), ((), (m, ((0 : Int), ()))))), mem keep m0 m1 E0 E1 done k) = next (((), ((), ((), (IntKind.wrap .i64 (i + 1), ())))), mem keep m0 m1 E0 E1 done k) := by
  have hlen := hE.len
  refine inv_loop (β := Int) (G := fun r => r = next (((), ((), ((), (IntKind.wrap .i64 (i + 1), ())))), mem keep m0 m1 E0 E1 done k)) E.length (by unfold LOOPS; omega) (fun last j => (((), ((), ((), (last, ((j : Int), ()))))), mem keep m0 m1 E0 E1 done k)) (fun last j => ∀ z, E[j]? = some z → last < z.request.key) ?_ ?_ m (fun z hz => hE.above z (List.mem_of_getElem? hz))
  · intro b _
    refine ⟨_, rfl, fun nx => ?_⟩
    simp only [l5_1, Int.lt_irrefl, decide_false, cond_false]
    exact inner_loop k h0 h1 h16 hl hd i next
  · intro last j hj hI
    left
    obtain ⟨y, hy⟩ : ∃ y, E[j]? = some y := ⟨E[j], List.getElem?_eq_getElem _⟩
    obtain ⟨g1, g2⟩ := asc_at hE.asc hE.above j y hy last hI
    refine ⟨y.request.key, g2, fun nx => ?_⟩
    have q1 : (j : Int) < (E.length : Int) := by omega
    have q2 : (0 : Int) ≤ (j : Int) := by omega
    have q3 : IntKind.wrap .i64 ((j : Int) + 1) = ((j + 1 : Nat) : Int) := by rw [wi (by omega) (by omega)]; omega
    have q4 : ¬ y.request.key ≤ last := by omega
    simp only [l5_1, decide_eq_true q1, decide_eq_true q2, Int.toNat_natCast, hy, decide_eq_false q4, cond_true, cond_false, Option.bind_some, q3]
theorem and_one (z : Int) : IntKind.wrap .i64 (((BitVec.ofInt 64 z &&& BitVec.ofInt 64 1).toNat : Int)) = 0 ∨ IntKind.wrap .i64 (((BitVec.ofInt 64 z &&& BitVec.ofInt 64 1).toNat : Int)) = 1 := by
  have h1 : (BitVec.ofInt 64 1).toNat = 1 := by decide
  have h2 : (BitVec.ofInt 64 z &&& BitVec.ofInt 64 1).toNat = (BitVec.ofInt 64 z).toNat % 2 := by
    rw [BitVec.toNat_and, h1, Nat.and_one_is_mod]
  rw [h2]
  have : (BitVec.ofInt 64 z).toNat % 2 = 0 ∨ (BitVec.ofInt 64 z).toNat % 2 = 1 := by omega
  rcases this with h | h
  · rw [h]; exact .inl rfl
  · rw [h]; exact .inr rfl
theorem doneOk_mono {m0 m1 m0' m1' : Int} {E0 E1 E0' E1' : List Entry} (h0 : ∀ x, InU m0 E0 x → InU m0' E0' x) (h1 : ∀ x, InU m1 E1 x → InU m1' E1' x) {x : Done} (h : DoneOk m0 m1 E0 E1 x) : DoneOk m0' m1' E0' E1' x := by
  obtain ⟨h, h2⟩ := h
  refine ⟨?_, h2⟩
  rcases h with ⟨a, b⟩ | ⟨a, b⟩
  · exact .inl ⟨a, h0 _ b⟩
  · exact .inr ⟨a, h1 _ b⟩
structure Big (keep : Int) (i : Nat) (b : (List Done) × (Int × (Int × (List Entry × List Entry)))) : Prop where
  u0 : KU keep b.2.1 b.2.2.2.1
  u1 : KU keep b.2.2.1 b.2.2.2.2
  len : b.1.length ≤ i
  ok : ∀ x, x ∈ b.1 → DoneOk b.2.1 b.2.2.1 b.2.2.2.1 b.2.2.2.2 x
theorem small224 {n : Nat} (h : n ≤ 100) : smallB (n + 1) 224 = true := by
  simp only [smallB, Bool.and_eq_true, decide_eq_true_eq]
  omega
theorem law_KeysOnce (keep : Int) (al : List Done) (hal : al.length ≤ maxLen) : f5 keep al = some true := by
  unfold f5 F5
  simp only [awake37, p_Few al hal, Option.bind_some, Bool.not_true, cond_false]
  cases hfew : fewB al with
  | false => rfl
  | true =>
  simp only [Bool.not_true, cond_false]
  obtain ⟨a40, aok⟩ := few_of hfew
  by_cases hk1 : keep < 1
  · simp only [hk1, decide_true, cond_true]
  by_cases hk16 : 16 < keep
  · simp only [hk1, hk16, decide_true, decide_false, cond_true, cond_false]
  have hnew : f25 2 keep = some (.inr (.inl (((), (0, ())), ((keep, ((), ())), ((((0, ((), ())), (((0, ((), ())), ())))), ()))))) := by
    unfold f25 F25
    simp only [show ¬ (2 : Int) < 1 by omega, show ¬ (8 : Int) < 2 by omega, hk1, hk16, decide_false, cond_false, decide_true, cond_true]
  simp only [hk1, hk16, hnew, decide_false, cond_false, Option.bind_some, Sum.elim_inr, Sum.elim_inl, decide_true, Bool.not_true]
  have hk1' : 1 ≤ keep := by omega
  have hk16' : keep ≤ 16 := by omega
  refine inv_loop (β := (List Done) × (Int × (Int × (List Entry × List Entry)))) (G := fun r => r = some true) al.length (by unfold LOOPS; omega)
    (fun b i => (((), ((), ((), ((i : Int), ())))), mem keep b.2.1 b.2.2.1 b.2.2.2.1 b.2.2.2.2 b.1 (b.2.1, b.2.2.1))) (fun b i => Big keep i b) ?_ ?_ ([], (0, (0, ([], [])))) ⟨⟨trivial, by simp, by simpa using (by omega : (0 : Int) ≤ keep), by intro e he; simp at he⟩, ⟨trivial, by simp, by simpa using (by omega : (0 : Int) ≤ keep), by intro e he; simp at he⟩, by simp, by simp⟩
  · intro b _
    refine ⟨_, rfl, fun next => ?_⟩
    simp only [l5_2, Int.lt_irrefl, decide_false, cond_false]
  · rintro ⟨done, m0, m1, E0, E1⟩ i hi ⟨u0, u1, hlen, hok⟩
    simp only at u0 u1 hlen hok
    left
    obtain ⟨y, hy⟩ : ∃ y, al[i]? = some y := ⟨al[i], List.getElem?_eq_getElem _⟩
    obtain ⟨ya, yn⟩ := aok y (List.mem_of_getElem? hy)
    have q1 : (i : Int) < (al.length : Int) := by omega
    have q2 : (0 : Int) ≤ (i : Int) := by omega
    have q3 : IntKind.wrap .i64 ((i : Int) + 1) = ((i + 1 : Nat) : Int) := by rw [wi (by omega) (by omega)]; omega
    have q01 : ¬ (0 : Int) = 1 := by omega
    have hsm : smallB (done.length + 1) 224 = true := small224 (by omega)
    rcases and_one y.2.1 with hv | hv
    · rcases p_Store0 (m1 := m1) (E1 := E1) hk1' hk16' u0 y.2.2.1 y.2.2.2 ya yn with ⟨e, he, hst⟩ | ⟨hq, m', E', ku, hle, hin, hnw, hst⟩
      · have hb : Big keep (i + 1) (done, (m0, (m1, (E0, E1)))) := ⟨u0, u1, by simp only; omega, hok⟩
        refine ⟨(done, (m0, (m1, (E0, E1)))), hb, fun next => ?_⟩
        have c1 : ¬ m0 < m0 := by omega
        have c2 : ¬ keep < (E0.length : Int) := by have := u0.len; omega
        simp only [l5_2, decide_eq_true q1, decide_eq_true q2, Int.toNat_natCast, hy, Option.bind_some, cond_true, cond_false, hv, hst, Sum.elim_inl, Sum.elim_inr, decide_true, Bool.and_self, decide_eq_false he, p_Mark (.inl rfl), p_Entries (.inl rfl) u0 u1 hk16', pick0, decide_eq_false q01, decide_eq_false c1, decide_eq_false c2]
        rw [outer_loop (m0, m1) u0 u1 hk16' (by omega) hok (i : Int) next m0 E0 u0, q3]
      · have hok' : ∀ x, x ∈ done ++ [(y.1, ((0 : Int), y.2.2))] → DoneOk m' m1 E' E1 x := fun x hx => by
          rcases List.mem_append.1 hx with hx | hx
          · exact doneOk_mono hin (fun _ h => h) (hok x hx)
          · have : x = (y.1, ((0 : Int), y.2.2)) := by simpa using hx
            subst this
            exact ⟨.inl ⟨rfl, hnw⟩, hq, ya, yn⟩
        have hb : Big keep (i + 1) (done ++ [(y.1, ((0 : Int), y.2.2))], (m', (m1, (E', E1)))) := ⟨ku, u1, by simp; omega, hok'⟩
        refine ⟨_, hb, fun next => ?_⟩
        have c1 : ¬ m' < m0 := by omega
        have c2 : ¬ keep < (E'.length : Int) := by have := ku.len; omega
        simp only [l5_2, decide_eq_true q1, decide_eq_true q2, Int.toNat_natCast, hy, Option.bind_some, cond_true, cond_false, hv, hst, Sum.elim_inl, Sum.elim_inr, decide_true, Bool.and_self, hsm, p_Mark (.inl rfl), p_Entries (.inl rfl) ku u1 hk16', pick0, decide_eq_false q01, decide_eq_false c1, decide_eq_false c2]
        rw [outer_loop (m', m1) ku u1 hk16' (by simp; omega) hok' (i : Int) next m' E' ku, q3]
    · rcases p_Store1 (m0 := m0) (E0 := E0) hk1' hk16' u1 y.2.2.1 y.2.2.2 ya yn with ⟨e, he, hst⟩ | ⟨hq, m', E', ku, hle, hin, hnw, hst⟩
      · have hb : Big keep (i + 1) (done, (m0, (m1, (E0, E1)))) := ⟨u0, u1, by simp only; omega, hok⟩
        refine ⟨(done, (m0, (m1, (E0, E1)))), hb, fun next => ?_⟩
        have c1 : ¬ m1 < m1 := by omega
        have c2 : ¬ keep < (E1.length : Int) := by have := u1.len; omega
        simp only [l5_2, decide_eq_true q1, decide_eq_true q2, Int.toNat_natCast, hy, Option.bind_some, cond_true, cond_false, hv, hst, Sum.elim_inl, Sum.elim_inr, decide_true, Bool.and_self, decide_eq_false he, p_Mark (.inr rfl), p_Entries (.inr rfl) u0 u1 hk16', pick1, decide_eq_false c1, decide_eq_false c2]
        rw [outer_loop (m0, m1) u0 u1 hk16' (by omega) hok (i : Int) next m1 E1 u1, q3]
      · have hok' : ∀ x, x ∈ done ++ [(y.1, ((1 : Int), y.2.2))] → DoneOk m0 m' E0 E' x := fun x hx => by
          rcases List.mem_append.1 hx with hx | hx
          · exact doneOk_mono (fun _ h => h) hin (hok x hx)
          · have : x = (y.1, ((1 : Int), y.2.2)) := by simpa using hx
            subst this
            exact ⟨.inr ⟨rfl, hnw⟩, hq, ya, yn⟩
        have hb : Big keep (i + 1) (done ++ [(y.1, ((1 : Int), y.2.2))], (m0, (m', (E0, E')))) := ⟨u0, ku, by simp; omega, hok'⟩
        refine ⟨_, hb, fun next => ?_⟩
        have c1 : ¬ m' < m1 := by omega
        have c2 : ¬ keep < (E'.length : Int) := by have := ku.len; omega
        simp only [l5_2, decide_eq_true q1, decide_eq_true q2, Int.toNat_natCast, hy, Option.bind_some, cond_true, cond_false, hv, hst, Sum.elim_inl, Sum.elim_inr, decide_true, Bool.and_self, hsm, p_Mark (.inr rfl), p_Entries (.inr rfl) u0 ku hk16', pick1, decide_eq_false c1, decide_eq_false c2]
        rw [outer_loop (m0, m') u0 ku hk16' (by simp; omega) hok' (i : Int) next m' E' ku, q3]
end NM
namespace keysOnce
open NM AM
theorem walk (x0 : Int) (x1 : List (Bool × (Int × (Request × Reply)))) (v0 v1 : Value) (W : World) (h0 : V W (Lt W.heap.size) x0 v0) (h1 : V W (Lt W.heap.size) x1 v1) :
    Calls Try.prog 5 #[v0, v1] W fun e w' => e = .returned (.bool true) ∧ Go.RowKit.Below W.heap.size W w' :=
  nlaw_walk NM.ok5 (x := (NEnc.f x0, NEnc.f x1, ())) (law_KeysOnce _ _ (by show (List.map _ x1).length ≤ _; rw [List.length_map]; exact (Rng.ok h1.1).1)) (arg_cons x0 (arg_cons x1 arg_nil)) rfl fun j a v ha hv => by
    match j with
    | 0 => simp at ha hv; subst ha; subst hv; exact h0.vr (fun _ h => h) _
    | 1 => simp at ha hv; subst ha; subst hv; exact h1.vr (fun _ h => h) _
end keysOnce
end Go.Proofs.Ytnggfgfeghmddaa
