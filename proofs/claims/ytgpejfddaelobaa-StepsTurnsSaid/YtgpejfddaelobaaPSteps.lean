/-
  The program's steps: what is right, where a step is found, steps laid in, the plain list, changes within a time, and what they come to time by time.
-/
import Derived.Test.YtgpejfddaelobaaPStepsA
import Derived.Test.YtgpejfddaelobaaStepsM
set_option linter.unusedVariables false
set_option linter.unusedSimpArgs false
namespace Go.Proofs.Ytgpejfddaelobaa
namespace NM
open AM

theorem p_vecRight (a : Res) : f86 a = some (okR a) := by
  have hn : f114 a = some (a.cpu, (a.mem, (a.gpu, a.lic))) := rfl
  unfold f86 F86
  simp only [hn, Option.bind_some]
  have e : ∀ (n : Int) (k : Option Bool) (b : Bool), k = some b → cond (decide (n < 0)) (some false) (cond (decide (1048576 < n)) (some false) k) = some (okN n && b) := fun n k b h => by
    subst h
    unfold okN
    by_cases h1 : n < 0
    · simp [h1, show ¬ 0 ≤ n by omega]
    · by_cases h2 : 1048576 < n
      · simp [h1, h2, show ¬ n ≤ 1048576 by omega]
      · simp [h1, h2, show 0 ≤ n by omega, show n ≤ 1048576 by omega]
  rw [e _ _ _ (e _ _ _ (e _ _ _ (e _ _ true rfl)))]
  simp [okR, Bool.and_assoc]

/-- steps that rise from a time on, each right -/
def rightFrom : Int → List Step → Bool
  | _, [] => true
  | a, s :: l => decide (a < s.at_) && (decide (s.at_ ≤ 281474976710656) && (okR s.free && rightFrom s.at_ l))
def stepsOk (l : List Step) : Bool := rightFrom (-1) l && decide (0 < l.length)
theorem rightFrom_rise : ∀ {a : Int} {l : List Step}, rightFrom a l = true → Rise a l ∧ ∀ s, s ∈ l → s.at_ ≤ 281474976710656 ∧ okR s.free = true
  | a, [], _ => ⟨trivial, fun s h => by simp at h⟩
  | a, s :: l, h => by
    simp only [rightFrom, Bool.and_eq_true, decide_eq_true_eq] at h
    obtain ⟨h1, h2, h3, h4⟩ := h
    obtain ⟨h5, h6⟩ := rightFrom_rise h4
    refine ⟨⟨h1, h5⟩, fun u hu => ?_⟩
    rcases List.mem_cons.1 hu with rfl | hu
    · exact ⟨h2, h3⟩
    · exact h6 u hu
theorem rightFrom_of : ∀ {a : Int} {l : List Step}, Rise a l → (∀ s, s ∈ l → s.at_ ≤ 281474976710656 ∧ okR s.free = true) → rightFrom a l = true
  | a, [], _, _ => rfl
  | a, s :: l, hr, h => by
    simp only [rightFrom, Bool.and_eq_true, decide_eq_true_eq]
    exact ⟨hr.1, (h s (by simp)).1, (h s (by simp)).2, rightFrom_of hr.2 fun u hu => h u (by simp [hu])⟩
theorem p_Right (l : List Step) (hl : l.length ≤ maxLen) : f37 l = some (stepsOk l) := by
  unfold f37 F37
  rw [list_loop (β := Int) l (fun a z => ((a, z, ()), ())) (fun a s => cond (decide (a < s.at_) && (decide (s.at_ ≤ 281474976710656) && okR s.free)) (.inl s.at_) (.inr (some false))) (fun _ => some (decide (0 < l.length))) hl (fun b next => by simp [l37_0]) (fun b z x next h0 h1 h2 h3 => by
    simp only [l37_0, h0, h1, h2, h3, decide_true, cond_true, Option.bind_some, p_vecRight]
    by_cases c1 : x.at_ ≤ b
    · simp [c1, show ¬ b < x.at_ by omega]
    · by_cases c2 : 281474976710656 < x.at_
      · simp [c1, c2, show ¬ x.at_ ≤ 281474976710656 by omega]
      · cases okR x.free <;> simp [c1, c2, show b < x.at_ by omega, show x.at_ ≤ 281474976710656 by omega])]
  unfold stepsOk
  generalize decide (0 < l.length) = q
  generalize (-1 : Int) = a
  clear hl
  induction l generalizing a with
  | nil => rfl
  | cons s l ih =>
    simp only [runL, rightFrom]
    by_cases c1 : a < s.at_
    · by_cases c2 : s.at_ ≤ 281474976710656
      · cases c3 : okR s.free with
        | true => simp only [c1, c2, decide_true, Bool.and_self, cond_true, Bool.true_and]; exact ih s.at_
        | false => simp [c1, c2]
      · simp [c1, c2]
    · simp [c1]

/-- how many steps there are up to a time -/
def cnt (t : Int) : List Step → Nat
  | [] => 0
  | s :: l => if s.at_ ≤ t then cnt t l + 1 else 0
theorem cnt_le (t : Int) : ∀ l : List Step, cnt t l ≤ l.length
  | [] => Nat.le_refl _
  | s :: l => by
    simp only [cnt, List.length_cons]
    split
    · have := cnt_le t l; omega
    · omega
theorem cnt_early {a t : Int} {l : List Step} (h : Rise a l) (ht : t ≤ a) : cnt t l = 0 := by
  cases l with
  | nil => rfl
  | cons u l => have := h.1; simp only [cnt]; rw [if_neg (by omega)]
theorem cnt_iff {t : Int} : ∀ {a : Int} {l : List Step}, Rise a l → ∀ {k : Nat} {x : Step}, l[k]? = some x → (x.at_ ≤ t ↔ k < cnt t l)
  | a, [], _, k, x, h => by simp at h
  | a, s :: l, hr, 0, x, h => by
    simp at h; subst h
    simp only [cnt]
    split <;> simp_all
  | a, s :: l, hr, k + 1, x, h => by
    simp at h
    simp only [cnt]
    have hx := hr.2.mem x (List.mem_of_getElem? h)
    split
    · rw [cnt_iff hr.2 h]; omega
    · constructor
      · intro _; omega
      · intro _; omega
theorem p_found (i : Int) (l : List Step) (t : Int) (h0 : 0 ≤ i) (x : Step) (hx : l[i.toNat]? = some x) : f116 i l t = some (decide (t < x.at_)) := by
  unfold f116 F116
  simp only [h0, decide_true, cond_true, hx, Option.bind_some]
theorem p_Search {a : Int} (l : List Step) (t : Int) (hr : Rise a l) (hl : l.length ≤ 1000) : f115 (l.length : Int) l t = some (cnt t l : Int) := by
  unfold f115 F115
  refine loop_eq (I := fun s => 0 ≤ s.1.1 ∧ s.1.1 ≤ (cnt t l : Int) ∧ (cnt t l : Int) ≤ s.1.2.1 ∧ s.1.2.1 ≤ (l.length : Int)) (m := fun s => (s.1.2.1 - s.1.1).toNat) (R := fun _ => some (cnt t l : Int)) ?_ ?_ ?_
  · rintro ⟨⟨i, j, u⟩, v⟩ next ⟨h1, h2, h3, h4⟩ hn
    simp only at h1 h2 h3 h4 ⊢
    unfold l115_0
    by_cases hij : i < j
    · have w1 : IntKind.wrap .i64 (i + j) = i + j := wi (by omega) (by omega)
      have w2 : IntKind.wrap .u64 (i + j) = i + j := by
        simp only [IntKind.wrap, IntKind.signed, IntKind.bits, Bool.false_eq_true, if_false, false_and]
        exact Int.emod_eq_of_lt (by omega) (by omega)
      have w3 : Int.fdiv (i + j) (2 ^ (min (Int.toNat 1) 64)) = (i + j) / 2 := by
        rw [show (2 : Int) ^ (min (Int.toNat 1) 64) = 2 from rfl]
        exact Int.fdiv_eq_ediv_of_nonneg _ (by decide)
      have w4 : IntKind.wrap .i64 ((i + j) / 2) = (i + j) / 2 := wi (by omega) (by omega)
      have w5 : IntKind.wrap .i64 ((i + j) / 2 + 1) = (i + j) / 2 + 1 := wi (by omega) (by omega)
      have hk : ((i + j) / 2).toNat < l.length := by omega
      have hx : l[((i + j) / 2).toNat]? = some l[((i + j) / 2).toNat] := List.getElem?_eq_getElem hk
      have hc := cnt_iff (t := t) hr hx
      simp only [hij, decide_true, cond_true, w1, w2, w3, w4, p_found _ l t (show 0 ≤ (i + j) / 2 by omega) _ hx, Option.bind_some, w5]
      by_cases ht : t < l[((i + j) / 2).toNat].at_
      · simp only [ht, decide_true, Bool.not_true, cond_false]
        exact hn _ ⟨by simp only; omega, by simp only; omega, by simp only; omega, by simp only; omega⟩ (by simp only; omega)
      · simp only [ht, decide_false, Bool.not_false, cond_true]
        exact hn _ ⟨by simp only; omega, by simp only; omega, by simp only; omega, by simp only; omega⟩ (by simp only; omega)
    · simp only [hij, decide_false, cond_false]
      rw [show i = (cnt t l : Int) by omega]
  · refine ⟨?_, ?_, ?_, ?_⟩
    · exact Int.le_refl 0
    · show (0 : Int) ≤ _; omega
    · have := cnt_le t l; show (cnt t l : Int) ≤ (l.length : Int); omega
    · exact Int.le_refl _
  · show ((l.length : Int) - 0).toNat < LOOPS
    unfold LOOPS; omega
theorem p_find {a : Int} (l : List Step) (t : Int) (hr : Rise a l) (hl : l.length ≤ 1000) : f87 l t = some ((cnt t l : Int) - 1) := by
  unfold f87 F87
  have := cnt_le t l
  simp only [p_Search l t hr hl, Option.bind_some, wi (show (-9223372036854775808 : Int) ≤ (cnt t l : Int) - 1 by omega) (by omega)]

theorem small40 {n : Nat} (h : n ≤ 1000) : smallB n 40 = true := by
  unfold smallB
  simp only [Bool.and_eq_true, decide_eq_true_eq]
  omega
theorem p_Clone (l : List Step) (hl : l.length ≤ 1000) : f128 l = some ((), (l, ())) := by
  unfold f128
  cases l with
  | nil => rfl
  | cons s l =>
    simp only [cloneF, F128, List.isEmpty_cons, cond_false, Nat.zero_add, small40 hl, cond_true, List.nil_append]
theorem cut_ins {t : Int} : ∀ {tl : List Step} {s : Step}, Rise s.at_ tl → s.at_ ≤ t → ∃ y, (s :: tl)[cnt t (s :: tl) - 1]? = some y ∧ 0 < cnt t (s :: tl) ∧ (y.at_ = t → s :: cutT s.at_ s.free tl t = s :: tl) ∧ (¬ y.at_ = t → s :: cutT s.at_ s.free tl t = insL (cnt t (s :: tl)) (s :: tl) ⟨t, y.free⟩)
  | [], s, hr, hs => by
    refine ⟨s, by simp [cnt, hs], by simp [cnt, hs], fun h => by simp [cutT, h], fun h => by simp [cutT, h, cutFrom, insL, cnt, hs]⟩
  | u :: tl, s, hr, hs => by
    by_cases hu : u.at_ ≤ t
    · obtain ⟨y, h1, h0, h2, h3⟩ := cut_ins hr.2 hu
      have hc : cnt t (s :: u :: tl) = cnt t (u :: tl) + 1 := by simp only [cnt]; rw [if_pos hs]
      have hne : ¬ s.at_ = t := by have := hr.1; omega
      have he : cutT s.at_ s.free (u :: tl) t = u :: cutT u.at_ u.free tl t := by
        unfold cutT
        rw [if_neg hne]
        simp only [cutFrom]
        by_cases hut : u.at_ = t
        · rw [if_neg (by omega), if_pos hut, if_pos hut]
        · rw [if_pos (by omega), if_neg hut]
      refine ⟨y, ?_, by omega, fun h => ?_, fun h => ?_⟩
      · rw [hc, Nat.add_sub_cancel]
        obtain ⟨n, hn⟩ : ∃ n, cnt t (u :: tl) = n + 1 := ⟨cnt t (u :: tl) - 1, by omega⟩
        rw [hn] at h1 ⊢
        simpa using h1
      · rw [he, h2 h]
      · rw [he, h3 h, hc]
        simp [insL]
    · have hc : cnt t (s :: u :: tl) = 1 := by simp only [cnt]; rw [if_pos hs, if_neg hu]
      refine ⟨s, by simp [hc], by omega, fun h => by simp [cutT, h], fun h => ?_⟩
      rw [hc]
      unfold cutT
      rw [if_neg h]
      simp only [cutFrom]
      rw [if_neg (by omega), if_neg (by omega)]
      simp [insL]
theorem p_cut {a : Int} {s : Step} {tl : List Step} {t : Int} (hr : Rise a (s :: tl)) (hs : s.at_ ≤ t) (hl : (s :: tl).length ≤ 900) : f118 (s :: tl) t = some ((), (s :: cutT s.at_ s.free tl t, ())) := by
  obtain ⟨y, h1, h0, h2, h3⟩ := cut_ins hr.2 hs
  have hcl := cnt_le t (s :: tl)
  generalize hn : cnt t (s :: tl) = n at h1 h0 h3 hcl
  unfold f118 F118
  have hi : ((n : Int) - 1).toNat = n - 1 := by omega
  have w : IntKind.wrap .i64 ((n : Int) - 1 + 1) = (n : Int) := by rw [wi (by omega) (by omega)]; omega
  simp only [p_find _ t hr (by omega), hn, Option.bind_some, p_Clone _ (show (s :: tl).length ≤ 1000 by omega), show (0 : Int) ≤ (n : Int) - 1 by omega, decide_true, cond_true, hi, h1]
  by_cases hy : y.at_ = t
  · simp only [hy, decide_true, cond_true]
    rw [h2 hy]
  · simp only [hy, decide_false, cond_false]
    rw [h3 hy]
    have hg : f129 (n : Int) (s :: tl) [⟨t, y.free⟩] = some ((), ((), ([⟨t, y.free⟩], (insL n (s :: tl) ⟨t, y.free⟩, ())))) := by
      unfold f129 insertG
      simp only [show (0 : Int) ≤ (n : Int) by omega, decide_true, Int.toNat_natCast, hcl, small40 (show (s :: tl).length + 1 ≤ 1000 by omega), Bool.and_self, cond_true]
    simp only [w, hg, Option.bind_some, List.length_singleton, decide_true, Bool.and_self, cond_true]

theorem resEqB (a b : Res) : ((decide (a.cpu = b.cpu)) && ((decide (a.mem = b.mem)) && ((decide (a.gpu = b.gpu)) && ((decide (a.lic = b.lic)) && true)))) = decide (a = b) := by
  by_cases h : a = b
  · subst h; simp
  · rw [decide_eq_false h]
    apply Bool.eq_false_iff.2
    intro hh
    simp only [Bool.and_eq_true, decide_eq_true_eq] at hh
    exact h (res_ext hh.1 hh.2.1 hh.2.2.1 hh.2.2.2.1)
theorem stepEqB (a b : Step) : ((decide (a.at_ = b.at_)) && ((decide (a.free.cpu = b.free.cpu)) && ((decide (a.free.mem = b.free.mem)) && ((decide (a.free.gpu = b.free.gpu)) && ((decide (a.free.lic = b.free.lic)) && true))))) = (decide (a.at_ = b.at_) && decide (a.free = b.free)) := by rw [resEqB]
theorem step_ext {a b : Step} (h1 : a.at_ = b.at_) (h2 : a.free = b.free) : a = b := by
  obtain ⟨x, f⟩ := a
  obtain ⟨y, g⟩ := b
  simp only at h1 h2
  subst h1; subst h2; rfl
def sameB : List Step → List Step → Bool
  | a, b => decide (a.length = b.length) && (a.zip b).all fun p => decide (p.1.at_ = p.2.at_) && decide (p.1.free = p.2.free)
theorem sameB_iff (a b : List Step) : sameB a b = true ↔ a = b := by
  unfold sameB
  simp only [Bool.and_eq_true, decide_eq_true_eq]
  constructor
  · rintro ⟨h1, h2⟩
    induction a generalizing b with
    | nil => cases b with
      | nil => rfl
      | cons u b => simp at h1
    | cons s a ih => cases b with
      | nil => simp at h1
      | cons u b =>
        simp only [List.zip_cons_cons, List.all_cons, Bool.and_eq_true, decide_eq_true_eq] at h2
        rw [step_ext h2.1.1 h2.1.2, ih b (by simpa using h1) h2.2]
  · rintro rfl
    refine ⟨rfl, ?_⟩
    induction a with
    | nil => rfl
    | cons s a ih => simp only [List.zip_cons_cons, List.all_cons, decide_true, Bool.and_self, Bool.true_and]; exact ih
theorem p_Same (a b : List Step) (hl : a.length ≤ maxLen) : f32 a b = some (sameB a b) := by
  unfold f32 F32 sameB
  by_cases h : a.length = b.length
  · have h' : ((a.length : Int) = (b.length : Int)) := by omega
    simp only [h', h, decide_true, Bool.not_true, cond_false, Bool.true_and]
    have hl' : b.length ≤ maxLen := h ▸ hl
    rw [zip_loop a b h (fun z => ((z, ()), ())) (fun x y => decide (x.at_ = y.at_) && decide (x.free = y.free)) true hl (fun next => by simp [l32_0]) (fun z x y next h0 h1 h2 h3 h4 => by
      simp only [l32_0, h0, h1, h2, h3, h4, decide_true, cond_true, Option.bind_some, stepEqB]
      cases (decide (x.at_ = y.at_) && decide (x.free = y.free)) <;> rfl)]
    simp
  · have h' : ¬ ((a.length : Int) = (b.length : Int)) := by omega
    simp [h', h]
theorem p_Plain {s : Step} {tl : List Step} (hok : stepsOk (s :: tl) = true) (hl : (s :: tl).length ≤ 900) : f41 (s :: tl) = some (s :: plainFrom s.free tl) := by
  unfold f41 F41
  have hml : maxLen = 9223372036854775807 := rfl
  have hlt : tl.length ≤ 900 := by simp at hl; omega
  simp only [p_Right _ (show (s :: tl).length ≤ maxLen by omega), hok, Option.bind_some, Bool.not_true, cond_false, List.getElem?_cons_zero, show (1 : Nat) ≤ (s :: tl).length by simp, decide_true, cond_true]
  have key := list_loopI (β := List Step × Step) (f := fun (s3 : ((Unit × (Int × Unit)) × ((List Step) × Unit))) nx4 => l41_0 (s :: tl) nx4 s3.1.2.1 s3.2.1) tl (fun b z => (((), z, ()), (b.1 ++ [b.2], ()))) (fun b z => (b.1.length : Int) ≤ z) (fun b y => .inl (if y.free = b.2.free then b else (b.1 ++ [b.2], y))) (fun b => some (b.1 ++ [b.2])) (by omega)
    (fun b next _ => by simp [l41_0])
    (fun b z y next hI h0 h1 h2 h3 => by
      have hlen : ((b.1 ++ [b.2]).length : Int) - 1 = (b.1.length : Int) := by simp
      have w : IntKind.wrap .i64 (((b.1 ++ [b.2]).length : Int) - 1) = (b.1.length : Int) := by rw [hlen]; exact wi (by omega) (by omega)
      have hget : (b.1 ++ [b.2])[b.1.length]? = some b.2 := by simp
      have hlt2 : b.1.length < (b.1 ++ [b.2]).length := by simp
      simp only [l41_0, List.drop_succ_cons, List.drop_zero, h0, h1, h2, h3, decide_true, cond_true, Option.bind_some, w, Int.toNat_natCast, hget, hlt2, show (0 : Int) ≤ (b.1.length : Int) by omega, resEqB, Bool.true_and]
      by_cases hf : y.free = b.2.free
      · simp only [hf, if_true, decide_true, Bool.not_true, cond_false]
        exact ⟨by omega, trivial⟩
      · simp only [hf, if_false, decide_false, Bool.not_false, cond_true, small40 (show (b.1 ++ [b.2]).length + 1 ≤ 1000 by simp; omega)]
        exact ⟨by simp; omega, trivial⟩) ([], s) (by simp)
  refine key.trans ?_
  rw [runL_fold]
  have e : ∀ (l : List Step) (pre : List Step) (u : Step), (l.foldl (fun (b : List Step × Step) (y : Step) => if y.free = b.2.free then b else (b.1 ++ [b.2], y)) (pre, u)).1 ++ [(l.foldl (fun (b : List Step × Step) (y : Step) => if y.free = b.2.free then b else (b.1 ++ [b.2], y)) (pre, u)).2] = pre ++ u :: plainFrom u.free l := by
    intro l
    induction l with
    | nil => intro pre u; rfl
    | cons y l ih =>
      intro pre u
      simp only [List.foldl_cons, plainFrom]
      by_cases hf : y.free = u.free
      · simp only [hf, if_true]; exact ih pre u
      · simp only [hf, if_false]; rw [ih]; simp
  rw [e tl [] s]
  rfl

/-- the rest of the walk: the steps that are done, and those to come -/
def goT (g : Res → Option (Res × (Int × Unit))) (pl : List Step → Option (List Step)) (e : Int) : List Step → List Step → Option (List Step × (Int × Unit))
  | _, [] => none
  | pre, s :: l => if s.at_ < e then
      Option.bind (g s.free) fun r => if r.2.1 = 0 then goT g pl e (pre ++ [⟨s.at_, r.1⟩]) l else some ([], r.2.1, ())
    else Option.bind (pl (pre ++ s :: l)) fun r => some (r, 0, ())
/-- what a change gives -/
def chg (op : Res → Res) (x : Res) : Option (Res × (Int × Unit)) := some (if okR (op x) = true then (op x, 0, ()) else (zeroR, 20, ()))
theorem goT_eq {op : Res → Res} {g : Res → Option (Res × (Int × Unit))} {pl : List Step → Option (List Step)} {b e : Int} (hg : ∀ x, okR x = true → g x = chg op x) : ∀ {l : List Step} {pre : List Step} {a : Int}, Rise a l → b ≤ a + 1 → Has l e → (∀ s, s ∈ l → okR s.free = true) →
    goT g pl e pre l = if (∀ s, s ∈ l → inB b e s.at_ = true → okR (op s.free) = true) then Option.bind (pl (pre ++ l.map (turnS b e op))) fun r => some (r, 0, ()) else some ([], 20, ())
  | [], pre, a, _, _, h, _ => by obtain ⟨s, h, _⟩ := h; simp at h
  | s :: l, pre, a, hr, hb, he, hok => by
    simp only [goT]
    by_cases hs : s.at_ < e
    · have hin : inB b e s.at_ = true := by have := hr.1; simp only [inB, Bool.and_eq_true, decide_eq_true_eq]; omega
      have he' : Has l e := by
        obtain ⟨u, h1, h2⟩ := he
        rcases List.mem_cons.1 h1 with rfl | h1
        · omega
        · exact ⟨u, h1, h2⟩
      rw [if_pos hs, hg s.free (hok s (by simp))]
      unfold chg
      by_cases ho : okR (op s.free) = true
      · rw [if_pos ho]
        simp only [Option.bind_some, if_true]
        rw [goT_eq (b := b) hg hr.2 (by have := hr.1; omega) he' (fun u hu => hok u (by simp [hu]))]
        have e1 : (∀ u, u ∈ s :: l → inB b e u.at_ = true → okR (op u.free) = true) ↔ (∀ u, u ∈ l → inB b e u.at_ = true → okR (op u.free) = true) := by
          constructor
          · intro h u hu; exact h u (by simp [hu])
          · intro h u hu
            rcases List.mem_cons.1 hu with rfl | hu
            · intro _; exact ho
            · exact h u hu
        have e2 : turnS b e op s = ⟨s.at_, op s.free⟩ := by unfold turnS; rw [if_pos hin]
        simp only [e1, List.map_cons, e2, List.append_assoc, List.singleton_append]
      · rw [if_neg ho]
        simp only [Option.bind_some]
        rw [if_neg (by decide), if_neg (fun h => ho (h s (by simp) hin))]
    · rw [if_neg hs]
      have hout : ∀ u, u ∈ s :: l → inB b e u.at_ = false := fun u hu => by
        have : e ≤ u.at_ := by
          rcases List.mem_cons.1 hu with rfl | hu
          · omega
          · have := hr.2.mem u hu; omega
        simp only [inB, Bool.and_eq_false_iff, decide_eq_false_iff_not]
        right; omega
      rw [if_pos (fun u hu hi => by rw [hout u hu] at hi; cases hi)]
      have : (s :: l).map (turnS b e op) = s :: l := by
        rw [List.map_congr_left (g := id) (fun u hu => by unfold turnS; rw [hout u hu]; rfl)]
        simp
      rw [this]
theorem turn_before {b e : Int} {op : Res → Res} {l : List Step} (h : ∀ s, s ∈ l → s.at_ < b) : l.map (turnS b e op) = l := by
  rw [List.map_congr_left (g := id) (fun u hu => by
    have := h u hu
    have hi : inB b e u.at_ = false := by simp only [inB, Bool.and_eq_false_iff, decide_eq_false_iff_not]; left; omega
    unfold turnS; rw [hi]; rfl)]
  simp
/-- where a step is: behind those before it -/
theorem split_at {b : Int} : ∀ {a : Int} {l : List Step}, Rise a l → Has l b → ∃ pre s post, l = pre ++ s :: post ∧ s.at_ = b ∧ (∀ u, u ∈ pre → u.at_ < b) ∧ Rise (b - 1) (s :: post) ∧ cnt b l = pre.length + 1
  | a, [], _, h => by obtain ⟨s, h, _⟩ := h; simp at h
  | a, u :: l, hr, h => by
    by_cases hu : u.at_ = b
    · exact ⟨[], u, l, rfl, hu, fun v hv => by simp at hv, ⟨by omega, hr.2⟩, by simp only [cnt]; rw [if_pos (by omega), cnt_early hr.2 (by omega)]; rfl⟩
    · have h' : Has l b := by
        obtain ⟨s, h1, h2⟩ := h
        rcases List.mem_cons.1 h1 with rfl | h1
        · exact absurd h2 hu
        · exact ⟨s, h1, h2⟩
      obtain ⟨pre, s, post, rfl, h2, h3, h4, h5⟩ := split_at hr.2 h'
      have hlt : u.at_ < b := by have := hr.2.mem s (by simp); omega
      refine ⟨u :: pre, s, post, rfl, h2, fun v hv => ?_, h4, by simp only [cnt]; rw [if_pos (by omega), h5]; simp⟩
      rcases List.mem_cons.1 hv with rfl | hv
      · exact hlt
      · exact h3 v hv
theorem len_cutT (a t : Int) (f : Res) (l : List Step) : (cutT a f l t).length ≤ l.length + 1 := by
  have key : ∀ (l : List Step) (f : Res), (cutFrom f l t).length ≤ l.length + 1 := by
    intro l
    induction l with
    | nil => intro f; simp [cutFrom]
    | cons u l ih =>
      intro f
      simp only [cutFrom]
      split
      · simpa using ih u.free
      · split <;> simp
  unfold cutT; split
  · omega
  · exact key l f
theorem all_cutT {p : Step → Prop} {a t : Int} {f : Res} {l : List Step} (hf : p ⟨t, f⟩) (hp : ∀ s, s ∈ l → p s ∧ p ⟨t, s.free⟩) : ∀ s, s ∈ cutT a f l t → p s := by
  have key : ∀ (l : List Step) (f : Res), p ⟨t, f⟩ → (∀ s, s ∈ l → p s ∧ p ⟨t, s.free⟩) → ∀ s, s ∈ cutFrom f l t → p s := by
    intro l
    induction l with
    | nil => intro f hf _ s hs; simp [cutFrom] at hs; subst hs; exact hf
    | cons u l ih =>
      intro f hf hp s hs
      simp only [cutFrom] at hs
      split at hs
      · rcases List.mem_cons.1 hs with rfl | hs
        · exact (hp _ (by simp)).1
        · exact ih u.free (hp u (by simp)).2 (fun v hv => hp v (by simp [hv])) s hs
      · split at hs
        · exact (hp s hs).1
        · rcases List.mem_cons.1 hs with rfl | hs
          · exact hf
          · exact (hp s hs).1
  unfold cutT
  split
  · exact fun s hs => (hp s hs).1
  · exact key l f hf hp

/-- the steps with two more laid in -/
def twoT (s : Step) (tl : List Step) (b e : Int) : List Step := cutT s.at_ s.free (cutT s.at_ s.free tl b) e
def right2 (b e : Int) (op : Res → Res) (s : Step) (c : List Step) : Prop := ∀ u, u ∈ s :: c → inB b e u.at_ = true → okR (op u.free) = true
instance (b e : Int) (op : Res → Res) (s : Step) (c : List Step) : Decidable (right2 b e op s c) := by unfold right2; exact inferInstance
def changeR (op : Res → Res) (l : List Step) (b e : Int) (need : Res) : List Step × (Int × Unit) := match l with
  | [] => ([], 2, ())
  | s :: tl => if stepsOk (s :: tl) = true ∧ okR need = true ∧ s.at_ ≤ b ∧ b < e ∧ e ≤ 281474976710656 then
      (if right2 b e op s (twoT s tl b e) then (turnS b e op s :: plainFrom (turnS b e op s).free ((twoT s tl b e).map (turnS b e op)), 0, ()) else ([], 20, ()))
    else ([], 2, ())

/-- a change can be made: time by time -/
def TakeOk (op : Res → Res) (l : List Step) (b e : Int) (need : Res) : Prop := match l with
  | [] => False
  | s :: tl => stepsOk (s :: tl) = true ∧ okR need = true ∧ (s.at_ ≤ b ∧ b < e ∧ e ≤ 281474976710656) ∧ ∀ t, s.at_ ≤ t → inB b e t = true → okR (op (look s.free tl t)) = true
theorem stepsOk_rise {s : Step} {tl : List Step} (h : stepsOk (s :: tl) = true) : Rise (-1) (s :: tl) ∧ ∀ u, u ∈ s :: tl → u.at_ ≤ 281474976710656 ∧ okR u.free = true := by
  unfold stepsOk at h
  simp only [Bool.and_eq_true] at h
  exact rightFrom_rise h.1
theorem two_edges {s : Step} {tl : List Step} {b e : Int} (h1 : s.at_ ≤ b) (h2 : b < e) : Edges b e s.at_ (twoT s tl b e) :=
  ⟨fun h => has_keepT (has_cutT s.free tl h), fun h => has_cutT s.free _ h⟩
theorem two_rise {s : Step} {tl : List Step} {b e : Int} (hr : Rise s.at_ tl) (h1 : s.at_ ≤ b) (h2 : b < e) : Rise s.at_ (twoT s tl b e) := rise_cutT (rise_cutT hr h1) (by omega)
theorem two_look {s : Step} {tl : List Step} {b e t : Int} : look s.free (twoT s tl b e) t = look s.free tl t := by unfold twoT; rw [look_cutT, look_cutT]
theorem right2_iff {op : Res → Res} {s : Step} {tl : List Step} {b e : Int} (hr : Rise s.at_ tl) (h1 : s.at_ ≤ b) (h2 : b < e) :
    right2 b e op s (twoT s tl b e) ↔ ∀ t, s.at_ ≤ t → inB b e t = true → okR (op (look s.free tl t)) = true := by
  have h := all_look (p := fun f => okR (op f) = true) (f := s.free) (two_rise hr h1 h2) (two_edges (tl := tl) h1 h2)
  simp only [two_look] at h
  rw [← h]
  unfold right2
  constructor
  · intro h
    exact ⟨h s (by simp), fun u hu => h u (by simp [hu])⟩
  · rintro ⟨h3, h4⟩ u hu
    rcases List.mem_cons.1 hu with rfl | hu
    · exact h3
    · exact h4 u hu
theorem change_no {op : Res → Res} {l : List Step} {b e : Int} {need : Res} (h : ¬ TakeOk op l b e need) : ¬ (changeR op l b e need).2.1 = 0 := by
  cases l with
  | nil => simp [changeR]
  | cons s tl =>
    simp only [changeR]
    by_cases hc : stepsOk (s :: tl) = true ∧ okR need = true ∧ s.at_ ≤ b ∧ b < e ∧ e ≤ 281474976710656
    · rw [if_pos hc]
      rw [if_neg]
      · simp
      · rw [right2_iff (stepsOk_rise hc.1).1.2 hc.2.2.1 hc.2.2.2.1]
        intro h4
        exact h ⟨hc.1, hc.2.1, ⟨hc.2.2.1, hc.2.2.2.1, hc.2.2.2.2⟩, h4⟩
    · rw [if_neg hc]; simp
theorem change_ok {op : Res → Res} {s : Step} {tl : List Step} {b e : Int} {need : Res} (h : TakeOk op (s :: tl) b e need) :
    ∃ s1 tl1, changeR op (s :: tl) b e need = (s1 :: tl1, 0, ()) ∧ s1.at_ = s.at_ ∧ Rise s.at_ tl1 ∧ Canon s1.free tl1 ∧ stepsOk (s1 :: tl1) = true ∧ ∀ t, s.at_ ≤ t → look s1.free tl1 t = turnR b e op t (look s.free tl t) := by
  obtain ⟨h1, h2, ⟨h3, h4, h5⟩, h6⟩ := h
  have hr := stepsOk_rise h1
  have hr2 := two_rise (b := b) (e := e) hr.1.2 h3 h4
  have h7 := (right2_iff (op := op) hr.1.2 h3 h4).2 h6
  have hmr : Rise s.at_ ((twoT s tl b e).map (turnS b e op)) := rise_turn hr2
  have hl : ∀ t, s.at_ ≤ t → look (turnS b e op s).free (plainFrom (turnS b e op s).free ((twoT s tl b e).map (turnS b e op))) t = turnR b e op t (look s.free tl t) := fun t ht => by
    rw [look_plain hmr, turnS_free, look_turn hr2 (two_edges h3 h4) ht, two_look]
  refine ⟨turnS b e op s, plainFrom (turnS b e op s).free ((twoT s tl b e).map (turnS b e op)), ?_, turnS_at b e op s, rise_plain hmr, canon_plain _ _, ?_, hl⟩
  · simp only [changeR]
    rw [if_pos ⟨h1, h2, h3, h4, h5⟩, if_pos h7]
  · have hp : ∀ u, u ∈ twoT s tl b e → u.at_ ≤ 281474976710656 ∧ okR u.free = true := by
      refine all_cutT (p := fun u => u.at_ ≤ 281474976710656 ∧ okR u.free = true) ⟨by show e ≤ _; omega, (hr.2 s (by simp)).2⟩ ?_
      intro u hu
      have hu' := all_cutT (p := fun u => u.at_ ≤ 281474976710656 ∧ okR u.free = true) (a := s.at_) (t := b) (f := s.free) (l := tl) ⟨by show b ≤ _; omega, (hr.2 s (by simp)).2⟩ (fun v hv => ⟨hr.2 v (by simp [hv]), by show b ≤ _; omega, (hr.2 v (by simp [hv])).2⟩) u hu
      exact ⟨hu', by show e ≤ _; omega, hu'.2⟩
    have hq : ∀ w, w ∈ s :: twoT s tl b e → (turnS b e op w).at_ ≤ 281474976710656 ∧ okR (turnS b e op w).free = true := fun w hw => by
      have hw2 : w.at_ ≤ 281474976710656 ∧ okR w.free = true := by
        rcases List.mem_cons.1 hw with rfl | hw
        · exact hr.2 _ (by simp)
        · exact hp w hw
      rw [turnS_at, turnS_free]
      refine ⟨hw2.1, ?_⟩
      unfold turnR
      split
      · exact h7 w hw (by assumption)
      · exact hw2.2
    unfold stepsOk
    simp only [Bool.and_eq_true, decide_eq_true_eq]
    refine ⟨rightFrom_of ⟨by rw [turnS_at]; exact hr.1.1, by rw [turnS_at]; exact rise_plain hmr⟩ fun v hv => ?_, by simp⟩
    rcases List.mem_cons.1 hv with rfl | hv
    · exact hq s (by simp)
    · obtain ⟨w, hw, rfl⟩ := List.mem_map.1 (mem_plain hv)
      exact hq w (by simp [hw])
theorem len_plain : ∀ (l : List Step) (f : Res), (plainFrom f l).length ≤ l.length
  | [], f => Nat.le_refl _
  | s :: l, f => by
    simp only [plainFrom]
    split
    · have := len_plain l f; simp; omega
    · have := len_plain l s.free; simp; omega
theorem len_change (op : Res → Res) (l : List Step) (b e : Int) (need : Res) : (changeR op l b e need).1.length ≤ l.length + 2 := by
  cases l with
  | nil => simp [changeR]
  | cons s tl =>
    simp only [changeR]
    split
    · split
      · have h1 := len_plain ((twoT s tl b e).map (turnS b e op)) (turnS b e op s).free
        have h2 := len_cutT s.at_ e s.free (cutT s.at_ s.free tl b)
        have h3 := len_cutT s.at_ b s.free tl
        simp only [List.length_map, twoT] at h1
        simp only [List.length_cons]
        simp only [twoT]
        omega
      · simp
    · simp
theorem look_ok {t : Int} : ∀ {f : Res} {l : List Step}, okR f = true → (∀ u, u ∈ l → okR u.free = true) → okR (look f l t) = true
  | f, [], h, _ => h
  | f, u :: l, h, hl => by
    simp only [look]
    split
    · exact look_ok (hl u (by simp)) fun v hv => hl v (by simp [hv])
    · exact h
theorem okR_iff (x : Res) : okR x = true ↔ (0 ≤ x.cpu ∧ x.cpu ≤ 1048576) ∧ (0 ≤ x.mem ∧ x.mem ≤ 1048576) ∧ (0 ≤ x.gpu ∧ x.gpu ≤ 1048576) ∧ (0 ≤ x.lic ∧ x.lic ≤ 1048576) := by
  unfold okR okN
  simp only [Bool.and_eq_true, decide_eq_true_eq]
  constructor
  · rintro ⟨⟨⟨a, b⟩, c⟩, d⟩; exact ⟨a, b, c, d⟩
  · rintro ⟨a, b, c, d⟩; exact ⟨⟨⟨a, b⟩, c⟩, d⟩
end NM
end Go.Proofs.Ytgpejfddaelobaa
