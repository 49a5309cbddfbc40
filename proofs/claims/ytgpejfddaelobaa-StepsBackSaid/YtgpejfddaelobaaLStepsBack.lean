/-
  The statement StepsBack about plain data.
-/
import Derived.Test.YtgpejfddaelobaaPStepsF
import Derived.KernelRfl
set_option linter.unusedVariables false
set_option linter.unusedSimpArgs false
namespace Go.Proofs.Ytgpejfddaelobaa
namespace NM
open AM
theorem awake10 : f30 = some true := by kernel_rfl

/-- the step that holds at a time, and those behind it -/
theorem find_spec {b : Int} : ∀ {tl : List Step} {s : Step}, Rise s.at_ tl → s.at_ ≤ b → ∃ u post, (s :: tl)[cnt b (s :: tl) - 1]? = some u ∧ (s :: tl).drop (cnt b (s :: tl)) = post ∧ 0 < cnt b (s :: tl) ∧ Rise b post ∧ ∀ t, b ≤ t → look s.free tl t = look u.free post t
  | [], s, hr, hs => ⟨s, [], by simp [cnt, hs], by simp [cnt, hs], by simp [cnt, hs], trivial, fun t _ => rfl⟩
  | v :: tl, s, hr, hs => by
    by_cases hv : v.at_ ≤ b
    · obtain ⟨u, post, h1, h2, h0, h3, h4⟩ := find_spec hr.2 hv
      have hc : cnt b (s :: v :: tl) = cnt b (v :: tl) + 1 := by simp only [cnt]; rw [if_pos hs]
      refine ⟨u, post, ?_, ?_, by omega, h3, fun t ht => ?_⟩
      · rw [hc, Nat.add_sub_cancel]
        obtain ⟨n, hn⟩ : ∃ n, cnt b (v :: tl) = n + 1 := ⟨cnt b (v :: tl) - 1, by omega⟩
        rw [hn] at h1 ⊢
        simpa using h1
      · rw [hc]; simpa using h2
      · rw [← h4 t ht]
        simp only [look]
        rw [if_pos (by omega)]
    · have hc : cnt b (s :: v :: tl) = 1 := by simp only [cnt]; rw [if_pos hs, if_neg hv]
      exact ⟨s, v :: tl, by simp [hc], by simp [hc], by omega, ⟨by omega, hr.2⟩, fun t _ => rfl⟩
theorem p_At {s : Step} {tl : List Step} {t : Int} (hok : stepsOk (s :: tl) = true) (hl : (s :: tl).length ≤ 900) : f40 (s :: tl) t = some (if t < s.at_ then zeroR else look s.free tl t) := by
  have hml : maxLen = 9223372036854775807 := rfl
  have hr := (stepsOk_rise hok).1
  unfold f40 F40
  simp only [p_Right _ (show (s :: tl).length ≤ maxLen by omega), hok, Option.bind_some, Bool.not_true, cond_false, List.getElem?_cons_zero]
  by_cases ht : t < s.at_
  · simp only [ht, decide_true, cond_true, if_true]; rfl
  · obtain ⟨u, post, h1, h2, h0, h3, h4⟩ := find_spec (b := t) hr.2 (by omega)
    have hi : ((cnt t (s :: tl) : Int) - 1).toNat = cnt t (s :: tl) - 1 := by omega
    simp only [ht, decide_false, cond_false, if_false, p_find _ t hr (by omega), Option.bind_some, show (0 : Int) ≤ (cnt t (s :: tl) : Int) - 1 by omega, decide_true, cond_true, hi, h1]
    rw [h4 t (Int.le_refl t), look_early h3 (Int.le_refl t)]
def leastR (a b : Res) : Res := ⟨if b.cpu < a.cpu then b.cpu else a.cpu, if b.mem < a.mem then b.mem else a.mem, if b.gpu < a.gpu then b.gpu else a.gpu, if b.lic < a.lic then b.lic else a.lic⟩
def runLeast (e : Int) : Res → List Step → Res
  | acc, [] => acc
  | acc, s :: l => if e ≤ s.at_ then acc else runLeast e (leastR acc s.free) l
theorem least_run (c : Res → Int) (hc : ∀ a b, c (leastR a b) = if c b < c a then c b else c a) (e : Int) : ∀ {l : List Step} {a : Int} {acc : Res}, Rise a l →
    c (runLeast e acc l) ≤ c acc ∧ (∀ s, s ∈ l → s.at_ < e → c (runLeast e acc l) ≤ c s.free) ∧ (c (runLeast e acc l) = c acc ∨ ∃ s, s ∈ l ∧ s.at_ < e ∧ c (runLeast e acc l) = c s.free)
  | [], a, acc, _ => ⟨Int.le_refl _, fun s h => by simp at h, .inl rfl⟩
  | s :: l, a, acc, hr => by
    simp only [runLeast]
    by_cases he : e ≤ s.at_
    · rw [if_pos he]
      refine ⟨Int.le_refl _, fun u hu h => ?_, .inl rfl⟩
      rcases List.mem_cons.1 hu with rfl | hu
      · omega
      · have := hr.2.mem u hu; omega
    · rw [if_neg he]
      obtain ⟨h1, h2, h3⟩ := least_run c hc e (acc := leastR acc s.free) hr.2
      have h4 := hc acc s.free
      refine ⟨?_, fun u hu h => ?_, ?_⟩
      · split at h4 <;> omega
      · rcases List.mem_cons.1 hu with rfl | hu
        · split at h4 <;> omega
        · exact h2 u hu h
      · rcases h3 with h3 | ⟨u, hu, h5, h6⟩
        · split at h4
          · exact .inr ⟨s, by simp, by omega, by omega⟩
          · exact .inl (by omega)
        · exact .inr ⟨u, by simp [hu], h5, h6⟩
theorem look_cases {t : Int} : ∀ {f : Res} {l : List Step}, look f l t = f ∨ ∃ s, s ∈ l ∧ s.at_ ≤ t ∧ look f l t = s.free
  | f, [] => .inl rfl
  | f, s :: l => by
    simp only [look]
    split
    · rcases look_cases (t := t) (f := s.free) (l := l) with h | ⟨u, h1, h2, h3⟩
      · exact .inr ⟨s, by simp, by assumption, h⟩
      · exact .inr ⟨u, by simp [h1], h2, h3⟩
    · exact .inl rfl
/-- the least within a time -/
def IsLeast (V : Int → Res) (b e : Int) (r : Res) (c : Res → Int) : Prop := (∀ t, b ≤ t → t < e → c r ≤ c (V t)) ∧ ∃ t, b ≤ t ∧ t < e ∧ c r = c (V t)
theorem p_Least {s : Step} {tl : List Step} {b e : Int} (hok : stepsOk (s :: tl) = true) (hl : (s :: tl).length ≤ 900) (h1 : s.at_ ≤ b) (h2 : b < e) :
    ∃ r, f38 (s :: tl) b e = some r ∧ ∀ c : Res → Int, (∀ a b, c (leastR a b) = if c b < c a then c b else c a) → IsLeast (look s.free tl) b e r c := by
  have hml : maxLen = 9223372036854775807 := rfl
  have hr := (stepsOk_rise hok).1
  obtain ⟨u, post, k1, k2, k0, k3, k4⟩ := find_spec (b := b) hr.2 h1
  have hcl := cnt_le b (s :: tl)
  refine ⟨runLeast e u.free post, ?_, fun c hc => ?_⟩
  · unfold f38 F38
    have hi : ((cnt b (s :: tl) : Int) - 1).toNat = cnt b (s :: tl) - 1 := by omega
    have w : IntKind.wrap .i64 ((cnt b (s :: tl) : Int) - 1 + 1) = (cnt b (s :: tl) : Int) := by rw [wi (by omega) (by omega)]; omega
    simp only [p_Right _ (show (s :: tl).length ≤ maxLen by omega), hok, Option.bind_some, Bool.not_true, cond_false, List.getElem?_cons_zero, show ¬ b < s.at_ by omega, show ¬ e ≤ b by omega, decide_false, p_find _ b hr (by omega), show (0 : Int) ≤ (cnt b (s :: tl) : Int) - 1 by omega, decide_true, cond_true, hi, k1, w, show (0 : Int) ≤ (cnt b (s :: tl) : Int) by omega, Int.toNat_natCast, hcl]
    have hpl : post.length ≤ maxLen := by rw [← k2]; simp only [List.length_drop]; omega
    have key := list_loop (f := fun (s7 : ((Unit × (Unit × (Int × Unit))) × (Res × (Res × Unit)))) nx8 => l38_0 f88 (s :: tl) e ((cnt b (s :: tl) : Int) - 1) nx8 s7.1.2.2.1 s7.2.1 s7.2.2.1) post (fun acc z => (((), (), z, ()), (Res.mk 0 0 0 0, acc, ()))) (fun acc y => if e ≤ y.at_ then .inr (some acc) else .inl (leastR acc y.free)) (fun acc => some acc) hpl
      (fun acc next => by simp only [l38_0, w, Int.toNat_natCast, k2]; simp)
      (fun acc z y next g0 g1 g2 g3 => by
        have hv : f88 acc y.free = some (leastR acc y.free) := rfl
        simp only [l38_0, w, Int.toNat_natCast, k2, g0, g1, g2, g3, decide_true, cond_true, Option.bind_some, hv]
        by_cases hy : e ≤ y.at_
        · simp only [hy, decide_true, cond_true, if_true]
        · simp only [hy, decide_false, cond_false, if_false]) u.free
    refine key.trans ?_
    have er : ∀ (l : List Step) (acc : Res), runL (fun acc (y : Step) => if e ≤ y.at_ then .inr (some acc) else .inl (leastR acc y.free)) (fun acc => some acc) l acc = some (runLeast e acc l) := by
      intro l
      induction l with
      | nil => intro acc; rfl
      | cons y l ih =>
        intro acc
        simp only [runL, runLeast]
        by_cases hy : e ≤ y.at_
        · simp only [hy, if_true]
        · simp only [hy, if_false]; exact ih _
    exact er post u.free
  · obtain ⟨q1, q2, q3⟩ := least_run c hc e (acc := u.free) k3
    refine ⟨fun t ht hte => ?_, ?_⟩
    · rw [k4 t ht]
      rcases look_cases (t := t) (f := u.free) (l := post) with h | ⟨v, g1, g2, g3⟩
      · rw [h]; exact q1
      · rw [g3]; exact q2 v g1 (by omega)
    · rcases q3 with q3 | ⟨v, g1, g2, g3⟩
      · exact ⟨b, Int.le_refl b, h2, by rw [k4 b (Int.le_refl b), look_early k3 (Int.le_refl b)]; exact q3⟩
      · have hv := k3.mem v g1
        exact ⟨v.at_, by omega, g2, by rw [k4 v.at_ (by omega), look_mem k3 v g1]; exact g3⟩
theorem change_nil {op : Res → Res} {l : List Step} {b e : Int} {need : Res} (h : ¬ TakeOk op l b e need) : (changeR op l b e need).1 = [] := by
  cases l with
  | nil => rfl
  | cons s tl =>
    simp only [changeR]
    by_cases hc : stepsOk (s :: tl) = true ∧ okR need = true ∧ s.at_ ≤ b ∧ b < e ∧ e ≤ 281474976710656
    · rw [if_pos hc]
      rw [if_neg]
      rw [right2_iff (stepsOk_rise hc.1).1.2 hc.2.2.1 hc.2.2.2.1]
      intro h4
      exact h ⟨hc.1, hc.2.1, ⟨hc.2.2.1, hc.2.2.2.1, hc.2.2.2.2⟩, h4⟩
    · rw [if_neg hc]
theorem r_vAdd {a b : Res} (h : okR (addR a b) = true) : f47 a b = some (addR a b) := by
  rw [okR_iff] at h
  simp only [addR] at h
  unfold f47 F47 addR
  rw [wi (by omega) (by omega), wi (by omega) (by omega), wi (by omega) (by omega), wi (by omega) (by omega)]
theorem add_sub (a b : Res) : addR (subR a b) b = a := by
  refine res_ext ?_ ?_ ?_ ?_ <;> simp only [addR, subR] <;> omega
theorem _root_.Go.Proofs.Ytgpejfddaelobaa.stepsBack.plain (l : List Step) (x : Int × Int × Int) (need : Res) : f10 l x need = some true := by
  have hml : maxLen = 9223372036854775807 := rfl
  obtain ⟨b, e, t⟩ := x
  unfold f10 F10
  simp only [awake10, Option.bind_some, Bool.not_true, cond_false]
  by_cases hl : 40 < (l.length : Int)
  · simp [hl]
  · simp only [hl, decide_false, cond_false]
    rw [p_Take l b e need (by omega)]
    simp only [Option.bind_some]
    by_cases h1 : TakeOk (fun x => subR x need) l b e need
    · cases l with
      | nil => exact h1.elim
      | cons s tl =>
        obtain ⟨s1, tl1, e1, e2, e3, e4, e5, e6⟩ := change_ok h1
        have hlen := len_change (fun x => subR x need) (s :: tl) b e need
        rw [e1] at hlen ⊢
        simp only at hlen
        obtain ⟨c1, c2, ⟨c3, c4, c5⟩, c6⟩ := h1
        have hrise := stepsOk_rise c1
        have hV : ∀ τ, okR (look s.free tl τ) = true := fun τ => look_ok (hrise.2 s (by simp)).2 fun u hu => (hrise.2 u (by simp [hu])).2
        have hin : ∀ τ, b ≤ τ → τ < e → look s1.free tl1 τ = subR (look s.free tl τ) need := fun τ g1 g2 => by
          rw [e6 τ (by omega)]
          unfold turnR
          rw [if_pos (by simp only [inB, Bool.and_eq_true, decide_eq_true_eq]; omega)]
        have hout : ∀ τ, s.at_ ≤ τ → ¬ (b ≤ τ ∧ τ < e) → look s1.free tl1 τ = look s.free tl τ := fun τ g1 g2 => by
          rw [e6 τ g1]
          unfold turnR
          rw [if_neg (by simp only [inB, Bool.and_eq_true, decide_eq_true_eq]; omega)]
        simp only [decide_true, Bool.not_true, cond_false]
        rw [p_Give (s1 :: tl1) b e need (by omega)]
        simp only [Option.bind_some]
        have h2 : TakeOk (fun x => addR x need) (s1 :: tl1) b e need := by
          refine ⟨e5, c2, by rw [e2]; exact ⟨c3, c4, c5⟩, fun τ g1 g2 => ?_⟩
          simp only [inB, Bool.and_eq_true, decide_eq_true_eq] at g2
          rw [hin τ g2.1 g2.2]
          show okR (addR (subR (look s.free tl τ) need) need) = true
          rw [add_sub]
          exact hV τ
        obtain ⟨s2, tl2, g1, g2, g3, g4, g5, g6⟩ := change_ok h2
        have hlen2 := len_change (fun x => addR x need) (s1 :: tl1) b e need
        rw [g1] at hlen2 ⊢
        simp only at hlen2
        simp only [decide_true, Bool.not_true, cond_false]
        have hll : (s :: tl).length ≤ 40 := by omega
        rw [p_Plain c1 (by omega)]
        simp only [Option.bind_some]
        have hlook : ∀ τ, s.at_ ≤ τ → look s2.free tl2 τ = look s.free (plainFrom s.free tl) τ := fun τ ht => by
          rw [g6 τ (by omega), look_plain hrise.1.2]
          unfold turnR
          by_cases hi : inB b e τ = true
          · rw [if_pos hi]
            simp only [inB, Bool.and_eq_true, decide_eq_true_eq] at hi
            rw [hin τ hi.1 hi.2]
            exact add_sub _ _
          · rw [if_neg hi]
            simp only [inB, Bool.and_eq_true, decide_eq_true_eq] at hi
            exact hout τ ht hi
        rw [e2] at g2 g3
        have hf : s2.free = s.free := by
          have := hlook s.at_ (Int.le_refl _)
          rwa [look_early g3 (Int.le_refl _), look_early (rise_plain hrise.1.2) (Int.le_refl _)] at this
        have hs : s2 = s := step_ext g2 hf
        subst hs
        have ht := canon_eq g3 (rise_plain hrise.1.2) g4 (canon_plain _ _) hlook
        rw [ht] at hlen2 ⊢
        rw [p_Same _ _ (by omega), (sameB_iff _ _).2 rfl]
        simp only [Option.bind_some, Bool.not_true, cond_false]
        rw [p_Right _ (show (s1 :: tl1).length ≤ maxLen by omega), e5]
        simp only [Option.bind_some, Bool.not_true, cond_false]
        obtain ⟨r1, q1, L1⟩ := p_Least e5 (show (s1 :: tl1).length ≤ 900 by omega) (b := b) (e := e) (by omega) c4
        obtain ⟨r0, q0, L0⟩ := p_Least c1 (show (s2 :: tl).length ≤ 900 by omega) (b := b) (e := e) c3 c4
        have hc : ∀ c : Res → Int, (∀ a b, c (leastR a b) = if c b < c a then c b else c a) → (∀ a b, c (subR a b) = c a - c b) → c r1 + c need = c r0 := fun c k1 k2 => by
          obtain ⟨m1, t1, m2, m3, m4⟩ := L1 c k1
          obtain ⟨n1, t0, n2, n3, n4⟩ := L0 c k1
          have p1 := m1 t0 n2 n3
          have p2 := n1 t1 m2 m3
          rw [hin t0 n2 n3, k2] at p1
          rw [hin t1 m2 m3, k2] at m4
          omega
        have hrr : addR r1 need = r0 := res_ext (hc (·.cpu) (fun _ _ => rfl) (fun _ _ => rfl)) (hc (·.mem) (fun _ _ => rfl) (fun _ _ => rfl)) (hc (·.gpu) (fun _ _ => rfl) (fun _ _ => rfl)) (hc (·.lic) (fun _ _ => rfl) (fun _ _ => rfl))
        have hr0 : okR r0 = true := by
          rw [okR_iff]
          obtain ⟨_, t1, _, _, m1⟩ := L0 (·.cpu) (fun _ _ => rfl)
          obtain ⟨_, t2, _, _, m2⟩ := L0 (·.mem) (fun _ _ => rfl)
          obtain ⟨_, t3, _, _, m3⟩ := L0 (·.gpu) (fun _ _ => rfl)
          obtain ⟨_, t4, _, _, m4⟩ := L0 (·.lic) (fun _ _ => rfl)
          have v1 := (okR_iff _).1 (hV t1)
          have v2 := (okR_iff _).1 (hV t2)
          have v3 := (okR_iff _).1 (hV t3)
          have v4 := (okR_iff _).1 (hV t4)
          simp only at m1 m2 m3 m4
          omega
        rw [q1, q0]
        simp only [Option.bind_some]
        rw [r_vAdd (by rw [hrr]; exact hr0), hrr]
        simp only [Option.bind_some, resEqB, decide_true, Bool.not_true, cond_false]
        have a1 := p_At (t := t) e5 (show (s1 :: tl1).length ≤ 900 by omega)
        have a0 := p_At (t := t) c1 (show (s2 :: tl).length ≤ 900 by omega)
        rw [e2] at a1
        by_cases k1 : b ≤ t
        · simp only [k1, decide_true, cond_true, Option.bind_some]
          by_cases k2 : t < e
          · simp only [k2, decide_true, cond_true]
            rw [a1, a0, if_neg (by omega), if_neg (by omega)]
            simp only [Option.bind_some]
            rw [hin t k1 k2, r_vAdd (by rw [add_sub]; exact hV t), add_sub]
            simp only [Option.bind_some, resEqB, decide_true]
          · simp only [k2, decide_false, cond_false]
            rw [a1, a0, if_neg (by omega), if_neg (by omega), hout t (by omega) (by omega)]
            simp only [Option.bind_some, resEqB, decide_true]
        · simp only [k1, decide_false, cond_false, Option.bind_some]
          by_cases k2 : t < s2.at_
          · rw [a1, a0, if_pos k2, if_pos k2]
            simp only [Option.bind_some, resEqB, decide_true]
          · rw [a1, a0, if_neg k2, if_neg k2, hout t (by omega) (by omega)]
            simp only [Option.bind_some, resEqB, decide_true]
    · simp only [change_no h1, change_nil h1, decide_false, Bool.not_false, cond_true]
      rfl
end NM
namespace stepsBack
open NM AM
theorem walk (x0 : List Step) (x1 : Int × Int × Int) (x2 : Res) (v0 v1 v2 : Value) (W : World) (h0 : V W (Lt W.heap.size) x0 v0) (h1 : V W (Lt W.heap.size) x1 v1) (h2 : V W (Lt W.heap.size) x2 v2) :
    Calls Try.prog 10 #[v0, v1, v2] W fun e w' => e = .returned (.bool true) ∧ Go.RowKit.Below W.heap.size W w' :=
  nlaw_walk NM.ok10 (x := (NEnc.f x0, NEnc.f x1, NEnc.f x2, ())) (plain _ _ _) (arg_cons x0 (arg_cons x1 (arg_cons x2 arg_nil))) rfl fun j a v ha hv => by
    match j with
    | 0 => simp at ha hv; subst ha; subst hv; exact h0.vr (fun _ h => h) _
    | 1 => simp at ha hv; subst ha; subst hv; exact h1.vr (fun _ h => h) _
    | 2 => simp at ha hv; subst ha; subst hv; exact h2.vr (fun _ h => h) _
end stepsBack
end Go.Proofs.Ytgpejfddaelobaa
