/-
  Functions of time as lists of steps: what holds at a time, steps laid in, a difference within a time, the plain list.
-/
import Derived.Test.YtgpejfddaelobaaNVec
set_option linter.unusedVariables false
set_option linter.unusedSimpArgs false
namespace Go.Proofs.Ytgpejfddaelobaa
namespace NM
open AM

theorem res_ext {a b : Res} (h1 : a.cpu = b.cpu) (h2 : a.mem = b.mem) (h3 : a.gpu = b.gpu) (h4 : a.lic = b.lic) : a = b := by
  obtain ⟨a1, a2, a3, a4⟩ := a
  obtain ⟨b1, b2, b3, b4⟩ := b
  simp only at h1 h2 h3 h4
  subst h1; subst h2; subst h3; subst h4; rfl
instance resDec : DecidableEq Res := fun a b => decidable_of_iff (a.cpu = b.cpu ∧ a.mem = b.mem ∧ a.gpu = b.gpu ∧ a.lic = b.lic) ⟨fun h => res_ext h.1 h.2.1 h.2.2.1 h.2.2.2, fun h => by subst h; exact ⟨rfl, rfl, rfl, rfl⟩⟩
/-- what holds at a time, where f holds ahead of the list -/
def look (f : Res) : List Step → Int → Res
  | [], _ => f
  | s :: l, t => if s.at_ ≤ t then look s.free l t else f
def Rise (a : Int) : List Step → Prop
  | [] => True
  | s :: l => a < s.at_ ∧ Rise s.at_ l
theorem Rise.mem {a : Int} : ∀ {l : List Step}, Rise a l → ∀ s, s ∈ l → a < s.at_
  | [], _, s, h => by simp at h
  | u :: l, h, s, hs => by
    rcases List.mem_cons.1 hs with rfl | hs
    · exact h.1
    · have := h.2.mem s hs; have := h.1; omega
theorem Rise.le {a b : Int} (hb : b ≤ a) : ∀ {l : List Step}, Rise a l → Rise b l
  | [], _ => trivial
  | u :: l, h => ⟨by have := h.1; omega, h.2⟩
theorem look_early {a : Int} {f : Res} {l : List Step} {t : Int} (h : Rise a l) (ht : t ≤ a) : look f l t = f := by
  cases l with
  | nil => rfl
  | cons u l => have := h.1; simp only [look]; rw [if_neg (by omega)]
theorem look_mem {a : Int} {f : Res} : ∀ {l : List Step}, Rise a l → ∀ s, s ∈ l → look f l s.at_ = s.free
  | [], _, s, h => by simp at h
  | u :: l, h, s, hs => by
    simp only [look]
    rcases List.mem_cons.1 hs with rfl | hs
    · rw [if_pos (Int.le_refl _)]
      exact look_early h.2 (Int.le_refl _)
    · have := h.2.mem s hs
      rw [if_pos (by omega)]
      exact look_mem h.2 s hs

/-- a step laid in at t -/
def cutFrom (f : Res) : List Step → Int → List Step
  | [], t => [⟨t, f⟩]
  | u :: l, t => if u.at_ < t then u :: cutFrom u.free l t else if u.at_ = t then u :: l else ⟨t, f⟩ :: u :: l
def cutT (a : Int) (f : Res) (l : List Step) (t : Int) : List Step := if a = t then l else cutFrom f l t
theorem look_cutFrom (t τ : Int) : ∀ (f : Res) (l : List Step), look f (cutFrom f l t) τ = look f l τ
  | f, [] => by simp [cutFrom, look]
  | f, u :: l => by
    simp only [cutFrom]
    split
    · simp only [look, look_cutFrom t τ u.free l]
    · split
      · rfl
      · simp only [look]
        by_cases h1 : t ≤ τ
        · rw [if_pos h1]
        · rw [if_neg h1, if_neg (by omega)]
theorem look_cutT (a t τ : Int) (f : Res) (l : List Step) : look f (cutT a f l t) τ = look f l τ := by
  unfold cutT; split
  · rfl
  · exact look_cutFrom t τ f l
theorem rise_cutFrom {t : Int} : ∀ {a : Int} {f : Res} {l : List Step}, Rise a l → a < t → Rise a (cutFrom f l t)
  | a, f, [], _, h => ⟨h, trivial⟩
  | a, f, u :: l, hr, h => by
    simp only [cutFrom]
    split
    · exact ⟨hr.1, rise_cutFrom hr.2 (by assumption)⟩
    · split
      · exact hr
      · exact ⟨h, by show t < u.at_; omega, hr.2⟩
theorem rise_cutT {a t : Int} {f : Res} {l : List Step} (h : Rise a l) (ht : a ≤ t) : Rise a (cutT a f l t) := by
  unfold cutT; split
  · exact h
  · exact rise_cutFrom h (by omega)
def Has (l : List Step) (t : Int) : Prop := ∃ s, s ∈ l ∧ s.at_ = t
theorem has_cutFrom (t : Int) : ∀ (f : Res) (l : List Step), Has (cutFrom f l t) t
  | f, [] => ⟨⟨t, f⟩, by simp [cutFrom], rfl⟩
  | f, u :: l => by
    simp only [cutFrom]
    split
    · obtain ⟨s, h1, h2⟩ := has_cutFrom t u.free l
      exact ⟨s, by simp [h1], h2⟩
    · split
      · exact ⟨u, by simp, by assumption⟩
      · exact ⟨⟨t, f⟩, by simp, rfl⟩
theorem has_cutT {a t : Int} (f : Res) (l : List Step) (h : a < t) : Has (cutT a f l t) t := by
  unfold cutT; rw [if_neg (by omega)]; exact has_cutFrom t f l
theorem has_keep {t t' : Int} : ∀ {f : Res} {l : List Step}, Has l t' → Has (cutFrom f l t) t'
  | f, [], h => by obtain ⟨s, h, _⟩ := h; simp at h
  | f, u :: l, h => by
    obtain ⟨s, h1, h2⟩ := h
    simp only [cutFrom]
    split
    · rcases List.mem_cons.1 h1 with rfl | h1
      · exact ⟨s, by simp, h2⟩
      · obtain ⟨s', h3, h4⟩ := has_keep (t := t) (f := u.free) (l := l) ⟨s, h1, h2⟩
        exact ⟨s', by simp [h3], h4⟩
    · split
      · exact ⟨s, h1, h2⟩
      · exact ⟨s, List.mem_cons_of_mem _ h1, h2⟩
theorem has_keepT {a t t' : Int} {f : Res} {l : List Step} (h : Has l t') : Has (cutT a f l t) t' := by
  unfold cutT; split
  · exact h
  · exact has_keep h

/-- something done to what holds from b up to e -/
def inB (b e t : Int) : Bool := decide (b ≤ t) && decide (t < e)
def turnS (b e : Int) (op : Res → Res) (s : Step) : Step := if inB b e s.at_ = true then ⟨s.at_, op s.free⟩ else s
def turnR (b e : Int) (op : Res → Res) (a : Int) (f : Res) : Res := if inB b e a = true then op f else f
theorem turnS_at (b e : Int) (op : Res → Res) (s : Step) : (turnS b e op s).at_ = s.at_ := by unfold turnS; split <;> rfl
theorem turnS_free (b e : Int) (op : Res → Res) (s : Step) : (turnS b e op s).free = turnR b e op s.at_ s.free := by unfold turnS turnR; split <;> rfl
theorem rise_turn {b e : Int} {op : Res → Res} : ∀ {a : Int} {l : List Step}, Rise a l → Rise a (l.map (turnS b e op))
  | _, [], _ => trivial
  | a, u :: l, h => ⟨by rw [turnS_at]; exact h.1, by rw [turnS_at]; exact rise_turn h.2⟩
def Edges (b e a : Int) (l : List Step) : Prop := (a < b → Has l b) ∧ (a < e → Has l e)
theorem Edges.tail {b e a : Int} {u : Step} {l : List Step} (h : Edges b e a (u :: l)) (ha : a < u.at_) : Edges b e u.at_ l := by
  refine ⟨fun hb => ?_, fun he => ?_⟩
  · obtain ⟨s, h1, h2⟩ := h.1 (by omega)
    rcases List.mem_cons.1 h1 with rfl | h1
    · omega
    · exact ⟨s, h1, h2⟩
  · obtain ⟨s, h1, h2⟩ := h.2 (by omega)
    rcases List.mem_cons.1 h1 with rfl | h1
    · omega
    · exact ⟨s, h1, h2⟩
/-- between two steps nothing begins or ends -/
theorem Edges.flat {b e a : Int} {u : Step} {l : List Step} (h : Edges b e a (u :: l)) (hr : Rise a (u :: l)) {t : Int} (h1 : a ≤ t) (h2 : t < u.at_) : inB b e t = inB b e a := by
  have key : ∀ x, (a < x → Has (u :: l) x) → (x ≤ t ↔ x ≤ a) := fun x hx => by
    constructor
    · intro hxt
      apply Classical.byContradiction
      intro hxa
      obtain ⟨s, h3, h4⟩ := hx (by omega)
      rcases List.mem_cons.1 h3 with rfl | h3
      · omega
      · have := hr.2.mem s h3; omega
    · intro h; omega
  have kb := key b h.1
  have ke := key e h.2
  unfold inB
  rw [show decide (b ≤ t) = decide (b ≤ a) from by simp only [kb], show decide (t < e) = decide (a < e) from by rw [decide_eq_decide]; omega]
theorem Edges.none {b e a : Int} (h : Edges b e a []) {t : Int} (ht : a ≤ t) : inB b e t = false := by
  have h1 : ¬ a < e := fun hx => by obtain ⟨s, h3, _⟩ := h.2 hx; simp at h3
  unfold inB
  rw [show decide (t < e) = false from by rw [decide_eq_false_iff_not]; omega]
  simp
theorem look_turn {b e : Int} {op : Res → Res} : ∀ {a : Int} {f : Res} {l : List Step} {t : Int}, Rise a l → Edges b e a l → a ≤ t → look (turnR b e op a f) (l.map (turnS b e op)) t = turnR b e op t (look f l t)
  | a, f, [], t, _, he, ht => by
    simp only [List.map_nil, look, turnR]
    rw [he.none ht, he.none (Int.le_refl a)]
  | a, f, u :: l, t, hr, he, ht => by
    simp only [List.map_cons, look, turnS_at, turnS_free]
    by_cases h : u.at_ ≤ t
    · rw [if_pos h, if_pos h]
      exact look_turn hr.2 (he.tail hr.1) h
    · rw [if_neg h, if_neg h]
      unfold turnR
      rw [he.flat hr ht (by omega)]
/-- what holds of all steps within a time holds of all that is within it -/
theorem all_look {b e : Int} {p : Res → Prop} : ∀ {a : Int} {f : Res} {l : List Step}, Rise a l → Edges b e a l →
    (((inB b e a = true → p f) ∧ ∀ s, s ∈ l → inB b e s.at_ = true → p s.free) ↔ ∀ t, a ≤ t → inB b e t = true → p (look f l t))
  | a, f, [], hr, he => by
    constructor
    · intro _ t ht hi; rw [he.none ht] at hi; cases hi
    · intro _
      refine ⟨fun hi => ?_, fun s hs => by simp at hs⟩
      rw [he.none (Int.le_refl a)] at hi; cases hi
  | a, f, u :: l, hr, he => by
    have ih := all_look (p := p) (f := u.free) hr.2 (he.tail hr.1)
    constructor
    · rintro ⟨h1, h2⟩ t ht hi
      simp only [look]
      by_cases h : u.at_ ≤ t
      · rw [if_pos h]
        exact ih.1 ⟨h2 u (by simp), fun s hs => h2 s (by simp [hs])⟩ t h hi
      · rw [if_neg h]
        rw [he.flat hr ht (by omega)] at hi
        exact h1 hi
    · intro h
      have h' : ∀ t, u.at_ ≤ t → inB b e t = true → p (look u.free l t) := fun t ht hi => by
        have := h t (by have := hr.1; omega) hi
        simp only [look] at this
        rwa [if_pos ht] at this
      obtain ⟨g1, g2⟩ := ih.2 h'
      refine ⟨fun hi => ?_, fun s hs hi => ?_⟩
      · have := h a (Int.le_refl a) hi
        rwa [look_early hr (Int.le_refl a)] at this
      · rcases List.mem_cons.1 hs with rfl | hs
        · exact g1 hi
        · exact g2 s hs hi

/-- the plain list -/
def plainFrom (f : Res) : List Step → List Step
  | [] => []
  | s :: l => if s.free = f then plainFrom f l else s :: plainFrom s.free l
def Canon (f : Res) : List Step → Prop
  | [] => True
  | s :: l => s.free ≠ f ∧ Canon s.free l
theorem canon_plain : ∀ (f : Res) (l : List Step), Canon f (plainFrom f l)
  | f, [] => trivial
  | f, s :: l => by
    simp only [plainFrom]
    split
    · exact canon_plain f l
    · exact ⟨by assumption, canon_plain s.free l⟩
theorem rise_plain : ∀ {a : Int} {f : Res} {l : List Step}, Rise a l → Rise a (plainFrom f l)
  | a, f, [], _ => trivial
  | a, f, s :: l, h => by
    simp only [plainFrom]
    split
    · exact (rise_plain h.2).le (by have := h.1; omega)
    · exact ⟨h.1, rise_plain h.2⟩
theorem look_plain {t : Int} : ∀ {a : Int} {f : Res} {l : List Step}, Rise a l → look f (plainFrom f l) t = look f l t
  | a, f, [], _ => rfl
  | a, f, s :: l, h => by
    simp only [plainFrom]
    split
    · rename_i hs
      rw [look_plain h.2]
      simp only [look]
      by_cases ht : s.at_ ≤ t
      · rw [if_pos ht, hs]
      · rw [if_neg ht, look_early h.2 (by omega)]
    · simp only [look, look_plain h.2]
theorem mem_plain {s : Step} : ∀ {f : Res} {l : List Step}, s ∈ plainFrom f l → s ∈ l
  | f, [], h => h
  | f, u :: l, h => by
    simp only [plainFrom] at h
    split at h
    · exact List.mem_cons_of_mem _ (mem_plain h)
    · rcases List.mem_cons.1 h with rfl | h
      · simp
      · exact List.mem_cons_of_mem _ (mem_plain h)
/-- lists that say the same in plain form are the same -/
theorem canon_eq : ∀ {a : Int} {f : Res} {l m : List Step}, Rise a l → Rise a m → Canon f l → Canon f m → (∀ t, a ≤ t → look f l t = look f m t) → l = m
  | a, f, [], [], _, _, _, _, _ => rfl
  | a, f, [], s :: m, _, hm, _, cm, h => by
    have := h s.at_ (by have := hm.1; omega)
    simp only [look] at this
    rw [if_pos (Int.le_refl _), look_early hm.2 (Int.le_refl _)] at this
    exact absurd this.symm cm.1
  | a, f, s :: l, [], hl, _, cl, _, h => by
    have := h s.at_ (by have := hl.1; omega)
    simp only [look] at this
    rw [if_pos (Int.le_refl _), look_early hl.2 (Int.le_refl _)] at this
    exact absurd this cl.1
  | a, f, s :: l, u :: m, hl, hm, cl, cm, h => by
    have e1 : s.at_ = u.at_ := by
      apply Classical.byContradiction
      intro hne
      rcases Int.lt_or_gt_of_ne hne with hlt | hlt
      · have := h s.at_ (by have := hl.1; omega)
        simp only [look] at this
        rw [if_pos (Int.le_refl _), look_early hl.2 (Int.le_refl _), if_neg (by omega)] at this
        exact cl.1 this
      · have := h u.at_ (by have := hm.1; omega)
        simp only [look] at this
        rw [if_pos (Int.le_refl _), look_early hm.2 (Int.le_refl _), if_neg (by omega)] at this
        exact cm.1 this.symm
    have e2 : s.free = u.free := by
      have := h s.at_ (by have := hl.1; omega)
      simp only [look] at this
      rw [if_pos (Int.le_refl _), look_early hl.2 (Int.le_refl _), if_pos (by omega), e1, look_early hm.2 (Int.le_refl _)] at this
      exact this
    have es : s = u := by
      obtain ⟨a1, f1⟩ := s
      obtain ⟨a2, f2⟩ := u
      simp only at e1 e2
      subst e1; subst e2; rfl
    subst es
    rw [canon_eq hl.2 hm.2 cl.2 cm.2 fun t ht => by
      have := h t (by have := hl.1; omega)
      simp only [look] at this
      rwa [if_pos ht, if_pos ht] at this]
end NM
end Go.Proofs.Ytgpejfddaelobaa
