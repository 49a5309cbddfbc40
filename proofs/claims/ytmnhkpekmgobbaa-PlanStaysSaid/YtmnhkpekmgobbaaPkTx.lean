/-
  What the proof of PlanStays leans on, part 24. (Many texts laid together by program.)
-/
import Derived.Test.YtmnhkpekmgobbaaPkTw
set_option linter.unnecessarySimpa false
set_option linter.unusedSimpArgs false
set_option linter.unusedVariables false
section
namespace Go.Proofs.Ytmnhkpekmgobbaa
namespace NM
open AM
theorem res_ext {a b : Res} (h1 : a.cpu = b.cpu) (h2 : a.mem = b.mem) (h3 : a.gpu = b.gpu) (h4 : a.lic = b.lic) : a = b := by
 obtain ⟨a1, a2, a3, a4⟩ := a
 obtain ⟨b1, b2, b3, b4⟩ := b
 simp only at h1 h2 h3 h4
 subst h1; subst h2; subst h3; subst h4; rfl
instance resDec : DecidableEq Res := fun a b => decidable_of_iff (a.cpu = b.cpu ∧ a.mem = b.mem ∧ a.gpu = b.gpu ∧ a.lic = b.lic) ⟨fun h => res_ext h.1 h.2.1 h.2.2.1 h.2.2.2, fun h => by subst h; exact ⟨rfl, rfl, rfl, rfl⟩⟩
def look (f : Res) : List Step → Int → Res
 | [], _ => f
 | s :: l, t => if s.at_ ≤ t then look s.free l t else f
def Rise (a : Int) : List Step → Prop
 | [] => True
 | s :: l => a < s.at_ ∧ Rise s.at_ l
theorem Rise.mem {a : Int} : ∀ {l : List Step}, Rise a l → ∀ s, s ∈ l → a < s.at_
 | [], _, s, h => by simp at h
 | u :: l, h, s, hs => by
   rcases List.mem_cons.1 hs with rfl | hs
   · exact h.1
   · have := h.2.mem s hs; have := h.1; omega
theorem Rise.le {a b : Int} (hb : b ≤ a) : ∀ {l : List Step}, Rise a l → Rise b l
 | [], _ => trivial
 | u :: l, h => ⟨by have := h.1; omega, h.2⟩
theorem look_early {a : Int} {f : Res} {l : List Step} {t : Int} (h : Rise a l) (ht : t ≤ a) : look f l t = f := by
 cases l with
 | nil => rfl
 | cons u l => have := h.1; simp only [look]; rw [if_neg (by omega)]
theorem look_mem {a : Int} {f : Res} : ∀ {l : List Step}, Rise a l → ∀ s, s ∈ l → look f l s.at_ = s.free
 | [], _, s, h => by simp at h
 | u :: l, h, s, hs => by
   simp only [look]
   rcases List.mem_cons.1 hs with rfl | hs
   · rw [if_pos (Int.le_refl _)]
     exact look_early h.2 (Int.le_refl _)
   · have := h.2.mem s hs
     rw [if_pos (by omega)]
     exact look_mem h.2 s hs
def cutFrom (f : Res) : List Step → Int → List Step
 | [], t => [⟨t, f⟩]
 | u :: l, t => if u.at_ < t then u :: cutFrom u.free l t else if u.at_ = t then u :: l else ⟨t, f⟩ :: u :: l
def cutT (a : Int) (f : Res) (l : List Step) (t : Int) : List Step := if a = t then l else cutFrom f l t
theorem look_cutFrom (t τ : Int) : ∀ (f : Res) (l : List Step), look f (cutFrom f l t) τ = look f l τ
 | f, [] => by simp [cutFrom, look]
 | f, u :: l => by
   simp only [cutFrom]
   split
   · simp only [look, look_cutFrom t τ u.free l]
   · split
     · rfl
     · simp only [look]
       by_cases h1 : t ≤ τ
       · rw [if_pos h1]
       · rw [if_neg h1, if_neg (by omega)]
theorem look_cutT (a t τ : Int) (f : Res) (l : List Step) : look f (cutT a f l t) τ = look f l τ := by
 unfold cutT; split
 · rfl
 · exact look_cutFrom t τ f l
theorem rise_cutFrom {t : Int} : ∀ {a : Int} {f : Res} {l : List Step}, Rise a l → a < t → Rise a (cutFrom f l t)
 | a, f, [], _, h => ⟨h, trivial⟩
 | a, f, u :: l, hr, h => by
   simp only [cutFrom]
   split
   · exact ⟨hr.1, rise_cutFrom hr.2 (by assumption)⟩
   · split
     · exact hr
     · exact ⟨h, by show t < u.at_; omega, hr.2⟩
theorem rise_cutT {a t : Int} {f : Res} {l : List Step} (h : Rise a l) (ht : a ≤ t) : Rise a (cutT a f l t) := by
 unfold cutT; split
 · exact h
 · exact rise_cutFrom h (by omega)
def Has (l : List Step) (t : Int) : Prop := ∃ s, s ∈ l ∧ s.at_ = t
theorem has_cutFrom (t : Int) : ∀ (f : Res) (l : List Step), Has (cutFrom f l t) t
 | f, [] => ⟨⟨t, f⟩, by simp [cutFrom], rfl⟩
 | f, u :: l => by
   simp only [cutFrom]
   split
   · obtain ⟨s, h1, h2⟩ := has_cutFrom t u.free l
     exact ⟨s, by simp [h1], h2⟩
   · split
     · exact ⟨u, by simp, by assumption⟩
     · exact ⟨⟨t, f⟩, by simp, rfl⟩
theorem has_cutT {a t : Int} (f : Res) (l : List Step) (h : a < t) : Has (cutT a f l t) t := by
 unfold cutT; rw [if_neg (by omega)]; exact has_cutFrom t f l
theorem has_keep {t t' : Int} : ∀ {f : Res} {l : List Step}, Has l t' → Has (cutFrom f l t) t'
 | f, [], h => by obtain ⟨s, h, _⟩ := h; simp at h
 | f, u :: l, h => by
   obtain ⟨s, h1, h2⟩ := h
   simp only [cutFrom]
   split
   · rcases List.mem_cons.1 h1 with rfl | h1
     · exact ⟨s, by simp, h2⟩
     · obtain ⟨s', h3, h4⟩ := has_keep (t := t) (f := u.free) (l := l) ⟨s, h1, h2⟩
       exact ⟨s', by simp [h3], h4⟩
   · split
     · exact ⟨s, h1, h2⟩
     · exact ⟨s, List.mem_cons_of_mem _ h1, h2⟩
theorem has_keepT {a t t' : Int} {f : Res} {l : List Step} (h : Has l t') : Has (cutT a f l t) t' := by
 unfold cutT; split
 · exact h
 · exact has_keep h
def inB (b e t : Int) : Bool := decide (b ≤ t) && decide (t < e)
def turnS (b e : Int) (op : Res → Res) (s : Step) : Step := if inB b e s.at_ = true then ⟨s.at_, op s.free⟩ else s
def turnR (b e : Int) (op : Res → Res) (a : Int) (f : Res) : Res := if inB b e a = true then op f else f
theorem turnS_at (b e : Int) (op : Res → Res) (s : Step) : (turnS b e op s).at_ = s.at_ := by unfold turnS; split <;> rfl
theorem turnS_free (b e : Int) (op : Res → Res) (s : Step) : (turnS b e op s).free = turnR b e op s.at_ s.free := by unfold turnS turnR; split <;> rfl
theorem rise_turn {b e : Int} {op : Res → Res} : ∀ {a : Int} {l : List Step}, Rise a l → Rise a (l.map (turnS b e op))
 | _, [], _ => trivial
 | a, u :: l, h => ⟨by rw [turnS_at]; exact h.1, by rw [turnS_at]; exact rise_turn h.2⟩
def Edges (b e a : Int) (l : List Step) : Prop := (a < b → Has l b) ∧ (a < e → Has l e)
theorem Edges.tail {b e a : Int} {u : Step} {l : List Step} (h : Edges b e a (u :: l)) (ha : a < u.at_) : Edges b e u.at_ l := by
 refine ⟨fun hb => ?_, fun he => ?_⟩
 · obtain ⟨s, h1, h2⟩ := h.1 (by omega)
   rcases List.mem_cons.1 h1 with rfl | h1
   · omega
   · exact ⟨s, h1, h2⟩
 · obtain ⟨s, h1, h2⟩ := h.2 (by omega)
   rcases List.mem_cons.1 h1 with rfl | h1
   · omega
   · exact ⟨s, h1, h2⟩
theorem Edges.flat {b e a : Int} {u : Step} {l : List Step} (h : Edges b e a (u :: l)) (hr : Rise a (u :: l)) {t : Int} (h1 : a ≤ t) (h2 : t < u.at_) : inB b e t = inB b e a := by
 have key : ∀ x, (a < x → Has (u :: l) x) → (x ≤ t ↔ x ≤ a) := fun x hx => by
   constructor
   · intro hxt
     apply Classical.byContradiction
     intro hxa
     obtain ⟨s, h3, h4⟩ := hx (by omega)
     rcases List.mem_cons.1 h3 with rfl | h3
     · omega
     · have := hr.2.mem s h3; omega
   · intro h; omega
 have kb := key b h.1
 have ke := key e h.2
 unfold inB
 rw [show decide (b ≤ t) = decide (b ≤ a) from by simp only [kb], show decide (t < e) = decide (a < e) from by rw [decide_eq_decide]; omega]
theorem Edges.none {b e a : Int} (h : Edges b e a []) {t : Int} (ht : a ≤ t) : inB b e t = false := by
 have h1 : ¬ a < e := fun hx => by obtain ⟨s, h3, _⟩ := h.2 hx; simp at h3
 unfold inB
 rw [show decide (t < e) = false from by rw [decide_eq_false_iff_not]; omega]
 simp
theorem look_turn {b e : Int} {op : Res → Res} : ∀ {a : Int} {f : Res} {l : List Step} {t : Int}, Rise a l → Edges b e a l → a ≤ t → look (turnR b e op a f) (l.map (turnS b e op)) t = turnR b e op t (look f l t)
 | a, f, [], t, _, he, ht => by
   simp only [List.map_nil, look, turnR]
   rw [he.none ht, he.none (Int.le_refl a)]
 | a, f, u :: l, t, hr, he, ht => by
   simp only [List.map_cons, look, turnS_at, turnS_free]
   by_cases h : u.at_ ≤ t
   · rw [if_pos h, if_pos h]
     exact look_turn hr.2 (he.tail hr.1) h
   · rw [if_neg h, if_neg h]
     unfold turnR
     rw [he.flat hr ht (by omega)]
theorem all_look {b e : Int} {p : Res → Prop} : ∀ {a : Int} {f : Res} {l : List Step}, Rise a l → Edges b e a l →
   (((inB b e a = true → p f) ∧ ∀ s, s ∈ l → inB b e s.at_ = true → p s.free) ↔ ∀ t, a ≤ t → inB b e t = true → p (look f l t))
 | a, f, [], hr, he => by
   constructor
   · intro _ t ht hi; rw [he.none ht] at hi; cases hi
   · intro _
     refine ⟨fun hi => ?_, fun s hs => by simp at hs⟩
     rw [he.none (Int.le_refl a)] at hi; cases hi
 | a, f, u :: l, hr, he => by
   have ih := all_look (p := p) (f := u.free) hr.2 (he.tail hr.1)
   constructor
   · rintro ⟨h1, h2⟩ t ht hi
     simp only [look]
     by_cases h : u.at_ ≤ t
     · rw [if_pos h]
       exact ih.1 ⟨h2 u (by simp), fun s hs => h2 s (by simp [hs])⟩ t h hi
     · rw [if_neg h]
       rw [he.flat hr ht (by omega)] at hi
       exact h1 hi
   · intro h
     have h' : ∀ t, u.at_ ≤ t → inB b e t = true → p (look u.free l t) := fun t ht hi => by
       have := h t (by have := hr.1; omega) hi
       simp only [look] at this
       rwa [if_pos ht] at this
     obtain ⟨g1, g2⟩ := ih.2 h'
     refine ⟨fun hi => ?_, fun s hs hi => ?_⟩
     · have := h a (Int.le_refl a) hi
       rwa [look_early hr (Int.le_refl a)] at this
     · rcases List.mem_cons.1 hs with rfl | hs
       · exact g1 hi
       · exact g2 s hs hi
def plainFrom (f : Res) : List Step → List Step
 | [] => []
 | s :: l => if s.free = f then plainFrom f l else s :: plainFrom s.free l
def Canon (f : Res) : List Step → Prop
 | [] => True
 | s :: l => s.free ≠ f ∧ Canon s.free l
theorem canon_plain : ∀ (f : Res) (l : List Step), Canon f (plainFrom f l)
 | f, [] => trivial
 | f, s :: l => by
   simp only [plainFrom]
   split
   · exact canon_plain f l
   · exact ⟨by assumption, canon_plain s.free l⟩
theorem rise_plain : ∀ {a : Int} {f : Res} {l : List Step}, Rise a l → Rise a (plainFrom f l)
 | a, f, [], _ => trivial
 | a, f, s :: l, h => by
   simp only [plainFrom]
   split
   · exact (rise_plain h.2).le (by have := h.1; omega)
   · exact ⟨h.1, rise_plain h.2⟩
theorem look_plain {t : Int} : ∀ {a : Int} {f : Res} {l : List Step}, Rise a l → look f (plainFrom f l) t = look f l t
 | a, f, [], _ => rfl
 | a, f, s :: l, h => by
   simp only [plainFrom]
   split
   · rename_i hs
     rw [look_plain h.2]
     simp only [look]
     by_cases ht : s.at_ ≤ t
     · rw [if_pos ht, hs]
     · rw [if_neg ht, look_early h.2 (by omega)]
   · simp only [look, look_plain h.2]
theorem mem_plain {s : Step} : ∀ {f : Res} {l : List Step}, s ∈ plainFrom f l → s ∈ l
 | f, [], h => h
 | f, u :: l, h => by
   simp only [plainFrom] at h
   split at h
   · exact List.mem_cons_of_mem _ (mem_plain h)
   · rcases List.mem_cons.1 h with rfl | h
     · simp
     · exact List.mem_cons_of_mem _ (mem_plain h)
theorem p_vecRight (a : Res) : f108 a = some (okR a) := by
 have hn : f160 a = some (a.cpu, (a.mem, (a.gpu, a.lic))) := rfl
 unfold f108 F108
 simp only [hn, Option.bind_some]
 have e : ∀ (n : Int) (k : Option Bool) (b : Bool), k = some b → cond (decide (n < 0)) (some false) (cond (decide (1048576 < n)) (some false) k) = some (okN n && b) := fun n k b h => by
   subst h
   unfold okN
   by_cases h1 : n < 0
   · simp [h1, show ¬ 0 ≤ n by omega]
   · by_cases h2 : 1048576 < n
     · simp [h1, h2, show ¬ n ≤ 1048576 by omega]
     · simp [h1, h2, show 0 ≤ n by omega, show n ≤ 1048576 by omega]
 rw [e _ _ _ (e _ _ _ (e _ _ _ (e _ _ true rfl)))]
 simp [okR, Bool.and_assoc]
def rightFrom : Int → List Step → Bool
 | _, [] => true
 | a, s :: l => decide (a < s.at_) && (decide (s.at_ ≤ 281474976710656) && (okR s.free && rightFrom s.at_ l))
def stepsOk (l : List Step) : Bool := rightFrom (-1) l && decide (0 < l.length)
theorem rightFrom_rise : ∀ {a : Int} {l : List Step}, rightFrom a l = true → Rise a l ∧ ∀ s, s ∈ l → s.at_ ≤ 281474976710656 ∧ okR s.free = true
 | a, [], _ => ⟨trivial, fun s h => by simp at h⟩
 | a, s :: l, h => by
   simp only [rightFrom, Bool.and_eq_true, decide_eq_true_eq] at h
   obtain ⟨h1, h2, h3, h4⟩ := h
   obtain ⟨h5, h6⟩ := rightFrom_rise h4
   refine ⟨⟨h1, h5⟩, fun u hu => ?_⟩
   rcases List.mem_cons.1 hu with rfl | hu
   · exact ⟨h2, h3⟩
   · exact h6 u hu
theorem rightFrom_of : ∀ {a : Int} {l : List Step}, Rise a l → (∀ s, s ∈ l → s.at_ ≤ 281474976710656 ∧ okR s.free = true) → rightFrom a l = true
 | a, [], _, _ => rfl
 | a, s :: l, hr, h => by
   simp only [rightFrom, Bool.and_eq_true, decide_eq_true_eq]
   exact ⟨hr.1, (h s (by simp)).1, (h s (by simp)).2, rightFrom_of hr.2 fun u hu => h u (by simp [hu])⟩
theorem p_Right (l : List Step) (hl : l.length ≤ maxLen) : f169 l = some (stepsOk l) := by
 unfold f169 F169
 rw [list_loop (β := Int) l (fun a z => ((a, z, ()), ())) (fun a s => cond (decide (a < s.at_) && (decide (s.at_ ≤ 281474976710656) && okR s.free)) (.inl s.at_) (.inr (some false))) (fun _ => some (decide (0 < l.length))) hl (fun b next => by simp [l169_0]) (fun b z x next h0 h1 h2 h3 => by
   simp only [l169_0, h0, h1, h2, h3, decide_true, cond_true, Option.bind_some, p_vecRight]
   by_cases c1 : x.at_ ≤ b
   · simp [c1, show ¬ b < x.at_ by omega]
   · by_cases c2 : 281474976710656 < x.at_
     · simp [c1, c2, show ¬ x.at_ ≤ 281474976710656 by omega]
     · cases okR x.free <;> simp [c1, c2, show b < x.at_ by omega, show x.at_ ≤ 281474976710656 by omega])]
 unfold stepsOk
 generalize decide (0 < l.length) = q
 generalize (-1 : Int) = a
 clear hl
 induction l generalizing a with
 | nil => rfl
 | cons s l ih =>
   simp only [runL, rightFrom]
   by_cases c1 : a < s.at_
   · by_cases c2 : s.at_ ≤ 281474976710656
     · cases c3 : okR s.free with
       | true => simp only [c1, c2, decide_true, Bool.and_self, cond_true, Bool.true_and]; exact ih s.at_
       | false => simp [c1, c2]
     · simp [c1, c2]
   · simp [c1]
def cnt (t : Int) : List Step → Nat
 | [] => 0
 | s :: l => if s.at_ ≤ t then cnt t l + 1 else 0
theorem cnt_le (t : Int) : ∀ l : List Step, cnt t l ≤ l.length
 | [] => Nat.le_refl _
 | s :: l => by
   simp only [cnt, List.length_cons]
   split
   · have := cnt_le t l; omega
   · omega
theorem cnt_early {a t : Int} {l : List Step} (h : Rise a l) (ht : t ≤ a) : cnt t l = 0 := by
 cases l with
 | nil => rfl
 | cons u l => have := h.1; simp only [cnt]; rw [if_neg (by omega)]
theorem cnt_iff {t : Int} : ∀ {a : Int} {l : List Step}, Rise a l → ∀ {k : Nat} {x : Step}, l[k]? = some x → (x.at_ ≤ t ↔ k < cnt t l)
 | a, [], _, k, x, h => by simp at h
 | a, s :: l, hr, 0, x, h => by
   simp at h; subst h
   simp only [cnt]
   split <;> simp_all
 | a, s :: l, hr, k + 1, x, h => by
   simp at h
   simp only [cnt]
   have hx := hr.2.mem x (List.mem_of_getElem? h)
   split
   · rw [cnt_iff hr.2 h]; omega
   · constructor
     · intro _; omega
     · intro _; omega
theorem p_found (i : Int) (l : List Step) (t : Int) (h0 : 0 ≤ i) (x : Step) (hx : l[i.toNat]? = some x) : f189 i l t = some (decide (t < x.at_)) := by
 unfold f189 F189
 simp only [h0, decide_true, cond_true, hx, Option.bind_some]
theorem p_Search {a : Int} (l : List Step) (t : Int) (hr : Rise a l) (hl : l.length ≤ 1000) : f136 (l.length : Int) l t = some (cnt t l : Int) := by
 unfold f136 F136
 refine loop_eq (I := fun s => 0 ≤ s.1.1 ∧ s.1.1 ≤ (cnt t l : Int) ∧ (cnt t l : Int) ≤ s.1.2.1 ∧ s.1.2.1 ≤ (l.length : Int)) (m := fun s => (s.1.2.1 - s.1.1).toNat) (R := fun _ => some (cnt t l : Int)) ?_ ?_ ?_
 · rintro ⟨⟨i, j, u⟩, v⟩ next ⟨h1, h2, h3, h4⟩ hn
   simp only at h1 h2 h3 h4 ⊢
   unfold l136_0
   by_cases hij : i < j
   · have w1 : IntKind.wrap .i64 (i + j) = i + j := wi (by omega) (by omega)
     have w2 : IntKind.wrap .u64 (i + j) = i + j := by
       simp only [IntKind.wrap, IntKind.signed, IntKind.bits, Bool.false_eq_true, if_false, false_and]
       exact Int.emod_eq_of_lt (by omega) (by omega)
     have w3 : Int.fdiv (i + j) (2 ^ (min (Int.toNat 1) 64)) = (i + j) / 2 := by
       rw [show (2 : Int) ^ (min (Int.toNat 1) 64) = 2 from rfl]
       exact Int.fdiv_eq_ediv_of_nonneg _ (by decide)
     have w4 : IntKind.wrap .i64 ((i + j) / 2) = (i + j) / 2 := wi (by omega) (by omega)
     have w5 : IntKind.wrap .i64 ((i + j) / 2 + 1) = (i + j) / 2 + 1 := wi (by omega) (by omega)
     have hk : ((i + j) / 2).toNat < l.length := by omega
     have hx : l[((i + j) / 2).toNat]? = some l[((i + j) / 2).toNat] := List.getElem?_eq_getElem hk
     have hc := cnt_iff (t := t) hr hx
     simp only [hij, decide_true, cond_true, w1, w2, w3, w4, p_found _ l t (show 0 ≤ (i + j) / 2 by omega) _ hx, Option.bind_some, w5]
     by_cases ht : t < l[((i + j) / 2).toNat].at_
     · simp only [ht, decide_true, Bool.not_true, cond_false]
       exact hn _ ⟨by simp only; omega, by simp only; omega, by simp only; omega, by simp only; omega⟩ (by simp only; omega)
     · simp only [ht, decide_false, Bool.not_false, cond_true]
       exact hn _ ⟨by simp only; omega, by simp only; omega, by simp only; omega, by simp only; omega⟩ (by simp only; omega)
   · simp only [hij, decide_false, cond_false]
     rw [show i = (cnt t l : Int) by omega]
 · refine ⟨?_, ?_, ?_, ?_⟩
   · exact Int.le_refl 0
   · show (0 : Int) ≤ _; omega
   · have := cnt_le t l; show (cnt t l : Int) ≤ (l.length : Int); omega
   · exact Int.le_refl _
 · show ((l.length : Int) - 0).toNat < LOOPS
   unfold LOOPS; omega
theorem p_find {a : Int} (l : List Step) (t : Int) (hr : Rise a l) (hl : l.length ≤ 1000) : f172 l t = some ((cnt t l : Int) - 1) := by
 unfold f172 F172
 have := cnt_le t l
 simp only [p_Search l t hr hl, Option.bind_some, wi (show (-9223372036854775808 : Int) ≤ (cnt t l : Int) - 1 by omega) (by omega)]
theorem small40 {n : Nat} (h : n ≤ 1000) : smallB n 40 = true := by
 unfold smallB
 simp only [Bool.and_eq_true, decide_eq_true_eq]
 omega
theorem p_Clone (l : List Step) (hl : l.length ≤ 1000) : f214 l = some ((), (l, ())) := by
 unfold f214
 cases l with
 | nil => rfl
 | cons s l =>
   simp only [cloneF, F214, List.isEmpty_cons, cond_false, Nat.zero_add, small40 hl, cond_true, List.nil_append]
theorem cut_ins {t : Int} : ∀ {tl : List Step} {s : Step}, Rise s.at_ tl → s.at_ ≤ t → ∃ y, (s :: tl)[cnt t (s :: tl) - 1]? = some y ∧ 0 < cnt t (s :: tl) ∧ (y.at_ = t → s :: cutT s.at_ s.free tl t = s :: tl) ∧ (¬ y.at_ = t → s :: cutT s.at_ s.free tl t = insL (cnt t (s :: tl)) (s :: tl) ⟨t, y.free⟩)
 | [], s, hr, hs => by
   refine ⟨s, by simp [cnt, hs], by simp [cnt, hs], fun h => by simp [cutT, h], fun h => by simp [cutT, h, cutFrom, insL, cnt, hs]⟩
 | u :: tl, s, hr, hs => by
   by_cases hu : u.at_ ≤ t
   · obtain ⟨y, h1, h0, h2, h3⟩ := cut_ins hr.2 hu
     have hc : cnt t (s :: u :: tl) = cnt t (u :: tl) + 1 := by simp only [cnt]; rw [if_pos hs]
     have hne : ¬ s.at_ = t := by have := hr.1; omega
     have he : cutT s.at_ s.free (u :: tl) t = u :: cutT u.at_ u.free tl t := by
       unfold cutT
       rw [if_neg hne]
       simp only [cutFrom]
       by_cases hut : u.at_ = t
       · rw [if_neg (by omega), if_pos hut, if_pos hut]
       · rw [if_pos (by omega), if_neg hut]
     refine ⟨y, ?_, by omega, fun h => ?_, fun h => ?_⟩
     · rw [hc, Nat.add_sub_cancel]
       obtain ⟨n, hn⟩ : ∃ n, cnt t (u :: tl) = n + 1 := ⟨cnt t (u :: tl) - 1, by omega⟩
       rw [hn] at h1 ⊢
       simpa using h1
     · rw [he, h2 h]
     · rw [he, h3 h, hc]
       simp [insL]
   · have hc : cnt t (s :: u :: tl) = 1 := by simp only [cnt]; rw [if_pos hs, if_neg hu]
     refine ⟨s, by simp [hc], by omega, fun h => by simp [cutT, h], fun h => ?_⟩
     rw [hc]
     unfold cutT
     rw [if_neg h]
     simp only [cutFrom]
     rw [if_neg (by omega), if_neg (by omega)]
     simp [insL]
theorem p_cut {a : Int} {s : Step} {tl : List Step} {t : Int} (hr : Rise a (s :: tl)) (hs : s.at_ ≤ t) (hl : (s :: tl).length ≤ 900) : f187 (s :: tl) t = some ((), (s :: cutT s.at_ s.free tl t, ())) := by
 obtain ⟨y, h1, h0, h2, h3⟩ := cut_ins hr.2 hs
 have hcl := cnt_le t (s :: tl)
 generalize hn : cnt t (s :: tl) = n at h1 h0 h3 hcl
 unfold f187 F187
 have hi : ((n : Int) - 1).toNat = n - 1 := by omega
 have w : IntKind.wrap .i64 ((n : Int) - 1 + 1) = (n : Int) := by rw [wi (by omega) (by omega)]; omega
 simp only [p_find _ t hr (by omega), hn, Option.bind_some, p_Clone _ (show (s :: tl).length ≤ 1000 by omega), show (0 : Int) ≤ (n : Int) - 1 by omega, decide_true, cond_true, hi, h1]
 by_cases hy : y.at_ = t
 · simp only [hy, decide_true, cond_true]
   rw [h2 hy]
 · simp only [hy, decide_false, cond_false]
   rw [h3 hy]
   have hg : f215 (n : Int) (s :: tl) [⟨t, y.free⟩] = some ((), ((), ([⟨t, y.free⟩], (insL n (s :: tl) ⟨t, y.free⟩, ())))) := by
     unfold f215 insertG
     simp only [show (0 : Int) ≤ (n : Int) by omega, decide_true, Int.toNat_natCast, hcl, small40 (show (s :: tl).length + 1 ≤ 1000 by omega), Bool.and_self, cond_true]
   simp only [w, hg, Option.bind_some, List.length_singleton, decide_true, Bool.and_self, cond_true]
theorem resEqB (a b : Res) : ((decide (a.cpu = b.cpu)) && ((decide (a.mem = b.mem)) && ((decide (a.gpu = b.gpu)) && ((decide (a.lic = b.lic)) && true)))) = decide (a = b) := by
 by_cases h : a = b
 · subst h; simp
 · rw [decide_eq_false h]
   apply Bool.eq_false_iff.2
   intro hh
   simp only [Bool.and_eq_true, decide_eq_true_eq] at hh
   exact h (res_ext hh.1 hh.2.1 hh.2.2.1 hh.2.2.2.1)
theorem p_Plain {s : Step} {tl : List Step} (hok : stepsOk (s :: tl) = true) (hl : (s :: tl).length ≤ 900) : f188 (s :: tl) = some (s :: plainFrom s.free tl) := by
 unfold f188 F188
 have hml : maxLen = 9223372036854775807 := rfl
 have hlt : tl.length ≤ 900 := by simp at hl; omega
 simp only [p_Right _ (show (s :: tl).length ≤ maxLen by omega), hok, Option.bind_some, Bool.not_true, cond_false, List.getElem?_cons_zero, show (1 : Nat) ≤ (s :: tl).length by simp, decide_true, cond_true]
 have key := list_loopI (β := List Step × Step) (f := fun (s3 : ((Unit × (Int × Unit)) × ((List Step) × Unit))) nx4 => l188_0 (s :: tl) nx4 s3.1.2.1 s3.2.1) tl (fun b z => (((), z, ()), (b.1 ++ [b.2], ()))) (fun b z => (b.1.length : Int) ≤ z) (fun b y => .inl (if y.free = b.2.free then b else (b.1 ++ [b.2], y))) (fun b => some (b.1 ++ [b.2])) (by omega)
   (fun b next _ => by simp [l188_0])
   (fun b z y next hI h0 h1 h2 h3 => by
     have hlen : ((b.1 ++ [b.2]).length : Int) - 1 = (b.1.length : Int) := by simp
     have w : IntKind.wrap .i64 (((b.1 ++ [b.2]).length : Int) - 1) = (b.1.length : Int) := by rw [hlen]; exact wi (by omega) (by omega)
     have hget : (b.1 ++ [b.2])[b.1.length]? = some b.2 := by simp
     have hlt2 : b.1.length < (b.1 ++ [b.2]).length := by simp
     simp only [l188_0, List.drop_succ_cons, List.drop_zero, h0, h1, h2, h3, decide_true, cond_true, Option.bind_some, w, Int.toNat_natCast, hget, hlt2, show (0 : Int) ≤ (b.1.length : Int) by omega, resEqB, Bool.true_and]
     by_cases hf : y.free = b.2.free
     · simp only [hf, if_true, decide_true, Bool.not_true, cond_false]
       exact ⟨by omega, trivial⟩
     · simp only [hf, if_false, decide_false, Bool.not_false, cond_true, small40 (show (b.1 ++ [b.2]).length + 1 ≤ 1000 by simp; omega)]
       exact ⟨by simp; omega, trivial⟩) ([], s) (by simp)
 refine key.trans ?_
 rw [runL_fold]
 have e : ∀ (l : List Step) (pre : List Step) (u : Step), (l.foldl (fun (b : List Step × Step) (y : Step) => if y.free = b.2.free then b else (b.1 ++ [b.2], y)) (pre, u)).1 ++ [(l.foldl (fun (b : List Step × Step) (y : Step) => if y.free = b.2.free then b else (b.1 ++ [b.2], y)) (pre, u)).2] = pre ++ u :: plainFrom u.free l := by
   intro l
   induction l with
   | nil => intro pre u; rfl
   | cons y l ih =>
     intro pre u
     simp only [List.foldl_cons, plainFrom]
     by_cases hf : y.free = u.free
     · simp only [hf, if_true]; exact ih pre u
     · simp only [hf, if_false]; rw [ih]; simp
 rw [e tl [] s]
 rfl
def goT (g : Res → Option (Res × (Int × Unit))) (pl : List Step → Option (List Step)) (e : Int) : List Step → List Step → Option (List Step × (Int × Unit))
 | _, [] => none
 | pre, s :: l => if s.at_ < e then
     Option.bind (g s.free) fun r => if r.2.1 = 0 then goT g pl e (pre ++ [⟨s.at_, r.1⟩]) l else some ([], r.2.1, ())
   else Option.bind (pl (pre ++ s :: l)) fun r => some (r, 0, ())
def chg (op : Res → Res) (x : Res) : Option (Res × (Int × Unit)) := some (if okR (op x) = true then (op x, 0, ()) else (zeroR, 20, ()))
theorem goT_eq {op : Res → Res} {g : Res → Option (Res × (Int × Unit))} {pl : List Step → Option (List Step)} {b e : Int} (hg : ∀ x, okR x = true → g x = chg op x) : ∀ {l : List Step} {pre : List Step} {a : Int}, Rise a l → b ≤ a + 1 → Has l e → (∀ s, s ∈ l → okR s.free = true) →
   goT g pl e pre l = if (∀ s, s ∈ l → inB b e s.at_ = true → okR (op s.free) = true) then Option.bind (pl (pre ++ l.map (turnS b e op))) fun r => some (r, 0, ()) else some ([], 20, ())
 | [], pre, a, _, _, h, _ => by obtain ⟨s, h, _⟩ := h; simp at h
 | s :: l, pre, a, hr, hb, he, hok => by
   simp only [goT]
   by_cases hs : s.at_ < e
   · have hin : inB b e s.at_ = true := by have := hr.1; simp only [inB, Bool.and_eq_true, decide_eq_true_eq]; omega
     have he' : Has l e := by
       obtain ⟨u, h1, h2⟩ := he
       rcases List.mem_cons.1 h1 with rfl | h1
       · omega
       · exact ⟨u, h1, h2⟩
     rw [if_pos hs, hg s.free (hok s (by simp))]
     unfold chg
     by_cases ho : okR (op s.free) = true
     · rw [if_pos ho]
       simp only [Option.bind_some, if_true]
       rw [goT_eq (b := b) hg hr.2 (by have := hr.1; omega) he' (fun u hu => hok u (by simp [hu]))]
       have e1 : (∀ u, u ∈ s :: l → inB b e u.at_ = true → okR (op u.free) = true) ↔ (∀ u, u ∈ l → inB b e u.at_ = true → okR (op u.free) = true) := by
         constructor
         · intro h u hu; exact h u (by simp [hu])
         · intro h u hu
           rcases List.mem_cons.1 hu with rfl | hu
           · intro _; exact ho
           · exact h u hu
       have e2 : turnS b e op s = ⟨s.at_, op s.free⟩ := by unfold turnS; rw [if_pos hin]
       simp only [e1, List.map_cons, e2, List.append_assoc, List.singleton_append]
     · rw [if_neg ho]
       simp only [Option.bind_some]
       rw [if_neg (by decide), if_neg (fun h => ho (h s (by simp) hin))]
   · rw [if_neg hs]
     have hout : ∀ u, u ∈ s :: l → inB b e u.at_ = false := fun u hu => by
       have : e ≤ u.at_ := by
         rcases List.mem_cons.1 hu with rfl | hu
         · omega
         · have := hr.2.mem u hu; omega
       simp only [inB, Bool.and_eq_false_iff, decide_eq_false_iff_not]
       right; omega
     rw [if_pos (fun u hu hi => by rw [hout u hu] at hi; cases hi)]
     have : (s :: l).map (turnS b e op) = s :: l := by
       rw [List.map_congr_left (g := id) (fun u hu => by unfold turnS; rw [hout u hu]; rfl)]
       simp
     rw [this]
theorem turn_before {b e : Int} {op : Res → Res} {l : List Step} (h : ∀ s, s ∈ l → s.at_ < b) : l.map (turnS b e op) = l := by
 rw [List.map_congr_left (g := id) (fun u hu => by
   have := h u hu
   have hi : inB b e u.at_ = false := by simp only [inB, Bool.and_eq_false_iff, decide_eq_false_iff_not]; left; omega
   unfold turnS; rw [hi]; rfl)]
 simp
theorem split_at {b : Int} : ∀ {a : Int} {l : List Step}, Rise a l → Has l b → ∃ pre s post, l = pre ++ s :: post ∧ s.at_ = b ∧ (∀ u, u ∈ pre → u.at_ < b) ∧ Rise (b - 1) (s :: post) ∧ cnt b l = pre.length + 1
 | a, [], _, h => by obtain ⟨s, h, _⟩ := h; simp at h
 | a, u :: l, hr, h => by
   by_cases hu : u.at_ = b
   · exact ⟨[], u, l, rfl, hu, fun v hv => by simp at hv, ⟨by omega, hr.2⟩, by simp only [cnt]; rw [if_pos (by omega), cnt_early hr.2 (by omega)]; rfl⟩
   · have h' : Has l b := by
       obtain ⟨s, h1, h2⟩ := h
       rcases List.mem_cons.1 h1 with rfl | h1
       · exact absurd h2 hu
       · exact ⟨s, h1, h2⟩
     obtain ⟨pre, s, post, rfl, h2, h3, h4, h5⟩ := split_at hr.2 h'
     have hlt : u.at_ < b := by have := hr.2.mem s (by simp); omega
     refine ⟨u :: pre, s, post, rfl, h2, fun v hv => ?_, h4, by simp only [cnt]; rw [if_pos (by omega), h5]; simp⟩
     rcases List.mem_cons.1 hv with rfl | hv
     · exact hlt
     · exact h3 v hv
theorem len_cutT (a t : Int) (f : Res) (l : List Step) : (cutT a f l t).length ≤ l.length + 1 := by
 have key : ∀ (l : List Step) (f : Res), (cutFrom f l t).length ≤ l.length + 1 := by
   intro l
   induction l with
   | nil => intro f; simp [cutFrom]
   | cons u l ih =>
     intro f
     simp only [cutFrom]
     split
     · simpa using ih u.free
     · split <;> simp
 unfold cutT; split
 · omega
 · exact key l f
theorem all_cutT {p : Step → Prop} {a t : Int} {f : Res} {l : List Step} (hf : p ⟨t, f⟩) (hp : ∀ s, s ∈ l → p s ∧ p ⟨t, s.free⟩) : ∀ s, s ∈ cutT a f l t → p s := by
 have key : ∀ (l : List Step) (f : Res), p ⟨t, f⟩ → (∀ s, s ∈ l → p s ∧ p ⟨t, s.free⟩) → ∀ s, s ∈ cutFrom f l t → p s := by
   intro l
   induction l with
   | nil => intro f hf _ s hs; simp [cutFrom] at hs; subst hs; exact hf
   | cons u l ih =>
     intro f hf hp s hs
     simp only [cutFrom] at hs
     split at hs
     · rcases List.mem_cons.1 hs with rfl | hs
       · exact (hp _ (by simp)).1
       · exact ih u.free (hp u (by simp)).2 (fun v hv => hp v (by simp [hv])) s hs
     · split at hs
       · exact (hp s hs).1
       · rcases List.mem_cons.1 hs with rfl | hs
         · exact hf
         · exact (hp s hs).1
 unfold cutT
 split
 · exact fun s hs => (hp s hs).1
 · exact key l f hf hp
def twoT (s : Step) (tl : List Step) (b e : Int) : List Step := cutT s.at_ s.free (cutT s.at_ s.free tl b) e
def right2 (b e : Int) (op : Res → Res) (s : Step) (c : List Step) : Prop := ∀ u, u ∈ s :: c → inB b e u.at_ = true → okR (op u.free) = true
instance (b e : Int) (op : Res → Res) (s : Step) (c : List Step) : Decidable (right2 b e op s c) := by unfold right2; exact inferInstance
def changeR (op : Res → Res) (l : List Step) (b e : Int) (need : Res) : List Step × (Int × Unit) := match l with
 | [] => ([], 2, ())
 | s :: tl => if stepsOk (s :: tl) = true ∧ okR need = true ∧ s.at_ ≤ b ∧ b < e ∧ e ≤ 281474976710656 then
     (if right2 b e op s (twoT s tl b e) then (turnS b e op s :: plainFrom (turnS b e op s).free ((twoT s tl b e).map (turnS b e op)), 0, ()) else ([], 20, ()))
   else ([], 2, ())
def TakeOk (op : Res → Res) (l : List Step) (b e : Int) (need : Res) : Prop := match l with
 | [] => False
 | s :: tl => stepsOk (s :: tl) = true ∧ okR need = true ∧ (s.at_ ≤ b ∧ b < e ∧ e ≤ 281474976710656) ∧ ∀ t, s.at_ ≤ t → inB b e t = true → okR (op (look s.free tl t)) = true
theorem stepsOk_rise {s : Step} {tl : List Step} (h : stepsOk (s :: tl) = true) : Rise (-1) (s :: tl) ∧ ∀ u, u ∈ s :: tl → u.at_ ≤ 281474976710656 ∧ okR u.free = true := by
 unfold stepsOk at h
 simp only [Bool.and_eq_true] at h
 exact rightFrom_rise h.1
theorem two_edges {s : Step} {tl : List Step} {b e : Int} (h1 : s.at_ ≤ b) (h2 : b < e) : Edges b e s.at_ (twoT s tl b e) :=
 ⟨fun h => has_keepT (has_cutT s.free tl h), fun h => has_cutT s.free _ h⟩
theorem two_rise {s : Step} {tl : List Step} {b e : Int} (hr : Rise s.at_ tl) (h1 : s.at_ ≤ b) (h2 : b < e) : Rise s.at_ (twoT s tl b e) := rise_cutT (rise_cutT hr h1) (by omega)
theorem two_look {s : Step} {tl : List Step} {b e t : Int} : look s.free (twoT s tl b e) t = look s.free tl t := by unfold twoT; rw [look_cutT, look_cutT]
theorem right2_iff {op : Res → Res} {s : Step} {tl : List Step} {b e : Int} (hr : Rise s.at_ tl) (h1 : s.at_ ≤ b) (h2 : b < e) :
   right2 b e op s (twoT s tl b e) ↔ ∀ t, s.at_ ≤ t → inB b e t = true → okR (op (look s.free tl t)) = true := by
 have h := all_look (p := fun f => okR (op f) = true) (f := s.free) (two_rise hr h1 h2) (two_edges (tl := tl) h1 h2)
 simp only [two_look] at h
 rw [← h]
 unfold right2
 constructor
 · intro h
   exact ⟨h s (by simp), fun u hu => h u (by simp [hu])⟩
 · rintro ⟨h3, h4⟩ u hu
   rcases List.mem_cons.1 hu with rfl | hu
   · exact h3
   · exact h4 u hu
theorem change_no {op : Res → Res} {l : List Step} {b e : Int} {need : Res} (h : ¬ TakeOk op l b e need) : ¬ (changeR op l b e need).2.1 = 0 := by
 cases l with
 | nil => simp [changeR]
 | cons s tl =>
   simp only [changeR]
   by_cases hc : stepsOk (s :: tl) = true ∧ okR need = true ∧ s.at_ ≤ b ∧ b < e ∧ e ≤ 281474976710656
   · rw [if_pos hc]
     rw [if_neg]
     · simp
     · rw [right2_iff (stepsOk_rise hc.1).1.2 hc.2.2.1 hc.2.2.2.1]
       intro h4
       exact h ⟨hc.1, hc.2.1, ⟨hc.2.2.1, hc.2.2.2.1, hc.2.2.2.2⟩, h4⟩
   · rw [if_neg hc]; simp
theorem change_ok {op : Res → Res} {s : Step} {tl : List Step} {b e : Int} {need : Res} (h : TakeOk op (s :: tl) b e need) :
   ∃ s1 tl1, changeR op (s :: tl) b e need = (s1 :: tl1, 0, ()) ∧ s1.at_ = s.at_ ∧ Rise s.at_ tl1 ∧ Canon s1.free tl1 ∧ stepsOk (s1 :: tl1) = true ∧ ∀ t, s.at_ ≤ t → look s1.free tl1 t = turnR b e op t (look s.free tl t) := by
 obtain ⟨h1, h2, ⟨h3, h4, h5⟩, h6⟩ := h
 have hr := stepsOk_rise h1
 have hr2 := two_rise (b := b) (e := e) hr.1.2 h3 h4
 have h7 := (right2_iff (op := op) hr.1.2 h3 h4).2 h6
 have hmr : Rise s.at_ ((twoT s tl b e).map (turnS b e op)) := rise_turn hr2
 have hl : ∀ t, s.at_ ≤ t → look (turnS b e op s).free (plainFrom (turnS b e op s).free ((twoT s tl b e).map (turnS b e op))) t = turnR b e op t (look s.free tl t) := fun t ht => by
   rw [look_plain hmr, turnS_free, look_turn hr2 (two_edges h3 h4) ht, two_look]
 refine ⟨turnS b e op s, plainFrom (turnS b e op s).free ((twoT s tl b e).map (turnS b e op)), ?_, turnS_at b e op s, rise_plain hmr, canon_plain _ _, ?_, hl⟩
 · simp only [changeR]
   rw [if_pos ⟨h1, h2, h3, h4, h5⟩, if_pos h7]
 · have hp : ∀ u, u ∈ twoT s tl b e → u.at_ ≤ 281474976710656 ∧ okR u.free = true := by
     refine all_cutT (p := fun u => u.at_ ≤ 281474976710656 ∧ okR u.free = true) ⟨by show e ≤ _; omega, (hr.2 s (by simp)).2⟩ ?_
     intro u hu
     have hu' := all_cutT (p := fun u => u.at_ ≤ 281474976710656 ∧ okR u.free = true) (a := s.at_) (t := b) (f := s.free) (l := tl) ⟨by show b ≤ _; omega, (hr.2 s (by simp)).2⟩ (fun v hv => ⟨hr.2 v (by simp [hv]), by show b ≤ _; omega, (hr.2 v (by simp [hv])).2⟩) u hu
     exact ⟨hu', by show e ≤ _; omega, hu'.2⟩
   have hq : ∀ w, w ∈ s :: twoT s tl b e → (turnS b e op w).at_ ≤ 281474976710656 ∧ okR (turnS b e op w).free = true := fun w hw => by
     have hw2 : w.at_ ≤ 281474976710656 ∧ okR w.free = true := by
       rcases List.mem_cons.1 hw with rfl | hw
       · exact hr.2 _ (by simp)
       · exact hp w hw
     rw [turnS_at, turnS_free]
     refine ⟨hw2.1, ?_⟩
     unfold turnR
     split
     · exact h7 w hw (by assumption)
     · exact hw2.2
   unfold stepsOk
   simp only [Bool.and_eq_true, decide_eq_true_eq]
   refine ⟨rightFrom_of ⟨by rw [turnS_at]; exact hr.1.1, by rw [turnS_at]; exact rise_plain hmr⟩ fun v hv => ?_, by simp⟩
   rcases List.mem_cons.1 hv with rfl | hv
   · exact hq s (by simp)
   · obtain ⟨w, hw, rfl⟩ := List.mem_map.1 (mem_plain hv)
     exact hq w (by simp [hw])
theorem len_plain : ∀ (l : List Step) (f : Res), (plainFrom f l).length ≤ l.length
 | [], f => Nat.le_refl _
 | s :: l, f => by
   simp only [plainFrom]
   split
   · have := len_plain l f; simp; omega
   · have := len_plain l s.free; simp; omega
theorem len_change (op : Res → Res) (l : List Step) (b e : Int) (need : Res) : (changeR op l b e need).1.length ≤ l.length + 2 := by
 cases l with
 | nil => simp [changeR]
 | cons s tl =>
   simp only [changeR]
   split
   · split
     · have h1 := len_plain ((twoT s tl b e).map (turnS b e op)) (turnS b e op s).free
       have h2 := len_cutT s.at_ e s.free (cutT s.at_ s.free tl b)
       have h3 := len_cutT s.at_ b s.free tl
       simp only [List.length_map, twoT] at h1
       simp only [List.length_cons]
       simp only [twoT]
       omega
     · simp
   · simp
theorem look_ok {t : Int} : ∀ {f : Res} {l : List Step}, okR f = true → (∀ u, u ∈ l → okR u.free = true) → okR (look f l t) = true
 | f, [], h, _ => h
 | f, u :: l, h, hl => by
   simp only [look]
   split
   · exact look_ok (hl u (by simp)) fun v hv => hl v (by simp [hv])
   · exact h
theorem okR_iff (x : Res) : okR x = true ↔ (0 ≤ x.cpu ∧ x.cpu ≤ 1048576) ∧ (0 ≤ x.mem ∧ x.mem ≤ 1048576) ∧ (0 ≤ x.gpu ∧ x.gpu ≤ 1048576) ∧ (0 ≤ x.lic ∧ x.lic ≤ 1048576) := by
 unfold okR okN
 simp only [Bool.and_eq_true, decide_eq_true_eq]
 constructor
 · rintro ⟨⟨⟨a, b⟩, c⟩, d⟩; exact ⟨a, b, c, d⟩
 · rintro ⟨a, b, c, d⟩; exact ⟨⟨⟨a, b⟩, c⟩, d⟩
theorem take_by (need x : Res) (hn : okR need = true) (hx : okR x = true) : f109 x need = chg (fun x => subR x need) x := by
 unfold f109 vecSub sumG chg
 rw [if_pos hx, if_pos hn]
 unfold withinG
 by_cases h : okR (subR x need) = true
 · simp [h]
 · simp [h]
theorem take_loop (need : Res) (e : Int) (z : List Step) (i : Nat) (hi : i ≤ z.length) (hz : z.length ≤ 900) :
   LN LOOPS (fun (s10 : ((Unit × (Unit × (Int × Unit))) × (Res × ((List Step) × Unit)))) nx11 => l170_0 f109 f188 e nx11 s10.1.2.2.1 s10.2.1 s10.2.2.1) (((), (), (i : Int), ()), (need, z, ())) = goT (fun x => f109 x need) f188 e (z.take i) (z.drop i) := by
 have key := loop_eq (f := fun (s10 : ((Unit × (Unit × (Int × Unit))) × (Res × ((List Step) × Unit)))) nx11 => l170_0 f109 f188 e nx11 s10.1.2.2.1 s10.2.1 s10.2.2.1)
   (I := fun s => 0 ≤ s.1.2.2.1 ∧ s.1.2.2.1 ≤ (s.2.2.1.length : Int) ∧ s.2.2.1.length ≤ 900 ∧ s.2.1 = need) (m := fun s => s.2.2.1.length - s.1.2.2.1.toNat)
   (R := fun s => goT (fun x => f109 x need) f188 e (s.2.2.1.take s.1.2.2.1.toNat) (s.2.2.1.drop s.1.2.2.1.toNat)) (s := (((), (), (i : Int), ()), (need, z, ()))) ?_ ⟨by simp only; omega, by simp only; omega, hz, rfl⟩ (by show z.length - _ < LOOPS; unfold LOOPS; omega)
 · refine key.trans ?_
   simp only [Int.toNat_natCast]
 · rintro ⟨⟨u1, u2, j, u3⟩, ⟨nd, y, u4⟩⟩ next ⟨h1, h2, h3, h4⟩ hn
   simp only at h1 h2 h3 h4 ⊢
   subst h4
   unfold l170_0
   by_cases hj : j.toNat < y.length
   · have hg : y[j.toNat]? = some y[j.toNat] := List.getElem?_eq_getElem hj
     have hd : y.drop j.toNat = y[j.toNat] :: y.drop (j.toNat + 1) := List.drop_eq_getElem_cons hj
     have w : IntKind.wrap .i64 (j + 1) = j + 1 := wi (by omega) (by omega)
     simp only [h1, hj, hg, hd, decide_true, cond_true, Option.bind_some, w, goT]
     by_cases ht : y[j.toNat].at_ < e
     · simp only [ht, decide_true, cond_true, if_true]
       cases hr : f109 y[j.toNat].free nd with
       | none => rfl
       | some r =>
         simp only [Option.bind_some]
         by_cases hr0 : r.2.1 = 0
         · simp only [hr0, decide_true, Bool.not_true, cond_false, if_true]
           rw [hn _ ⟨by simp only; omega, by simp only [List.length_set]; omega, by simp only [List.length_set]; omega, rfl⟩ (by simp only [List.length_set]; omega)]
           simp only
           have e1 : (j + 1).toNat = j.toNat + 1 := by omega
           rw [e1]
           have e2 : (y.set j.toNat ⟨y[j.toNat].at_, r.1⟩).take (j.toNat + 1) = y.take j.toNat ++ [⟨y[j.toNat].at_, r.1⟩] := by
             rw [List.take_add_one, List.take_set_of_le (Nat.le_refl _)]
             simp [hj]
           have e3 : (y.set j.toNat ⟨y[j.toNat].at_, r.1⟩).drop (j.toNat + 1) = y.drop (j.toNat + 1) := List.drop_set_of_lt (by omega)
           rw [e2, e3]
         · simp only [hr0, decide_false, Bool.not_false, cond_true, if_false]
     · simp only [ht, decide_false, cond_false, if_false]
       rw [← hd, List.take_append_drop]
   · have hd : y.drop j.toNat = [] := List.drop_of_length_le (by omega)
     simp only [h1, hj, hd, decide_true, decide_false, cond_true, cond_false, goT]
theorem take_change (l : List Step) (b e : Int) (need : Res) (hl : l.length ≤ 800) : f170 l b e need = some (changeR (fun x => subR x need) l b e need) := by
 have hml : maxLen = 9223372036854775807 := rfl
 unfold f170 F170
 simp only [p_Right _ (show l.length ≤ maxLen by omega), Option.bind_some, p_vecRight]
 cases l with
 | nil => rfl
 | cons s tl =>
   simp only [changeR]
   cases hok : stepsOk (s :: tl) with
   | false => simp
   | true =>
     cases hnd : okR need with
     | false => simp
     | true =>
       simp only [Bool.not_true, cond_false, List.getElem?_cons_zero, Option.bind_some, true_and]
       by_cases c1 : b < s.at_
       · simp [c1, show ¬ s.at_ ≤ b by omega]
       · by_cases c2 : e ≤ b
         · simp [c1, c2, show ¬ b < e by omega]
         · by_cases c3 : 281474976710656 < e
           · simp [c1, c2, c3, show ¬ e ≤ 281474976710656 by omega]
           · rw [if_pos ⟨by omega, by omega, by omega⟩]
             simp only [c1, c2, c3, decide_false, cond_false]
             have hrf : rightFrom (-1) (s :: tl) = true := by unfold stepsOk at hok; simp only [Bool.and_eq_true] at hok; exact hok.1
             obtain ⟨hr, hall⟩ := rightFrom_rise hrf
             have hlt : tl.length + 1 ≤ 800 := by simpa using hl
             have hl1 := len_cutT s.at_ b s.free tl
             have hr1 : Rise s.at_ (cutT s.at_ s.free tl b) := rise_cutT hr.2 (by omega)
             have hl2 := len_cutT s.at_ e s.free (cutT s.at_ s.free tl b)
             have hr2 : Rise s.at_ (twoT s tl b e) := rise_cutT hr1 (by omega)
             have hp : ∀ u, u ∈ twoT s tl b e → u.at_ ≤ 281474976710656 ∧ okR u.free = true := by
               refine all_cutT (p := fun u => u.at_ ≤ 281474976710656 ∧ okR u.free = true) ⟨by show e ≤ _; omega, (hall s (by simp)).2⟩ ?_
               intro u hu
               have hu' := all_cutT (p := fun u => u.at_ ≤ 281474976710656 ∧ okR u.free = true) (a := s.at_) (t := b) (f := s.free) (l := tl) ⟨by show b ≤ _; omega, (hall s (by simp)).2⟩ (fun v hv => ⟨hall v (by simp [hv]), by show b ≤ _; omega, (hall v (by simp [hv])).2⟩) u hu
               exact ⟨hu', by show e ≤ _; omega, hu'.2⟩
             have hz : (s :: twoT s tl b e).length ≤ 900 := by simp only [List.length_cons, twoT]; omega
             have hrr : Rise (-1) (s :: twoT s tl b e) := ⟨hr.1, hr2⟩
             have hb : Has (s :: twoT s tl b e) b := by
               by_cases hsb : s.at_ = b
               · exact ⟨s, by simp, hsb⟩
               · obtain ⟨v, h1, h2⟩ := has_keepT (a := s.at_) (t := e) (f := s.free) (has_cutT (a := s.at_) (t := b) s.free tl (by omega))
                 exact ⟨v, by simp only [List.mem_cons]; exact .inr h1, h2⟩
             have he : Has (s :: twoT s tl b e) e := by
               obtain ⟨v, h1, h2⟩ := has_cutT (a := s.at_) (t := e) s.free (cutT s.at_ s.free tl b) (by omega)
               exact ⟨v, by simp only [List.mem_cons]; exact .inr h1, h2⟩
             rw [p_cut hr (by omega) (show (s :: tl).length ≤ 900 by simp; omega)]
             simp only [Option.bind_some]
             rw [p_cut (a := -1) ⟨hr.1, hr1⟩ (by omega) (show (s :: cutT s.at_ s.free tl b).length ≤ 900 by simp; omega)]
             simp only [Option.bind_some]
             change Option.bind (f172 (s :: twoT s tl b e) b) _ = _
             rw [p_find _ b hrr (by omega)]
             simp only [Option.bind_some]
             obtain ⟨pre, u, post, hs1, hs2, hs3, hs4, hs5⟩ := split_at hrr hb
             have hcn : ((cnt b (s :: twoT s tl b e) : Int) - 1) = (pre.length : Int) := by rw [hs5]; omega
             rw [hcn]
             refine (take_loop need e (s :: twoT s tl b e) pre.length (by rw [hs1]; simp) hz).trans ?_
             have ht : (s :: twoT s tl b e).take pre.length = pre := by rw [hs1]; simp
             have hd : (s :: twoT s tl b e).drop pre.length = u :: post := by rw [hs1]; simp
             rw [ht, hd]
             have hall2 : ∀ v, v ∈ s :: twoT s tl b e → v.at_ ≤ 281474976710656 ∧ okR v.free = true := fun v hv => by
               rcases List.mem_cons.1 hv with rfl | hv
               · exact hall _ (by simp)
               · exact hp v hv
             have he' : Has (u :: post) e := by
               obtain ⟨v, h1, h2⟩ := he
               rw [hs1] at h1
               rcases List.mem_append.1 h1 with h1 | h1
               · have := hs3 v h1; omega
               · exact ⟨v, h1, h2⟩
             rw [goT_eq (b := b) (op := fun x => subR x need) (fun x hx => take_by need x hnd hx) hs4 (by omega) he' (fun v hv => (hall2 v (by rw [hs1]; exact List.mem_append_right _ hv)).2)]
             have hmap : pre ++ (u :: post).map (turnS b e (fun x => subR x need)) = (s :: twoT s tl b e).map (turnS b e (fun x => subR x need)) := by
               rw [hs1, List.map_append, turn_before hs3]
             rw [hmap]
             have hcond : (∀ v, v ∈ u :: post → inB b e v.at_ = true → okR (subR v.free need) = true) ↔ right2 b e (fun x => subR x need) s (twoT s tl b e) := by
               unfold right2
               constructor
               · intro h v hv hi
                 rw [hs1] at hv
                 rcases List.mem_append.1 hv with hv | hv
                 · have := hs3 v hv
                   simp only [inB, Bool.and_eq_true, decide_eq_true_eq] at hi
                   omega
                 · exact h v hv hi
               · intro h v hv hi
                 exact h v (by rw [hs1]; exact List.mem_append_right _ hv) hi
             by_cases hc : right2 b e (fun x => subR x need) s (twoT s tl b e)
             · rw [if_pos (hcond.2 hc), if_pos hc]
               have hsk : stepsOk ((s :: twoT s tl b e).map (turnS b e (fun x => subR x need))) = true := by
                 unfold stepsOk
                 simp only [Bool.and_eq_true, decide_eq_true_eq]
                 refine ⟨rightFrom_of (rise_turn hrr) fun v hv => ?_, by simp⟩
                 obtain ⟨w, hw, rfl⟩ := List.mem_map.1 hv
                 rw [turnS_at, turnS_free]
                 refine ⟨(hall2 w hw).1, ?_⟩
                 unfold turnR
                 split
                 · exact hc w hw (by assumption)
                 · exact (hall2 w hw).2
               rw [List.map_cons] at hsk ⊢
               rw [p_Plain hsk (by simpa using hz)]
               rfl
             · rw [if_neg (fun h => hc (hcond.1 h)), if_neg hc]
theorem p_Take (l : List Step) (b e : Int) (need : Res) (hl : l.length ≤ 800) : f126 l b e need = some (changeR (fun x => subR x need) l b e need) := by
 unfold f126 F126
 simp only [take_change l b e need hl, Option.bind_some]
theorem find_spec {b : Int} : ∀ {tl : List Step} {s : Step}, Rise s.at_ tl → s.at_ ≤ b → ∃ u post, (s :: tl)[cnt b (s :: tl) - 1]? = some u ∧ (s :: tl).drop (cnt b (s :: tl)) = post ∧ 0 < cnt b (s :: tl) ∧ Rise b post ∧ ∀ t, b ≤ t → look s.free tl t = look u.free post t
 | [], s, hr, hs => ⟨s, [], by simp [cnt, hs], by simp [cnt, hs], by simp [cnt, hs], trivial, fun t _ => rfl⟩
 | v :: tl, s, hr, hs => by
   by_cases hv : v.at_ ≤ b
   · obtain ⟨u, post, h1, h2, h0, h3, h4⟩ := find_spec hr.2 hv
     have hc : cnt b (s :: v :: tl) = cnt b (v :: tl) + 1 := by simp only [cnt]; rw [if_pos hs]
     refine ⟨u, post, ?_, ?_, by omega, h3, fun t ht => ?_⟩
     · rw [hc, Nat.add_sub_cancel]
       obtain ⟨n, hn⟩ : ∃ n, cnt b (v :: tl) = n + 1 := ⟨cnt b (v :: tl) - 1, by omega⟩
       rw [hn] at h1 ⊢
       simpa using h1
     · rw [hc]; simpa using h2
     · rw [← h4 t ht]
       simp only [look]
       rw [if_pos (by omega)]
   · have hc : cnt b (s :: v :: tl) = 1 := by simp only [cnt]; rw [if_pos hs, if_neg hv]
     exact ⟨s, v :: tl, by simp [hc], by simp [hc], by omega, ⟨by omega, hr.2⟩, fun t _ => rfl⟩
def leastR (a b : Res) : Res := ⟨if b.cpu < a.cpu then b.cpu else a.cpu, if b.mem < a.mem then b.mem else a.mem, if b.gpu < a.gpu then b.gpu else a.gpu, if b.lic < a.lic then b.lic else a.lic⟩
def runLeast (e : Int) : Res → List Step → Res
 | acc, [] => acc
 | acc, s :: l => if e ≤ s.at_ then acc else runLeast e (leastR acc s.free) l
theorem least_run (c : Res → Int) (hc : ∀ a b, c (leastR a b) = if c b < c a then c b else c a) (e : Int) : ∀ {l : List Step} {a : Int} {acc : Res}, Rise a l →
   c (runLeast e acc l) ≤ c acc ∧ (∀ s, s ∈ l → s.at_ < e → c (runLeast e acc l) ≤ c s.free) ∧ (c (runLeast e acc l) = c acc ∨ ∃ s, s ∈ l ∧ s.at_ < e ∧ c (runLeast e acc l) = c s.free)
 | [], a, acc, _ => ⟨Int.le_refl _, fun s h => by simp at h, .inl rfl⟩
 | s :: l, a, acc, hr => by
   simp only [runLeast]
   by_cases he : e ≤ s.at_
   · rw [if_pos he]
     refine ⟨Int.le_refl _, fun u hu h => ?_, .inl rfl⟩
     rcases List.mem_cons.1 hu with rfl | hu
     · omega
     · have := hr.2.mem u hu; omega
   · rw [if_neg he]
     obtain ⟨h1, h2, h3⟩ := least_run c hc e (acc := leastR acc s.free) hr.2
     have h4 := hc acc s.free
     refine ⟨?_, fun u hu h => ?_, ?_⟩
     · split at h4 <;> omega
     · rcases List.mem_cons.1 hu with rfl | hu
       · split at h4 <;> omega
       · exact h2 u hu h
     · rcases h3 with h3 | ⟨u, hu, h5, h6⟩
       · split at h4
         · exact .inr ⟨s, by simp, by omega, by omega⟩
         · exact .inl (by omega)
       · exact .inr ⟨u, by simp [hu], h5, h6⟩
theorem look_cases {t : Int} : ∀ {f : Res} {l : List Step}, look f l t = f ∨ ∃ s, s ∈ l ∧ s.at_ ≤ t ∧ look f l t = s.free
 | f, [] => .inl rfl
 | f, s :: l => by
   simp only [look]
   split
   · rcases look_cases (t := t) (f := s.free) (l := l) with h | ⟨u, h1, h2, h3⟩
     · exact .inr ⟨s, by simp, by assumption, h⟩
     · exact .inr ⟨u, by simp [h1], h2, h3⟩
   · exact .inl rfl
def IsLeast (V : Int → Res) (b e : Int) (r : Res) (c : Res → Int) : Prop := (∀ t, b ≤ t → t < e → c r ≤ c (V t)) ∧ ∃ t, b ≤ t ∧ t < e ∧ c r = c (V t)
theorem p_Least {s : Step} {tl : List Step} {b e : Int} (hok : stepsOk (s :: tl) = true) (hl : (s :: tl).length ≤ 900) (h1 : s.at_ ≤ b) (h2 : b < e) :
   ∃ r, f128 (s :: tl) b e = some r ∧ ∀ c : Res → Int, (∀ a b, c (leastR a b) = if c b < c a then c b else c a) → IsLeast (look s.free tl) b e r c := by
 have hml : maxLen = 9223372036854775807 := rfl
 have hr := (stepsOk_rise hok).1
 obtain ⟨u, post, k1, k2, k0, k3, k4⟩ := find_spec (b := b) hr.2 h1
 have hcl := cnt_le b (s :: tl)
 refine ⟨runLeast e u.free post, ?_, fun c hc => ?_⟩
 · unfold f128 F128
   have hi : ((cnt b (s :: tl) : Int) - 1).toNat = cnt b (s :: tl) - 1 := by omega
   have w : IntKind.wrap .i64 ((cnt b (s :: tl) : Int) - 1 + 1) = (cnt b (s :: tl) : Int) := by rw [wi (by omega) (by omega)]; omega
   simp only [p_Right _ (show (s :: tl).length ≤ maxLen by omega), hok, Option.bind_some, Bool.not_true, cond_false, List.getElem?_cons_zero, show ¬ b < s.at_ by omega, show ¬ e ≤ b by omega, decide_false, p_find _ b hr (by omega), show (0 : Int) ≤ (cnt b (s :: tl) : Int) - 1 by omega, decide_true, cond_true, hi, k1, w, show (0 : Int) ≤ (cnt b (s :: tl) : Int) by omega, Int.toNat_natCast, hcl]
   have hpl : post.length ≤ maxLen := by rw [← k2]; simp only [List.length_drop]; omega
   have key := list_loop (f := fun (s7 : ((Unit × (Unit × (Int × Unit))) × (Res × (Res × Unit)))) nx8 => l128_0 f173 (s :: tl) e ((cnt b (s :: tl) : Int) - 1) nx8 s7.1.2.2.1 s7.2.1 s7.2.2.1) post (fun acc z => (((), (), z, ()), (Res.mk 0 0 0 0, acc, ()))) (fun acc y => if e ≤ y.at_ then .inr (some acc) else .inl (leastR acc y.free)) (fun acc => some acc) hpl
     (fun acc next => by simp only [l128_0, w, Int.toNat_natCast, k2]; simp)
     (fun acc z y next g0 g1 g2 g3 => by
       have hv : f173 acc y.free = some (leastR acc y.free) := rfl
       simp only [l128_0, w, Int.toNat_natCast, k2, g0, g1, g2, g3, decide_true, cond_true, Option.bind_some, hv]
       by_cases hy : e ≤ y.at_
       · simp only [hy, decide_true, cond_true, if_true]
       · simp only [hy, decide_false, cond_false, if_false]) u.free
   refine key.trans ?_
   have er : ∀ (l : List Step) (acc : Res), runL (fun acc (y : Step) => if e ≤ y.at_ then .inr (some acc) else .inl (leastR acc y.free)) (fun acc => some acc) l acc = some (runLeast e acc l) := by
     intro l
     induction l with
     | nil => intro acc; rfl
     | cons y l ih =>
       intro acc
       simp only [runL, runLeast]
       by_cases hy : e ≤ y.at_
       · simp only [hy, if_true]
       · simp only [hy, if_false]; exact ih _
   exact er post u.free
 · obtain ⟨q1, q2, q3⟩ := least_run c hc e (acc := u.free) k3
   refine ⟨fun t ht hte => ?_, ?_⟩
   · rw [k4 t ht]
     rcases look_cases (t := t) (f := u.free) (l := post) with h | ⟨v, g1, g2, g3⟩
     · rw [h]; exact q1
     · rw [g3]; exact q2 v g1 (by omega)
   · rcases q3 with q3 | ⟨v, g1, g2, g3⟩
     · exact ⟨b, Int.le_refl b, h2, by rw [k4 b (Int.le_refl b), look_early k3 (Int.le_refl b)]; exact q3⟩
     · have hv := k3.mem v g1
       exact ⟨v.at_, by omega, g2, by rw [k4 v.at_ (by omega), look_mem k3 v g1]; exact g3⟩
end NM
end Go.Proofs.Ytmnhkpekmgobbaa
end
