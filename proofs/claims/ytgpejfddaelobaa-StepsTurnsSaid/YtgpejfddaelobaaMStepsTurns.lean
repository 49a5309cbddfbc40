/-
  The statement StepsTurns about plain data.
-/
import Derived.Test.YtgpejfddaelobaaPStepsE
import Derived.KernelRfl
set_option linter.unusedVariables false
set_option linter.unusedSimpArgs false
namespace Go.Proofs.Ytgpejfddaelobaa
namespace NM
open AM
theorem r_Num (n : Int) : f34 n = some (decide (0 ≤ n) && decide (n ≤ 281474976710656)) := by
  unfold f34 F34
  by_cases h : 0 ≤ n <;> simp [h]
theorem r_one (n : Int) : f85 n = some (okN n) := by
  unfold f85 F85 okN
  by_cases h : 0 ≤ n <;> simp [h]
theorem r_vRight (a : Res) : f35 a = some (okR a) := by
  unfold f35 F35 okR
  simp only [r_one, Option.bind_some]
  cases okN a.cpu <;> cases okN a.mem <;> cases okN a.gpu <;> cases okN a.lic <;> rfl
theorem run_right (q : Bool) : ∀ (l : List Step) (a : Int), runL (fun a s => cond (decide (a < s.at_) && (decide (s.at_ ≤ 281474976710656) && okR s.free)) (.inl s.at_) (.inr (some false))) (fun _ => some q) l a = some (rightFrom a l && q)
  | [], a => rfl
  | s :: l, a => by
    simp only [runL, rightFrom]
    by_cases c1 : a < s.at_
    · by_cases c2 : s.at_ ≤ 281474976710656
      · cases c3 : okR s.free with
        | true => simp only [c1, c2, decide_true, Bool.and_self, cond_true, Bool.true_and]; exact run_right q l s.at_
        | false => simp [c1, c2]
      · simp [c1, c2]
    · simp [c1]
theorem r_Right (l : List Step) (hl : l.length ≤ maxLen) : f36 l = some (stepsOk l) := by
  have hml : maxLen = 9223372036854775807 := rfl
  unfold f36 F36 stepsOk
  have key := list_loopI (β := Int) (f := fun (s1 : ((Int × Unit) × Unit)) nx2 => l36_0 f34 f35 l nx2 s1.1.1) l (fun _ z => ((z, ()), ())) (fun b z => (z = 0 ∧ b = -1) ∨ (0 < z ∧ 0 ≤ b ∧ ∃ y, l[(z - 1).toNat]? = some y ∧ y.at_ = b)) (fun a s => cond (decide (a < s.at_) && (decide (s.at_ ≤ 281474976710656) && okR s.free)) (.inl s.at_) (.inr (some false))) (fun _ => some (decide (0 < l.length))) hl
    (fun b next _ => by simp [l36_0])
    (fun b z x next hI h0 h1 h2 h3 => by
      simp only [l36_0, h0, h1, h2, h3, decide_true, cond_true, Option.bind_some, r_Num, r_vRight]
      have hnx : ∀ (h : b < x.at_), (z + 1 = 0 ∧ x.at_ = -1) ∨ (0 < z + 1 ∧ 0 ≤ x.at_ ∧ ∃ y, l[(z + 1 - 1).toNat]? = some y ∧ y.at_ = x.at_) := fun h => .inr ⟨by omega, by rcases hI with ⟨_, hb⟩ | ⟨_, hb, _⟩ <;> omega, x, by rw [show z + 1 - 1 = z by omega]; exact h2, rfl⟩
      by_cases c0 : 0 ≤ x.at_
      · by_cases c2 : x.at_ ≤ 281474976710656
        · cases c3 : okR x.free with
          | false => simp [c0, c2]
          | true =>
            simp only [c0, c2, decide_true, Bool.and_self, Bool.not_true, cond_false, Bool.and_true]
            rcases hI with ⟨rfl, rfl⟩ | ⟨hz, hb, y, hy, rfl⟩
            · simp only [show (-1 : Int) < x.at_ by omega, decide_true, cond_true, show ¬ (0 : Int) < 0 by omega, decide_false, cond_false]
              exact ⟨hnx (by omega), trivial⟩
            · have w : IntKind.wrap .i64 (z - 1) = z - 1 := wi (by omega) (by omega)
              simp only [hz, decide_true, cond_true, w, show (0 : Int) ≤ z - 1 by omega, hy, Option.bind_some]
              by_cases c1 : y.at_ < x.at_
              · simp only [c1, decide_true, cond_true, show ¬ x.at_ ≤ y.at_ by omega, decide_false, cond_false]
                exact ⟨hnx c1, trivial⟩
              · simp [c1, show x.at_ ≤ y.at_ by omega]
        · simp [c0, c2]
      · have : ¬ b < x.at_ := by rcases hI with ⟨_, hb⟩ | ⟨_, hb, _⟩ <;> omega
        simp [c0, this]) (-1) (.inl ⟨rfl, rfl⟩)
  refine key.trans ?_
  rw [run_right]

/-- what holds at a time, where nothing holds ahead of the list -/
def atR (l : List Step) (t : Int) : Res := match l with
  | [] => zeroR
  | s :: tl => if t < s.at_ then zeroR else look s.free tl t
theorem look_rev {t : Int} : ∀ {a : Int} {l : List Step} {f : Res} {n : Nat}, Rise a l → (∀ k x, n ≤ k → l[k]? = some x → t < x.at_) → n ≤ l.length →
    look f l t = match n with
      | 0 => f
      | m + 1 => match l[m]? with
        | some x => if x.at_ ≤ t then x.free else look f (l.take m) t
        | none => f
  | a, [], f, n, hr, hn, hl => by
    have : n = 0 := by simpa using hl
    subst this; rfl
  | a, s :: l, f, 0, hr, hn, hl => by
    have := hn 0 s (Nat.le_refl _) rfl
    simp only [look]
    rw [if_neg (by omega)]
  | a, s :: l, f, 1, hr, hn, hl => by
    simp only [look, List.getElem?_cons_zero, List.take_zero]
    by_cases h : s.at_ ≤ t
    · rw [if_pos h, if_pos h]
      cases l with
      | nil => rfl
      | cons u l => have := hn 1 u (Nat.le_refl _) rfl; simp only [look]; rw [if_neg (by omega)]
    · rw [if_neg h, if_neg h]
  | a, s :: l, f, n + 2, hr, hn, hl => by
    have ih := look_rev (t := t) (f := s.free) (n := n + 1) hr.2 (fun k x hk hx => hn (k + 1) x (by omega) (by simpa using hx)) (by simpa using hl)
    have hlt : n < l.length := by simp at hl; omega
    have hg : l[n]? = some l[n] := List.getElem?_eq_getElem hlt
    simp only [hg] at ih
    simp only [List.getElem?_cons_succ, hg, List.take_succ_cons, look]
    have hm := hr.2.mem _ (List.getElem_mem hlt)
    by_cases h : s.at_ ≤ t
    · rw [if_pos h, ih, if_pos h]
    · rw [if_neg h, if_neg h, if_neg (by omega)]
theorem r_At {a : Int} {l : List Step} (t : Int) (hr : Rise a l) (hl : l.length ≤ 1000) : f42 l t = some (match l with | [] => zeroR | s :: tl => if t < s.at_ then zeroR else look s.free tl t) := by
  unfold f42 F42
  have hzero : (if (1 : Int) ≤ 0 then zeroR else zeroR) = zeroR := rfl
  -- the steps from n on are later than t
  have key : ∀ (n : Nat), n ≤ l.length → (∀ k x, n ≤ k → l[k]? = some x → t < x.at_) → ∀ m, n < m → loopN (fun (s2 : ((Unit × (Int × Unit)) × (Res × Unit))) nx3 => l42_0 l t nx3 s2.1.2.1 s2.2.1) m (((), (n : Int) - 1, ()), (Res.mk 0 0 0 0, ())) = some (look zeroR l t) := by
    intro n
    induction n with
    | zero =>
      intro _ hn m hm
      obtain ⟨m, rfl⟩ : ∃ m', m = m' + 1 := ⟨m - 1, by omega⟩
      simp only [loopN, l42_0]
      rw [show decide ((0 : Int) ≤ ((0 : Nat) : Int) - 1) = false from rfl]
      simp only [cond_false]
      rw [look_rev (n := 0) hr hn (Nat.zero_le _)]
      rfl
    | succ n ih =>
      intro hnl hn m hm
      obtain ⟨m, rfl⟩ : ∃ m', m = m' + 1 := ⟨m - 1, by omega⟩
      have hlt : n < l.length := by omega
      have hg : l[n]? = some l[n] := List.getElem?_eq_getElem hlt
      have hi : (((n + 1 : Nat) : Int) - 1) = (n : Int) := by omega
      simp only [loopN, l42_0, hi, show (0 : Int) ≤ (n : Int) by omega, decide_true, cond_true, Int.toNat_natCast, hg, Option.bind_some]
      by_cases h : l[n].at_ ≤ t
      · simp only [h, decide_true, cond_true]
        have := look_rev (f := zeroR) (t := t) (n := n + 1) hr hn hnl
        simp only [hg, h, if_true] at this
        rw [this]
      · simp only [h, decide_false, cond_false, wi (show (-9223372036854775808 : Int) ≤ (n : Int) - 1 by omega) (by omega)]
        refine ih (by omega) (fun k x hk hx => ?_) m (by omega)
        rcases Nat.lt_or_ge n k with h2 | h2
        · exact hn k x h2 hx
        · have : k = n := by omega
          subst this
          rw [hg] at hx; cases hx; omega
  have w : IntKind.wrap .i64 ((l.length : Int) - 1) = (l.length : Int) - 1 := wi (by omega) (by omega)
  have := key l.length (Nat.le_refl _) (fun k x hk hx => by rw [List.getElem?_eq_none hk] at hx; cases hx) LOOPS (by unfold LOOPS; omega)
  rw [w]
  refine this.trans ?_
  cases l with
  | nil => rfl
  | cons s tl =>
    simp only [look]
    by_cases h : s.at_ ≤ t
    · rw [if_pos h, if_neg (by omega)]
    · rw [if_neg h, if_pos (by omega)]
theorem r_Plain {s : Step} {tl : List Step} (hl : (s :: tl).length ≤ 900) : f43 (s :: tl) = some (s :: plainFrom s.free tl) := by
  have hml : maxLen = 9223372036854775807 := rfl
  unfold f43 F43
  have key := list_loopI (β := List Step × Res) (f := fun (s1 : ((Unit × (Int × Unit)) × ((List Step) × Unit))) nx2 => l43_0 (s :: tl) nx2 s1.1.2.1 s1.2.1) (s :: tl) (fun b z => (((), z, ()), (b.1, ())))
    (fun b z => (b.1.length : Int) ≤ z ∧ (z = 0 ∧ b.1 = [] ∨ 0 < z ∧ b.1 ≠ [] ∧ ∃ y, (s :: tl)[(z - 1).toNat]? = some y ∧ y.free = b.2))
    (fun b y => .inl (if b.1 ≠ [] ∧ y.free = b.2 then (b.1, y.free) else (b.1 ++ [y], y.free))) (fun b => some b.1) (by omega)
    (fun b next _ => by simp [l43_0])
    (fun b z y next hI h0 h1 h2 h3 => by
      obtain ⟨hlen, hI⟩ := hI
      have hsm : smallB (b.1.length + 1) 40 = true := small40 (by simp only [List.length_cons] at h1 hl; omega)
      rcases hI with ⟨rfl, hb⟩ | ⟨hz, hb, u, hu, hf⟩
      · simp only [l43_0, h1, h2, h3, decide_true, cond_true, Option.bind_some, show smallB (([] : List Step).length + 1) 40 = true from rfl, hb, ne_eq, not_true_eq_false, false_and, if_false]
        exact ⟨⟨by simp, .inr ⟨by omega, by simp, y, by simpa using h2, rfl⟩⟩, rfl⟩
      · have w : IntKind.wrap .i64 (z - 1) = z - 1 := wi (by omega) (by omega)
        simp only [l43_0, h0, h1, h2, h3, decide_true, cond_true, Option.bind_some, hsm, show ¬ z = 0 by omega, decide_false, cond_false, w, show (0 : Int) ≤ z - 1 by omega, hu, resEqB, hf]
        by_cases c : y.free = b.2
        · simp only [c, decide_true, Bool.not_true, cond_false, ne_eq, hb, not_false_eq_true, and_self, if_true]
          exact ⟨⟨by omega, .inr ⟨by omega, (by first | exact hb | trivial), y, by rw [show z + 1 - 1 = z by omega]; exact h2, c⟩⟩, trivial⟩
        · simp only [c, decide_false, Bool.not_false, cond_true, and_false, if_false]
          exact ⟨⟨by simp; omega, .inr ⟨by omega, by simp, y, by rw [show z + 1 - 1 = z by omega]; exact h2, rfl⟩⟩, trivial⟩) ([], zeroR) ⟨by simp, .inl ⟨rfl, rfl⟩⟩
  refine key.trans ?_
  rw [runL_fold]
  have e : ∀ (l : List Step) (pre : List Step) (f : Res), pre ≠ [] → (l.foldl (fun (b : List Step × Res) (y : Step) => if b.1 ≠ [] ∧ y.free = b.2 then (b.1, y.free) else (b.1 ++ [y], y.free)) (pre, f)).1 = pre ++ plainFrom f l := by
    intro l
    induction l with
    | nil => intro pre f _; simp [plainFrom]
    | cons y l ih =>
      intro pre f hp
      simp only [List.foldl_cons, plainFrom]
      by_cases hf : y.free = f
      · rw [if_pos ⟨hp, hf⟩, if_pos hf, ih pre _ hp, hf]
      · rw [if_neg (fun h => hf h.2), if_neg hf, ih _ _ (by simp)]; simp
  simp only [List.foldl_cons, ne_eq, not_true_eq_false, false_and, if_false, List.nil_append]
  rw [e tl [s] s.free (by simp)]
  rfl
end NM
end Go.Proofs.Ytgpejfddaelobaa
set_option linter.unusedVariables false
set_option linter.unusedSimpArgs false
namespace Go.Proofs.Ytgpejfddaelobaa
namespace NM
open AM
/-- a number laid into a rising list, once -/
def insS (a : Int) : List Int → List Int
  | [] => [a]
  | x :: l => if x < a then x :: insS a l else if x = a then x :: l else a :: x :: l
theorem insS_mem {a x : Int} : ∀ {l : List Int}, x ∈ insS a l ↔ x = a ∨ x ∈ l
  | [] => by simp [insS]
  | y :: l => by
    simp only [insS]
    split
    · simp only [List.mem_cons, insS_mem (l := l)]
      constructor
      · rintro (h | h | h) <;> simp [h]
      · rintro (h | h | h) <;> simp [h]
    · split
      · rename_i h; subst h; simp
      · simp
theorem insS_len (a : Int) : ∀ l : List Int, (insS a l).length ≤ l.length + 1
  | [] => by simp [insS]
  | y :: l => by
    have := insS_len a l
    simp only [insS]
    split
    · simp; omega
    · split <;> simp
theorem small8 {n : Nat} (h : n ≤ 1000) : smallB n 8 = true := by
  unfold smallB
  simp only [Bool.and_eq_true, decide_eq_true_eq]
  omega
/-- one number is laid in -/
theorem r_ins (nx8 : (((Unit × (Unit × (Int × Unit))) × ((List Int) × ((List Int) × Unit))) → Option (List Int))) (i : Nat) (all out : List Int) (a : Int) (ha : all[i]? = some a) (hi : i < all.length) (hal : all.length ≤ 900) (ho : out.length ≤ 900) :
    LN LOOPS (fun (s12 : ((Unit × (Unit × (Int × Unit))) × ((List Int) × ((List Int) × Unit)))) nx13 => l89_0 nx8 (i : Int) nx13 s12.1.2.2.1 s12.2.1 s12.2.2.1) (((), (), 0, ()), (all, out, ())) = nx8 (((), (), (i : Int) + 1, ()), (all, insS a out, ())) := by
  have wi1 : IntKind.wrap .i64 ((i : Int) + 1) = (i : Int) + 1 := wi (by omega) (by omega)
  refine loop_eq (I := fun s => 0 ≤ s.1.2.2.1 ∧ s.1.2.2.1 ≤ (out.length : Int) ∧ s.2.1 = all ∧ s.2.2.1 = out) (m := fun s => out.length - s.1.2.2.1.toNat) (R := fun s => nx8 (((), (), (i : Int) + 1, ()), (all, out.take s.1.2.2.1.toNat ++ insS a (out.drop s.1.2.2.1.toNat), ()))) ?_ ⟨by simp, by simp, rfl, rfl⟩ (by show out.length - _ < LOOPS; unfold LOOPS; omega) |>.trans (by simp)
  rintro ⟨⟨u1, u2, k, u3⟩, ⟨y1, y2, u4⟩⟩ next ⟨h1, h2, h3, h4⟩ hn
  simp only at h1 h2 h3 h4 ⊢
  subst h3
  subst h4
  unfold l89_0
  by_cases hk : k < (y2.length : Int)
  · have hk2 : k.toNat < y2.length := by omega
    have hg : y2[k.toNat]? = some y2[k.toNat] := List.getElem?_eq_getElem hk2
    have hd : y2.drop k.toNat = y2[k.toNat] :: y2.drop (k.toNat + 1) := List.drop_eq_getElem_cons hk2
    have w : IntKind.wrap .i64 (k + 1) = k + 1 := wi (by omega) (by omega)
    simp only [hk, hk2, h1, hg, decide_true, cond_true, Option.bind_some, Int.toNat_natCast, ha, hi, show (0 : Int) ≤ (i : Int) by omega]
    have hdl : (y2.drop k.toNat).length = y2.length - k.toNat := by simp
    have e0 : List.take (y2.length - k.toNat) (y2.drop k.toNat) = y2.drop k.toNat := List.take_of_length_le (by simp)
    have s1 : smallB (y2.take k.toNat).length 8 = true := small8 (by simp; omega)
    have s2 : smallB ((y2.take k.toNat).length + 1) 8 = true := small8 (by simp; omega)
    have s3 : smallB ((y2.take k.toNat ++ [a]).length + (y2.drop k.toNat).length) 8 = true := small8 (by simp; omega)
    by_cases c1 : y2[k.toNat] < a
    · simp only [c1, decide_true, cond_true, w]
      rw [hn _ ⟨by simp only; omega, by simp only; omega, rfl, rfl⟩ (by simp only; omega)]
      simp only
      rw [show (k + 1).toNat = k.toNat + 1 by omega, hd]
      simp only [insS, c1, if_true]
      have e2 : y2.take (k.toNat + 1) = y2.take k.toNat ++ [y2[k.toNat]] := by rw [List.take_add_one, hg]; rfl
      rw [e2, List.append_assoc]
      rfl
    · simp only [c1, decide_false, cond_false]
      by_cases c2 : y2[k.toNat] = a
      · simp only [c2, decide_true, cond_true, Option.map_some, wi1]
        rw [hd]
        simp only [insS]
        rw [if_neg (by omega), if_pos c2, ← hd, List.take_append_drop]
        cases nx8 (((), (), (i : Int) + 1, ()), (y1, y2, ())) <;> rfl
      · simp only [c2, decide_false, cond_false, Option.bind_some, Sum.elim_inl, List.drop_zero, List.nil_append, Nat.zero_add, show k.toNat ≤ y2.length by omega, decide_true, Bool.and_self, cond_true, s1, s2, Option.bind_some, ha, hi, hk2, Bool.or_true, Nat.add_sub_cancel' (show k.toNat ≤ y2.length by omega), Nat.le_refl, e0, s3, wi1, show (0 : Int) ≤ (i : Int) by omega, Int.toNat_natCast, h1]
        rw [hd]
        simp only [insS]
        rw [if_neg c1, if_neg c2]
        simp
  · have hke : k.toNat = y2.length := by omega
    have s1 : smallB y2.length 8 = true := small8 (by omega)
    have s2 : smallB (y2.length + 1) 8 = true := small8 (by omega)
    have ea : y1[i] = a := by
      have := List.getElem?_eq_getElem hi
      rw [ha] at this; cases this; rfl
    have d1 : y2.length * 8 ≤ 1099511627776 := by omega
    have d2 : y2.length ≤ 4294967296 := by omega
    have d3 : (y2.length + 1) * 8 ≤ 1099511627776 := by omega
    have d4 : y2.length ≤ 4294967295 := by omega
    simp [hk, h1, hke, d1, d2, d3, d4, hi, ea, wi1, insS]
theorem r_all (all : List Int) (hal : all.length ≤ 900) :
    LN LOOPS (fun (s7 : ((Unit × (Unit × (Int × Unit))) × ((List Int) × ((List Int) × Unit)))) nx8 => l89_1 (@LN LOOPS) nx8 s7.1.2.2.1 s7.2.1 s7.2.2.1) (((), (), 0, ()), (all, [], ())) = some (all.foldl (fun out a => insS a out) []) := by
  have key := list_loopI (β := List Int) (f := fun (s7 : ((Unit × (Unit × (Int × Unit))) × ((List Int) × ((List Int) × Unit)))) nx8 => l89_1 (@LN LOOPS) nx8 s7.1.2.2.1 s7.2.1 s7.2.2.1) all (fun out z => (((), (), z, ()), (all, out, ()))) (fun out z => (out.length : Int) ≤ z) (fun out a => .inl (insS a out)) (fun out => some out) (by have : maxLen = 9223372036854775807 := rfl; omega)
    (fun b next _ => by simp [l89_1])
    (fun b z x next hI h0 h1 h2 h3 => by
      refine ⟨by have := insS_len x b; omega, ?_⟩
      simp only [l89_1, h1, decide_true, cond_true]
      have := r_ins next z.toNat all b x h2 (by omega) hal (by omega)
      rw [show ((z.toNat : Nat) : Int) = z by omega] at this
      exact this) [] (by simp)
  refine key.trans ?_
  rw [runL_fold]
def timesR (all : List Int) : List Int := all.foldl (fun out a => insS a out) []
theorem r_Times (l : List Step) (more : List Int) (hl : l.length ≤ 800) (hm : more.length ≤ 50) : f89 l more = some (timesR (more ++ l.map (·.at_))) := by
  unfold f89 F89
  have key := list_loopI (β := List Int) (f := fun (s2 : ((Unit × (Int × Unit)) × ((List Int) × Unit))) nx3 => l89_2 (@LN LOOPS) l nx3 s2.1.2.1 s2.2.1) l (fun out z => (((), z, ()), (out, ()))) (fun out z => (out.length : Int) ≤ z + more.length) (fun out y => .inl (out ++ [y.at_])) (fun out => some (timesR out)) (by have : maxLen = 9223372036854775807 := rfl; omega)
    (fun b next hI => by
      simp only [l89_2, Int.lt_irrefl, decide_false, cond_false]
      exact r_all b (by omega))
    (fun b z x next hI h0 h1 h2 h3 => by
      refine ⟨by simp; omega, ?_⟩
      simp only [l89_2, h0, h1, h2, h3, decide_true, cond_true, Option.bind_some, small8 (show b.length + 1 ≤ 1000 by omega)]) more (by simp)
  simp only [Nat.zero_add, small8 (show more.length ≤ 1000 by omega), cond_true, List.nil_append]
  refine key.trans ?_
  rw [runL_fold]
  have e : ∀ (l : List Step) (m : List Int), l.foldl (fun out (y : Step) => out ++ [y.at_]) m = m ++ l.map (·.at_) := by
    intro l
    induction l with
    | nil => intro m; simp
    | cons y l ih => intro m; simp only [List.foldl_cons, ih]; simp
  rw [e]
theorem times_mem {x : Int} (all : List Int) : x ∈ timesR all ↔ x ∈ all := by
  have key : ∀ (all out : List Int), x ∈ all.foldl (fun out a => insS a out) out ↔ x ∈ out ∨ x ∈ all := by
    intro all
    induction all with
    | nil => intro out; simp
    | cons a all ih =>
      intro out
      simp only [List.foldl_cons, ih, insS_mem, List.mem_cons]
      constructor
      · rintro ((h | h) | h) <;> simp [h]
      · rintro (h | h | h) <;> simp [h]
  unfold timesR
  rw [key]
  simp
end NM
end Go.Proofs.Ytgpejfddaelobaa
set_option linter.unusedVariables false
set_option linter.unusedSimpArgs false
namespace Go.Proofs.Ytgpejfddaelobaa
namespace NM
open AM
/-- the step that holds at a time, and those behind it -/
theorem find_spec {b : Int} : ∀ {tl : List Step} {s : Step}, Rise s.at_ tl → s.at_ ≤ b → ∃ u post, (s :: tl)[cnt b (s :: tl) - 1]? = some u ∧ (s :: tl).drop (cnt b (s :: tl)) = post ∧ 0 < cnt b (s :: tl) ∧ Rise b post ∧ ∀ t, b ≤ t → look s.free tl t = look u.free post t
  | [], s, hr, hs => ⟨s, [], by simp [cnt, hs], by simp [cnt, hs], by simp [cnt, hs], trivial, fun t _ => rfl⟩
  | v :: tl, s, hr, hs => by
    by_cases hv : v.at_ ≤ b
    · obtain ⟨u, post, h1, h2, h0, h3, h4⟩ := find_spec hr.2 hv
      have hc : cnt b (s :: v :: tl) = cnt b (v :: tl) + 1 := by simp only [cnt]; rw [if_pos hs]
      refine ⟨u, post, ?_, ?_, by omega, h3, fun t ht => ?_⟩
      · rw [hc, Nat.add_sub_cancel]
        obtain ⟨n, hn⟩ : ∃ n, cnt b (v :: tl) = n + 1 := ⟨cnt b (v :: tl) - 1, by omega⟩
        rw [hn] at h1 ⊢
        simpa using h1
      · rw [hc]; simpa using h2
      · rw [← h4 t ht]
        simp only [look]
        rw [if_pos (by omega)]
    · have hc : cnt b (s :: v :: tl) = 1 := by simp only [cnt]; rw [if_pos hs, if_neg hv]
      exact ⟨s, v :: tl, by simp [hc], by simp [hc], by omega, ⟨by omega, hr.2⟩, fun t _ => rfl⟩
theorem p_At {s : Step} {tl : List Step} {t : Int} (hok : stepsOk (s :: tl) = true) (hl : (s :: tl).length ≤ 900) : f40 (s :: tl) t = some (if t < s.at_ then zeroR else look s.free tl t) := by
  have hml : maxLen = 9223372036854775807 := rfl
  have hr := (stepsOk_rise hok).1
  unfold f40 F40
  simp only [p_Right _ (show (s :: tl).length ≤ maxLen by omega), hok, Option.bind_some, Bool.not_true, cond_false, List.getElem?_cons_zero]
  by_cases ht : t < s.at_
  · simp only [ht, decide_true, cond_true, if_true]; rfl
  · obtain ⟨u, post, h1, h2, h0, h3, h4⟩ := find_spec (b := t) hr.2 (by omega)
    have hi : ((cnt t (s :: tl) : Int) - 1).toNat = cnt t (s :: tl) - 1 := by omega
    simp only [ht, decide_false, cond_false, if_false, p_find _ t hr (by omega), Option.bind_some, show (0 : Int) ≤ (cnt t (s :: tl) : Int) - 1 by omega, decide_true, cond_true, hi, h1]
    rw [h4 t (Int.le_refl t), look_early h3 (Int.le_refl t)]
def leastR (a b : Res) : Res := ⟨if b.cpu < a.cpu then b.cpu else a.cpu, if b.mem < a.mem then b.mem else a.mem, if b.gpu < a.gpu then b.gpu else a.gpu, if b.lic < a.lic then b.lic else a.lic⟩
def runLeast (e : Int) : Res → List Step → Res
  | acc, [] => acc
  | acc, s :: l => if e ≤ s.at_ then acc else runLeast e (leastR acc s.free) l
theorem least_run (c : Res → Int) (hc : ∀ a b, c (leastR a b) = if c b < c a then c b else c a) (e : Int) : ∀ {l : List Step} {a : Int} {acc : Res}, Rise a l →
    c (runLeast e acc l) ≤ c acc ∧ (∀ s, s ∈ l → s.at_ < e → c (runLeast e acc l) ≤ c s.free) ∧ (c (runLeast e acc l) = c acc ∨ ∃ s, s ∈ l ∧ s.at_ < e ∧ c (runLeast e acc l) = c s.free)
  | [], a, acc, _ => ⟨Int.le_refl _, fun s h => by simp at h, .inl rfl⟩
  | s :: l, a, acc, hr => by
    simp only [runLeast]
    by_cases he : e ≤ s.at_
    · rw [if_pos he]
      refine ⟨Int.le_refl _, fun u hu h => ?_, .inl rfl⟩
      rcases List.mem_cons.1 hu with rfl | hu
      · omega
      · have := hr.2.mem u hu; omega
    · rw [if_neg he]
      obtain ⟨h1, h2, h3⟩ := least_run c hc e (acc := leastR acc s.free) hr.2
      have h4 := hc acc s.free
      refine ⟨?_, fun u hu h => ?_, ?_⟩
      · split at h4 <;> omega
      · rcases List.mem_cons.1 hu with rfl | hu
        · split at h4 <;> omega
        · exact h2 u hu h
      · rcases h3 with h3 | ⟨u, hu, h5, h6⟩
        · split at h4
          · exact .inr ⟨s, by simp, by omega, by omega⟩
          · exact .inl (by omega)
        · exact .inr ⟨u, by simp [hu], h5, h6⟩
theorem look_cases {t : Int} : ∀ {f : Res} {l : List Step}, look f l t = f ∨ ∃ s, s ∈ l ∧ s.at_ ≤ t ∧ look f l t = s.free
  | f, [] => .inl rfl
  | f, s :: l => by
    simp only [look]
    split
    · rcases look_cases (t := t) (f := s.free) (l := l) with h | ⟨u, h1, h2, h3⟩
      · exact .inr ⟨s, by simp, by assumption, h⟩
      · exact .inr ⟨u, by simp [h1], h2, h3⟩
    · exact .inl rfl
/-- the least within a time -/
def IsLeast (V : Int → Res) (b e : Int) (r : Res) (c : Res → Int) : Prop := (∀ t, b ≤ t → t < e → c r ≤ c (V t)) ∧ ∃ t, b ≤ t ∧ t < e ∧ c r = c (V t)
theorem p_Least {s : Step} {tl : List Step} {b e : Int} (hok : stepsOk (s :: tl) = true) (hl : (s :: tl).length ≤ 900) (h1 : s.at_ ≤ b) (h2 : b < e) :
    ∃ r, f38 (s :: tl) b e = some r ∧ ∀ c : Res → Int, (∀ a b, c (leastR a b) = if c b < c a then c b else c a) → IsLeast (look s.free tl) b e r c := by
  have hml : maxLen = 9223372036854775807 := rfl
  have hr := (stepsOk_rise hok).1
  obtain ⟨u, post, k1, k2, k0, k3, k4⟩ := find_spec (b := b) hr.2 h1
  have hcl := cnt_le b (s :: tl)
  refine ⟨runLeast e u.free post, ?_, fun c hc => ?_⟩
  · unfold f38 F38
    have hi : ((cnt b (s :: tl) : Int) - 1).toNat = cnt b (s :: tl) - 1 := by omega
    have w : IntKind.wrap .i64 ((cnt b (s :: tl) : Int) - 1 + 1) = (cnt b (s :: tl) : Int) := by rw [wi (by omega) (by omega)]; omega
    simp only [p_Right _ (show (s :: tl).length ≤ maxLen by omega), hok, Option.bind_some, Bool.not_true, cond_false, List.getElem?_cons_zero, show ¬ b < s.at_ by omega, show ¬ e ≤ b by omega, decide_false, p_find _ b hr (by omega), show (0 : Int) ≤ (cnt b (s :: tl) : Int) - 1 by omega, decide_true, cond_true, hi, k1, w, show (0 : Int) ≤ (cnt b (s :: tl) : Int) by omega, Int.toNat_natCast, hcl]
    have hpl : post.length ≤ maxLen := by rw [← k2]; simp only [List.length_drop]; omega
    have key := list_loop (f := fun (s7 : ((Unit × (Unit × (Int × Unit))) × (Res × (Res × Unit)))) nx8 => l38_0 f88 (s :: tl) e ((cnt b (s :: tl) : Int) - 1) nx8 s7.1.2.2.1 s7.2.1 s7.2.2.1) post (fun acc z => (((), (), z, ()), (Res.mk 0 0 0 0, acc, ()))) (fun acc y => if e ≤ y.at_ then .inr (some acc) else .inl (leastR acc y.free)) (fun acc => some acc) hpl
      (fun acc next => by simp only [l38_0, w, Int.toNat_natCast, k2]; simp)
      (fun acc z y next g0 g1 g2 g3 => by
        have hv : f88 acc y.free = some (leastR acc y.free) := rfl
        simp only [l38_0, w, Int.toNat_natCast, k2, g0, g1, g2, g3, decide_true, cond_true, Option.bind_some, hv]
        by_cases hy : e ≤ y.at_
        · simp only [hy, decide_true, cond_true, if_true]
        · simp only [hy, decide_false, cond_false, if_false]) u.free
    refine key.trans ?_
    have er : ∀ (l : List Step) (acc : Res), runL (fun acc (y : Step) => if e ≤ y.at_ then .inr (some acc) else .inl (leastR acc y.free)) (fun acc => some acc) l acc = some (runLeast e acc l) := by
      intro l
      induction l with
      | nil => intro acc; rfl
      | cons y l ih =>
        intro acc
        simp only [runL, runLeast]
        by_cases hy : e ≤ y.at_
        · simp only [hy, if_true]
        · simp only [hy, if_false]; exact ih _
    exact er post u.free
  · obtain ⟨q1, q2, q3⟩ := least_run c hc e (acc := u.free) k3
    refine ⟨fun t ht hte => ?_, ?_⟩
    · rw [k4 t ht]
      rcases look_cases (t := t) (f := u.free) (l := post) with h | ⟨v, g1, g2, g3⟩
      · rw [h]; exact q1
      · rw [g3]; exact q2 v g1 (by omega)
    · rcases q3 with q3 | ⟨v, g1, g2, g3⟩
      · exact ⟨b, Int.le_refl b, h2, by rw [k4 b (Int.le_refl b), look_early k3 (Int.le_refl b)]; exact q3⟩
      · have hv := k3.mem v g1
        exact ⟨v.at_, by omega, g2, by rw [k4 v.at_ (by omega), look_mem k3 v g1]; exact g3⟩
end NM
end Go.Proofs.Ytgpejfddaelobaa
set_option linter.unusedVariables false
set_option linter.unusedSimpArgs false
namespace Go.Proofs.Ytgpejfddaelobaa
namespace NM
open AM
theorem r_low (a b : Int) : f117 a b = some (if b < a then b else a) := by
  unfold f117 F117
  by_cases h : a < b
  · simp [h, show ¬ b < a by omega]
  · by_cases h2 : b < a
    · simp [h, h2]
    · simp [h, h2]; omega
theorem r_vLeast (a b : Res) : f90 a b = some (leastR a b) := by
  unfold f90 F90
  simp only [r_low, Option.bind_some]
  rfl
def leastTs (V : Int → Res) (b e : Int) (acc : Res) (ts : List Int) : Res := ts.foldl (fun acc t => if b ≤ t ∧ t < e then leastR acc (V t) else acc) acc
theorem leastTs_spec (c : Res → Int) (hc : ∀ a b, c (leastR a b) = if c b < c a then c b else c a) (V : Int → Res) (b e : Int) : ∀ (ts : List Int) (acc : Res),
    c (leastTs V b e acc ts) ≤ c acc ∧ (∀ t, t ∈ ts → b ≤ t → t < e → c (leastTs V b e acc ts) ≤ c (V t)) ∧ (c (leastTs V b e acc ts) = c acc ∨ ∃ t, t ∈ ts ∧ b ≤ t ∧ t < e ∧ c (leastTs V b e acc ts) = c (V t))
  | [], acc => ⟨Int.le_refl _, fun t h => by simp at h, .inl rfl⟩
  | x :: ts, acc => by
    by_cases hx : b ≤ x ∧ x < e
    · have e1 : leastTs V b e acc (x :: ts) = leastTs V b e (leastR acc (V x)) ts := by unfold leastTs; rw [List.foldl_cons, if_pos hx]
      rw [e1]
      obtain ⟨h1, h2, h3⟩ := leastTs_spec c hc V b e ts (leastR acc (V x))
      have h4 := hc acc (V x)
      refine ⟨?_, fun t ht g1 g2 => ?_, ?_⟩
      · split at h4 <;> omega
      · rcases List.mem_cons.1 ht with rfl | ht
        · split at h4 <;> omega
        · exact h2 t ht g1 g2
      · rcases h3 with h3 | ⟨t, ht, g1, g2, g3⟩
        · split at h4
          · exact .inr ⟨x, by simp, hx.1, hx.2, by omega⟩
          · exact .inl (by omega)
        · exact .inr ⟨t, by simp [ht], g1, g2, g3⟩
    · have e1 : leastTs V b e acc (x :: ts) = leastTs V b e acc ts := by unfold leastTs; rw [List.foldl_cons, if_neg hx]
      rw [e1]
      obtain ⟨h1, h2, h3⟩ := leastTs_spec c hc V b e ts acc
      refine ⟨h1, fun t ht g1 g2 => ?_, ?_⟩
      · rcases List.mem_cons.1 ht with rfl | ht
        · exact absurd ⟨g1, g2⟩ hx
        · exact h2 t ht g1 g2
      · rcases h3 with h3 | ⟨t, ht, g1, g2, g3⟩
        · exact .inl h3
        · exact .inr ⟨t, by simp [ht], g1, g2, g3⟩
theorem insS_len' (all : List Int) : (timesR all).length ≤ all.length := by
  have key : ∀ (all out : List Int), (all.foldl (fun out a => insS a out) out).length ≤ out.length + all.length := by
    intro all
    induction all with
    | nil => intro out; simp
    | cons a all ih =>
      intro out
      have h1 := ih (insS a out)
      have h2 := insS_len a out
      simp only [List.foldl_cons, List.length_cons]
      omega
  have := key all []
  simpa [timesR] using this
/-- within a time, what holds, holds at its beginning or at a step -/
theorem look_times {b t : Int} {s : Step} {tl : List Step} (hr : Rise s.at_ tl) (h1 : s.at_ ≤ b) (h2 : b ≤ t) : look s.free tl t = look s.free tl b ∨ ∃ v, v ∈ s :: tl ∧ b < v.at_ ∧ v.at_ ≤ t ∧ look s.free tl t = look s.free tl v.at_ := by
  obtain ⟨u, post, k1, k2, k0, k3, k4⟩ := find_spec (b := b) hr h1
  rcases look_cases (t := t) (f := u.free) (l := post) with h | ⟨v, g1, g2, g3⟩
  · left
    rw [k4 t h2, k4 b (Int.le_refl b), h, look_early k3 (Int.le_refl b)]
  · right
    have hv := k3.mem v g1
    refine ⟨v, ?_, hv, g2, ?_⟩
    · rw [← k2] at g1
      exact List.mem_of_mem_drop g1
    · rw [k4 t h2, k4 v.at_ (by omega), g3, look_mem k3 v g1]
theorem isLeast_eq {V : Int → Res} {b e : Int} {x y : Res} {c : Res → Int} (h1 : IsLeast V b e x c) (h2 : IsLeast V b e y c) : c x = c y := by
  obtain ⟨a1, t1, a2, a3, a4⟩ := h1
  obtain ⟨b1, t2, b2, b3, b4⟩ := h2
  have := a1 t2 b2 b3
  have := b1 t1 a2 a3
  omega
theorem r_At' {s : Step} {tl : List Step} {t : Int} (hr : Rise s.at_ tl) (hl : (s :: tl).length ≤ 1000) (h : s.at_ ≤ t) : f42 (s :: tl) t = some (look s.free tl t) := by
  have := r_At (a := s.at_ - 1) (l := s :: tl) t ⟨by omega, hr⟩ hl
  rw [this]
  simp only
  rw [if_neg (by omega)]
theorem r_Least {s : Step} {tl : List Step} {b e : Int} (hok : stepsOk (s :: tl) = true) (hl : (s :: tl).length ≤ 700) (h1 : s.at_ ≤ b) (h2 : b < e) :
    ∃ r, f39 (s :: tl) b e = some r ∧ ∀ c : Res → Int, (∀ a b, c (leastR a b) = if c b < c a then c b else c a) → IsLeast (look s.free tl) b e r c := by
  have hml : maxLen = 9223372036854775807 := rfl
  have hr := (stepsOk_rise hok).1
  have hlen := insS_len' ([] ++ (s :: tl).map (·.at_))
  simp only [List.nil_append, List.length_map] at hlen
  refine ⟨leastTs (look s.free tl) b e (look s.free tl b) (timesR ([] ++ (s :: tl).map (·.at_))), ?_, fun c hc => ?_⟩
  · unfold f39 F39
    simp only [r_Right _ (show (s :: tl).length ≤ maxLen by omega), hok, Option.bind_some, Bool.not_true, cond_false, List.getElem?_cons_zero, show ¬ b < s.at_ by omega, show ¬ e ≤ b by omega, decide_false, r_At' hr.2 (show (s :: tl).length ≤ 1000 by omega) h1, r_Times _ [] (show (s :: tl).length ≤ 800 by omega) (by simp)]
    generalize hts : timesR ([] ++ (s :: tl).map (·.at_)) = ts
    rw [List.nil_append] at hts
    rw [hts] at hlen
    have hmem : ∀ t, t ∈ ts → s.at_ ≤ t := fun t ht => by
      rw [← hts, times_mem] at ht
      obtain ⟨u, hu, rfl⟩ := List.mem_map.1 ht
      rcases List.mem_cons.1 hu with rfl | hu
      · exact Int.le_refl _
      · have := hr.2.mem u hu; omega
    have key := list_loop (β := Res) (f := fun (s7 : ((Unit × (Unit × (Int × Unit))) × (Res × (Res × Unit)))) nx8 => l39_0 f42 f90 (s :: tl) b e ts nx8 s7.1.2.2.1 s7.2.1 s7.2.2.1) ts (fun acc z => (((), (), z, ()), (Res.mk 0 0 0 0, acc, ()))) (fun acc t => .inl (if b ≤ t ∧ t < e then leastR acc (look s.free tl t) else acc)) (fun acc => some acc) (by omega)
      (fun acc next => by simp [l39_0])
      (fun acc z t next g0 g1 g2 g3 => by
        have ht := hmem t (List.mem_of_getElem? g2)
        simp only [l39_0, g0, g1, g2, g3, decide_true, cond_true, Option.bind_some, r_At' hr.2 (show (s :: tl).length ≤ 1000 by omega) ht, r_vLeast]
        by_cases c1 : b ≤ t
        · by_cases c2 : t < e
          · simp [c1, c2]
          · simp [c1, c2]
        · simp [c1]) (look s.free tl b)
    refine key.trans ?_
    rw [runL_fold]
    rfl
  · obtain ⟨q1, q2, q3⟩ := leastTs_spec c hc (look s.free tl) b e (timesR ([] ++ (s :: tl).map (·.at_))) (look s.free tl b)
    refine ⟨fun t g1 g2 => ?_, ?_⟩
    · rcases look_times hr.2 h1 g1 with h | ⟨v, hv, g3, g4, g5⟩
      · rw [h]; exact q1
      · rw [g5]
        refine q2 v.at_ ?_ (by omega) (by omega)
        rw [times_mem]
        exact List.mem_map.2 ⟨v, hv, rfl⟩
    · rcases q3 with q3 | ⟨t, ht, g1, g2, g3⟩
      · exact ⟨b, Int.le_refl b, h2, q3⟩
      · exact ⟨t, g1, g2, g3⟩
theorem least_same {s : Step} {tl : List Step} {b e : Int} (hok : stepsOk (s :: tl) = true) (hl : (s :: tl).length ≤ 700) (h1 : s.at_ ≤ b) (h2 : b < e) :
    ∃ r, f39 (s :: tl) b e = some r ∧ f38 (s :: tl) b e = some r := by
  obtain ⟨x, hx1, hx2⟩ := r_Least hok hl h1 h2
  obtain ⟨y, hy1, hy2⟩ := p_Least hok (show (s :: tl).length ≤ 900 by omega) h1 h2
  refine ⟨x, hx1, ?_⟩
  rw [hy1]
  refine congrArg some (res_ext ?_ ?_ ?_ ?_)
  · exact isLeast_eq (hy2 (·.cpu) fun a b => rfl) (hx2 (·.cpu) fun a b => rfl)
  · exact isLeast_eq (hy2 (·.mem) fun a b => rfl) (hx2 (·.mem) fun a b => rfl)
  · exact isLeast_eq (hy2 (·.gpu) fun a b => rfl) (hx2 (·.gpu) fun a b => rfl)
  · exact isLeast_eq (hy2 (·.lic) fun a b => rfl) (hx2 (·.lic) fun a b => rfl)
end NM
end Go.Proofs.Ytgpejfddaelobaa
set_option linter.unusedVariables false
set_option linter.unusedSimpArgs false
namespace Go.Proofs.Ytgpejfddaelobaa
namespace NM
open AM
theorem r_vAdd2 {a b : Res} (ha : okR a = true) (hb : okR b = true) : f47 a b = some (addR a b) := by
  rw [okR_iff] at ha hb
  unfold f47 F47 addR
  rw [wi (by omega) (by omega), wi (by omega) (by omega), wi (by omega) (by omega), wi (by omega) (by omega)]
theorem r_vSub2 {a b : Res} (ha : okR a = true) (hb : okR b = true) : f94 a b = some (subR a b) := by
  rw [okR_iff] at ha hb
  unfold f94 F94 subR
  rw [wi (by omega) (by omega), wi (by omega) (by omega), wi (by omega) (by omega), wi (by omega) (by omega)]
def RiseI (a : Int) : List Int → Prop
  | [] => True
  | x :: l => a < x ∧ RiseI x l
theorem RiseI.mem {a : Int} : ∀ {l : List Int}, RiseI a l → ∀ x, x ∈ l → a < x
  | [], _, x, h => by simp at h
  | u :: l, h, x, hx => by
    rcases List.mem_cons.1 hx with rfl | hx
    · exact h.1
    · have := h.2.mem x hx; have := h.1; omega
theorem riseI_ins {x : Int} : ∀ {a : Int} {l : List Int}, RiseI a l → a < x → RiseI a (insS x l)
  | a, [], _, h => ⟨h, trivial⟩
  | a, y :: l, hr, h => by
    simp only [insS]
    split
    · exact ⟨hr.1, riseI_ins hr.2 (by assumption)⟩
    · split
      · exact hr
      · exact ⟨h, by omega, hr.2⟩
theorem riseI_times {a : Int} (all : List Int) (h : ∀ x, x ∈ all → a < x) : RiseI a (timesR all) := by
  have key : ∀ (all out : List Int), RiseI a out → (∀ x, x ∈ all → a < x) → RiseI a (all.foldl (fun out a => insS a out) out) := by
    intro all
    induction all with
    | nil => intro out ho _; exact ho
    | cons y all ih =>
      intro out ho h
      simp only [List.foldl_cons]
      exact ih _ (riseI_ins ho (h y (by simp))) fun x hx => h x (by simp [hx])
  exact key all [] trivial h
/-- the times, and the first of them -/
theorem times_split {b e : Int} {s : Step} {tl : List Step} (hr : Rise s.at_ tl) (h1 : s.at_ ≤ b) (h2 : b < e) : ∃ rest, timesR ([b, e] ++ (s :: tl).map (·.at_)) = s.at_ :: rest ∧ RiseI s.at_ rest ∧ ∀ x, x ∈ s.at_ :: rest ↔ x = b ∨ x = e ∨ ∃ v, v ∈ s :: tl ∧ v.at_ = x := by
  have hm : ∀ x, x ∈ timesR ([b, e] ++ (s :: tl).map (·.at_)) ↔ x = b ∨ x = e ∨ ∃ v, v ∈ s :: tl ∧ v.at_ = x := fun x => by
    rw [times_mem]
    simp only [List.cons_append, List.nil_append, List.mem_cons, List.mem_map]
  have hlow : ∀ x, x ∈ [b, e] ++ (s :: tl).map (·.at_) → s.at_ - 1 < x := fun x hx => by
    have := (hm x).1 (by rw [times_mem]; exact hx)
    rcases this with rfl | rfl | ⟨v, hv, rfl⟩
    · omega
    · omega
    · rcases List.mem_cons.1 hv with rfl | hv
      · omega
      · have := hr.mem v hv; omega
  have hR := riseI_times _ hlow
  have hs : s.at_ ∈ timesR ([b, e] ++ (s :: tl).map (·.at_)) := (hm _).2 (.inr (.inr ⟨s, by simp, rfl⟩))
  generalize timesR ([b, e] ++ (s :: tl).map (·.at_)) = ts at hm hR hs
  cases ts with
  | nil => simp at hs
  | cons x rest =>
    have hx : x = s.at_ := by
      rcases List.mem_cons.1 hs with h | h
      · exact h.symm
      · have := hR.2.mem _ h
        have := hR.1
        omega
    subst hx
    exact ⟨rest, rfl, hR.2, hm⟩
/-- a function that stays between the times is told by what it is at them -/
theorem look_map (W : Int → Res) : ∀ {a : Int} {ts : List Int}, RiseI a ts → (∀ u τ, a ≤ u → u ≤ τ → (∀ x, x ∈ ts → ¬ (u < x ∧ x ≤ τ)) → W τ = W u) → ∀ τ, a ≤ τ → look (W a) (ts.map fun t => ⟨t, W t⟩) τ = W τ
  | a, [], _, h, τ, ht => by
    simp only [List.map_nil, look]
    exact (h a τ (Int.le_refl a) ht fun x hx => by simp at hx).symm
  | a, x :: ts, hr, h, τ, ht => by
    simp only [List.map_cons, look]
    by_cases hx : x ≤ τ
    · rw [if_pos hx]
      refine look_map W hr.2 (fun u τ' h1 h2 h3 => h u τ' (by have := hr.1; omega) h2 fun y hy => ?_) τ hx
      rcases List.mem_cons.1 hy with rfl | hy
      · omega
      · exact h3 y hy
    · rw [if_neg hx]
      refine (h a τ (Int.le_refl a) ht fun y hy => ?_).symm
      rcases List.mem_cons.1 hy with rfl | hy
      · omega
      · have := hr.2.mem y hy; omega
theorem rise_map (W : Int → Res) : ∀ {a : Int} {ts : List Int}, RiseI a ts → Rise a (ts.map fun t => (⟨t, W t⟩ : Step))
  | a, [], _ => trivial
  | a, x :: ts, h => ⟨h.1, rise_map W h.2⟩
/-- what is done to a vector, more or less -/
def opM (more : Bool) (need x : Res) : Res := if more = true then addR x need else subR x need
theorem turn_flat {op : Res → Res} {b e : Int} {s : Step} {tl : List Step} {rest : List Int} (hr : Rise s.at_ tl) (h1 : s.at_ ≤ b) (h2 : b < e)
    (hm : ∀ x, x ∈ s.at_ :: rest ↔ x = b ∨ x = e ∨ ∃ v, v ∈ s :: tl ∧ v.at_ = x) (u τ : Int) (g1 : s.at_ ≤ u) (g2 : u ≤ τ) (g3 : ∀ x, x ∈ rest → ¬ (u < x ∧ x ≤ τ)) :
    turnR b e op τ (look s.free tl τ) = turnR b e op u (look s.free tl u) := by
  have no : ∀ x, (x = b ∨ x = e ∨ ∃ v, v ∈ s :: tl ∧ v.at_ = x) → ¬ (u < x ∧ x ≤ τ) := fun x hx => by
    rcases List.mem_cons.1 ((hm x).2 hx) with rfl | hx
    · omega
    · exact g3 x hx
  have nb := no b (.inl rfl)
  have ne := no e (.inr (.inl rfl))
  have hV : look s.free tl τ = look s.free tl u := by
    rcases look_times hr g1 g2 with h | ⟨v, hv, k1, k2, _⟩
    · exact h
    · exact absurd ⟨k1, k2⟩ (no v.at_ (.inr (.inr ⟨v, hv, rfl⟩)))
  have hi : inB b e τ = inB b e u := by
    unfold inB
    rw [show decide (b ≤ τ) = decide (b ≤ u) from by rw [decide_eq_decide]; omega, show decide (τ < e) = decide (u < e) from by rw [decide_eq_decide]; omega]
  unfold turnR
  rw [hi, hV]
theorem run_turn (W : Int → Res) (pl : List Step → Option (List Step)) : ∀ (ts : List Int) (out : List Step),
    runL (fun (out : List Step) (t : Int) => if okR (W t) = true then .inl (out ++ [⟨t, W t⟩]) else .inr (some (([] : List Step), (20 : Int), ()))) (fun out => Option.bind (pl out) fun r => some (r, (0 : Int), ())) ts out =
      if (∀ t, t ∈ ts → okR (W t) = true) then Option.bind (pl (out ++ ts.map fun t => ⟨t, W t⟩)) fun r => some (r, 0, ()) else some ([], 20, ())
  | [], out => by simp [runL]
  | t :: ts, out => by
    simp only [runL]
    by_cases h : okR (W t) = true
    · simp only [h, if_true]
      rw [run_turn W pl ts]
      have e1 : (∀ x, x ∈ t :: ts → okR (W x) = true) ↔ (∀ x, x ∈ ts → okR (W x) = true) := by
        constructor
        · intro g x hx; exact g x (by simp [hx])
        · intro g x hx
          rcases List.mem_cons.1 hx with rfl | hx
          · exact h
          · exact g x hx
      simp only [e1, List.map_cons, List.append_assoc, List.singleton_append]
    · rw [if_neg h, if_neg (fun g => h (g t (by simp)))]
theorem r_Turn (l : List Step) (b e : Int) (need : Res) (more : Bool) (hl : l.length ≤ 600) : f46 l (b, e) need more = some (changeR (opM more need) l b e need) := by
  have hml : maxLen = 9223372036854775807 := rfl
  unfold f46 F46
  simp only [r_Right _ (show l.length ≤ maxLen by omega), Option.bind_some, r_vRight, r_Num]
  cases l with
  | nil => rfl
  | cons s tl =>
    simp only [changeR]
    cases hok : stepsOk (s :: tl) with
    | false => simp
    | true =>
      cases hnd : okR need with
      | false => simp
      | true =>
        simp only [Bool.not_true, cond_false, List.getElem?_cons_zero, Option.bind_some, true_and]
        by_cases c1 : b < s.at_
        · simp [c1, show ¬ s.at_ ≤ b by omega]
        · by_cases c2 : e ≤ b
          · simp [c1, c2, show ¬ b < e by omega]
          · by_cases c3 : 281474976710656 < e
            · simp [c1, c2, show ¬ e ≤ 281474976710656 by omega]
            · rw [if_pos ⟨by omega, by omega, by omega⟩]
              have hall := stepsOk_rise hok
              have hr := hall.1.2
              have c1' : s.at_ ≤ b := by omega
              have c2' : b < e := by omega
              have h0 : 0 ≤ s.at_ := by have := hall.1.1; omega
              simp only [c1, c2, show (0 : Int) ≤ e by omega, show e ≤ 281474976710656 by omega, decide_true, Bool.and_self, Bool.not_true, decide_false, cond_false]
              rw [r_Times _ [b, e] (show (s :: tl).length ≤ 800 by omega) (by simp)]
              simp only [Option.bind_some]
              obtain ⟨rest, ht, hri, hm⟩ := times_split hr c1' c2'
              have hlen := insS_len' ([b, e] ++ (s :: tl).map (·.at_))
              simp only [List.length_append, List.length_map] at hlen
              rw [ht] at hlen ⊢
              have hlen2 : (s.at_ :: rest).length ≤ 602 := by simp only [List.length_cons, List.length_nil] at hlen hl ⊢; omega
              have hV : ∀ τ, okR (look s.free tl τ) = true := fun τ => look_ok (hall.2 s (by simp)).2 fun u hu => (hall.2 u (by simp [hu])).2
              have hmem : ∀ t, t ∈ s.at_ :: rest → s.at_ ≤ t := fun t h => by
                rcases List.mem_cons.1 h with rfl | h
                · exact Int.le_refl _
                · have := hri.mem t h; omega
              have key := list_loopI (β := List Step) (f := fun (s9 : ((Unit × (Unit × (Int × Unit))) × (Res × ((List Step) × Unit)))) nx10 => l46_0 f35 f42 f47 f94 f43 (s :: tl) (b, e) more (s.at_ :: rest) nx10 s9.1.2.2.1 s9.2.1 s9.2.2.1) (s.at_ :: rest) (fun out z => (((), (), z, ()), (need, out, ())))
                (fun out z => (out.length : Int) ≤ z)
                (fun out t => if okR (turnR b e (opM more need) t (look s.free tl t)) = true then .inl (out ++ [⟨t, turnR b e (opM more need) t (look s.free tl t)⟩]) else .inr (some (([] : List Step), (20 : Int), ())))
                (fun out => Option.bind (f43 out) fun r => some (r, (0 : Int), ())) (by omega)
                (fun out next _ => by simp [l46_0])
                (fun out z t next hI g0 g1 g2 g3 => by
                  have hst := hmem t (List.mem_of_getElem? g2)
                  have hlt := (List.getElem?_eq_some_iff.1 g2).1
                  have hsm : smallB (out.length + 1) 40 = true := small40 (by omega)
                  have e47 := r_vAdd2 (hV t) hnd
                  have e94 := r_vSub2 (hV t) hnd
                  have hturn : turnR b e (opM more need) t (look s.free tl t) = if b ≤ t ∧ t < e then opM more need (look s.free tl t) else look s.free tl t := by
                    unfold turnR inB
                    simp only [Bool.and_eq_true, decide_eq_true_eq]
                  have hbody : l46_0 f35 f42 f47 f94 f43 (s :: tl) (b, e) more (s.at_ :: rest) next z need out = cond (!okR (turnR b e (opM more need) t (look s.free tl t))) (some (([] : List Step), (20 : Int), ())) (next (((), (), z + 1, ()), (need, out ++ [⟨t, turnR b e (opM more need) t (look s.free tl t)⟩], ()))) := by
                    rw [hturn]
                    by_cases k1 : b ≤ t
                    · by_cases k2 : t < e
                      · cases more <;> simp only [l46_0, g0, g1, g2, g3, decide_true, cond_true, cond_false, Option.bind_some, r_At' hr (show (s :: tl).length ≤ 1000 by omega) hst, k1, k2, e47, e94, r_vRight, hsm, opM, and_self, if_true, if_false, Bool.false_eq_true]
                      · simp only [l46_0, g0, g1, g2, g3, decide_true, decide_false, cond_true, cond_false, Option.bind_some, r_At' hr (show (s :: tl).length ≤ 1000 by omega) hst, k1, k2, r_vRight, hsm, and_false, if_false]
                    · simp only [l46_0, g0, g1, g2, g3, decide_true, decide_false, cond_true, cond_false, Option.bind_some, r_At' hr (show (s :: tl).length ≤ 1000 by omega) hst, k1, r_vRight, hsm, false_and, if_false]
                  by_cases k : okR (turnR b e (opM more need) t (look s.free tl t)) = true
                  · simp only [k, if_true]
                    refine ⟨by simp; omega, ?_⟩
                    rw [hbody, k]; rfl
                  · rw [if_neg k]
                    simp only
                    rw [hbody]
                    simp only [Bool.not_eq_true] at k
                    rw [k]; rfl) [] (by simp)
              refine key.trans ?_
              rw [run_turn (fun t => turnR b e (opM more need) t (look s.free tl t))]
              have hflat := turn_flat (op := opM more need) hr c1' c2' hm
              have hlm := look_map (fun t => turnR b e (opM more need) t (look s.free tl t)) hri hflat
              have hcond : (∀ t, t ∈ s.at_ :: rest → okR (turnR b e (opM more need) t (look s.free tl t)) = true) ↔ right2 b e (opM more need) s (twoT s tl b e) := by
                rw [right2_iff hr c1' c2']
                constructor
                · intro h t h1 h2
                  have e1 : okR (turnR b e (opM more need) t (look s.free tl t)) = true := by
                    rw [← hlm t h1]
                    refine look_ok (h _ (by simp)) fun u hu => ?_
                    obtain ⟨x, hx, rfl⟩ := List.mem_map.1 hu
                    exact h x (by simp [hx])
                  unfold turnR at e1
                  rwa [if_pos h2] at e1
                · intro h t ht
                  unfold turnR
                  split
                  · exact h t (hmem t ht) (by assumption)
                  · exact hV t
              by_cases hc : right2 b e (opM more need) s (twoT s tl b e)
              · rw [if_pos (hcond.2 hc), if_pos hc]
                simp only [List.nil_append, List.map_cons]
                rw [r_Plain (by simp only [List.length_cons, List.length_map] at hlen2 ⊢; omega)]
                simp only [Option.bind_some]
                have hs0 : look s.free tl s.at_ = s.free := look_early hr (Int.le_refl _)
                have htf : (turnS b e (opM more need) s).free = turnR b e (opM more need) s.at_ s.free := turnS_free b e _ s
                have hhead : (⟨s.at_, turnR b e (opM more need) s.at_ (look s.free tl s.at_)⟩ : Step) = turnS b e (opM more need) s := by
                  refine step_ext (turnS_at b e _ s).symm ?_
                  rw [hs0, htf]
                have hmr : Rise s.at_ ((twoT s tl b e).map (turnS b e (opM more need))) := rise_turn (two_rise hr c1' c2')
                have hmr2 := rise_map (fun t => turnR b e (opM more need) t (look s.free tl t)) hri
                have htail : plainFrom (turnR b e (opM more need) s.at_ (look s.free tl s.at_)) (rest.map fun t => (⟨t, turnR b e (opM more need) t (look s.free tl t)⟩ : Step)) = plainFrom (turnS b e (opM more need) s).free ((twoT s tl b e).map (turnS b e (opM more need))) := by
                  have hf : turnR b e (opM more need) s.at_ (look s.free tl s.at_) = (turnS b e (opM more need) s).free := by rw [hs0, htf]
                  rw [hf] at hlm ⊢
                  refine canon_eq (a := s.at_) (f := (turnS b e (opM more need) s).free) (rise_plain hmr2) (rise_plain hmr) (canon_plain _ _) (canon_plain _ _) fun τ hτ => ?_
                  rw [look_plain hmr2, look_plain hmr, hlm τ hτ, turnS_free, look_turn (two_rise hr c1' c2') (two_edges c1' c2') hτ, two_look]
                rw [hhead, htail]
              · rw [if_neg (fun h => hc (hcond.1 h)), if_neg hc]
end NM
end Go.Proofs.Ytgpejfddaelobaa
set_option linter.unusedVariables false
set_option linter.unusedSimpArgs false
namespace Go.Proofs.Ytgpejfddaelobaa
namespace NM
open AM

theorem give_by (need x : Res) (hn : okR need = true) (hx : okR x = true) : f93 x need = chg (fun x => addR x need) x := by
  unfold f93 vecAdd sumG chg
  rw [if_pos hx, if_pos hn]
  unfold withinG
  by_cases h : okR (addR x need) = true
  · simp [h]
  · simp [h]
theorem give_loop (need : Res) (e : Int) (z : List Step) (i : Nat) (hi : i ≤ z.length) (hz : z.length ≤ 900) :
    LN LOOPS (fun (s10 : ((Unit × (Unit × (Int × Unit))) × (Res × ((List Step) × Unit)))) nx11 => l91_1_0 f93 f41 e nx11 s10.1.2.2.1 s10.2.1 s10.2.2.1) (((), (), (i : Int), ()), (need, z, ())) = goT (fun x => f93 x need) f41 e (z.take i) (z.drop i) := by
  have key := loop_eq (f := fun (s10 : ((Unit × (Unit × (Int × Unit))) × (Res × ((List Step) × Unit)))) nx11 => l91_1_0 f93 f41 e nx11 s10.1.2.2.1 s10.2.1 s10.2.2.1)
    (I := fun s => 0 ≤ s.1.2.2.1 ∧ s.1.2.2.1 ≤ (s.2.2.1.length : Int) ∧ s.2.2.1.length ≤ 900 ∧ s.2.1 = need) (m := fun s => s.2.2.1.length - s.1.2.2.1.toNat)
    (R := fun s => goT (fun x => f93 x need) f41 e (s.2.2.1.take s.1.2.2.1.toNat) (s.2.2.1.drop s.1.2.2.1.toNat)) (s := (((), (), (i : Int), ()), (need, z, ()))) ?_ ⟨by simp only; omega, by simp only; omega, hz, rfl⟩ (by show z.length - _ < LOOPS; unfold LOOPS; omega)
  · refine key.trans ?_
    simp only [Int.toNat_natCast]
  · rintro ⟨⟨u1, u2, j, u3⟩, ⟨nd, y, u4⟩⟩ next ⟨h1, h2, h3, h4⟩ hn
    simp only at h1 h2 h3 h4 ⊢
    subst h4
    unfold l91_1_0
    by_cases hj : j.toNat < y.length
    · have hg : y[j.toNat]? = some y[j.toNat] := List.getElem?_eq_getElem hj
      have hd : y.drop j.toNat = y[j.toNat] :: y.drop (j.toNat + 1) := List.drop_eq_getElem_cons hj
      have w : IntKind.wrap .i64 (j + 1) = j + 1 := wi (by omega) (by omega)
      simp only [h1, hj, hg, hd, decide_true, cond_true, Option.bind_some, w, goT]
      by_cases ht : y[j.toNat].at_ < e
      · simp only [ht, decide_true, cond_true, if_true]
        cases hr : f93 y[j.toNat].free nd with
        | none => rfl
        | some r =>
          simp only [Option.bind_some]
          by_cases hr0 : r.2.1 = 0
          · simp only [hr0, decide_true, Bool.not_true, cond_false, if_true]
            rw [hn _ ⟨by simp only; omega, by simp only [List.length_set]; omega, by simp only [List.length_set]; omega, rfl⟩ (by simp only [List.length_set]; omega)]
            simp only
            have e1 : (j + 1).toNat = j.toNat + 1 := by omega
            rw [e1]
            have e2 : (y.set j.toNat ⟨y[j.toNat].at_, r.1⟩).take (j.toNat + 1) = y.take j.toNat ++ [⟨y[j.toNat].at_, r.1⟩] := by
              rw [List.take_add_one, List.take_set_of_le (Nat.le_refl _)]
              simp [hj]
            have e3 : (y.set j.toNat ⟨y[j.toNat].at_, r.1⟩).drop (j.toNat + 1) = y.drop (j.toNat + 1) := List.drop_set_of_lt (by omega)
            rw [e2, e3]
          · simp only [hr0, decide_false, Bool.not_false, cond_true, if_false]
      · simp only [ht, decide_false, cond_false, if_false]
        rw [← hd, List.take_append_drop]
    · have hd : y.drop j.toNat = [] := List.drop_of_length_le (by omega)
      simp only [h1, hj, hd, decide_true, decide_false, cond_true, cond_false, goT]
theorem give_change (l : List Step) (b e : Int) (need : Res) (hl : l.length ≤ 800) : f91_1 l b e need = some (changeR (fun x => addR x need) l b e need) := by
  have hml : maxLen = 9223372036854775807 := rfl
  unfold f91_1 F91_1
  simp only [p_Right _ (show l.length ≤ maxLen by omega), Option.bind_some, p_vecRight]
  cases l with
  | nil => rfl
  | cons s tl =>
    simp only [changeR]
    cases hok : stepsOk (s :: tl) with
    | false => simp
    | true =>
      cases hnd : okR need with
      | false => simp
      | true =>
        simp only [Bool.not_true, cond_false, List.getElem?_cons_zero, Option.bind_some, true_and]
        by_cases c1 : b < s.at_
        · simp [c1, show ¬ s.at_ ≤ b by omega]
        · by_cases c2 : e ≤ b
          · simp [c1, c2, show ¬ b < e by omega]
          · by_cases c3 : 281474976710656 < e
            · simp [c1, c2, c3, show ¬ e ≤ 281474976710656 by omega]
            · rw [if_pos ⟨by omega, by omega, by omega⟩]
              simp only [c1, c2, c3, decide_false, cond_false]
              have hrf : rightFrom (-1) (s :: tl) = true := by unfold stepsOk at hok; simp only [Bool.and_eq_true] at hok; exact hok.1
              obtain ⟨hr, hall⟩ := rightFrom_rise hrf
              have hlt : tl.length + 1 ≤ 800 := by simpa using hl
              have hl1 := len_cutT s.at_ b s.free tl
              have hr1 : Rise s.at_ (cutT s.at_ s.free tl b) := rise_cutT hr.2 (by omega)
              have hl2 := len_cutT s.at_ e s.free (cutT s.at_ s.free tl b)
              have hr2 : Rise s.at_ (twoT s tl b e) := rise_cutT hr1 (by omega)
              have hp : ∀ u, u ∈ twoT s tl b e → u.at_ ≤ 281474976710656 ∧ okR u.free = true := by
                refine all_cutT (p := fun u => u.at_ ≤ 281474976710656 ∧ okR u.free = true) ⟨by show e ≤ _; omega, (hall s (by simp)).2⟩ ?_
                intro u hu
                have hu' := all_cutT (p := fun u => u.at_ ≤ 281474976710656 ∧ okR u.free = true) (a := s.at_) (t := b) (f := s.free) (l := tl) ⟨by show b ≤ _; omega, (hall s (by simp)).2⟩ (fun v hv => ⟨hall v (by simp [hv]), by show b ≤ _; omega, (hall v (by simp [hv])).2⟩) u hu
                exact ⟨hu', by show e ≤ _; omega, hu'.2⟩
              have hz : (s :: twoT s tl b e).length ≤ 900 := by simp only [List.length_cons, twoT]; omega
              have hrr : Rise (-1) (s :: twoT s tl b e) := ⟨hr.1, hr2⟩
              have hb : Has (s :: twoT s tl b e) b := by
                by_cases hsb : s.at_ = b
                · exact ⟨s, by simp, hsb⟩
                · obtain ⟨v, h1, h2⟩ := has_keepT (a := s.at_) (t := e) (f := s.free) (has_cutT (a := s.at_) (t := b) s.free tl (by omega))
                  exact ⟨v, by simp only [List.mem_cons]; exact .inr h1, h2⟩
              have he : Has (s :: twoT s tl b e) e := by
                obtain ⟨v, h1, h2⟩ := has_cutT (a := s.at_) (t := e) s.free (cutT s.at_ s.free tl b) (by omega)
                exact ⟨v, by simp only [List.mem_cons]; exact .inr h1, h2⟩
              rw [p_cut hr (by omega) (show (s :: tl).length ≤ 900 by simp; omega)]
              simp only [Option.bind_some]
              rw [p_cut (a := -1) ⟨hr.1, hr1⟩ (by omega) (show (s :: cutT s.at_ s.free tl b).length ≤ 900 by simp; omega)]
              simp only [Option.bind_some]
              change Option.bind (f87 (s :: twoT s tl b e) b) _ = _
              rw [p_find _ b hrr (by omega)]
              simp only [Option.bind_some]
              obtain ⟨pre, u, post, hs1, hs2, hs3, hs4, hs5⟩ := split_at hrr hb
              have hcn : ((cnt b (s :: twoT s tl b e) : Int) - 1) = (pre.length : Int) := by rw [hs5]; omega
              rw [hcn]
              refine (give_loop need e (s :: twoT s tl b e) pre.length (by rw [hs1]; simp) hz).trans ?_
              have ht : (s :: twoT s tl b e).take pre.length = pre := by rw [hs1]; simp
              have hd : (s :: twoT s tl b e).drop pre.length = u :: post := by rw [hs1]; simp
              rw [ht, hd]
              have hall2 : ∀ v, v ∈ s :: twoT s tl b e → v.at_ ≤ 281474976710656 ∧ okR v.free = true := fun v hv => by
                rcases List.mem_cons.1 hv with rfl | hv
                · exact hall _ (by simp)
                · exact hp v hv
              have he' : Has (u :: post) e := by
                obtain ⟨v, h1, h2⟩ := he
                rw [hs1] at h1
                rcases List.mem_append.1 h1 with h1 | h1
                · have := hs3 v h1; omega
                · exact ⟨v, h1, h2⟩
              rw [goT_eq (b := b) (op := fun x => addR x need) (fun x hx => give_by need x hnd hx) hs4 (by omega) he' (fun v hv => (hall2 v (by rw [hs1]; exact List.mem_append_right _ hv)).2)]
              have hmap : pre ++ (u :: post).map (turnS b e (fun x => addR x need)) = (s :: twoT s tl b e).map (turnS b e (fun x => addR x need)) := by
                rw [hs1, List.map_append, turn_before hs3]
              rw [hmap]
              have hcond : (∀ v, v ∈ u :: post → inB b e v.at_ = true → okR (addR v.free need) = true) ↔ right2 b e (fun x => addR x need) s (twoT s tl b e) := by
                unfold right2
                constructor
                · intro h v hv hi
                  rw [hs1] at hv
                  rcases List.mem_append.1 hv with hv | hv
                  · have := hs3 v hv
                    simp only [inB, Bool.and_eq_true, decide_eq_true_eq] at hi
                    omega
                  · exact h v hv hi
                · intro h v hv hi
                  exact h v (by rw [hs1]; exact List.mem_append_right _ hv) hi
              by_cases hc : right2 b e (fun x => addR x need) s (twoT s tl b e)
              · rw [if_pos (hcond.2 hc), if_pos hc]
                have hsk : stepsOk ((s :: twoT s tl b e).map (turnS b e (fun x => addR x need))) = true := by
                  unfold stepsOk
                  simp only [Bool.and_eq_true, decide_eq_true_eq]
                  refine ⟨rightFrom_of (rise_turn hrr) fun v hv => ?_, by simp⟩
                  obtain ⟨w, hw, rfl⟩ := List.mem_map.1 hv
                  rw [turnS_at, turnS_free]
                  refine ⟨(hall2 w hw).1, ?_⟩
                  unfold turnR
                  split
                  · exact hc w hw (by assumption)
                  · exact (hall2 w hw).2
                rw [List.map_cons] at hsk ⊢
                rw [p_Plain hsk (by simpa using hz)]
                rfl
              · rw [if_neg (fun h => hc (hcond.1 h)), if_neg hc]
theorem p_Give (l : List Step) (b e : Int) (need : Res) (hl : l.length ≤ 800) : f45 l b e need = some (changeR (fun x => addR x need) l b e need) := by
  unfold f45 F45
  simp only [give_change l b e need hl, Option.bind_some]
end NM
end Go.Proofs.Ytgpejfddaelobaa
set_option linter.unusedVariables false
set_option linter.unusedSimpArgs false
namespace Go.Proofs.Ytgpejfddaelobaa
namespace NM
open AM
theorem awakeU : f30 = some true := by kernel_rfl
theorem _root_.Go.Proofs.Ytgpejfddaelobaa.stepsTurns.plain (l : List Step) (w : Int × Int) (need : Res) : f9 l w need = some true := by
  have hml : maxLen = 9223372036854775807 := rfl
  obtain ⟨b, e⟩ := w
  unfold f9 F9
  simp only [awakeU, Option.bind_some, Bool.not_true, cond_false]
  by_cases hl : 40 < (l.length : Int)
  · simp [hl]
  · simp only [hl, decide_false, cond_false]
    have hll : l.length ≤ 40 := by omega
    have hs : opM false need = fun x => subR x need := by funext x; rfl
    have ha : opM true need = fun x => addR x need := by funext x; rfl
    have l1 := len_change (fun x => subR x need) l b e need
    have l2 := len_change (fun x => addR x need) l b e need
    rw [p_Take l b e need (by omega), p_Give l b e need (by omega), r_Turn l b e need false (by omega), r_Turn l b e need true (by omega), hs, ha]
    simp only [Option.bind_some, decide_true, cond_true]
    rw [p_Same _ _ (by omega), (sameB_iff _ _).2 rfl]
    simp only [Option.bind_some, cond_true]
    rw [p_Same _ _ (by omega), (sameB_iff _ _).2 rfl]
    rfl
end NM
namespace stepsTurns
open NM AM
theorem walk (x0 : List Step) (x1 : Int × Int) (x2 : Res) (v0 v1 v2 : Value) (W : World) (h0 : V W (Lt W.heap.size) x0 v0) (h1 : V W (Lt W.heap.size) x1 v1) (h2 : V W (Lt W.heap.size) x2 v2) :
    Calls Try.prog 9 #[v0, v1, v2] W fun e w' => e = .returned (.bool true) ∧ Go.RowKit.Below W.heap.size W w' :=
  nlaw_walk NM.ok9 (x := (NEnc.f x0, NEnc.f x1, NEnc.f x2, ())) (plain _ _ _) (arg_cons x0 (arg_cons x1 (arg_cons x2 arg_nil))) rfl fun j a v ha hv => by
    match j with
    | 0 => simp at ha hv; subst ha; subst hv; exact h0.vr (fun _ h => h) _
    | 1 => simp at ha hv; subst ha; subst hv; exact h1.vr (fun _ h => h) _
    | 2 => simp at ha hv; subst ha; subst hv; exact h2.vr (fun _ h => h) _
end stepsTurns
end Go.Proofs.Ytgpejfddaelobaa
