/-
  The order of jobs: keys, and what the sort gives.
-/
import Derived.Test.YtacaeonoogkkaaaPSort
import Derived.Test.YtacaeonoogkkaaaPPrio
set_option linter.unusedVariables false
set_option linter.unusedSimpArgs false
set_option maxHeartbeats 4000000
namespace Go.Proofs.Ytacaeonoogkkaaa
namespace NM
open AM
def depB (x y : Dep) : Bool := (decide (x.job = y.job)) && ((x.ok == y.ok) && true)
def depsB (l m : List Dep) : Bool := decide (l.length = m.length) && (l.zip m).all (fun a => depB a.1 a.2)
theorem depB_refl (x : Dep) : depB x x = true := by simp [depB]
theorem depsB_refl (l : List Dep) : depsB l l = true := by
  unfold depsB
  simp only [decide_true, Bool.true_and]
  induction l with
  | nil => rfl
  | cons x l ih => simp only [List.zip_cons_cons, List.all_cons, depB_refl, ih, Bool.and_self]
def needSame (a b : Res) : Bool := (decide (a.cpu = b.cpu)) && ((decide (a.mem = b.mem)) && ((decide (a.gpu = b.gpu)) && ((decide (a.lic = b.lic)) && true)))
def sameB (a b : Job) : Bool := decide (a.id = b.id) && (decide (a.user = b.user) && (decide (a.queue = b.queue) && (decide (a.many = b.many) && (needSame a.need b.need && (decide (a.wall = b.wall) && (depsB a.after b.after && (decide (a.state = b.state) && ((a.ok == b.ok) && ((a.kill == b.kill) && (decide (a.version = b.version) && (decide (a.born = b.born) && (decide (a.start = b.start) && (decide (a.fin = b.fin) && decide (a.array = b.array))))))))))))))
theorem sameB_refl (a : Job) : sameB a a = true := by simp [sameB, needSame, depsB_refl]
def fldB (a b : Job) : Bool := decide (a.id = b.id) && (decide (a.user = b.user) && (decide (a.queue = b.queue) && (decide (a.many = b.many) && (needSame a.need b.need && (decide (a.wall = b.wall) && (decide (a.state = b.state) && ((a.ok == b.ok) && ((a.kill == b.kill) && (decide (a.version = b.version) && (decide (a.born = b.born) && (decide (a.start = b.start) && (decide (a.fin = b.fin) && decide (a.array = b.array)))))))))))))
theorem r_Same (a b : Job) (ha : a.after.length ≤ maxLen) : f68 a b = some (sameB a b) := by
  unfold f68 F68
  have hs : sameB a b = (depsB a.after b.after && fldB a b) := by
    unfold sameB fldB
    rw [Bool.eq_iff_iff]
    simp only [Bool.and_eq_true]
    constructor
    · rintro ⟨h1, h2, h3, h4, h5, h6, h7, h8, h9, h10, h11, h12, h13, h14, h15⟩
      exact ⟨h7, h1, h2, h3, h4, h5, h6, h8, h9, h10, h11, h12, h13, h14, h15⟩
    · rintro ⟨h7, h1, h2, h3, h4, h5, h6, h8, h9, h10, h11, h12, h13, h14, h15⟩
      exact ⟨h1, h2, h3, h4, h5, h6, h7, h8, h9, h10, h11, h12, h13, h14, h15⟩
  rw [hs]
  unfold depsB
  by_cases h : a.after.length = b.after.length
  · rw [zip_loop a.after b.after h (fun z => (((), (), z, ()), (a, b, ()))) depB (fldB a b) ha]
    · simp [h]
    · intro next
      simp only [l68_0, Int.lt_irrefl, decide_false, cond_false, cond_somes, Bool.cond_false_right]
      rfl
    · intro z x y next h0 h1 h2 h3 h4
      simp only [l68_0, h0, h1, h2, h3, h4, decide_true, cond_true, Option.bind_some]
      show cond (!depB x y) _ _ = _
      cases depB x y <;> rfl
  · have h' : ¬ ((a.after.length : Int) = (b.after.length : Int)) := by omega
    simp [h, h']

theorem p_Clone (l : List Dep) (hl : l.length ≤ 4294967296) : f67 l = some ((), (l, ())) := by
  unfold f67 cloneF
  cases l with
  | nil => rfl
  | cons x l =>
    unfold F67
    have : smallB (0 + (x :: l).length) 16 = true := by
      simp only [smallB, Bool.and_eq_true, decide_eq_true_eq]
      simp at hl ⊢
      omega
    simp only [List.isEmpty_cons, cond_false, this, cond_true, List.nil_append]

abbrev Key := Int × (Int × Int)
def klt (a b : Key) : Bool := decide (a.1 < b.1) || (decide (a.1 = b.1) && (decide (a.2.1 < b.2.1) || (decide (a.2.1 = b.2.1) && decide (a.2.2 < b.2.2))))
theorem klt_iff (a b : Key) : klt a b = true ↔ a.1 < b.1 ∨ (a.1 = b.1 ∧ (a.2.1 < b.2.1 ∨ (a.2.1 = b.2.1 ∧ a.2.2 < b.2.2))) := by
  simp only [klt, Bool.or_eq_true, Bool.and_eq_true, decide_eq_true_eq]
theorem klt_tr {a b c : Key} (h1 : klt a b = true) (h2 : klt b c = true) : klt a c = true := by
  rw [klt_iff] at *; omega
theorem klt_irr (a : Key) : klt a a = false := by
  rw [← Bool.not_eq_true, klt_iff]; omega
theorem p_cmp (x y : Int) : f126 x y = some (if x < y then -1 else if y < x then 1 else 0) := by
  have h : ∀ x : Int, f161 x = some false := fun x => by
    unfold f161 F161; simp
  unfold f126 F126
  simp only [h, Option.bind_some, cond_false, cond_dec]
  by_cases h1 : x < y
  · simp [h1]
  · by_cases h2 : y < x <;> simp [h1, h2]
theorem p_Compare3 (a b : Key) : ∃ c, f69 [a.1, a.2.1, a.2.2] [b.1, b.2.1, b.2.2] = some c ∧ (c < 0 ↔ klt a b = true) := by
  obtain ⟨a1, a2, a3⟩ := a
  obtain ⟨b1, b2, b3⟩ := b
  unfold f69 F69
  rw [LN_four]
  have w1 : IntKind.wrap .i64 ((0 : Int) + 1) = 1 := rfl
  have w2 : IntKind.wrap .i64 ((1 : Int) + 1) = 2 := rfl
  have w3 : IntKind.wrap .i64 ((2 : Int) + 1) = 3 := rfl
  rw [klt_iff]
  generalize hP : (((a1, a2, a3) : Key).1 < ((b1, b2, b3) : Key).1 ∨ (((a1, a2, a3) : Key).1 = ((b1, b2, b3) : Key).1 ∧ (((a1, a2, a3) : Key).2.1 < ((b1, b2, b3) : Key).2.1 ∨ (((a1, a2, a3) : Key).2.1 = ((b1, b2, b3) : Key).2.1 ∧ ((a1, a2, a3) : Key).2.2 < ((b1, b2, b3) : Key).2.2)))) = Q
  simp only at hP
  simp only [l69_0, p_cmp, w1, w2, w3]
  rw [show decide ((0 : Int) < (([a1, a2, a3] : List Int).length : Int)) = true from rfl, show decide ((1 : Int) < (([a1, a2, a3] : List Int).length : Int)) = true from rfl, show decide ((2 : Int) < (([a1, a2, a3] : List Int).length : Int)) = true from rfl, show decide ((3 : Int) < (([a1, a2, a3] : List Int).length : Int)) = false from rfl,
    show decide ((([b1, b2, b3] : List Int).length : Int) ≤ (0 : Int)) = false from rfl, show decide ((([b1, b2, b3] : List Int).length : Int) ≤ (1 : Int)) = false from rfl, show decide ((([b1, b2, b3] : List Int).length : Int) ≤ (2 : Int)) = false from rfl,
    show decide ((([a1, a2, a3] : List Int).length : Int) < (([b1, b2, b3] : List Int).length : Int)) = false from rfl,
    show ([a1, a2, a3] : List Int)[Int.toNat 0]? = some a1 from rfl, show ([a1, a2, a3] : List Int)[Int.toNat 1]? = some a2 from rfl, show ([a1, a2, a3] : List Int)[Int.toNat 2]? = some a3 from rfl,
    show ([b1, b2, b3] : List Int)[Int.toNat 0]? = some b1 from rfl, show ([b1, b2, b3] : List Int)[Int.toNat 1]? = some b2 from rfl, show ([b1, b2, b3] : List Int)[Int.toNat 2]? = some b3 from rfl]
  simp only [show decide ((0 : Int) ≤ 0) = true from rfl, show decide ((0 : Int) ≤ 1) = true from rfl, show decide ((0 : Int) ≤ 2) = true from rfl, cond_true, cond_false, Option.bind_some]
  by_cases h1 : a1 < b1
  · exact ⟨-1, by simp [h1], by rw [← hP]; omega⟩
  · by_cases h2 : b1 < a1
    · exact ⟨1, by simp [h1, h2], by rw [← hP]; omega⟩
    · simp only [h1, h2, if_false, decide_true, Bool.not_true, cond_false]
      by_cases h3 : a2 < b2
      · exact ⟨-1, by simp [h3], by rw [← hP]; omega⟩
      · by_cases h4 : b2 < a2
        · exact ⟨1, by simp [h3, h4], by rw [← hP]; omega⟩
        · simp only [h3, h4, if_false, decide_true, Bool.not_true, cond_false]
          by_cases h5 : a3 < b3
          · exact ⟨-1, by simp [h5], by rw [← hP]; omega⟩
          · by_cases h6 : b3 < a3
            · exact ⟨1, by simp [h5, h6], by rw [← hP]; omega⟩
            · exact ⟨0, by simp [h5, h6], by rw [← hP]; omega⟩

/-- places, by their keys -/
def keyAt (K : List Key) (i : Int) : Key := (K[i.toNat]?).getD (0, 0, 0)
def ltK (K : List Key) (i j : Int) : Prop := klt (keyAt K i) (keyAt K j) = true ∨ (keyAt K i = keyAt K j ∧ i < j)
theorem key_eq {a b : Key} : a = b ↔ a.1 = b.1 ∧ a.2.1 = b.2.1 ∧ a.2.2 = b.2.2 := by
  constructor
  · rintro rfl; exact ⟨rfl, rfl, rfl⟩
  · obtain ⟨a1, a2, a3⟩ := a
    obtain ⟨b1, b2, b3⟩ := b
    rintro ⟨h1, h2, h3⟩
    simp only at h1 h2 h3
    subst h1; subst h2; subst h3; rfl
theorem ltK_tr (K : List Key) : ∀ x y z, ltK K x y → ltK K y z → ltK K x z := fun x y z h1 h2 => by
  unfold ltK at *
  rw [klt_iff, key_eq] at *
  omega
theorem ltK_irr (K : List Key) (x : Int) : ¬ ltK K x x := by
  unfold ltK
  rw [klt_iff]
  omega
theorem p_less (K : List Key) (x y : Int) (hx : 0 ≤ x) (hx2 : x < K.length) (hy : 0 ≤ y) (hy2 : y < K.length) : ∃ c, f125 x y K = some c ∧ (c < 0 ↔ klt (keyAt K x) (keyAt K y) = true) := by
  obtain ⟨c, h1, h2⟩ := p_Compare3 (keyAt K x) (keyAt K y)
  refine ⟨c, ?_, h2⟩
  unfold f125 F125
  have lx : x.toNat < K.length := by omega
  have ly : y.toNat < K.length := by omega
  have ex : keyAt K x = K[x.toNat] := by unfold keyAt; rw [List.getElem?_eq_getElem lx]; rfl
  have ey : keyAt K y = K[y.toNat] := by unfold keyAt; rw [List.getElem?_eq_getElem ly]; rfl
  rw [ex, ey] at h1
  simp only [hx, hy, decide_true, cond_true, List.getElem?_eq_getElem lx, List.getElem?_eq_getElem ly, Option.bind_some, h1]
theorem cmpK (K : List Key) {x y : Int} (hx : 0 ≤ x) (hxy : x < y) (hy : y < K.length) : Cmp K (ltK K) x y := by
  obtain ⟨c, h1, h2⟩ := p_less K y x (by omega) hy hx (by omega)
  refine ⟨c, h1, ?_⟩
  by_cases hc : c < 0
  · exact .inl ⟨hc, .inl (h2.1 hc)⟩
  · refine .inr ⟨hc, ?_⟩
    have h3 : ¬ klt (keyAt K y) (keyAt K x) = true := fun h => hc (h2.2 h)
    unfold ltK
    rw [klt_iff] at h3 ⊢
    rw [key_eq]
    omega
def iota (n : Nat) : List Int := (List.range n).map fun (k : Nat) => (k : Int)
theorem iota_mem {n : Nat} {x : Int} : x ∈ iota n ↔ 0 ≤ x ∧ x < n := by
  unfold iota
  rw [List.mem_map]
  constructor
  · rintro ⟨k, hk, rfl⟩
    rw [List.mem_range] at hk
    omega
  · rintro ⟨h1, h2⟩
    exact ⟨x.toNat, List.mem_range.2 (by omega), by omega⟩
theorem iota_pair (n : Nat) : (iota n).Pairwise (· < ·) := by
  unfold iota
  rw [List.pairwise_map]
  exact List.Pairwise.imp (fun h => by omega) List.pairwise_lt_range
theorem iota_cmp (K : List Key) : (iota K.length).Pairwise (Cmp K (ltK K)) := by
  have h := iota_pair K.length
  rw [List.pairwise_iff_forall_sublist] at h ⊢
  intro a b hab
  have h1 := h hab
  have ha := iota_mem.1 (hab.subset (by simp : a ∈ [a, b]))
  have hb := iota_mem.1 (hab.subset (by simp : b ∈ [a, b]))
  exact cmpK K ha.1 h1 hb.2
theorem p_arrange (K : List Key) (hK : K.length ≤ 30) : ∃ M, f66 K = some M ∧ M.Pairwise (ltK K) ∧ M.Perm (iota K.length) := by
  have hi : (iota K.length).length = K.length := by simp [iota]
  obtain ⟨M, e, h1, h2⟩ := p_SortStable (K := K) (ltK_tr K) (iota K.length) (iota_cmp K) (by omega)
  refine ⟨M, ?_, h1, h2⟩
  unfold f66 F66
  have t : Int.toNat (K.length : Int) = K.length := Int.toNat_natCast _
  simp only [t, show (0 : Int) ≤ (K.length : Int) by omega, Nat.le_refl, show K.length * 8 ≤ 1099511627776 by omega, show K.length ≤ 4294967296 by omega, decide_true, Bool.and_self, cond_true]
  refine loop_eq (I := fun s => ∃ i : Nat, i ≤ K.length ∧ s = (((), (), (i : Int), ()), (K, iota i ++ (List.replicate (K.length - i) 0 : List Int), ()))) (m := fun s => K.length - s.1.2.2.1.toNat) (R := fun _ => some M) ?_ ⟨0, by omega, by simp [iota]⟩ (by show K.length - _ < LOOPS; unfold LOOPS; omega)
  rintro s next ⟨i, hi1, rfl⟩ hn
  simp only [l66_0, t]
  by_cases h : i < K.length
  · have hli : (iota i).length = i := by simp [iota]
    have w : IntKind.wrap .i64 ((i : Int) + 1) = ((i + 1 : Nat) : Int) := by rw [wi (by omega) (by omega)]; omega
    have hr : (List.replicate (K.length - i) 0 : List Int) = 0 :: (List.replicate (K.length - (i + 1)) 0 : List Int) := by
      rw [show K.length - i = (K.length - (i + 1)) + 1 by omega]; rfl
    have g1 : (iota i ++ (0 : Int) :: (List.replicate (K.length - (i + 1)) 0 : List Int))[i]? = some 0 := get_mid hli.symm
    have g2 : (iota i ++ (0 : Int) :: (List.replicate (K.length - (i + 1)) 0 : List Int)).set i (i : Int) = iota i ++ (i : Int) :: (List.replicate (K.length - (i + 1)) 0 : List Int) := set_mid hli.symm
    have g3 : i < (iota i ++ (0 : Int) :: (List.replicate (K.length - (i + 1)) 0 : List Int)).length := by simp; omega
    have g4 : iota i ++ (i : Int) :: (List.replicate (K.length - (i + 1)) 0 : List Int) = iota (i + 1) ++ (List.replicate (K.length - (i + 1)) 0 : List Int) := by
      simp [iota, List.range_succ]
    rw [hr]
    simp only [List.length_replicate, show (i : Int) < (K.length : Int) by omega, show (0 : Int) ≤ (i : Int) by omega, Int.toNat_natCast, g1, g2, g3, decide_true, cond_true, Option.bind_some, w, g4]
    exact hn _ ⟨i + 1, by omega, rfl⟩ (by simp only [Int.toNat_natCast]; omega)
  · obtain rfl : i = K.length := by omega
    simp only [List.length_replicate, Int.lt_irrefl, decide_false, cond_false, Nat.sub_self, List.replicate_zero, List.append_nil, e, Option.bind_some, h2.length_eq, decide_true, Bool.and_self, cond_true]

/- jobs -/
def keyOf (s : Spec) (x : Int × List Int) (j : Job) : Key := (-(ofI s j x.1 x.2), j.born, j.id)
theorem of_rng (s : Spec) (j : Job) (now : Int) (use : List Int) : -100000000 ≤ ofI s j now use ∧ ofI s j now use ≤ 100000000 := by
  have := parts_rng s j now use
  unfold ofI
  omega
theorem p_key (s : Spec) (hs : Rng.P s) (j : Job) (hj : Rng.P j) (x : Int × List Int) (hx : I64 x.1) : f65 s j x = some (keyOf s x j) := by
  have := of_rng s j x.1 x.2
  unfold f65 F65
  rw [p_Of s hs j hj x.1 hx x.2]
  simp only [Option.bind_some]
  rw [wi (by omega) (by omega)]
  unfold keyOf
  rw [Int.zero_sub]
theorem p_Ahead (s : Spec) (hs : Rng.P s) (a b : Job) (ha : Rng.P a) (hb : Rng.P b) (x : Int × List Int) (hx : I64 x.1) : f19 s a b x = some (specOk s && klt (keyOf s x a) (keyOf s x b)) := by
  unfold f19 F19
  rw [p_Right s hs, p_key s hs a ha x hx, p_key s hs b hb x hx]
  obtain ⟨c, h1, h2⟩ := p_Compare3 (keyOf s x a) (keyOf s x b)
  simp only [Option.bind_some, h1]
  cases specOk s with
  | false => rfl
  | true =>
    simp only [Bool.not_true, cond_false, Bool.true_and]
    have : decide (c < 0) = klt (keyOf s x a) (keyOf s x b) := by
      rw [Bool.eq_iff_iff, decide_eq_true_eq]; exact h2
    rw [this]
def job0 : Job := Job.mk 0 0 0 0 (Res.mk 0 0 0 0) 0 [] 0 false false 0 0 0 0 0
def jobAt (all : List Job) (i : Int) : Job := (all[i.toNat]?).getD job0
theorem small152 {n : Nat} (h : n ≤ 1000) : smallB n 152 = true := by
  unfold smallB
  simp only [Bool.and_eq_true, decide_eq_true_eq]
  omega
theorem p_Order (s : Spec) (hs : Rng.P s) (all : List Job) (ha : all.length ≤ 30) (hj : ∀ j, j ∈ all → Rng.P j ∧ j.after.length ≤ 10) (x : Int × List Int) (hx : I64 x.1) :
    f17 s all x = some [] ∧ specOk s = false ∨ (specOk s = true ∧ ∃ M : List Int, f17 s all x = some (M.map (jobAt all)) ∧ M.Pairwise (ltK (all.map (keyOf s x))) ∧ M.Perm (iota all.length)) := by
  have hml : maxLen = 9223372036854775807 := rfl
  unfold f17 F17
  rw [p_Right s hs]
  cases hok : specOk s with
  | false => exact .inl ⟨rfl, rfl⟩
  | true =>
    right
    obtain ⟨M, e, h1, h2⟩ := p_arrange (all.map (keyOf s x)) (by simpa using ha)
    rw [List.length_map] at h2
    refine ⟨rfl, M, ?_, h1, h2⟩
    have t : Int.toNat (all.length : Int) = all.length := Int.toNat_natCast _
    simp only [Option.bind_some, Bool.not_true, cond_false, t, show (0 : Int) ≤ (all.length : Int) by omega, Nat.le_refl, show all.length * 24 ≤ 1099511627776 by omega, show all.length ≤ 4294967296 by omega, decide_true, Bool.and_self, cond_true]
    refine loop_eq (I := fun st => ∃ i : Nat, i ≤ all.length ∧ st = (((), (), (), (i : Int), ()), (s, x, (all.take i).map (keyOf s x) ++ (List.replicate (all.length - i) (0, (0, 0)) : List Key), ()))) (m := fun st => all.length - st.1.2.2.2.1.toNat) (R := fun _ => some (M.map (jobAt all))) ?_ ⟨0, by omega, by simp⟩ (by show all.length - _ < LOOPS; unfold LOOPS; omega)
    rintro st next ⟨i, hi1, rfl⟩ hn
    simp only [l17_1, t]
    by_cases h : i < all.length
    · have hli : ((all.take i).map (keyOf s x)).length = i := by rw [List.length_map, List.length_take]; omega
      have hg : all[i]? = some all[i] := List.getElem?_eq_getElem h
      have w : IntKind.wrap .i64 ((i : Int) + 1) = ((i + 1 : Nat) : Int) := by rw [wi (by omega) (by omega)]; omega
      have hr : (List.replicate (all.length - i) (0, (0, 0)) : List Key) = (0, (0, 0)) :: (List.replicate (all.length - (i + 1)) (0, (0, 0)) : List Key) := by
        rw [show all.length - i = (all.length - (i + 1)) + 1 by omega]; rfl
      have g1 : ((all.take i).map (keyOf s x) ++ ((0, (0, 0)) : Key) :: (List.replicate (all.length - (i + 1)) (0, (0, 0)) : List Key))[i]? = some (0, (0, 0)) := get_mid hli.symm
      have g2 : ((all.take i).map (keyOf s x) ++ ((0, (0, 0)) : Key) :: (List.replicate (all.length - (i + 1)) (0, (0, 0)) : List Key)).set i (keyOf s x all[i]) = (all.take i).map (keyOf s x) ++ keyOf s x all[i] :: (List.replicate (all.length - (i + 1)) (0, (0, 0)) : List Key) := set_mid hli.symm
      have g3 : i < ((all.take i).map (keyOf s x) ++ ((0, (0, 0)) : Key) :: (List.replicate (all.length - (i + 1)) (0, (0, 0)) : List Key)).length := by rw [List.length_append, hli]; simp
      have g4 : (all.take i).map (keyOf s x) ++ keyOf s x all[i] :: (List.replicate (all.length - (i + 1)) (0, (0, 0)) : List Key) = (all.take (i + 1)).map (keyOf s x) ++ (List.replicate (all.length - (i + 1)) (0, (0, 0)) : List Key) := by
        rw [List.take_add_one, hg, List.map_append]
        simp only [Option.toList_some, List.map_cons, List.map_nil, List.append_assoc, List.singleton_append]
      rw [hr]
      simp only [show (i : Int) < (all.length : Int) by omega, show (0 : Int) ≤ (i : Int) by omega, Int.toNat_natCast, hg, p_key s hs all[i] (hj _ (List.getElem_mem h)).1 x hx, g1, g2, g3, decide_true, cond_true, Option.bind_some, w, g4]
      exact hn _ ⟨i + 1, by omega, rfl⟩ (by simp only [Int.toNat_natCast]; omega)
    · obtain rfl : i = all.length := by omega
      simp only [Int.lt_irrefl, decide_false, cond_false, Nat.sub_self, List.replicate_zero, List.append_nil, List.take_length, e, Option.bind_some, show (0 : Int) ≤ (all.length : Int) by omega, Nat.zero_le, show all.length * 152 ≤ 1099511627776 by omega, show all.length ≤ 4294967296 by omega, decide_true, Bool.and_self, cond_true]
      have lM : M.length = all.length := by rw [h2.length_eq]; simp [iota]
      have key := list_loopI (β := List Job) (f := fun (s14 : ((Unit × (Int × Unit)) × ((List Job) × Unit))) nx15 => l17_0 f67 all M nx15 s14.1.2.1 s14.2.1) M (fun out z => (((), z, ()), (out, ()))) (fun out z => (out.length : Int) ≤ z) (fun out i => .inl (out ++ [jobAt all i])) (fun out => some out) (by omega)
        (fun out next _ => by simp [l17_0])
        (fun out z i next hI g0 g1 g2 g3 => by
          have hi := iota_mem.1 (h2.mem_iff.1 (List.mem_of_getElem? g2))
          have hlt : i.toNat < all.length := by omega
          have hg : all[i.toNat]? = some all[i.toNat] := List.getElem?_eq_getElem hlt
          have hja : jobAt all i = all[i.toNat] := by unfold jobAt; rw [hg]; rfl
          have hcl := p_Clone all[i.toNat].after (by have := (hj _ (List.getElem_mem hlt)).2; omega)
          refine ⟨by simp; omega, ?_⟩
          simp only [l17_0, g0, g1, g2, g3, hi.1, hg, hcl, hja, decide_true, cond_true, Option.bind_some, small152 (show out.length + 1 ≤ 1000 by omega)]) [] (by simp)
      refine Eq.trans key ?_
      rw [runL_fold]
      have e2 : ∀ (l : List Int) (out : List Job), l.foldl (fun out i => out ++ [jobAt all i]) out = out ++ l.map (jobAt all) := by
        intro l
        induction l with
        | nil => intro out; simp
        | cons y l ih => intro out; simp only [List.foldl_cons, ih]; simp
      rw [e2]
      rfl
end NM
end Go.Proofs.Ytacaeonoogkkaaa
