/-
  The statement RankOrder about plain data.
-/
import Derived.Test.YtacaeonoogkkaaaPRankT
import Derived.KernelRfl
set_option linter.unusedVariables false
set_option linter.unusedSimpArgs false
set_option maxHeartbeats 4000000
namespace Go.Proofs.Ytacaeonoogkkaaa
namespace NM
open AM
theorem awakeRo : f13 = some true := by kernel_rfl
theorem r_age (now born : Int) (h1 : I64 now) (h2 : I64 born) : f162 now born = some (ageI now born) := by
  have h1a : -9223372036854775808 ≤ now ∧ now ≤ 9223372036854775807 := h1
  have h2a : -9223372036854775808 ≤ born ∧ born ≤ 9223372036854775807 := h2
  unfold f162 F162 ageI
  by_cases h : now ≤ born
  · simp [h]
  · simp only [h, decide_false, cond_false, if_false]
    refine loop_eq (I := fun s => 1 ≤ s.1.1 ∧ s.1.1 ≤ 4096 ∧ s.1.1 ≤ now - born) (m := fun s => (4096 - s.1.1).toNat) (R := fun _ => some (if 4096 < now - born then 4096 else now - born)) ?_ ⟨by show (1 : Int) ≤ 1; omega, by show (1 : Int) ≤ 4096; omega, by show (1 : Int) ≤ _; omega⟩ (by show (4096 - 1 : Int).toNat < LOOPS; unfold LOOPS; omega)
    rintro ⟨⟨n, u⟩, v⟩ next ⟨k1, k2, k3⟩ hn
    simp only at k1 k2 k3 ⊢
    simp only [l162_0]
    by_cases h3 : n < 4096
    · have w1 : IntKind.wrap .i64 (born + n) = born + n := wi (by omega) (by omega)
      have w2 : IntKind.wrap .i64 (n + 1) = n + 1 := wi (by omega) (by omega)
      simp only [h3, w1, w2, decide_true, cond_true]
      by_cases h4 : born + n = now
      · simp only [h4, decide_true, cond_true]
        rw [if_neg (by omega)]
        congr 1; omega
      · simp only [h4, decide_false, cond_false]
        exact hn _ ⟨by simp only; omega, by simp only; omega, by simp only; omega⟩ (by simp only; omega)
    · simp only [h3, decide_false, cond_false]
      congr 1
      split <;> omega
theorem r_Hold (n lo hi : Int) : f163 n lo hi = some (holdI n lo hi) := by
  unfold f163 F163 holdI
  by_cases h1 : n < lo
  · simp [h1]
  · by_cases h2 : hi < n <;> simp [h1, h2]
theorem r_Factor (n : Int) : f164 n = some (facI n) := by
  have h := hold_rng (n := n) (lo := 0) (hi := 1099511627776) (by decide)
  unfold f164 F164 facI
  simp only [r_Hold, Option.bind_some, tdiv_nn h.1]
  rw [wi (by omega) (by omega)]
  congr 1
  have hq : 0 ≤ holdI n 0 1099511627776 / 16 := by omega
  generalize holdI n 0 1099511627776 / 16 = q at hq
  unfold holdI
  simp [show ¬ q < 0 by omega]
theorem r_Of (s : Spec) (hok : specOk s = true) (j : Job) (hj : Rng.P j) (now : Int) (hn : I64 now) (use : List Int) : f70 s j now use = some (ofI s j now use) := by
  have hr := parts_rng s j now use
  have hb : I64 j.born := hj.2.2.2.2.2.2.2.2.2.2.2.1
  have hP : f127 s j now use = some (partsI s j now use) := by
    unfold f127 F127
    unfold partsI at hr ⊢
    rw [hok] at hr
    simp only [hok, if_true] at hr ⊢
    simp only [r_age now j.born hn hb, r_Hold, Option.bind_some]
    rw [wi (x := s.weights.age * ageI now j.born) (by omega) (by omega), wi (x := s.weights.size * holdI j.many 0 64) (by omega) (by omega)]
    have e1 : (cond (decide (0 ≤ j.queue)) (cond (decide (j.queue < (s.queues.length : Int))) (cond (decide (0 ≤ j.queue)) (Option.bind (s.queues[Int.toNat j.queue]?) fun y6 => some (((), (), (), (), ()), (s, j, ((0 : Int), ((0 : Int), ((0 : Int), (0 : Int)))), (s.weights.age * ageI now j.born, (s.weights.size * holdI j.many 0 64, (IntKind.wrap .i64 (s.weights.qos * y6.qos), (0 : Int)))), ()))) none)
        (some (((), (), (), (), ()), (s, j, ((0 : Int), ((0 : Int), ((0 : Int), (0 : Int)))), (s.weights.age * ageI now j.born, (s.weights.size * holdI j.many 0 64, ((0 : Int), (0 : Int)))), ())))) (some (((), (), (), (), ()), (s, j, ((0 : Int), ((0 : Int), ((0 : Int), (0 : Int)))), (s.weights.age * ageI now j.born, (s.weights.size * holdI j.many 0 64, ((0 : Int), (0 : Int)))), ())))) = some (((), (), (), (), ()), (s, j, (0, (0, (0, 0))), (s.weights.age * ageI now j.born, (s.weights.size * holdI j.many 0 64, (s.weights.qos * qosI s j.queue, 0))), ())) := by
      unfold qosI at hr ⊢
      by_cases h1 : 0 ≤ j.queue
      · by_cases h2 : j.queue < (s.queues.length : Int)
        · have hl : j.queue.toNat < s.queues.length := by omega
          simp only [h1, h2, and_self, if_true, List.getElem?_eq_getElem hl, Option.map_some, Option.getD_some] at hr
          simp only [h1, h2, decide_true, cond_true, List.getElem?_eq_getElem hl, Option.bind_some, and_self, if_true, Option.map_some, Option.getD_some]
          rw [wi (by omega) (by omega)]
        · simp [h1, h2]
      · simp [h1]
    simp only [e1, Option.bind_some]
    unfold useI at hr ⊢
    by_cases h1 : 0 ≤ j.user
    · by_cases h2 : j.user < (use.length : Int)
      · have hl : j.user.toNat < use.length := by omega
        simp only [h1, h2, and_self, if_true, List.getElem?_eq_getElem hl, Option.getD_some] at hr
        simp only [h1, h2, decide_true, cond_true, List.getElem?_eq_getElem hl, Option.bind_some, r_Factor, and_self, if_true, Option.getD_some]
        rw [wi (by omega) (by omega)]
      · simp [h1, h2]
    · simp [h1]
  unfold f70 F70 ofI
  simp only [hP, Option.bind_some]
  rw [wi (x := (partsI s j now use).1 + (partsI s j now use).2.1) (by omega) (by omega), wi (x := (partsI s j now use).1 + (partsI s j now use).2.1 + (partsI s j now use).2.2.1) (by omega) (by omega), wi (by omega) (by omega)]
theorem r_Ahead (s : Spec) (hok : specOk s = true) (a b : Job) (ha : Rng.P a) (hb : Rng.P b) (x : Int × List Int) (hx : I64 x.1) : f20 s a b x = some (klt (keyOf s x a) (keyOf s x b)) := by
  unfold f20 F20
  simp only [r_Of s hok a ha x.1 hx x.2, r_Of s hok b hb x.1 hx x.2, Option.bind_some]
  unfold klt keyOf
  generalize ofI s a x.1 x.2 = p
  generalize ofI s b x.1 x.2 = q
  by_cases h1 : p = q
  · subst h1
    by_cases h2 : a.born = b.born
    · simp [h2]
    · simp [h2]
  · have e : decide (q < p) = decide (-p < -q) := by rw [decide_eq_decide]; omega
    simp [h1, e, show ¬ (-p = -q) by omega]
/-- the document's order -/
theorem r_Order (s : Spec) (hok : specOk s = true) (all : List Job) (hn : all.length ≤ 30) (hj : ∀ j, j ∈ all → Rng.P j) (x : Int × List Int) (hx : I64 x.1) :
    ∃ Q : List Int, f21 s all x = some (Q.map (jobAt all)) ∧ Q.Pairwise (ltK (all.map (keyOf s x))) ∧ Q.Perm (iota all.length) := by
  have hml : maxLen = 9223372036854775807 := rfl
  unfold f21 F21
  refine loop_ex (I := fun st => ∃ (i : Nat) (Q : List Int), i ≤ all.length ∧ st = (((), (), (), (i : Int), ()), (s, x, Q.map (jobAt all), ())) ∧ Q.Pairwise (ltK (all.map (keyOf s x))) ∧ Q.Perm (iota i)) (m := fun st => all.length - st.1.2.2.2.1.toNat) (Q := fun r => ∃ Q : List Int, r = some (Q.map (jobAt all)) ∧ Q.Pairwise (ltK (all.map (keyOf s x))) ∧ Q.Perm (iota all.length)) ?_ ⟨0, [], by omega, by simp, .nil, by simp [iota]⟩ (by show all.length - _ < LOOPS; unfold LOOPS; omega)
  rintro st nx4 ⟨i, Q, hi, rfl, hs, hp⟩ hnx
  simp only [l21_1]
  have lQ : Q.length = i := by rw [hp.length_eq]; simp [iota]
  by_cases h : i < all.length
  · simp only [show (i : Int) < (all.length : Int) by omega, decide_true, cond_true, List.length_map, lQ]
    refine loop_ex (I := fun st => ∃ A C : List Int, A ++ C = Q ∧ st = (((), (), (), (A.length : Int), ()), (s, x, Q.map (jobAt all), ())) ∧ ∀ c, c ∈ C → klt (keyOf s x (jobAt all i)) (keyOf s x (jobAt all c)) = true) (m := fun st => st.1.2.2.2.1.toNat) (Q := fun r => ∃ Q : List Int, r = some (Q.map (jobAt all)) ∧ Q.Pairwise (ltK (all.map (keyOf s x))) ∧ Q.Perm (iota all.length)) ?_ ⟨Q, [], by simp, by rw [lQ], by simp⟩ (by show (i : Int).toNat < LOOPS; unfold LOOPS; omega)
    rintro st nx10 ⟨A, C, rfl, rfl, hC⟩ hnx2
    simp only [l21_0]
    have hg : all[i]? = some all[i] := List.getElem?_eq_getElem h
    have hji : jobAt all i = all[i] := by unfold jobAt; rw [Int.toNat_natCast, hg]; rfl
    have w1 : IntKind.wrap .i64 ((i : Int) + 1) = ((i + 1 : Nat) : Int) := by rw [wi (by omega) (by omega)]; omega
    simp only [List.length_append] at lQ
    have hmi : ∀ c, c ∈ A ++ C → c ∈ iota all.length ∧ c < i := fun c hc => by
      have := iota_mem.1 (hp.mem_iff.1 hc)
      exact ⟨iota_mem.2 (by omega), by omega⟩
    have hii : (i : Int) ∈ iota all.length := iota_mem.2 (by omega)
    -- the end
    have fin : (∀ w, w ∈ A → ltK (all.map (keyOf s x)) w i) → ∃ R : List Int, nx4 (((), (), (), ((i + 1 : Nat) : Int), ()), (s, x, (A.map (jobAt all)) ++ all[i] :: C.map (jobAt all), ())) = some (R.map (jobAt all)) ∧ R.Pairwise (ltK (all.map (keyOf s x))) ∧ R.Perm (iota all.length) := fun hA => by
      refine hnx _ ⟨i + 1, A ++ (i : Int) :: C, by omega, by simp [hji], ?_, ?_⟩ (by simp only [Int.toNat_natCast]; omega)
      · rw [List.pairwise_append] at hs ⊢
        refine ⟨hs.1, List.pairwise_cons.2 ⟨fun c hc => ?_, hs.2.1⟩, fun w hw c hc => ?_⟩
        · unfold ltK
          rw [keyAt_map hii, keyAt_map (hmi c (by simp [hc])).1]
          exact .inl (hC c hc)
        · rcases List.mem_cons.1 hc with rfl | hc
          · exact hA w hw
          · exact hs.2.2 w hw c hc
      · refine (List.perm_middle (a := (i : Int)) (l₁ := A) (l₂ := C)).trans ?_
        refine ((List.Perm.cons (i : Int) hp)).trans ?_
        have : iota (i + 1) = iota i ++ [(i : Int)] := by simp [iota, List.range_succ]
        rw [this]
        exact List.perm_append_comm (l₁ := [(i : Int)]) (l₂ := iota i)
    have lz : (List.map (jobAt all) (A ++ C)).length = i := by rw [List.length_map, List.length_append]; exact lQ
    have t1 : List.take A.length (List.drop 0 (List.map (jobAt all) (A ++ C))) = A.map (jobAt all) := by
      rw [List.drop_zero, List.map_append]
      exact List.take_left' (by simp)
    have t2 : List.drop A.length (List.map (jobAt all) (A ++ C)) = C.map (jobAt all) := by
      rw [List.map_append]
      exact List.drop_left' (by simp)
    have t3 : List.take (i - A.length) (C.map (jobAt all)) = C.map (jobAt all) := List.take_of_length_le (by simp; omega)
    have hla : (A.map (jobAt all)).length = A.length := List.length_map _
    -- what is built behind the loop
    have bld : ∀ k : List Job → Option (List Job), (cond (decide (A.length ≤ i)) (cond (decide ((0 + A.length) ≤ i)) (cond (smallB (A.map (jobAt all)).length 152) (cond (smallB (([] ++ A.map (jobAt all)).length + 1) 152)
        (cond (decide (A.length ≤ i)) (cond ((decide (A.length = 0)) || (decide (A.length < i))) (cond (decide ((A.length + (i - A.length)) ≤ i)) (cond (smallB ((([] ++ A.map (jobAt all)) ++ [all[i]]).length + (List.take (i - A.length) (C.map (jobAt all))).length) 152) (k ((([] ++ A.map (jobAt all)) ++ [all[i]]) ++ List.take (i - A.length) (C.map (jobAt all)))) none) none)
          (cond (smallB ((([] ++ A.map (jobAt all)) ++ [all[i]]).length + 0) 152) (k ((([] ++ A.map (jobAt all)) ++ [all[i]]) ++ [])) none)) none) none) none) none) none) = k (A.map (jobAt all) ++ all[i] :: C.map (jobAt all)) := by
      intro k
      simp only [show A.length ≤ i by omega, show 0 + A.length ≤ i by omega, show A.length + (i - A.length) ≤ i by omega, t3, small152 (show (A.map (jobAt all)).length ≤ 1000 by rw [hla]; omega), small152 (show ([] ++ A.map (jobAt all)).length + 1 ≤ 1000 by simp; omega), small152 (show (([] ++ A.map (jobAt all)) ++ [all[i]]).length + (C.map (jobAt all)).length ≤ 1000 by simp; omega), small152 (show (([] ++ A.map (jobAt all)) ++ [all[i]]).length + 0 ≤ 1000 by simp; omega), decide_true, cond_true]
      by_cases hz : A.length = 0
      · simp [hz]
      · by_cases hz2 : A.length < i
        · simp [hz2]
        · have : C = [] := by
            have : C.length = 0 := by omega
            exact List.length_eq_zero_iff.1 this
          subst this
          simp [hz, hz2]
    by_cases hA : A = []
    · subst hA
      have := fin (fun w hw => by simp at hw)
      simp only [List.length_nil, show ¬ (0 : Int) < ((0 : Nat) : Int) by omega, show (0 : Int) ≤ ((0 : Nat) : Int) by omega, show (0 : Int) ≤ (i : Int) by omega, Int.toNat_natCast, decide_true, decide_false, cond_true, cond_false, hg, Option.bind_some, lz, w1]
      have hb := bld fun z => nx4 (((), (), (), ((i + 1 : Nat) : Int), ()), (s, x, z, ()))
      simp only [List.length_nil] at hb t1 t2
      rw [t1, t2]
      refine cast (congrArg (fun r => ∃ R : List Int, r = some (R.map (jobAt all)) ∧ R.Pairwise (ltK (all.map (keyOf s x))) ∧ R.Perm (iota all.length)) ?_) this
      exact hb.symm
    · obtain ⟨A, w, rfl⟩ : ∃ A' w, A = A' ++ [w] := ⟨A.dropLast, A.getLast hA, (List.dropLast_concat_getLast hA).symm⟩
      have lA : (A ++ [w]).length = A.length + 1 := by simp
      have w2 : IntKind.wrap .i64 (((A ++ [w]).length : Int) - 1) = (A.length : Int) := by rw [wi (by omega) (by omega)]; omega
      have gw : (List.map (jobAt all) (A ++ [w] ++ C))[A.length]? = some (jobAt all w) := by
        rw [List.getElem?_map]
        simp
      have hw := hmi w (by simp)
      have hjw : Rng.P (jobAt all w) := by
        have := iota_mem.1 hw.1
        have hlt : w.toNat < all.length := by omega
        unfold jobAt
        rw [List.getElem?_eq_getElem hlt]
        exact hj _ (List.getElem_mem hlt)
      simp only [show (0 : Int) < ((A ++ [w]).length : Int) by omega, w2, show (0 : Int) ≤ (A.length : Int) by omega, show (0 : Int) ≤ (i : Int) by omega, show (0 : Int) ≤ ((A ++ [w]).length : Int) by omega, Int.toNat_natCast, lz, show A.length < i by omega, gw, hg, decide_true, cond_true, Option.bind_some, r_Ahead s hok all[i] (jobAt all w) (hj _ (List.getElem_mem h)) hjw x hx, w1]
      cases hk : klt (keyOf s x all[i]) (keyOf s x (jobAt all w)) with
      | true =>
        simp only [cond_true]
        refine hnx2 _ ⟨A, w :: C, by simp, by simp, fun c hc => ?_⟩ (by simp only [Int.toNat_natCast]; omega)
        rcases List.mem_cons.1 hc with rfl | hc
        · rw [hji]; exact hk
        · exact hC c hc
      | false =>
        simp only [cond_false]
        have := fin (fun v hv => by
          have hwi : ltK (all.map (keyOf s x)) w i := by
            unfold ltK
            rw [keyAt_map hii, keyAt_map hw.1, hji]
            have h1 : ¬ klt (keyOf s x all[i]) (keyOf s x (jobAt all w)) = true := by rw [hk]; simp
            rw [klt_iff] at h1 ⊢
            rw [key_eq]
            have := hw.2
            omega
          rw [List.pairwise_append, List.pairwise_append] at hs
          rcases List.mem_append.1 hv with hv | hv
          · exact ltK_tr _ _ _ _ (hs.1.2.2 v hv w (by simp)) hwi
          · rw [List.mem_singleton] at hv; subst hv; exact hwi)
        have hb := bld fun z => nx4 (((), (), (), ((i + 1 : Nat) : Int), ()), (s, x, z, ()))
        rw [t1, t2]
        refine cast (congrArg (fun r => ∃ R : List Int, r = some (R.map (jobAt all)) ∧ R.Pairwise (ltK (all.map (keyOf s x))) ∧ R.Perm (iota all.length)) ?_) this
        exact hb.symm
  · obtain rfl : i = all.length := by omega
    simp only [Int.lt_irrefl, decide_false, cond_false]
    exact ⟨Q, rfl, hs, hp⟩
theorem law_RankOrder (s : Spec) (hs : Rng.P s) (all : List Job) (ha : Rng.P all) (x : Int × List Int) (hx : Rng.P x) : f4 s all x = some true := by
  have hml : maxLen = 9223372036854775807 := rfl
  have hx1 : I64 x.1 := hx.1
  have ha1 : all.length ≤ maxLen := ha.1
  unfold f4 F4
  simp only [awakeRo, r_Few s hs, r_FewJ all ha1, r_Right s hs, Option.bind_some, Bool.not_true, cond_false]
  cases fewB s with
  | false => rfl
  | true =>
    cases hf : fewJ all with
    | false => rfl
    | true =>
      by_cases hu : 20 < (x.2.length : Int)
      · simp [hu]
      · simp only [hu, Bool.not_true, decide_false, cond_false]
        simp only [fewJ, Bool.and_eq_true, decide_eq_true_eq, List.all_eq_true] at hf
        obtain ⟨hn, hafter⟩ := hf
        have hj : ∀ j, j ∈ all → Rng.P j ∧ j.after.length ≤ 10 := fun j h => ⟨ha.2 j h, hafter j h⟩
        rcases p_Order s hs all hn hj x hx1 with ⟨e, hok⟩ | ⟨hok, M, e, s1, p1⟩
        · rw [e, hok]
          simp only [Option.bind_some, Bool.not_false, cond_true, List.length_nil, decide_true, show ((0 : Nat) : Int) = 0 from rfl]
          by_cases h2 : (all.length : Int) < 2
          · simp [h2]
          · have g0 : all[0]? = some all[0] := List.getElem?_eq_getElem (by omega)
            have g1 : all[1]? = some all[1] := List.getElem?_eq_getElem (by omega)
            simp only [h2, decide_false, cond_false, g0, g1, Option.bind_some, p_Ahead s hs all[0] all[1] (hj _ (List.getElem_mem _)).1 (hj _ (List.getElem_mem _)).1 x hx1, hok, Bool.false_and, Bool.not_false]
        · obtain ⟨Q, e2, s2, p2⟩ := r_Order s hok all hn (fun j h => (hj j h).1) x hx1
          have hQ : M = Q := sorted_eq (ltK_irr _) (ltK_tr _) s1 s2 (p1.trans p2.symm)
          subst hQ
          have hsame : f18 (M.map (jobAt all)) (M.map (jobAt all)) = some true := by
            refine p_SameL _ ?_ fun j h => ?_
            · rw [List.length_map, p1.length_eq]; simp [iota]; omega
            · have hp := p1.map (jobAt all)
              rw [iota_jobs] at hp
              exact (hj j (hp.mem_iff.1 h)).2
          rw [e, hok, e2]
          simp only [Option.bind_some, Bool.not_true, cond_false, hsame]
          by_cases h2 : 2 ≤ (all.length : Int)
          · have g0 : all[0]? = some all[0] := List.getElem?_eq_getElem (by omega)
            have g1 : all[1]? = some all[1] := List.getElem?_eq_getElem (by omega)
            simp only [h2, decide_true, cond_true, g0, g1, Option.bind_some, p_Ahead s hs all[0] all[1] (hj _ (List.getElem_mem _)).1 (hj _ (List.getElem_mem _)).1 x hx1, r_Ahead s hok all[0] all[1] (hj _ (List.getElem_mem _)).1 (hj _ (List.getElem_mem _)).1 x hx1, hok, Bool.true_and, BEq.rfl, Bool.not_true, cond_false]
          · simp only [h2, decide_false, cond_false]
end NM
namespace rankOrder
open NM AM
theorem jobs_self (l : List Job) : (NEnc.f l : List Job) = l := List.map_id' l
theorem now_self (x : Int × List Int) : (NEnc.f x : Int × List Int) = x := Prod.ext rfl (List.map_id' x.2)
theorem walk (x0 : Spec) (x1 : List Job) (x2 : Int × List Int) (v0 v1 v2 : Value) (W : World) (h0 : V W (Lt W.heap.size) x0 v0) (h1 : V W (Lt W.heap.size) x1 v1) (h2 : V W (Lt W.heap.size) x2 v2) :
    Calls Try.prog 4 #[v0, v1, v2] W fun e w' => e = .returned (.bool true) ∧ Go.RowKit.Below W.heap.size W w' :=
  nlaw_walk NM.ok4 (x := (NEnc.f x0, NEnc.f x1, NEnc.f x2, ())) (by rw [jobs_self x1, now_self x2]; exact law_RankOrder x0 (Rng.ok h0.1) x1 (Rng.ok h1.1) x2 (Rng.ok h2.1)) (arg_cons x0 (arg_cons x1 (arg_cons x2 arg_nil))) rfl fun j a v ha hv => by
    match j with
    | 0 => simp at ha hv; subst ha; subst hv; exact h0.vr (fun _ h => h) _
    | 1 => simp at ha hv; subst ha; subst hv; exact h1.vr (fun _ h => h) _
    | 2 => simp at ha hv; subst ha; subst hv; exact h2.vr (fun _ h => h) _
end rankOrder
end Go.Proofs.Ytacaeonoogkkaaa
