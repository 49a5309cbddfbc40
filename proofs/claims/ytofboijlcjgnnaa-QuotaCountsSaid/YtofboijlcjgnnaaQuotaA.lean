/-
  Counting the jobs of a queue: the program's closures and the document's loop count the same.
-/
import Derived.Test.YtofboijlcjgnnaaCodeQuota
import Derived.Test.YtofboijlcjgnnaaEnc
set_option linter.unusedVariables false
set_option linter.unusedSimpArgs false
namespace Go.Proofs.Ytofboijlcjgnnaa
namespace AM
set_option maxRecDepth 100000

theorem cells_job (j : Job) : Enc.cells j = [.int .i64 j.id, .int .i64 j.user, .int .i64 j.queue, .int .i64 j.many, .int .i64 j.need.cpu, .int .i64 j.need.mem, .int .i64 j.need.gpu, .int .i64 j.need.lic, .int .i64 j.wall, .imm 2 (j.after.map Enc.cells), .int .i64 j.state, .bool j.ok, .bool j.kill, .int .i64 j.version, .int .i64 j.born, .int .i64 j.start, .int .i64 j.fin, .int .i64 j.array] := rfl
theorem waits (n : Int) : g_22 [.int .i64 n] [] = some (.bool (decide (n = 1) || decide (n = 2)), []) := by
  unfold g_22 a_22
  by_cases h : n = 1 <;> by_cases h2 : n = 2 <;> simp [h, h2]
theorem has (n : Int) : g_23 [.int .i64 n] [] = some (.bool (decide (n = 3) || decide (n = 4)), []) := by
  unfold g_23 a_23
  by_cases h : n = 3 <;> by_cases h2 : n = 4 <;> simp [h, h2]

def pW (q : Int) (j : Job) : Bool := decide (j.queue = q) && (decide (j.state = 1) || decide (j.state = 2))
def pH (q : Int) (j : Job) : Bool := decide (j.queue = q) && (decide (j.state = 3) || decide (j.state = 4))
def pO (q u : Int) (j : Job) : Bool := decide (j.queue = q) && decide (j.user = u) && (decide (j.state = 3) || decide (j.state = 4))

theorem cW (q : Int) (j : Job) : g_105 [.agg (Enc.cells j), .iptr [.int .i64 q] 0] [] = some (.bool (pW q j), []) := by
  unfold g_105 a_105 pW
  rw [cells_job]
  by_cases h : j.queue = q <;> simp [h, waits]
theorem cH (q : Int) (j : Job) : g_106 [.agg (Enc.cells j), .iptr [.int .i64 q] 0] [] = some (.bool (pH q j), []) := by
  unfold g_106 a_106 pH
  rw [cells_job]
  by_cases h : j.queue = q <;> simp [h, has]
theorem cO (q u : Int) (j : Job) : g_107 [.agg (Enc.cells j), .iptr [.int .i64 q] 0, .iptr [.int .i64 u] 0] [] = some (.bool (pO q u j), []) := by
  unfold g_107 a_107 pO
  rw [cells_job]
  by_cases h : j.queue = q <;> by_cases h2 : j.user = u <;> simp [h, h2, has]

theorem awake19 : g_62 [] [] = some (.bool true, []) := by kernel_rfl

/-- how many among the first k -/
def cnt (p : Job → Bool) (l : List Job) (k : Nat) : Nat := (l.take k).countP p
theorem cnt_succ (p : Job → Bool) (l : List Job) (k : Nat) (h : k < l.length) : cnt p l (k + 1) = cnt p l k + if p l[k] then 1 else 0 := by
  unfold cnt
  rw [List.take_succ_eq_append_getElem h, List.countP_append]
  simp [List.countP_cons]
theorem cnt_le (p : Job → Bool) (l : List Job) (k : Nat) : cnt p l k ≤ k := by
  unfold cnt
  exact Nat.le_trans List.countP_le_length (List.length_take_le _ _)

def hCount (cap : List AVal) (F : Nat) (p : Job → Bool) (l : List Job) (k : Nat) : St :=
  ⟨[.undef, .fn F cap, .undef, .undef, .undef, .int .i64 (cnt p l k : Int), .undef, .undef, .imm 18 (l.map Enc.cells), .int .i64 (l.length : Int), .int .i64 (k : Int), .undef, .undef, .undef, .undef, .undef, .undef, .undef, .undef, .undef, .undef], [], 0⟩

theorem count1 (K : Oracle) (F : Nat) (p : Job → Bool) (l : List Job) (hl : l.length ≤ 30) (q : Int) (hK : ∀ j : Job, K F [.agg (Enc.cells j), .iptr [.int .i64 q] 0] [] = some (.bool (p j), [])) :
    runBody K a_104 [.imm 18 (l.map Enc.cells), .fn F [.iptr [.int .i64 q] 0]] [] = some (.int .i64 (cnt p l l.length : Int), []) := by
  simp only [cells_job] at hK
  have step : ∀ k, k < l.length → roundN [1, 5, 8, 9, 10] (exec K LOOPS b_104_0) (hCount [.iptr [.int .i64 q] 0] F p l k) = some (hCount [.iptr [.int .i64 q] 0] F p l (k + 1)) := fun k hk => by
    have hc := cnt_le p l k
    have w1 : IntKind.i64.wrap ((cnt p l k : Int) + 1) = cnt p l k + 1 := wrap64 (by omega) (by omega)
    have w2 : IntKind.i64.wrap ((k : Int) + 1) = k + 1 := wrap64 (by omega) (by omega)
    unfold roundN hCount b_104_0
    rw [cnt_succ p l k hk]
    cases hp : p l[k] <;> simp [hk, cells_job, hK, hp, w1, w2]
  have last : ∃ st, exec K LOOPS b_104_0 (hCount [.iptr [.int .i64 q] 0] F p l l.length) = some (.exit 0, st) ∧ st.tmps.length = 21 ∧ st.tmps[5]? = some (.int .i64 (cnt p l l.length : Int)) ∧ st.heap = [] ∧ st.k = 0 := by
    unfold hCount b_104_0
    simp
  obtain ⟨st, e1, e2, e3, e4, e5⟩ := last
  have run : ∀ st0, norm [1, 5, 8, 9, 10] st0 = some (hCount [.iptr [.int .i64 q] 0] F p l 0) → iter [1, 5, 8, 9, 10] (exec K LOOPS b_104_0) LOOPS st0 = some (.exit 0, st) := fun st0 h0 =>
    iter_upto h0 step e1 (by simp) (loops_big (by omega))
  obtain ⟨tm, hp, kk⟩ := st
  simp only at e2 e3 e4 e5
  subst e4
  subst e5
  have e6 : 5 < tm.length := by omega
  have e7 : tm[5] = .int .i64 (cnt p l l.length : Int) := by simpa [List.getElem?_eq_getElem e6] using e3
  unfold a_104
  have h0 := run ⟨[.imm 18 (l.map Enc.cells), .fn F [.iptr [.int .i64 q] 0], .undef, .undef, .int .i64 0, .int .i64 0, .undef, .undef, .imm 18 (l.map Enc.cells), .int .i64 (l.length : Int), .int .i64 0, .undef, .undef, .undef, .undef, .undef, .undef, .undef, .undef, .undef, .undef], [], 0⟩ (by simp [hCount, cnt])
  simp [h0, e2, e6, e7]


theorem count2 (K : Oracle) (F : Nat) (p : Job → Bool) (l : List Job) (hl : l.length ≤ 30) (q u : Int) (hK : ∀ j : Job, K F [.agg (Enc.cells j), .iptr [.int .i64 q] 0, .iptr [.int .i64 u] 0] [] = some (.bool (p j), [])) :
    runBody K a_104 [.imm 18 (l.map Enc.cells), .fn F [.iptr [.int .i64 q] 0, .iptr [.int .i64 u] 0]] [] = some (.int .i64 (cnt p l l.length : Int), []) := by
  simp only [cells_job] at hK
  have step : ∀ k, k < l.length → roundN [1, 5, 8, 9, 10] (exec K LOOPS b_104_0) (hCount [.iptr [.int .i64 q] 0, .iptr [.int .i64 u] 0] F p l k) = some (hCount [.iptr [.int .i64 q] 0, .iptr [.int .i64 u] 0] F p l (k + 1)) := fun k hk => by
    have hc := cnt_le p l k
    have w1 : IntKind.i64.wrap ((cnt p l k : Int) + 1) = cnt p l k + 1 := wrap64 (by omega) (by omega)
    have w2 : IntKind.i64.wrap ((k : Int) + 1) = k + 1 := wrap64 (by omega) (by omega)
    unfold roundN hCount b_104_0
    rw [cnt_succ p l k hk]
    cases hp : p l[k] <;> simp [hk, cells_job, hK, hp, w1, w2]
  have last : ∃ st, exec K LOOPS b_104_0 (hCount [.iptr [.int .i64 q] 0, .iptr [.int .i64 u] 0] F p l l.length) = some (.exit 0, st) ∧ st.tmps.length = 21 ∧ st.tmps[5]? = some (.int .i64 (cnt p l l.length : Int)) ∧ st.heap = [] ∧ st.k = 0 := by
    unfold hCount b_104_0
    simp
  obtain ⟨st, e1, e2, e3, e4, e5⟩ := last
  have run : ∀ st0, norm [1, 5, 8, 9, 10] st0 = some (hCount [.iptr [.int .i64 q] 0, .iptr [.int .i64 u] 0] F p l 0) → iter [1, 5, 8, 9, 10] (exec K LOOPS b_104_0) LOOPS st0 = some (.exit 0, st) := fun st0 h0 =>
    iter_upto h0 step e1 (by simp) (loops_big (by omega))
  obtain ⟨tm, hp, kk⟩ := st
  simp only at e2 e3 e4 e5
  subst e4
  subst e5
  have e6 : 5 < tm.length := by omega
  have e7 : tm[5] = .int .i64 (cnt p l l.length : Int) := by simpa [List.getElem?_eq_getElem e6] using e3
  unfold a_104
  have h0 := run ⟨[.imm 18 (l.map Enc.cells), .fn F [.iptr [.int .i64 q] 0, .iptr [.int .i64 u] 0], .undef, .undef, .int .i64 0, .int .i64 0, .undef, .undef, .imm 18 (l.map Enc.cells), .int .i64 (l.length : Int), .int .i64 0, .undef, .undef, .undef, .undef, .undef, .undef, .undef, .undef, .undef, .undef], [], 0⟩ (by simp [hCount, cnt])
  simp [h0, e2, e6, e7]

theorem waiting (l : List Job) (hl : l.length ≤ 30) (q : Int) : g_64 [.imm 18 (l.map Enc.cells), .int .i64 q] [] = some (.int .i64 (cnt (pW q) l l.length : Int), []) := by
  have h : g_104 [.imm 18 (l.map Enc.cells), .fn 105 [.iptr [.int .i64 q] 0]] [] = some (.int .i64 (cnt (pW q) l l.length : Int), []) := by
    unfold g_104
    exact count1 _ 105 _ l hl q (fun j => by simp [cW])
  unfold g_64 a_64
  simp [h]
theorem having (l : List Job) (hl : l.length ≤ 30) (q : Int) : g_66 [.imm 18 (l.map Enc.cells), .int .i64 q] [] = some (.int .i64 (cnt (pH q) l l.length : Int), []) := by
  have h : g_104 [.imm 18 (l.map Enc.cells), .fn 106 [.iptr [.int .i64 q] 0]] [] = some (.int .i64 (cnt (pH q) l l.length : Int), []) := by
    unfold g_104
    exact count1 _ 106 _ l hl q (fun j => by simp [cH])
  unfold g_66 a_66
  simp [h]
theorem of_ (l : List Job) (hl : l.length ≤ 30) (q u : Int) : g_67 [.imm 18 (l.map Enc.cells), .int .i64 q, .int .i64 u] [] = some (.int .i64 (cnt (pO q u) l l.length : Int), []) := by
  have h : g_104 [.imm 18 (l.map Enc.cells), .fn 107 [.iptr [.int .i64 q] 0, .iptr [.int .i64 u] 0]] [] = some (.int .i64 (cnt (pO q u) l l.length : Int), []) := by
    unfold g_104
    exact count2 _ 107 _ l hl q u (fun j => by simp [cO])
  unfold g_67 a_67
  simp [h]

def hFew (l : List Job) (k : Nat) : St :=
  ⟨[.undef, .undef, .undef, .undef, .undef, .undef, .undef, .undef, .imm 18 (l.map Enc.cells), .int .i64 (l.length : Int), .int .i64 (k : Int), .undef, .undef, .undef, .undef, .undef, .undef, .undef, .undef], [], 0⟩

theorem few (l : List Job) : ∃ b, g_63 [.imm 18 (l.map Enc.cells)] [] = some (.bool b, []) ∧ (b = true → l.length ≤ 30) := by
  by_cases hl : l.length ≤ 30
  · let m := l.findIdx fun j => decide (10 < j.after.length)
    have hm : m ≤ l.length := List.findIdx_le_length
    have ht : tab [] = fun _ _ _ => none := by funext x y z; rfl
    have step : ∀ k, k < m → roundN [8, 9, 10] (exec (fun _ _ _ => none) LOOPS b_63_0) (hFew l k) = some (hFew l (k + 1)) := fun k hk => by
      have w2 : IntKind.i64.wrap ((k : Int) + 1) = k + 1 := wrap64 (by omega) (by omega)
      have hkl : k < l.length := by omega
      have hb : ¬ 10 < l[k].after.length := by simpa using List.not_of_lt_findIdx hk
      have hb2 : l[k].after.length ≤ 10 := by omega
      have hb3 : ¬ (10 : Int) < (l[k].after.length : Int) := by omega
      unfold roundN hFew b_63_0
      simp [hkl, cells_job, w2, hb, hb2, hb3]
    have h0 : norm [8, 9, 10] ⟨[.imm 18 (l.map Enc.cells), .undef, .bool false, .undef, .undef, .imm 18 (l.map Enc.cells), .int .i64 (l.length : Int), .bool false, .imm 18 (l.map Enc.cells), .int .i64 (l.length : Int), .int .i64 0, .undef, .undef, .undef, .undef, .undef, .undef, .undef, .undef], [], 0⟩ = some (hFew l 0) := by simp [hFew]
    have hle : ¬ (30 : Int) < (l.length : Int) := by omega
    by_cases hlt : m < l.length
    · have hb : 10 < l[m].after.length := by simpa using List.findIdx_getElem (w := hlt)
      have hb3 : (10 : Int) < (l[m].after.length : Int) := by omega
      have last : ∃ st, exec (fun _ _ _ => none) LOOPS b_63_0 (hFew l m) = some (.ret, st) ∧ st.tmps.length = 19 ∧ st.tmps[2]? = some (.bool false) ∧ st.k = 0 := by
        unfold hFew b_63_0
        simp [hlt, cells_job, hb, hb3]
      obtain ⟨⟨tm, hp, kk⟩, e1, e2, e3, e5⟩ := last
      simp only at e2 e3 e5
      subst e5
      have e6 : 2 < tm.length := by omega
      have e7 : tm[2] = .bool false := by simpa [List.getElem?_eq_getElem e6] using e3
      have run := iter_upto h0 step e1 (by simp) (loops_big (by omega))
      refine ⟨false, ?_, by simp⟩
      unfold g_63 a_63
      simp [hle, run, e2, e6, e7]
    · have hme : m = l.length := by omega
      have last : ∃ st, exec (fun _ _ _ => none) LOOPS b_63_0 (hFew l m) = some (.exit 0, st) ∧ st.tmps.length = 19 ∧ st.k = 0 := by
        rw [hme]
        unfold hFew b_63_0
        simp
      obtain ⟨⟨tm, hp, kk⟩, e1, e2, e5⟩ := last
      simp only at e2 e5
      subst e5
      have e6 : 2 < tm.length := by omega
      have run := iter_upto h0 step e1 (by simp) (loops_big (by omega))
      refine ⟨true, ?_, fun _ => hl⟩
      unfold g_63 a_63
      simp [hle, run, e2, e6]
  · have hle : (30 : Int) < (l.length : Int) := by omega
    refine ⟨false, ?_, by simp⟩
    unfold g_63 a_63
    simp [hle]


end AM
end Go.Proofs.Ytofboijlcjgnnaa
