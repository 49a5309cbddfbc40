/-
  slices.Clone at a type of several cells, on memory as it lies.
-/
import Derived.Test.YtfelhbeiegppgaaNClone
import Derived.Test.YtfelhbeiegppgaaInsJob
set_option linter.unusedVariables false
set_option linter.unusedSimpArgs false
namespace Go.Proofs.Ytfelhbeiegppgaa
open Go.RowKit Go.Lib Go
namespace CloneJob
open InsJob
set_option maxHeartbeats 4000000 in
set_option maxRecDepth 100000 in
theorem walk (m n c : Nat) (cur : Array Value) (tb : TypeId) (w : World) (hn : 1 ≤ n) (hcur : n * 18 ≤ cur.size) (hbig : n * 152 ≤ 140737488355328) (hh : w.heap[m]? = some (.cells cur tb (0, 0))) :
    Calls Try.prog 37 #[.slice (some ⟨m, 0, none⟩) n c] w (InsPost 18 w w.heap.size n (cur.toList.take (n * 18))) := by
  have mixed : Try.prog.follows .mixedOrders = true := by kernel_rfl
  have hm : m < w.heap.size := by
    rcases Nat.lt_or_ge m w.heap.size with h | h
    · exact h
    · rw [Array.getElem?_eq_none h] at hh; cases hh
  obtain ⟨i0, hi0, hz0, hs0, hb0⟩ := info_parts (P := Try.prog) (e := 26) (z := (.agg #[.int .i64 0, .int .i64 0, .int .i64 0, .int .i64 0, .int .i64 0, .int .i64 0, .int .i64 0, .int .i64 0, .int .i64 0, .slice none 0 0, .int .i64 0, .bool false, .bool false, .int .i64 0, .int .i64 0, .int .i64 0, .int .i64 0, .int .i64 0])) (size := 18) (bytes := 152) (by kernel_rfl)
  have hvl : (cur.toList.take (n * 18)).length = n * 18 := by rw [List.length_take, Array.length_toList]; omega
  have hq := fun (u : World) => Lib.run_eql_slice_nil (P := Try.prog) u 38 26 (some ⟨m, 0, none⟩) n c 0 0 Try.underlying38
  obtain ⟨w1, hw1⟩ : ∃ w1 : World, w1 = w.alloc (.cells #[] 26) := ⟨_, rfl⟩
  have hh1 : w1.heap[m]? = some (.cells cur tb (0, 0)) := by rw [hw1, heap_alloc_old w _ hm]; exact hh
  have hsz1 : w1.heap.size = w.heap.size + 1 := by rw [hw1]; simp
  obtain ⟨G, hG⟩ : ∃ G, G = grownCap w1 (0 + n) 0 26 := ⟨_, rfl⟩
  have hG1 : 0 + n ≤ G := by rw [hG]; exact grownCap_ge _ _ _ _
  obtain ⟨ROW, hROW⟩ : ∃ ROW : Array Value, ROW = ([] : List Value).toArray ++ (cur.toList.take (n * 18)).toArray ++ Builtin.zeroCells (Value.cells (.agg #[.int .i64 0, .int .i64 0, .int .i64 0, .int .i64 0, .int .i64 0, .int .i64 0, .int .i64 0, .int .i64 0, .int .i64 0, .slice none 0 0, .int .i64 0, .bool false, .bool false, .int .i64 0, .int .i64 0, .int .i64 0, .int .i64 0, .int .i64 0])) (G - (0 + n)) := ⟨_, rfl⟩
  have hrun : ∀ ty, (Builtin.append_ #[38, 38] ty #[.slice (some ⟨w.heap.size, 0, none⟩) 0 0, .slice (some ⟨m, 0, none⟩) n c]).run Try.prog w1 = .ok (.slice (some ⟨w1.heap.size, 0, none⟩) (0 + n) G) (w1.drew.alloc (.cells ROW 26)) := fun ty => by
    have hfirst : (Builtin.firstCells i0.size n (.slice (some ⟨m, 0, none⟩) n c)).run Try.prog w1.drew = .ok (cur.toList.take (n * 18)).toArray w1.drew := by
      rw [hs0]
      refine run_firstCells_some w1.drew 18 n ⟨m, 0, none⟩ n c _ hvl fun j v hj => ?_
      rw [Addr.add_lit, Nat.zero_add, cellsOf (w := w1.drew) (t := tb) (fr := (0, 0)) (cur := cur) hh1]
      rw [List.getElem?_take] at hj
      split at hj
      · rw [← Array.getElem?_toList]; exact hj
      · cases hj
    have hold : (Builtin.firstCells i0.size 0 (.slice (some ⟨w.heap.size, 0, none⟩) 0 0)).run Try.prog w1.drew = .ok ([] : List Value).toArray w1.drew := by
      rw [hs0]
      exact run_firstCells_some w1.drew 18 0 ⟨w.heap.size, 0, none⟩ 0 0 [] (by simp) (fun j v hj => by simp at hj)
    rw [app_grows Try.underlying38 hi0 hz0 rfl hfirst hold (by omega) (by omega) (by rw [hb0, Nat.zero_add]; exact hbig), hROW, hG]
  have hsz : ROW.size = G * 18 := by
    have hzc : (Value.cells (.agg #[.int .i64 0, .int .i64 0, .int .i64 0, .int .i64 0, .int .i64 0, .int .i64 0, .int .i64 0, .int .i64 0, .int .i64 0, .slice none 0 0, .int .i64 0, .bool false, .bool false, .int .i64 0, .int .i64 0, .int .i64 0, .int .i64 0, .int .i64 0])).size = 18 := rfl
    rw [hROW, Array.size_append, Array.size_append, List.size_toArray, List.size_toArray, hvl, size_zeroCells, hzc]
    simp only [List.length_nil]
    omega
  have hfin : ∀ j v, (cur.toList.take (n * 18))[j]? = some v → ROW[j]? = some v := fun j v hj => by
    rw [← Array.getElem?_toList, hROW]
    simp only [Array.toList_append, List.nil_append]
    have hjl := (List.getElem?_eq_some_iff.1 hj).1
    rw [List.getElem?_append_left hjl]
    exact hj
  clear hROW hG
  rw [hw1] at hrun
  go_enter Try.func37, Try.ntmps37
  go_wp2_with (at_builtin; refine Lib.wpList_append_run _ rfl _ _ _ _ rfl _ _ rfl rfl _ _ (hrun _) ?_)
  go_ret
  have e2 : (w.alloc (.cells #[] 26)).heap.size = w.heap.size + 1 := by simp
  refine ⟨w.heap.size + 1, G, G, ROW, 26, rfl, ?_, hsz, Nat.le_refl _, by omega, hfin, .inr (Nat.le_succ _), rfl, rfl, rfl, ?_, fun j hj _ => ?_⟩
  · show ((w.alloc (.cells #[] 26)).alloc (.cells ROW 26)).heap[w.heap.size + 1]? = _
    rw [← e2]
    exact heap_alloc_new _ _
  · show w.heap.size ≤ ((w.alloc (.cells #[] 26)).alloc (.cells ROW 26)).heap.size
    simp
    omega
  · show ((w.alloc (.cells #[] 26)).alloc (.cells ROW 26)).heap[j]? = _
    rw [heap_alloc_old _ _ (by omega)]
    exact heap_alloc_old w _ hj
theorem none_ (A : Option Addr) (c : Nat) (w : World) : Calls Try.prog 37 #[.slice A 0 c] w fun e w' => ∃ A', e = .returned (.slice A' 0 0) ∧ Below w.heap.size w w' := by
  have mixed : Try.prog.follows .mixedOrders = true := by kernel_rfl
  have hq := fun (u : World) => Lib.run_eql_slice_nil (P := Try.prog) u 38 26 A 0 c 0 0 Try.underlying38
  cases A with
  | none => (go_enter Try.func37, Try.ntmps37; go_wp2; go_ret; exact ⟨_, rfl, Below.refl _ _⟩)
  | some ad => (go_enter Try.func37, Try.ntmps37; go_wp2; go_ret; exact ⟨_, rfl, (Below.refl _ _).alloc (Nat.le_refl _) _⟩)
theorem raw : NM.RawClone Try.prog 37 18 152 where
  ent := ⟨_, Try.func37, by kernel_rfl, by kernel_rfl⟩
  pos := by decide
  some_ m n c cur tb w h1 h2 h3 h4 _ := walk m n c cur tb w h1 h2 h3 h4
  none_ := none_
end CloneJob
namespace NM
theorem ext37 : NOk Try.prog ⟨37, sigCl .job, fun x hh => cloneE 152 hh.1⟩ := NOk.cloneE .job CloneJob.raw
theorem extz37 : NOk Try.prog ⟨37, sigClZ, fun _ _ => some ()⟩ := NOk.cloneZ CloneJob.raw
end NM
end Go.Proofs.Ytfelhbeiegppgaa
