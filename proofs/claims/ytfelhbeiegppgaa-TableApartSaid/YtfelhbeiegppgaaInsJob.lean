/-
  slices.Insert of one element, at a type of several cells, on memory as it lies.
-/
import Derived.Test.YtfelhbeiegppgaaNInsert
set_option linter.unusedVariables false
set_option linter.unusedSimpArgs false
namespace Go.Proofs.Ytfelhbeiegppgaa
open Go.RowKit Go.Lib Go
namespace InsJob

theorem setRow_other (w : World) (g : Nat) (cur : Array Value) (m : Nat) (h : m ≠ g) : (w.setRow g cur).heap[m]? = w.heap[m]? := by
  unfold World.setRow
  simp [Array.getElem?_modify, Ne.symm h]
theorem setRow_sz (w : World) (g : Nat) (cur : Array Value) : (w.setRow g cur).heap.size = w.heap.size := by
  unfold World.setRow
  simp
theorem cellsOf {w : World} {b : Nat} {cur : Array Value} {t : TypeId} {fr : Nat × Nat} (h : w.heap[b]? = some (.cells cur t fr)) (j : Nat) : w.cell? ⟨b, j, none⟩ = cur[j]? := by
  simp [World.cell?, h]
theorem frozenOf {w : World} {b : Nat} {cur : Array Value} {t : TypeId} (h : w.heap[b]? = some (.cells cur t (0, 0))) (j : Nat) : w.frozen? ⟨b, j, none⟩ = false := by
  simp [World.frozen?, h]
theorem shapeOf {w : World} {b : Nat} {cur : Array Value} {t : TypeId} {fr : Nat × Nat} (h : w.heap[b]? = some (.cells cur t fr)) : w.shape? b = some (t, cur.size) := by
  simp [World.shape?, h]

set_option maxHeartbeats 4000000 in
set_option maxRecDepth 100000 in
/-- in the middle, where there is room -/
theorem shift (b N n c i vb vc : Nat) (cur vcur : Array Value) (tb tv : TypeId) (w : World) (hi : i < n) (hroom : n + 1 ≤ c) (hcN : c ≤ N) (hc63 : n ≤ 4294967296) (hvb : vb ≠ b)
    (hcur : w.heap[b]? = some (.cells cur tb (0, 0))) (hcs : cur.size = N * 18) (hv : w.heap[vb]? = some (.cells vcur tv (0, 0))) (hvs : 18 ≤ vcur.size)
    (h1c : ∀ j v, j < n * 18 → cur[j]? = some v → v.oneCell' = true) (h1v : ∀ j v, j < 18 → vcur[j]? = some v → v.oneCell' = true) :
    Calls Try.prog 35 #[.slice (some ⟨b, 0, none⟩) n c, .int .i64 i, .slice (some ⟨vb, 0, none⟩) 1 vc] w (InsPost 18 w b (n + 1) (cur.toList.take (i * 18) ++ vcur.toList.take 18 ++ (cur.toList.take (n * 18)).drop (i * 18))) := by
  have mixed : Try.prog.follows .mixedOrders = true := by kernel_rfl
  have hz2 : ¬ ((i : Int) = (n : Int)) := by omega
  have hin : i ≤ n := by omega
  have hw1 : IntKind.i64.wrap ((i : Int) + 1) = (i : Int) + 1 := by rw [IntKind.wrap_i64]; omega
  have hb1 : (0 : Int) ≤ (i : Int) + 1 := by omega
  have htn : ((i : Int) + 1).toNat = i + 1 := by omega
  have hb2 : ¬ (c = i + 1) := by omega
  have hb3 : (i : Int) ≤ (n : Int) + 1 := by omega
  have hb4 : ¬ (c = i) := by omega
  have hinfo : (Try.prog.info? 26).map (·.size) = some 18 := by kernel_rfl
  have hsz : ∀ w, (Go.sizeOf 26).run Try.prog w = .ok 18 w := fun w => by
    obtain ⟨i0, hi0, h0⟩ := Option.map_eq_some_iff.1 hinfo
    simp [Go.sizeOf, typeInfo, hi0, h0]
  have hN0 : cur.size ≠ 0 := by omega
  have hmid : ((cur.toList.take (n * 18)).drop (i * 18)).length = (n - i) * 18 := by
    rw [List.length_drop, List.length_take, Array.length_toList]; omega
  have hov : ∀ lb cb, (callFunc 63 #[.slice (some ⟨vb, 0, none⟩) 1 vc, .slice (some ⟨b, (i + 1) * 18, none⟩) lb cb]).run Try.prog w = .ok (.value (.bool false)) w := fun lb cb => by
    rw [run_callFunc_extern Try.func63 (by kernel_rfl) (by kernel_rfl) (by kernel_rfl) (e := Extern.SlicesOverlaps.overlaps #[38, 38] #[4]) (by kernel_rfl),
      Lib.run_overlaps_apart w 38 4 26 Try.underlying38 18 hsz ⟨vb, 0, none⟩ ⟨b, (i + 1) * 18, none⟩ 1 vc lb cb hvb tv tb vcur.size cur.size (shapeOf hv) (shapeOf hcur) hN0 (frozenOf hv _) (frozenOf hv _)]
    rfl
  obtain ⟨cur1, hcur1⟩ : ∃ cur1 : Array Value, cur1 = (cur.toList.take ((i + 1) * 18) ++ (cur.toList.take (n * 18)).drop (i * 18) ++ cur.toList.drop ((i + 1) * 18 + ((cur.toList.take (n * 18)).drop (i * 18)).length)).toArray := ⟨_, rfl⟩
  have hsz1 : cur1.size = cur.size := by
    have h1 : (cur.toList.take ((i + 1) * 18)).length = (i + 1) * 18 := by rw [List.length_take, Array.length_toList]; omega
    have h2 : (cur.toList.drop ((i + 1) * 18 + (n - i) * 18)).length = cur.size - ((i + 1) * 18 + (n - i) * 18) := by rw [List.length_drop, Array.length_toList]
    rw [hcur1, List.size_toArray, hmid, List.length_append, List.length_append, h1, hmid, h2]
    omega
  have hcp1 : ∀ (W : World), W.heap = w.heap → ∀ ty dc sc, (Builtin.copy_ #[38, 38] ty #[.slice (some ⟨b, (i + 1) * 18, none⟩) (n - i) dc, .slice (some ⟨b, i * 18, none⟩) (n + 1 - i) sc]).run Try.prog W = .ok (goInt (Nat.min (n + 1 - i) (n - i))) (W.setRow b cur1) := fun W hW ty dc sc => by
    rw [hcur1]
    refine run_copy_rowsK W _ _ ty 26 18 b ((i + 1) * 18) (n - i) dc ⟨b, i * 18, none⟩ (n + 1 - i) sc cur tb _ Try.underlying38 hinfo (by rw [hW]; exact hcur) ?_ ?_ ?_ ?_
    · rw [hmid, Nat.min_eq_min, Nat.min_eq_right (by omega)]
    · intro j v hj
      rw [Addr.add_lit, cellsOf (b := b) (cur := cur) (t := tb) (fr := (0, 0)) (by rw [hW]; exact hcur)]
      rw [List.getElem?_drop, List.getElem?_take] at hj
      split at hj
      · rw [← Array.getElem?_toList]; exact hj
      · cases hj
    · rw [hmid]; omega
    · intro v hv'
      obtain ⟨j, hj⟩ := List.getElem?_of_mem (List.mem_of_mem_drop hv')
      rw [List.getElem?_take] at hj
      split at hj
      · rename_i hlt
        exact h1c j v hlt (by rw [← Array.getElem?_toList]; exact hj)
      · cases hj
  have hcp2 : ∀ (W : World), W.heap[b]? = some (.cells cur1 tb (0, 0)) → W.heap[vb]? = some (.cells vcur tv (0, 0)) → ∀ ty dc, (Builtin.copy_ #[38, 38] ty #[.slice (some ⟨b, i * 18, none⟩) (n + 1 - i) dc, .slice (some ⟨vb, 0, none⟩) 1 vc]).run Try.prog W = .ok (goInt (Nat.min 1 (n + 1 - i))) (W.setRow b (cur1.toList.take (i * 18) ++ vcur.toList.take 18 ++ cur1.toList.drop (i * 18 + (vcur.toList.take 18).length)).toArray) := fun W hW hWv ty dc => by
    have hvl : (vcur.toList.take 18).length = 18 := by rw [List.length_take, Array.length_toList]; omega
    refine run_copy_rowsK W _ _ ty 26 18 b (i * 18) (n + 1 - i) dc ⟨vb, 0, none⟩ 1 vc cur1 tb _ Try.underlying38 hinfo hW ?_ ?_ ?_ ?_
    · rw [hvl, Nat.min_eq_min, Nat.min_eq_left (by omega), Nat.one_mul]
    · intro j v hj
      rw [Addr.add_lit, Nat.zero_add, cellsOf hWv]
      rw [List.getElem?_take] at hj
      split at hj
      · rw [← Array.getElem?_toList]; exact hj
      · cases hj
    · rw [hvl, hsz1]; omega
    · intro v hv'
      obtain ⟨j, hj⟩ := List.getElem?_of_mem hv'
      rw [List.getElem?_take] at hj
      split at hj
      · rename_i hlt
        exact h1v j v hlt (by rw [← Array.getElem?_toList]; exact hj)
      · cases hj
  have hg1 : ∀ (W : World), W.heap = w.heap → (W.setRow b cur1).heap[b]? = some (.cells cur1 tb (0, 0)) ∧ (W.setRow b cur1).heap[vb]? = some (.cells vcur tv (0, 0)) := fun W hW =>
    ⟨setRow_heap W b cur cur1 tb (0, 0) (by rw [hW]; exact hcur), by rw [setRow_other _ _ _ _ hvb, hW]; exact hv⟩
  obtain ⟨cur2, hcur2⟩ : ∃ cur2 : Array Value, cur2 = (cur1.toList.take (i * 18) ++ vcur.toList.take 18 ++ cur1.toList.drop (i * 18 + (vcur.toList.take 18).length)).toArray := ⟨_, rfl⟩
  have hvl : (vcur.toList.take 18).length = 18 := by rw [List.length_take, Array.length_toList]; omega
  have hsz2 : cur2.size = cur.size := by
    have h1 : (cur1.toList.take (i * 18)).length = i * 18 := by rw [List.length_take, Array.length_toList, hsz1]; omega
    have h2 : (cur1.toList.drop (i * 18 + 18)).length = cur1.size - (i * 18 + 18) := by rw [List.length_drop, Array.length_toList]
    rw [hcur2, List.size_toArray, hvl, List.length_append, List.length_append, h1, hvl, h2, hsz1]
    omega
  have hfin : ∀ j v, (cur.toList.take (i * 18) ++ vcur.toList.take 18 ++ (cur.toList.take (n * 18)).drop (i * 18))[j]? = some v → cur2[j]? = some v := fun j v hj => by
    rw [← Array.getElem?_toList, hcur2]
    simp only [hvl]
    have hl1 : (cur1.toList.take (i * 18)).length = i * 18 := by rw [List.length_take, Array.length_toList, hsz1]; omega
    have hl0 : (cur.toList.take (i * 18)).length = i * 18 := by rw [List.length_take, Array.length_toList]; omega
    have e1 : cur1.toList.take (i * 18) = cur.toList.take (i * 18) := by
      rw [hcur1]
      simp only
      rw [List.append_assoc, List.take_append_of_le_length (by rw [List.length_take, Array.length_toList]; omega), List.take_take, Nat.min_eq_left (by omega)]
    rw [e1]
    rw [List.append_assoc] at hj ⊢
    rw [List.getElem?_append] at hj ⊢
    rw [hl0] at hj ⊢
    split at hj
    · rename_i hlt; rw [if_pos hlt]; exact hj
    · rename_i hlt
      rw [if_neg hlt]
      rw [List.getElem?_append] at hj ⊢
      rw [hvl] at hj ⊢
      split at hj
      · rename_i hlt2; rw [if_pos hlt2]; exact hj
      · rename_i hlt2
        rw [if_neg hlt2]
        have hjl := (List.getElem?_eq_some_iff.1 hj).1
        rw [hmid] at hjl
        rw [List.getElem?_drop, hcur1]
        simp only
        have ht : (cur.toList.take ((i + 1) * 18)).length = (i + 1) * 18 := by rw [List.length_take, Array.length_toList]; omega
        rw [List.append_assoc, List.getElem?_append_right (by rw [ht]; omega), ht, List.getElem?_append_left (by rw [hmid]; omega)]
        rw [show i * 18 + 18 + (j - i * 18 - 18) - (i + 1) * 18 = j - i * 18 - 18 by omega]
        exact hj
  clear hsz hN0
  rw [← hcur2] at hcp2
  clear hcur2 hcur1 hsz1
  go_enter Try.func35, Try.ntmps35
  go_wp2_with (simp only [hov])
  go_region_law_o (refine step_copyK rfl _ _ 38 38 rfl (.slice (some ⟨b, (i + 1) * 18, none⟩) (n - i) (c - (i + 1))) (.slice (some ⟨b, i * 18, none⟩) (n + 1 - i) (c - i)) (by simp [Act.eval, Act.put]) (by simp [Act.eval, Act.put]) (hcp1 w.drew rfl 3 (c - (i + 1)) (c - i)) ?_)
  go_wp2_with (refine wpList_copyK _ rfl _ _ 38 38 rfl _ _ rfl rfl (hcp2 (w.drew.setRow b cur1) (hg1 w.drew rfl).1 (hg1 w.drew rfl).2 _ _) ?_)
  go_ret
  refine ⟨b, c, N, cur2, tb, rfl, setRow_heap _ b cur1 cur2 tb (0, 0) (hg1 w.drew rfl).1, by rw [hsz2]; exact hcs, hcN, hroom, hfin, .inl rfl, rfl, rfl, rfl, by rw [setRow_sz, setRow_sz]; exact Nat.le_refl _, fun m hm hmb => by rw [setRow_other _ _ _ _ hmb, setRow_other _ _ _ _ hmb]; rfl⟩
section ends
variable {P : Program} {t u ty el : TypeId} {i : TypeInfo} {z : Value} {cx : Value} {n : Nat} {news : List Value} {w : World}
theorem app_fits (ht : P.underlying t = some (.slice el)) (hi : P.info? el = some i) (hlen : (Builtin.lenOf cx).run P w = .ok n w) (hfirst : (Builtin.firstCells i.size n cx).run P w = .ok news.toArray w)
    {a : Addr} {sLen sCap : Nat} (hfit : sLen + n ≤ sCap) :
    (Builtin.append_ #[t, t] ty #[.slice (some a) sLen sCap, cx]).run P w = ((storeCells (a.add (sLen * i.size)) news).run P w).andThen fun _ w' => .ok (.slice (some a) (sLen + n) sCap) w' := by
  simp [Builtin.append_, run_underlying ht, sizeOf, typeInfo, hi, hlen, hfirst, hfit]
theorem app_grows (ht : P.underlying t = some (.slice el)) (hi : P.info? el = some i) (hz : i.zero = some z) (hlen : (Builtin.lenOf cx).run P w = .ok n w)
    (hfirst' : (Builtin.firstCells i.size n cx).run P w.drew = .ok news.toArray w.drew)
    {base : Option Addr} {sLen sCap : Nat} {olds : List Value} (holds : (Builtin.firstCells i.size sLen (.slice base sLen sCap)).run P w.drew = .ok olds.toArray w.drew)
    (hg : sCap < sLen + n) (h63 : sLen + n ≤ 9223372036854775807) (hb : (sLen + n) * i.bytes ≤ 140737488355328) :
    (Builtin.append_ #[t, t] ty #[.slice base sLen sCap, cx]).run P w =
      .ok (.slice (some ⟨w.heap.size, 0, none⟩) (sLen + n) (grownCap w (sLen + n) sCap el)) (w.drew.alloc (.cells (olds.toArray ++ news.toArray ++ Builtin.zeroCells z.cells (grownCap w (sLen + n) sCap el - (sLen + n))) el)) := by
  have hfit := growslice_fits hg hb
  have h1 : ¬ (sLen + n ≤ sCap) := by omega
  have h2 : ¬ (9223372036854775807 < ((sLen : Int) + (n : Int))) := by omega
  have h3 : ¬ (281474976710656 < Builtin.nextslicecap (sLen + n) sCap * i.bytes) := by omega
  simp [Builtin.append_, run_underlying ht, sizeOf, typeInfo, zeroValue, hi, hz, hlen, h1, h2, h3, Question.forced, hfirst', holds, newRow, grownCap]
  congr 2
  apply Array.ext'
  simp [List.append_assoc]
end ends

set_option maxHeartbeats 4000000 in
set_option maxRecDepth 100000 in
/-- at the end, where there is room -/
theorem endFits (b N n c vb vc : Nat) (cur vcur : Array Value) (tb tv : TypeId) (w : World) (hroom : n + 1 ≤ c) (hcN : c ≤ N) (hvb : vb ≠ b)
    (hcur : w.heap[b]? = some (.cells cur tb (0, 0))) (hcs : cur.size = N * 18) (hv : w.heap[vb]? = some (.cells vcur tv (0, 0))) (hvs : 18 ≤ vcur.size)
    (h1v : ∀ j v, j < 18 → vcur[j]? = some v → v.oneCell' = true) :
    Calls Try.prog 35 #[.slice (some ⟨b, 0, none⟩) n c, .int .i64 n, .slice (some ⟨vb, 0, none⟩) 1 vc] w (InsPost 18 w b (n + 1) (cur.toList.take (n * 18) ++ vcur.toList.take 18)) := by
  have mixed : Try.prog.follows .mixedOrders = true := by kernel_rfl
  have hinfo : (Try.prog.info? 26).map (·.size) = some 18 := by kernel_rfl
  obtain ⟨i0, hi0, hs0⟩ := Option.map_eq_some_iff.1 hinfo
  have hvl : (vcur.toList.take 18).length = 18 := by rw [List.length_take, Array.length_toList]; omega
  have h1l : ∀ v ∈ vcur.toList.take 18, v.oneCell' = true := fun v hv' => by
    obtain ⟨j, hj⟩ := List.getElem?_of_mem hv'
    rw [List.getElem?_take] at hj
    split at hj
    · rename_i hlt
      exact h1v j v hlt (by rw [← Array.getElem?_toList]; exact hj)
    · cases hj
  have hrun : ∀ ty, (Builtin.append_ #[38, 38] ty #[.slice (some ⟨b, 0, none⟩) n c, .slice (some ⟨vb, 0, none⟩) 1 vc]).run Try.prog w = .ok (.slice (some ⟨b, 0, none⟩) (n + 1) c) (w.setRow b (cur.toList.take (n * 18) ++ vcur.toList.take 18 ++ cur.toList.drop (n * 18 + (vcur.toList.take 18).length)).toArray) := fun ty => by
    have hfirst : (Builtin.firstCells i0.size 1 (.slice (some ⟨vb, 0, none⟩) 1 vc)).run Try.prog w = .ok (vcur.toList.take 18).toArray w := by
      rw [hs0]
      refine run_firstCells_some w 18 1 ⟨vb, 0, none⟩ 1 vc _ (by rw [hvl]) fun j v hj => ?_
      rw [Addr.add_lit, Nat.zero_add, cellsOf hv]
      rw [List.getElem?_take] at hj
      split at hj
      · rw [← Array.getElem?_toList]; exact hj
      · cases hj
    rw [app_fits Try.underlying38 hi0 rfl hfirst hroom, hs0, Addr.add_lit, Nat.zero_add]
    have hst := run_storeCells_at Try.prog b (n * 18) tb (vcur.toList.take 18) 0 cur w hcur (by rw [hvl]; omega) h1l
    simp only [Nat.add_zero] at hst
    rw [hst]
    rfl
  obtain ⟨cur2, hcur2⟩ : ∃ cur2 : Array Value, cur2 = (cur.toList.take (n * 18) ++ vcur.toList.take 18 ++ cur.toList.drop (n * 18 + (vcur.toList.take 18).length)).toArray := ⟨_, rfl⟩
  have hl1 : (cur.toList.take (n * 18)).length = n * 18 := by rw [List.length_take, Array.length_toList]; omega
  have hsz2 : cur2.size = cur.size := by
    have h2 : (cur.toList.drop (n * 18 + 18)).length = cur.size - (n * 18 + 18) := by rw [List.length_drop, Array.length_toList]
    rw [hcur2, List.size_toArray, hvl, List.length_append, List.length_append, hl1, hvl, h2]
    omega
  have hfin : ∀ j v, (cur.toList.take (n * 18) ++ vcur.toList.take 18)[j]? = some v → cur2[j]? = some v := fun j v hj => by
    rw [← Array.getElem?_toList, hcur2]
    simp only
    have hjl := (List.getElem?_eq_some_iff.1 hj).1
    rw [List.getElem?_append_left hjl]
    exact hj
  rw [← hcur2] at hrun
  clear hcur2
  go_enter Try.func35, Try.ntmps35
  go_wp2_with (at_builtin; refine Lib.wpList_append_run _ rfl _ _ _ _ rfl _ _ rfl rfl _ _ (hrun _) ?_)
  go_ret
  refine ⟨b, c, N, cur2, tb, rfl, setRow_heap _ b cur cur2 tb (0, 0) hcur, by rw [hsz2]; exact hcs, hcN, hroom, hfin, .inl rfl, rfl, rfl, rfl, by rw [setRow_sz]; exact Nat.le_refl _, fun m hm hmb => by rw [setRow_other _ _ _ _ hmb]⟩

set_option maxHeartbeats 4000000 in
set_option maxRecDepth 100000 in
/-- at the end, where there is no room -/
theorem endGrows (base : Option Addr) (b n c vb vc : Nat) (olds : List Value) (vcur : Array Value) (tv : TypeId) (w : World) (hroom : c < n + 1) (hnc : n ≤ c) (hbig : (n + 1) * 152 ≤ 140737488355328)
    (hol : olds.length = n * 18) (hbase : ∀ a, base = some a → ∀ j v, olds[j]? = some v → w.cell? (a.add j) = some v) (hnil : base = none → n = 0)
    (hv : w.heap[vb]? = some (.cells vcur tv (0, 0))) (hvs : 18 ≤ vcur.size) :
    Calls Try.prog 35 #[.slice base n c, .int .i64 n, .slice (some ⟨vb, 0, none⟩) 1 vc] w (InsPost 18 w b (n + 1) (olds ++ vcur.toList.take 18)) := by
  have mixed : Try.prog.follows .mixedOrders = true := by kernel_rfl
  obtain ⟨i0, hi0, hz0, hs0, hb0⟩ := info_parts (P := Try.prog) (e := 26) (z := .agg #[.int .i64 0, .int .i64 0, .int .i64 0, .int .i64 0, .int .i64 0, .int .i64 0, .int .i64 0, .int .i64 0, .int .i64 0, .slice none 0 0, .int .i64 0, .bool false, .bool false, .int .i64 0, .int .i64 0, .int .i64 0, .int .i64 0, .int .i64 0]) (size := 18) (bytes := 152) (by kernel_rfl)
  have hvl : (vcur.toList.take 18).length = 18 := by rw [List.length_take, Array.length_toList]; omega
  obtain ⟨G, hG⟩ : ∃ G, G = grownCap w (n + 1) c 26 := ⟨_, rfl⟩
  have hG1 : n + 1 ≤ G := by rw [hG]; exact grownCap_ge _ _ _ _
  obtain ⟨ROW, hROW⟩ : ∃ ROW : Array Value, ROW = olds.toArray ++ (vcur.toList.take 18).toArray ++ Builtin.zeroCells (Value.cells (.agg #[.int .i64 0, .int .i64 0, .int .i64 0, .int .i64 0, .int .i64 0, .int .i64 0, .int .i64 0, .int .i64 0, .int .i64 0, .slice none 0 0, .int .i64 0, .bool false, .bool false, .int .i64 0, .int .i64 0, .int .i64 0, .int .i64 0, .int .i64 0])) (G - (n + 1)) := ⟨_, rfl⟩
  have hrun : ∀ ty, (Builtin.append_ #[38, 38] ty #[.slice base n c, .slice (some ⟨vb, 0, none⟩) 1 vc]).run Try.prog w = .ok (.slice (some ⟨w.heap.size, 0, none⟩) (n + 1) G) (w.drew.alloc (.cells ROW 26)) := fun ty => by
    have hfirst : (Builtin.firstCells i0.size 1 (.slice (some ⟨vb, 0, none⟩) 1 vc)).run Try.prog w.drew = .ok (vcur.toList.take 18).toArray w.drew := by
      rw [hs0]
      refine run_firstCells_some w.drew 18 1 ⟨vb, 0, none⟩ 1 vc _ (by rw [hvl]) fun j v hj => ?_
      rw [Addr.add_lit, Nat.zero_add, cellsOf (w := w.drew) (t := tv) (fr := (0, 0)) (cur := vcur) hv]
      rw [List.getElem?_take] at hj
      split at hj
      · rw [← Array.getElem?_toList]; exact hj
      · cases hj
    have hold : (Builtin.firstCells i0.size n (.slice base n c)).run Try.prog w.drew = .ok olds.toArray w.drew := by
      rw [hs0]
      cases base with
      | none =>
        have h0 := hnil rfl
        subst h0
        have : olds = [] := List.eq_nil_of_length_eq_zero (by omega)
        rw [this]
        simp [Builtin.firstCells]
      | some a => exact run_firstCells_some w.drew 18 n a n c olds hol (fun j v hj => hbase a rfl j v hj)
    rw [app_grows Try.underlying38 hi0 hz0 rfl hfirst hold hroom (by omega) (by rw [hb0]; exact hbig), hROW, hG]
  have hsz : ROW.size = G * 18 := by
    have hzc : (Value.cells (.agg #[.int .i64 0, .int .i64 0, .int .i64 0, .int .i64 0, .int .i64 0, .int .i64 0, .int .i64 0, .int .i64 0, .int .i64 0, .slice none 0 0, .int .i64 0, .bool false, .bool false, .int .i64 0, .int .i64 0, .int .i64 0, .int .i64 0, .int .i64 0])).size = 18 := rfl
    rw [hROW, Array.size_append, Array.size_append, List.size_toArray, List.size_toArray, hol, hvl, size_zeroCells, hzc]
    omega
  have hfin : ∀ j v, (olds ++ vcur.toList.take 18)[j]? = some v → ROW[j]? = some v := fun j v hj => by
    rw [← Array.getElem?_toList, hROW]
    simp only [Array.toList_append]
    have hjl := (List.getElem?_eq_some_iff.1 hj).1
    rw [List.getElem?_append_left hjl]
    exact hj
  clear hROW hG
  go_enter Try.func35, Try.ntmps35
  go_wp2_with (at_builtin; refine Lib.wpList_append_run _ rfl _ _ _ _ rfl _ _ rfl rfl _ _ (hrun _) ?_)
  go_ret
  refine ⟨w.heap.size, G, G, ROW, 26, rfl, heap_alloc_new w.drew _, hsz, Nat.le_refl _, hG1, hfin, .inr (Nat.le_refl _), rfl, rfl, rfl, by simp, fun m hm hmb => by exact heap_alloc_old w.drew _ hm⟩
set_option maxHeartbeats 4000000 in
set_option maxRecDepth 100000 in
/-- in the middle, where there is no room -/
theorem grow (b N n c i vb vc : Nat) (cur vcur : Array Value) (tb tv : TypeId) (w : World) (hi : i < n) (hroom : c < n + 1) (hnc : n ≤ c) (hcN : c ≤ N) (hbig : (n + 1) * 152 ≤ 140737488355328)
    (hcur : w.heap[b]? = some (.cells cur tb (0, 0))) (hcs : cur.size = N * 18) (hv : w.heap[vb]? = some (.cells vcur tv (0, 0))) (hvs : 18 ≤ vcur.size)
    (h1c : ∀ j v, j < n * 18 → cur[j]? = some v → v.oneCell' = true) (h1v : ∀ j v, j < 18 → vcur[j]? = some v → v.oneCell' = true) :
    Calls Try.prog 35 #[.slice (some ⟨b, 0, none⟩) n c, .int .i64 i, .slice (some ⟨vb, 0, none⟩) 1 vc] w (InsPost 18 w b (n + 1) (cur.toList.take (i * 18) ++ vcur.toList.take 18 ++ (cur.toList.take (n * 18)).drop (i * 18))) := by
  have mixed : Try.prog.follows .mixedOrders = true := by kernel_rfl
  obtain ⟨i0, hi0, hz0, hs0, hb0⟩ := info_parts (P := Try.prog) (e := 26) (z := .agg #[.int .i64 0, .int .i64 0, .int .i64 0, .int .i64 0, .int .i64 0, .int .i64 0, .int .i64 0, .int .i64 0, .int .i64 0, .slice none 0 0, .int .i64 0, .bool false, .bool false, .int .i64 0, .int .i64 0, .int .i64 0, .int .i64 0, .int .i64 0]) (size := 18) (bytes := 152) (by kernel_rfl)
  have hinfo : (Try.prog.info? 26).map (·.size) = some 18 := by kernel_rfl
  have hz2 : ¬ ((i : Int) = (n : Int)) := by omega
  have hz3 : (c : Int) < (n : Int) + 1 := by omega
  have hkk : (n : Int) + 1 - (i : Int) = ((n + 1 - i : Nat) : Int) := by omega
  have hik : i + (n + 1 - i) = n + 1 := by omega
  have hvl : (vcur.toList.take 18).length = 18 := by rw [List.length_take, Array.length_toList]; omega
  have hmid : ((cur.toList.take (n * 18)).drop (i * 18)).length = (n - i) * 18 := by
    rw [List.length_drop, List.length_take, Array.length_toList]; omega
  have hl0 : (cur.toList.take (i * 18)).length = i * 18 := by rw [List.length_take, Array.length_toList]; omega
  have h1m : ∀ v ∈ (cur.toList.take (n * 18)).drop (i * 18), v.oneCell' = true := fun v hv' => by
    obtain ⟨j, hj⟩ := List.getElem?_of_mem (List.mem_of_mem_drop hv')
    rw [List.getElem?_take] at hj
    split at hj
    · rename_i hlt
      exact h1c j v hlt (by rw [← Array.getElem?_toList]; exact hj)
    · cases hj
  have h1l : ∀ v ∈ vcur.toList.take 18, v.oneCell' = true := fun v hv' => by
    obtain ⟨j, hj⟩ := List.getElem?_of_mem hv'
    rw [List.getElem?_take] at hj
    split at hj
    · rename_i hlt
      exact h1v j v hlt (by rw [← Array.getElem?_toList]; exact hj)
    · cases hj
  have hblt : b < w.heap.size := by
    rcases Nat.lt_or_ge b w.heap.size with h | h
    · exact h
    · rw [Array.getElem?_eq_none h] at hcur; cases hcur
  have hvlt : vb < w.heap.size := by
    rcases Nat.lt_or_ge vb w.heap.size with h | h
    · exact h
    · rw [Array.getElem?_eq_none h] at hv; cases hv
  obtain ⟨G, hG⟩ : ∃ G, G = grownCap w (n + 1) c 26 := ⟨_, rfl⟩
  have hG1 : n + 1 ≤ G := by rw [hG]; exact grownCap_ge _ _ _ _
  have hG63 : G ≤ 9223372036854775807 := by
    have := grownCap_le_maxLen w (n + 1) c 26 (by unfold maxLen; omega)
    rw [← hG] at this
    unfold maxLen at this
    omega
  obtain ⟨ROW, hROW⟩ : ∃ ROW : Array Value, ROW = (cur.toList.take (i * 18)).toArray ++ Builtin.zeroCells (Value.cells (.agg #[.int .i64 0, .int .i64 0, .int .i64 0, .int .i64 0, .int .i64 0, .int .i64 0, .int .i64 0, .int .i64 0, .int .i64 0, .slice none 0 0, .int .i64 0, .bool false, .bool false, .int .i64 0, .int .i64 0, .int .i64 0, .int .i64 0, .int .i64 0])) (n + 1 - i) ++ Builtin.zeroCells (Value.cells (.agg #[.int .i64 0, .int .i64 0, .int .i64 0, .int .i64 0, .int .i64 0, .int .i64 0, .int .i64 0, .int .i64 0, .int .i64 0, .slice none 0 0, .int .i64 0, .bool false, .bool false, .int .i64 0, .int .i64 0, .int .i64 0, .int .i64 0, .int .i64 0])) (G - (n + 1)) := ⟨_, rfl⟩
  have hsz : ROW.size = G * 18 := by
    have hzc : (Value.cells (.agg #[.int .i64 0, .int .i64 0, .int .i64 0, .int .i64 0, .int .i64 0, .int .i64 0, .int .i64 0, .int .i64 0, .int .i64 0, .slice none 0 0, .int .i64 0, .bool false, .bool false, .int .i64 0, .int .i64 0, .int .i64 0, .int .i64 0, .int .i64 0])).size = 18 := rfl
    rw [hROW, Array.size_append, Array.size_append, List.size_toArray, hl0, size_zeroCells, size_zeroCells, hzc]
    omega
  have hrz : ∀ ty, (Builtin.append_ #[38, 3] ty #[.slice (some ⟨b, 0, none⟩) i c, .int .i64 ((n : Int) + 1 - (i : Int))]).run Try.prog w =
      .ok (.slice (some ⟨w.heap.size, 0, none⟩) (n + 1) G) (w.drew.alloc (.cells ROW 26)) := fun ty => by
    have hold : (Builtin.firstCells i0.size i (.slice (some ⟨b, 0, none⟩) i c)).run Try.prog w.drew = .ok (cur.toList.take (i * 18)).toArray w.drew := by
      rw [hs0]
      refine run_firstCells_some w.drew 18 i ⟨b, 0, none⟩ i c _ hl0 fun j v hj => ?_
      rw [Addr.add_lit, Nat.zero_add, cellsOf (w := w.drew) (t := tb) (fr := (0, 0)) (cur := cur) hcur]
      rw [List.getElem?_take] at hj
      split at hj
      · rw [← Array.getElem?_toList]; exact hj
      · cases hj
    have h := Lib.run_append_grow_zeros w 38 3 ty 26 i0 _ .i64 .i64 Try.underlying38 Try.underlying3 hi0 hz0 (some ⟨b, 0, none⟩) i c _ hold (n + 1 - i) (by omega) (by rw [hs0]; decide) (by omega) (by omega) (by rw [hb0]; omega) (by rw [hb0, hik]; exact growslice_fits hroom hbig)
    rw [hik, ← hG, ← hROW] at h
    rw [hkk]
    exact h
  have hW1 : (w.drew.alloc (.cells ROW 26)).heap[w.heap.size]? = some (.cells ROW 26 (0, 0)) := heap_alloc_new w.drew _
  have hWb : (w.drew.alloc (.cells ROW 26)).heap[b]? = some (.cells cur tb (0, 0)) := (heap_alloc_old w.drew _ hblt).trans hcur
  have hWv : (w.drew.alloc (.cells ROW 26)).heap[vb]? = some (.cells vcur tv (0, 0)) := (heap_alloc_old w.drew _ hvlt).trans hv
  obtain ⟨W1, hW1e⟩ : ∃ W1, W1 = w.drew.alloc (.cells ROW 26) := ⟨_, rfl⟩
  rw [← hW1e] at hrz hW1 hWb hWv
  obtain ⟨cur1, hcur1⟩ : ∃ cur1 : Array Value, cur1 = (ROW.toList.take (i * 18) ++ vcur.toList.take 18 ++ ROW.toList.drop (i * 18 + (vcur.toList.take 18).length)).toArray := ⟨_, rfl⟩
  have hr1 : (ROW.toList.take (i * 18)).length = i * 18 := by rw [List.length_take, Array.length_toList, hsz]; have : i * 18 ≤ G * 18 := Nat.mul_le_mul_right _ (by omega); omega
  have hsz1 : cur1.size = G * 18 := by
    have h2 : (ROW.toList.drop (i * 18 + 18)).length = ROW.size - (i * 18 + 18) := by rw [List.length_drop, Array.length_toList]
    rw [hcur1, List.size_toArray, hvl, List.length_append, List.length_append, hr1, hvl, h2, hsz]
    omega
  have hcpA : ∀ (W : World), W.heap[w.heap.size]? = some (.cells ROW 26 (0, 0)) → W.heap[vb]? = some (.cells vcur tv (0, 0)) → ∀ ty dc, (Builtin.copy_ #[38, 38] ty #[.slice (some ⟨w.heap.size, i * 18, none⟩) (n + 1 - i) dc, .slice (some ⟨vb, 0, none⟩) 1 vc]).run Try.prog W = .ok (goInt (Nat.min 1 (n + 1 - i))) (W.setRow w.heap.size cur1) := fun W hW hWv ty dc => by
    rw [hcur1]
    refine run_copy_rowsK W _ _ ty 26 18 w.heap.size (i * 18) (n + 1 - i) dc ⟨vb, 0, none⟩ 1 vc ROW 26 _ Try.underlying38 hinfo hW ?_ ?_ ?_ h1l
    · rw [hvl, Nat.min_eq_min, Nat.min_eq_left (by omega), Nat.one_mul]
    · intro j v hj
      rw [Addr.add_lit, Nat.zero_add, cellsOf hWv]
      rw [List.getElem?_take] at hj
      split at hj
      · rw [← Array.getElem?_toList]; exact hj
      · cases hj
    · rw [hvl, hsz]; omega
  obtain ⟨cur2, hcur2⟩ : ∃ cur2 : Array Value, cur2 = (cur1.toList.take ((i + 1) * 18) ++ (cur.toList.take (n * 18)).drop (i * 18) ++ cur1.toList.drop ((i + 1) * 18 + ((cur.toList.take (n * 18)).drop (i * 18)).length)).toArray := ⟨_, rfl⟩
  have hc1 : (cur1.toList.take ((i + 1) * 18)).length = (i + 1) * 18 := by rw [List.length_take, Array.length_toList, hsz1]; omega
  have hsz2 : cur2.size = G * 18 := by
    have h2 : (cur1.toList.drop ((i + 1) * 18 + (n - i) * 18)).length = cur1.size - ((i + 1) * 18 + (n - i) * 18) := by rw [List.length_drop, Array.length_toList]
    rw [hcur2, List.size_toArray, hmid, List.length_append, List.length_append, hc1, hmid, h2, hsz1]
    omega
  have hcpB : ∀ (W : World), W.heap[w.heap.size]? = some (.cells cur1 26 (0, 0)) → W.heap[b]? = some (.cells cur tb (0, 0)) → ∀ ty dc sc, (Builtin.copy_ #[38, 38] ty #[.slice (some ⟨w.heap.size, (i + 1) * 18, none⟩) (n - i) dc, .slice (some ⟨b, i * 18, none⟩) (n - i) sc]).run Try.prog W = .ok (goInt (Nat.min (n - i) (n - i))) (W.setRow w.heap.size cur2) := fun W hW hWb ty dc sc => by
    rw [hcur2]
    refine run_copy_rowsK W _ _ ty 26 18 w.heap.size ((i + 1) * 18) (n - i) dc ⟨b, i * 18, none⟩ (n - i) sc cur1 26 _ Try.underlying38 hinfo hW ?_ ?_ ?_ h1m
    · rw [hmid, Nat.min_eq_min, Nat.min_self]
    · intro j v hj
      rw [Addr.add_lit, cellsOf hWb]
      rw [List.getElem?_drop, List.getElem?_take] at hj
      split at hj
      · rw [← Array.getElem?_toList]; exact hj
      · cases hj
    · rw [hmid, hsz1]; omega
  have hfin : ∀ j v, (cur.toList.take (i * 18) ++ vcur.toList.take 18 ++ (cur.toList.take (n * 18)).drop (i * 18))[j]? = some v → cur2[j]? = some v := fun j v hj => by
    have hjl := (List.getElem?_eq_some_iff.1 hj).1
    rw [List.length_append, List.length_append, hl0, hvl, hmid] at hjl
    have e0 : ROW.toList.take (i * 18) = cur.toList.take (i * 18) := by
      rw [hROW]
      simp only [Array.toList_append]
      rw [List.append_assoc, List.take_append_of_le_length (by rw [hl0]; exact Nat.le_refl _), List.take_of_length_le (by rw [hl0]; exact Nat.le_refl _)]
    have e1 : cur1.toList.take ((i + 1) * 18) = cur.toList.take (i * 18) ++ vcur.toList.take 18 := by
      rw [hcur1]
      simp only
      rw [e0, List.take_append_of_le_length (by rw [List.length_append, hl0, hvl]; omega), List.take_of_length_le (by rw [List.length_append, hl0, hvl]; omega)]
    rw [← Array.getElem?_toList, hcur2]
    simp only
    rw [e1, List.getElem?_append_left (by rw [List.length_append, List.length_append, hl0, hvl, hmid]; exact hjl)]
    exact hj
  have hbN : b ≠ w.heap.size := by omega
  have hvN : vb ≠ w.heap.size := by omega
  have hframe : ∀ m, m < w.heap.size → W1.heap[m]? = w.heap[m]? := fun m hm => by rw [hW1e]; exact heap_alloc_old w.drew _ hm
  have hw1sz : w.heap.size ≤ W1.heap.size := by rw [hW1e]; simp
  have hw1os : W1.os = w.os ∧ W1.tape = w.tape ∧ W1.output = w.output := by rw [hW1e]; exact ⟨rfl, rfl, rfl⟩
  have hW1' : ∀ (W : World), W.heap = W1.heap → W.heap[w.heap.size]? = some (.cells ROW 26 (0, 0)) ∧ W.heap[vb]? = some (.cells vcur tv (0, 0)) := fun W hW => by rw [hW]; exact ⟨hW1, hWv⟩
  have hW2' : ∀ (W : World), W.heap = W1.heap → (W.setRow w.heap.size cur1).heap[w.heap.size]? = some (.cells cur1 26 (0, 0)) ∧ (W.setRow w.heap.size cur1).heap[b]? = some (.cells cur tb (0, 0)) := fun W hW =>
    ⟨setRow_heap W _ ROW cur1 26 (0, 0) (by rw [hW]; exact hW1), by rw [setRow_other _ _ _ _ hbN, hW]; exact hWb⟩
  have hw1 : IntKind.i64.wrap ((i : Int) + 1) = (i : Int) + 1 := by rw [IntKind.wrap_i64]; omega
  have hb1 : (0 : Int) ≤ (i : Int) + 1 := by omega
  have hin : i ≤ n := by omega
  have htn : ((i : Int) + 1).toNat = i + 1 := by omega
  have hb3 : (i : Int) ≤ (n : Int) := by omega
  have hGi : ¬ (G = i) := by omega
  have hGim : ¬ (G = i + 1) := by omega
  have hci : ¬ (c = i) := by omega
  clear hkk hik hROW hG hW1e hcur1 hcur2 hsz hsz1 hr1 hc1 hmid hvl hl0
  go_enter Try.func35, Try.ntmps35
  go_wp2_with (first
    | (at_builtin; refine Lib.wpList_append_run _ rfl _ _ _ _ rfl _ _ rfl rfl _ _ (hrz _) ?_)
    | (refine wpList_copyK _ rfl _ _ 38 38 rfl _ _ rfl rfl (hcpA W1 (hW1' W1 rfl).1 (hW1' W1 rfl).2 _ _) ?_))
  go_region_law_o (refine step_copyK rfl _ _ 38 38 rfl (.slice (some ⟨w.heap.size, (i + 1) * 18, none⟩) (n - i) (G - (i + 1))) (.slice (some ⟨b, i * 18, none⟩) (n - i) (c - i)) (by simp [Act.eval, Act.put]) (by simp [Act.eval, Act.put]) (hcpB (W1.setRow w.heap.size cur1).drew (hW2' W1 rfl).1 (hW2' W1 rfl).2 3 (G - (i + 1)) (c - i)) ?_)
  go_wp2
  go_ret
  refine ⟨w.heap.size, G, G, cur2, 26, rfl, setRow_heap _ _ cur1 cur2 26 (0, 0) (hW2' W1 rfl).1, hsz2, Nat.le_refl _, hG1, hfin, .inr (Nat.le_refl _), hw1os.1, hw1os.2.1, hw1os.2.2, by rw [setRow_sz]; show _ ≤ (W1.setRow w.heap.size cur1).heap.size; rw [setRow_sz]; exact hw1sz, fun m hm hmb => ?_⟩
  rw [setRow_other _ _ _ _ (Nat.ne_of_lt hm)]
  show (W1.setRow w.heap.size cur1).heap[m]? = _
  rw [setRow_other _ _ _ _ (Nat.ne_of_lt hm)]
  exact hframe m hm
theorem raw : NM.RawIns Try.prog 35 18 152 where
  ent := ⟨_, Try.func35, by kernel_rfl, by kernel_rfl⟩
  pos := by decide
  here w m N n c i vb vc cur vcur tb tv hin hnc hcN hbig hn hvm hcur hcs hv hvs h1c h1v := by
    rcases Nat.lt_or_ge i n with hi | hi
    · rcases Nat.lt_or_ge c (n + 1) with hr | hr
      · exact grow m N n c i vb vc cur vcur tb tv w hi hr hnc hcN hbig hcur hcs hv hvs h1c h1v
      · exact shift m N n c i vb vc cur vcur tb tv w hi hr hcN hn hvm hcur hcs hv hvs h1c h1v
    · obtain rfl : i = n := Nat.le_antisymm hin hi
      have he : (cur.toList.take (i * 18)).drop (i * 18) = [] := List.drop_eq_nil_of_le (by rw [List.length_take]; exact Nat.min_le_left _ _)
      rw [he, List.append_nil]
      rcases Nat.lt_or_ge c (i + 1) with hr | hr
      · refine endGrows (some ⟨m, 0, none⟩) m i c vb vc (cur.toList.take (i * 18)) vcur tv w hr hnc hbig ?_ ?_ (fun h => by cases h) hv hvs
        · rw [List.length_take, Array.length_toList]; omega
        · intro a ha j v hj
          cases ha
          rw [Addr.add_lit, Nat.zero_add, cellsOf hcur]
          rw [List.getElem?_take] at hj
          split at hj
          · rw [← Array.getElem?_toList]; exact hj
          · cases hj
      · exact endFits m N i c vb vc cur vcur tb tv w hr hcN hvm hcur hcs hv hvs h1v
  void w A vb vc vcur tv hv hvs := by
    have := endGrows A w.heap.size 0 0 vb vc [] vcur tv w (by omega) (by omega) (by decide) rfl (fun a ha j v hj => by simp at hj) (fun _ => rfl) hv hvs
    simpa using this
end InsJob
namespace NM
theorem ext35 : NOk Try.prog ⟨35, sigI .job, fun x hh => insertG 152 x.2.1 hh.1 hh.2.1⟩ := NOk.insert .job InsJob.raw
end NM
end Go.Proofs.Ytfelhbeiegppgaa
