/-
  slices.Delete at a type of several cells, on memory as it lies.
-/
import Derived.Test.YtnggfgfeghmddaaNDelete
import Derived.Test.YtnggfgfeghmddaaInsEntry
set_option linter.unusedVariables false
set_option linter.unusedSimpArgs false
namespace Go.Proofs.Ytnggfgfeghmddaa
open Go.RowKit Go.Lib Go
namespace DelEntry

theorem setRow_other (w : World) (g : Nat) (cur : Array Value) (m : Nat) (h : m ≠ g) : (w.setRow g cur).heap[m]? = w.heap[m]? := by
  unfold World.setRow
  simp [Array.getElem?_modify, Ne.symm h]
theorem setRow_sz (w : World) (g : Nat) (cur : Array Value) : (w.setRow g cur).heap.size = w.heap.size := by
  unfold World.setRow
  simp
theorem cellsOf {w : World} {b : Nat} {cur : Array Value} {t : TypeId} {fr : Nat × Nat} (h : w.heap[b]? = some (.cells cur t fr)) (j : Nat) : w.cell? ⟨b, j, none⟩ = cur[j]? := by
  simp [World.cell?, h]
theorem frozenOf {w : World} {b : Nat} {cur : Array Value} {t : TypeId} (h : w.heap[b]? = some (.cells cur t (0, 0))) (j : Nat) : w.frozen? ⟨b, j, none⟩ = false := by
  simp [World.frozen?, h]
theorem zs_spec : ∀ n, (Builtin.zeroCells (Value.cells (.agg #[.int .i64 0, .int .i64 0, .int .i64 0, .int .i64 0, .int .i64 0, .int .i64 0, .int .i64 0, .int .i64 0, .int .i64 0, .int .i64 0, .int .i64 0, .int .i64 0, .int .i64 0, .int .i64 0, .slice none 0 0, .int .i64 0, .int .i64 0, .int .i64 0, .int .i64 0, .int .i64 0, .int .i64 0, .int .i64 0, .int .i64 0, .slice none 0 0, .int .i64 0, .bool false])) n).size = n * 26 ∧ ∀ v ∈ (Builtin.zeroCells (Value.cells (.agg #[.int .i64 0, .int .i64 0, .int .i64 0, .int .i64 0, .int .i64 0, .int .i64 0, .int .i64 0, .int .i64 0, .int .i64 0, .int .i64 0, .int .i64 0, .int .i64 0, .int .i64 0, .int .i64 0, .slice none 0 0, .int .i64 0, .int .i64 0, .int .i64 0, .int .i64 0, .int .i64 0, .int .i64 0, .int .i64 0, .int .i64 0, .slice none 0 0, .int .i64 0, .bool false])) n).toList, v.oneCell' = true := by
  intro n
  have hzc : (Value.cells (.agg #[.int .i64 0, .int .i64 0, .int .i64 0, .int .i64 0, .int .i64 0, .int .i64 0, .int .i64 0, .int .i64 0, .int .i64 0, .int .i64 0, .int .i64 0, .int .i64 0, .int .i64 0, .int .i64 0, .slice none 0 0, .int .i64 0, .int .i64 0, .int .i64 0, .int .i64 0, .int .i64 0, .int .i64 0, .int .i64 0, .int .i64 0, .slice none 0 0, .int .i64 0, .bool false])).size = 26 := rfl
  refine ⟨by rw [size_zeroCells, hzc], fun v hv => ?_⟩
  have hall : ∀ u ∈ (Value.cells (.agg #[.int .i64 0, .int .i64 0, .int .i64 0, .int .i64 0, .int .i64 0, .int .i64 0, .int .i64 0, .int .i64 0, .int .i64 0, .int .i64 0, .int .i64 0, .int .i64 0, .int .i64 0, .int .i64 0, .slice none 0 0, .int .i64 0, .int .i64 0, .int .i64 0, .int .i64 0, .int .i64 0, .int .i64 0, .int .i64 0, .int .i64 0, .slice none 0 0, .int .i64 0, .bool false])).toList, u.oneCell' = true := by decide
  unfold Builtin.zeroCells at hv
  simp only [Array.mem_toList_iff, Array.mem_map, Array.mem_range] at hv
  obtain ⟨j, hj, rfl⟩ := hv
  refine hall _ ?_
  rw [Array.mem_toList_iff]
  have this : j % (Value.cells (.agg #[.int .i64 0, .int .i64 0, .int .i64 0, .int .i64 0, .int .i64 0, .int .i64 0, .int .i64 0, .int .i64 0, .int .i64 0, .int .i64 0, .int .i64 0, .int .i64 0, .int .i64 0, .int .i64 0, .slice none 0 0, .int .i64 0, .int .i64 0, .int .i64 0, .int .i64 0, .int .i64 0, .int .i64 0, .int .i64 0, .int .i64 0, .slice none 0 0, .int .i64 0, .bool false])).size < (Value.cells (.agg #[.int .i64 0, .int .i64 0, .int .i64 0, .int .i64 0, .int .i64 0, .int .i64 0, .int .i64 0, .int .i64 0, .int .i64 0, .int .i64 0, .int .i64 0, .int .i64 0, .int .i64 0, .int .i64 0, .slice none 0 0, .int .i64 0, .int .i64 0, .int .i64 0, .int .i64 0, .int .i64 0, .int .i64 0, .int .i64 0, .int .i64 0, .slice none 0 0, .int .i64 0, .bool false])).size := Nat.mod_lt _ (by rw [hzc]; decide)
  rw [getElem!_pos (Value.cells (.agg #[.int .i64 0, .int .i64 0, .int .i64 0, .int .i64 0, .int .i64 0, .int .i64 0, .int .i64 0, .int .i64 0, .int .i64 0, .int .i64 0, .int .i64 0, .int .i64 0, .int .i64 0, .int .i64 0, .slice none 0 0, .int .i64 0, .int .i64 0, .int .i64 0, .int .i64 0, .int .i64 0, .int .i64 0, .int .i64 0, .int .i64 0, .slice none 0 0, .int .i64 0, .bool false])) _ this]
  exact Array.getElem_mem this

set_option maxHeartbeats 4000000 in
set_option maxRecDepth 100000 in
theorem mid (w : World) (b N n c i j : Nat) (cur : Array Value) (tb : TypeId) (hij : i < j) (hjn : j ≤ n) (hnc : n ≤ c) (hcN : c ≤ N) (hn : n ≤ 4294967296)
    (hcur : w.heap[b]? = some (.cells cur tb (0, 0))) (hcs : cur.size = N * 26) (h1c : ∀ j v, j < n * 26 → cur[j]? = some v → v.oneCell' = true) :
    Calls Try.prog 59 #[.slice (some ⟨b, 0, none⟩) n c, .int .i64 i, .int .i64 j] w (DelPost 26 N tb w b (i + (n - j)) c (cur.toList.take (i * 26) ++ (cur.toList.take (n * 26)).drop (j * 26))) := by
  have mixed : Try.prog.follows .mixedOrders = true := by kernel_rfl
  obtain ⟨i0, hi0, hz0, hs0, hb0⟩ := info_parts (P := Try.prog) (e := 70) (z := (.agg #[.int .i64 0, .int .i64 0, .int .i64 0, .int .i64 0, .int .i64 0, .int .i64 0, .int .i64 0, .int .i64 0, .int .i64 0, .int .i64 0, .int .i64 0, .int .i64 0, .int .i64 0, .int .i64 0, .slice none 0 0, .int .i64 0, .int .i64 0, .int .i64 0, .int .i64 0, .int .i64 0, .int .i64 0, .int .i64 0, .int .i64 0, .slice none 0 0, .int .i64 0, .bool false])) (size := 26) (bytes := 240) (by kernel_rfl)
  have hzv : ∀ w, (zeroValue 70).run Try.prog w = .ok (.agg #[.int .i64 0, .int .i64 0, .int .i64 0, .int .i64 0, .int .i64 0, .int .i64 0, .int .i64 0, .int .i64 0, .int .i64 0, .int .i64 0, .int .i64 0, .int .i64 0, .int .i64 0, .int .i64 0, .slice none 0 0, .int .i64 0, .int .i64 0, .int .i64 0, .int .i64 0, .int .i64 0, .int .i64 0, .int .i64 0, .int .i64 0, .slice none 0 0, .int .i64 0, .bool false]) w := fun w => by simp [zeroValue, typeInfo, hi0, hz0]
  have hic : i ≤ c := by omega
  have hjc : j ≤ c := by omega
  obtain ⟨news, hnews⟩ : ∃ news, news = (cur.toList.take (n * 26)).drop (j * 26) := ⟨_, rfl⟩
  have hnK : n * 26 ≤ cur.size := by rw [hcs]; exact Nat.mul_le_mul_right _ (by omega)
  have hlen : news.length = (n - j) * 26 := by
    rw [hnews, List.length_drop, List.length_take, Array.length_toList]; omega
  have hget : ∀ t u, news[t]? = some u → cur[j * 26 + t]? = some u ∧ j * 26 + t < n * 26 := fun t u hu => by
    rw [hnews, List.getElem?_drop, List.getElem?_take] at hu
    split at hu
    · rename_i hlt; exact ⟨by rw [← Array.getElem?_toList]; exact hu, hlt⟩
    · cases hu
  obtain ⟨A, hA, hsrc⟩ : ∃ A : Addr, (if c = j then some (⟨b, 0, none⟩ : Addr) else some ⟨b, j * 26, none⟩) = some A ∧ Hid (∀ t u, news[t]? = some u → w.drew.cell? (A.add t) = some u) := by
    by_cases h : c = j
    · refine ⟨⟨b, 0, none⟩, by simp [h], fun t u hu => ?_⟩
      have := (hget t u hu).2
      omega
    · refine ⟨⟨b, j * 26, none⟩, by simp [h], fun t u hu => ?_⟩
      rw [Addr.add_lit, cellsOf (w := w.drew) (t := tb) (fr := (0, 0)) (cur := cur) hcur]
      exact (hget t u hu).1
  have s1 : Hid (news.length = (n - j) * 26) := hlen
  have s2 : Hid (∀ u ∈ news, u.oneCell' = true) := fun u hu => by
    obtain ⟨t, ht⟩ := List.getElem?_of_mem hu
    obtain ⟨g1, g2⟩ := hget t u ht
    exact h1c _ u g2 g1
  have s3 : Hid (∀ t, t < news.length → (w.drew.cell? ⟨b, 0 + i * 26 + t, none⟩).isSome = true ∧ w.drew.frozen? ⟨b, 0 + i * 26 + t, none⟩ = false) := fun t ht => by
    rw [hlen] at ht
    have hw : w.drew.heap[b]? = some (.cells cur tb (0, 0)) := hcur
    rw [cellsOf hw, frozenOf hw, Array.getElem?_eq_getElem (by omega)]
    exact ⟨rfl, rfl⟩
  obtain ⟨cur1, hcur1⟩ : ∃ cur1 : Array Value, cur1 = (cur.toList.take (0 + i * 26) ++ news ++ cur.toList.drop (0 + i * 26 + news.length)).toArray := ⟨_, rfl⟩
  obtain ⟨W1, hW1⟩ : ∃ W1, W1 = w.drew.setRow b cur1 := ⟨_, rfl⟩
  have hW : Hid (w.drew.setCells b (0 + i * 26) news = W1) := by
    show _ = _
    rw [hW1, hcur1]
    exact setCells_row Try.prog w.drew b (0 + i * 26) news cur tb hcur (by omega) s2
  have hH1 : W1.heap[b]? = some (.cells cur1 tb (0, 0)) := by rw [hW1]; exact setRow_heap _ _ _ _ _ _ hcur
  have hl0 : (cur.toList.take (0 + i * 26)).length = i * 26 := by rw [List.length_take, Array.length_toList]; omega
  have hsz1 : cur1.size = N * 26 := by
    have h2 : (cur.toList.drop (0 + i * 26 + (n - j) * 26)).length = cur.size - (0 + i * 26 + (n - j) * 26) := by rw [List.length_drop, Array.length_toList]
    rw [hcur1, List.size_toArray, List.length_append, List.length_append, hl0, hlen, h2, hcs]
    omega
  obtain ⟨zs, hzs⟩ : ∃ zs, zs = (Builtin.zeroCells (Value.cells (.agg #[.int .i64 0, .int .i64 0, .int .i64 0, .int .i64 0, .int .i64 0, .int .i64 0, .int .i64 0, .int .i64 0, .int .i64 0, .int .i64 0, .int .i64 0, .int .i64 0, .int .i64 0, .int .i64 0, .slice none 0 0, .int .i64 0, .int .i64 0, .int .i64 0, .int .i64 0, .int .i64 0, .int .i64 0, .int .i64 0, .int .i64 0, .slice none 0 0, .int .i64 0, .bool false])) (n - (i + (n - j)))).toList := ⟨_, rfl⟩
  have hzl : zs.length = (n - (i + (n - j))) * 26 := by rw [hzs, Array.length_toList]; exact (zs_spec _).1
  have hz1 : ∀ v ∈ zs, v.oneCell' = true := by rw [hzs]; exact (zs_spec _).2
  obtain ⟨cur2, hcur2⟩ : ∃ cur2 : Array Value, cur2 = (cur1.toList.take ((i + (n - j)) * 26) ++ zs ++ cur1.toList.drop ((i + (n - j)) * 26 + zs.length)).toArray := ⟨_, rfl⟩
  have hl1 : (cur1.toList.take ((i + (n - j)) * 26)).length = (i + (n - j)) * 26 := by rw [List.length_take, Array.length_toList]; omega
  have hsz2 : cur2.size = N * 26 := by
    have h2 : (cur1.toList.drop ((i + (n - j)) * 26 + (n - (i + (n - j))) * 26)).length = cur1.size - ((i + (n - j)) * 26 + (n - (i + (n - j))) * 26) := by rw [List.length_drop, Array.length_toList]
    rw [hcur2, List.size_toArray, List.length_append, List.length_append, hl1, hzl, h2, hsz1]
    omega
  have hcl : ∀ ty, (Builtin.clear_ #[67] ty #[.slice (some ⟨b, (i + (n - j)) * 26, none⟩) (n - (i + (n - j))) (c - (i + (n - j)))]).run Try.prog W1 = .ok (.tuple #[]) (W1.setRow b cur2) := fun ty => by
    have h := run_clear_sliceK (P := Try.prog) W1 67 70 ty _ Try.underlying67 hzv b ((i + (n - j)) * 26) (n - (i + (n - j))) (c - (i + (n - j))) (by omega) zs hzs.symm hz1 (fun t ht => by
        rw [cellsOf hH1, Array.getElem?_eq_getElem (by rw [hzl] at ht; omega)]; rfl) (fun t ht => frozenOf hH1 _)
    rw [h, setCells_row Try.prog W1 b _ zs cur1 tb hH1 (by rw [hzl]; omega) hz1, ← hcur2]
  have hfin : ∀ (q : Nat) (v : Value), (cur.toList.take (i * 26) ++ (cur.toList.take (n * 26)).drop (j * 26))[q]? = some v → cur2[q]? = some v := fun q v hq => by
    rw [← hnews] at hq
    have hq2 := (List.getElem?_eq_some_iff.1 hq).1
    have hl00 : (cur.toList.take (i * 26)).length = i * 26 := by rw [List.length_take, Array.length_toList]; omega
    rw [List.length_append, hl00, hlen] at hq2
    rw [← Array.getElem?_toList, hcur2]
    simp only
    rw [List.append_assoc, List.getElem?_append_left (by rw [hl1]; omega), List.getElem?_take, if_pos (by omega), hcur1]
    simp only
    rw [List.getElem?_append_left (by rw [List.length_append, hl0, hlen]; omega), Nat.zero_add]
    exact hq
  have hW1e : W1.os = w.os ∧ W1.tape = w.tape ∧ W1.output = w.output ∧ W1.heap.size = w.heap.size ∧ ∀ m, m ≠ b → W1.heap[m]? = w.heap[m]? := by
    rw [hW1]
    exact ⟨rfl, rfl, rfl, by rw [setRow_sz]; rfl, fun m hm => by rw [setRow_other _ _ _ _ hm]; rfl⟩
  have hnk : ¬ (c = i + (n - j)) := by omega
  have hne : ¬ ((i : Int) = (j : Int)) := by omega
  have hH1' : Hid (W1.heap[b]? = some (.cells cur1 tb (0, 0))) := hH1
  clear hH1 hW1 hget hnews hlen hcur1 hsz1 hcur2 hzs hzl hl0 hl1 hz0 hb0 hzv
  go_enter Try.func59, Try.ntmps59
  go_wp2_with fail
  go_region_law_o (refine step_append_room rfl (.tmp 22) (.tmp 25) 67 rfl 70 i0 26 Try.underlying67 hi0 hs0 b 0 i c (by simp [Act.eval, Act.put]) A (n - j) (c - j) news (by simp [Act.eval, Act.put]) s1.out hsrc.out s2.out (by omega) s3.out ?_; rw [hW.out])
  go_wp2
  go_ret
  exact ⟨cur2, rfl, setRow_heap _ _ _ _ _ _ hH1'.out, hsz2, hfin, hW1e.1, hW1e.2.1, hW1e.2.2.1, by rw [setRow_sz]; exact hW1e.2.2.2.1, fun m hm => by rw [setRow_other _ _ _ _ hm]; exact hW1e.2.2.2.2 m hm⟩
theorem raw : NM.RawDel Try.prog 59 26 where
  ent := ⟨_, Try.func59, by kernel_rfl, by kernel_rfl⟩
  pos := by decide
  here w m N n c i j cur tb h1 h2 h3 h4 h5 h6 h7 h8 := mid w m N n c i j cur tb h1 h2 h3 h4 h5 h6 h7 h8
end DelEntry
namespace NM
theorem ext59 : NOk Try.prog ⟨59, sigD .entry, fun x hh => deleteG x.2.1 x.2.2.1 hh.1⟩ := NOk.delete .entry DelEntry.raw
theorem extz58 : NOk Try.prog ⟨58, sigIZ .entry, fun x hh => insertZ 240 x.2.1 hh.1⟩ := NOk.insZ .entry InsEntry.raw
theorem extn59 : NOk Try.prog ⟨59, sigDZ .entry, fun x hh => none⟩ := ⟨DelEntry.raw.ent, rfl, fun x hh y hy => by cases hy⟩
end NM
end Go.Proofs.Ytnggfgfeghmddaa
