/-
  deps.Chain at its chapter's example, part 2: the function itself.
-/
import Derived.Test.YtnggfgfeghmddaaNChainA
import Derived.OwnWalk
import Derived.Deep.WholeRow
import Derived.Deep.MidRow
import Derived.Laws.EntriesVeiled
import Derived.Test.YtnggfgfeghmddaaShelf
set_option linter.unusedVariables false
set_option linter.unusedSimpArgs false
namespace Go.Proofs.Ytnggfgfeghmddaa
open Go.RowKit Go.Lib Go Go.Maps
namespace Chain

open Go.Sort in
theorem put_other (enc : Int → Value) (w : World) (m : Nat) (d : Array Int) (j : Nat) (h : j ≠ m) : (putRow enc w m 0 d).heap[j]? = w.heap[j]? := by
  unfold putRow mapBlock
  simp only [Array.getElem?_modify]
  rw [if_neg (fun e => h e.symm)]
open Go.Sort in
theorem put_here (enc : Int → Value) (w : World) (m : Nat) (d : Array Int) {c : Array Value} {t : TypeId} {fr : Nat × Nat} (h : w.heap[m]? = some (.cells c t fr)) : (putRow enc w m 0 d).heap[m]? = some (.cells (putCells enc 0 d c) t fr) := by
  unfold putRow mapBlock
  simp only [Array.getElem?_modify, if_true, h]
  rfl
open Go.Sort in
theorem put_size (enc : Int → Value) (w : World) (m : Nat) (d : Array Int) : (putRow enc w m 0 d).heap.size = w.heap.size := by
  unfold putRow mapBlock
  simp
open Go.Sort in
theorem putCells_at (enc : Int → Value) (d : List Int) (c : Array Value) (j : Nat) (x : Int) (hx : d[j]? = some x) (hc : j < c.size) : (putCells enc 0 d.toArray c)[j]? = some (enc x) := by
  have hj := (List.getElem?_eq_some_iff.1 hx).1
  unfold putCells
  rw [Array.getElem?_mapIdx, Array.getElem?_eq_getElem hc, Option.map_some, if_pos ⟨Nat.zero_le _, by simpa using hj⟩, Nat.sub_zero]
  have : d.toArray[j]! = x := by
    rw [getElem!_pos _ j (by simpa using hj)]
    have := (List.getElem?_eq_some_iff.1 hx).2
    simpa using this
  rw [this]
theorem sort21 : (List.mergeSort [(2 : Int), 1] fun x y => decide (x ≤ y)) = [1, 2] := by
  simp [List.mergeSort, List.MergeSort.Internal.splitInTwo, List.merge]
open Go.Sort in
theorem sorted_two {u : World} {g cap : Nat} {cur : Array Value} {t : TypeId} (hg : u.heap[g]? = some (.cells cur t (0, 0))) (h0 : cur[0]? = some (.int .i64 2)) (h1 : cur[1]? = some (.int .i64 1)) :
    Calls Try.prog 91 #[.slice (some ⟨g, 0, none⟩) 2 cap] u fun e u' => e = .returned (.tuple #[]) ∧ u'.cell? ⟨g, 0, none⟩ = some (.int .i64 1) ∧ u'.cell? ⟨g, 1, none⟩ = some (.int .i64 2) ∧
      u.grownBy u' (some g) := by
  have hlt := lt_of_block hg
  have hH : Holds (Value.int .i64) u g 0 ([2, 1] : List Int).toArray := by
    intro j hj
    have hj' : j < 2 := by simpa using hj
    match j, hj' with
    | 0, _ => exact ⟨by simp [World.cell?, hg, h0], by simp [World.frozen?, hg]⟩
    | 1, _ => exact ⟨by simp [World.cell?, hg, h1], by simp [World.frozen?, hg]⟩
  refine (Try.slices_Sort_int g 0 cap [2, 1] u hH hlt (by decide)).mono fun e u' ⟨he, n, os, hw⟩ => ?_
  rw [sort21] at hw
  have hfr : ∀ j, j < u.heap.size → j ≠ g → u'.heap[j]? = u.heap[j]? := fun j hj hjm => by
    rw [hw]
    show ((putRow (Value.int .i64) (Sort.ahead u n) g 0 _).heap ++ os)[j]? = _
    rw [Array.getElem?_append_left (by rw [put_size]; exact hj), put_other _ _ _ _ _ hjm]
    rfl
  have hhm : u'.heap[g]? = some (.cells (putCells (Value.int .i64) 0 ([1, 2] : List Int).toArray cur) t (0, 0)) := by
    rw [hw]
    show ((putRow (Value.int .i64) (Sort.ahead u n) g 0 _).heap ++ os)[g]? = _
    rw [Array.getElem?_append_left (by rw [put_size]; exact hlt)]
    exact put_here _ _ _ _ hg
  have hsz : u.heap.size ≤ u'.heap.size := by
    rw [hw]
    show u.heap.size ≤ ((putRow (Value.int .i64) (Sort.ahead u n) g 0 _).heap ++ os).size
    rw [Array.size_append, put_size]
    exact Nat.le_add_right _ _
  have hl0 : 0 < cur.size := (Array.getElem?_eq_some_iff.1 h0).1
  have hl1 : 1 < cur.size := (Array.getElem?_eq_some_iff.1 h1).1
  refine ⟨he, ?_, ?_, by rw [hw]; rfl, by rw [hw]; rfl, by rw [hw]; rfl, hsz, fun k hk hne => hfr k hk (fun e => hne (by rw [e]))⟩
  · rw [cell_of_row _ _ 0 _ _ _ hhm]
    exact putCells_at (Value.int .i64) [1, 2] cur 0 1 rfl hl0
  · rw [cell_of_row _ _ 1 _ _ _ hhm]
    exact putCells_at (Value.int .i64) [1, 2] cur 1 2 rfl hl1
def CC : Nat → DataW Unit
  | 0 => C0
  | 1 => C1
  | 2 => C2
  | _ => C3
theorem cc_not {k : Nat} (h : k < 3) : Maps.has (CC k) (.int .i64 ((k : Int) + 1)) = false := by
  match k, h with
  | 0, _ => rfl
  | 1, _ => rfl
  | 2, _ => rfl
theorem cc_put {k : Nat} (h : k < 3) : (CC k).put (.int .i64 ((k : Int) + 1)) (.lit (.int .i64 (k : Int))) = CC (k + 1) := by
  match k, h with
  | 0, _ => rfl
  | 1, _ => rfl
  | 2, _ => rfl
theorem info4 : (Try.prog.info? 4).map (fun i => (i.zero, i.size, i.bytes)) = some (some (.bool false), 1, 1) := by kernel_rfl
theorem run_make3 (w : World) : (Instr.makeSlice 139 (.int .i64 3) (.int .i64 3)).run Try.prog w = .ok (.slice (some ⟨w.heap.size, 0, none⟩) 3 3) (w.alloc (.cells #[.bool false, .bool false, .bool false] 4)) := by
  obtain ⟨i0, hi, hz0, hz1, hz2⟩ := info_parts info4
  have h := run_make (P := Try.prog) (w := w) 139 4 i0 (.bool false) Try.underlying139 hi hz0 .i64 .i64 3 3 (by decide) (by decide) (by rw [hz2]; decide) (by decide)
  rw [hz1] at h
  rw [h]
  have e : madeCells (Value.bool false).cells (Int.toNat 3 * 1) = #[.bool false, .bool false, .bool false] := by simp [madeCells, Value.cells, Array.range, Array.flatMap]; try rfl
  rw [e]
  rfl
/-- while the map is filled -/
structure Lo (w u : World) (n A o cap k : Nat) : Prop where
  below : Below n w u
  all : u.heap[n]? = some (.cells #[.slice (some ⟨A, o, none⟩) 3 cap] 36 (0, 0))
  map : u.ownsMap Try.prog 3 (plainElem Try.prog 3) (n + 1) k (CC k)
  wh : u.heap[n + 2]? = some (.cells #[.map (some (n + 1))] 138 (0, 0))
  sz : n + 3 ≤ u.heap.size
theorem Lo.alloc {w u : World} {n A o cap k : Nat} (h : Lo w u n A o cap k) (x : Obj) : Lo w (u.alloc x) n A o cap k := by
  have hsz := h.sz
  have hb : ∀ k, k < n + 3 → (u.alloc x).heap[k]? = u.heap[k]? := fun k hk => Below.heap_alloc _ _ _ (by omega)
  exact ⟨h.below.alloc (by omega) _, (hb _ (by omega)).trans h.all, ownsMap_of h.map (hb _ (by omega)), (hb _ (by omega)).trans h.wh, by simp; omega⟩
theorem Lo.put {w u u' : World} {n A o cap k : Nat} (hk : k < 3) (h : Lo w u n A o cap k) (hm : u'.ownsMap Try.prog 3 (plainElem Try.prog 3) (n + 1) (k + 1) ((CC k).put (.int .i64 ((k : Int) + 1)) (.lit (.int .i64 (k : Int))))) (hg : u.grownBy u' (some (n + 1))) : Lo w u' n A o cap (k + 1) := by
  have hsz := h.sz
  have hb : ∀ k, k < n + 3 → k ≠ n + 1 → u'.heap[k]? = u.heap[k]? := fun k hk h1 => hg.block k (by omega) (fun e => h1 (Option.some.inj e))
  exact ⟨h.below.grown hg (by omega) (fun k hk => by cases hk; omega), (hb _ (by omega) (by omega)).trans h.all, by rw [← cc_put hk]; exact hm, (hb _ (by omega) (by omega)).trans h.wh, Nat.le_trans hsz hg.size⟩

/-- six blocks more: what is laid before dependencies are followed -/
abbrev six (wr : World) (p n : Nat) : World := (((((wr.alloc (.cells #[.slice none 0 0] 60)).alloc (.cells #[.bool false, .bool false, .bool false] 4)).alloc (.cells #[.slice (some ⟨p + 1, 0, none⟩) 3 3] 139)).alloc (.cells #[.int .i64 3] 3)).alloc (.cells #[.slice (some ⟨p + 3, 0, none⟩) 1 1] 60)).alloc
  (.cells #[.func (.func 90) #[] #[.pointer (some ⟨n + 2, 0, none⟩), .pointer (some ⟨p + 4, 0, none⟩), .pointer (some ⟨n, 0, none⟩), .pointer (some ⟨p + 2, 0, none⟩), .pointer (some ⟨p, 0, none⟩), .pointer (some ⟨p + 5, 0, none⟩)]] 140)
theorem six_all {w wr : World} {n p A o cap : Nat} (hp : p = wr.heap.size) (hL : Lo w wr n A o cap 3) :
    (six wr p n).heap[p + 4]? = some (.cells #[.slice (some ⟨p + 3, 0, none⟩) 1 1] 60 (0, 0)) ∧ (six wr p n).heap[p + 3]? = some (.cells #[.int .i64 3] 3 (0, 0)) ∧
    St w ((six wr p n).setCell ⟨p + 4, 0, none⟩ (.slice (some ⟨p + 3, 0, none⟩) 0 1)) n p A o cap [false, false, false] [] := by
  have hsz := hL.sz
  unfold six
  generalize hc0 : Obj.cells #[Value.slice none 0 0] 60 = c0
  generalize hc1 : Obj.cells #[Value.bool false, Value.bool false, Value.bool false] 4 = c1
  generalize hc2 : Obj.cells #[Value.slice (some ⟨p + 1, 0, none⟩) 3 3] 139 = c2
  generalize hc3 : Obj.cells #[Value.int .i64 3] 3 = c3
  generalize hc4 : Obj.cells #[Value.slice (some ⟨p + 3, 0, none⟩) 1 1] 60 = c4
  generalize hc5 : Obj.cells #[Value.func (.func 90) #[] #[.pointer (some ⟨n + 2, 0, none⟩), .pointer (some ⟨p + 4, 0, none⟩), .pointer (some ⟨n, 0, none⟩), .pointer (some ⟨p + 2, 0, none⟩), .pointer (some ⟨p, 0, none⟩), .pointer (some ⟨p + 5, 0, none⟩)]] 140 = c5
  have e1 : (wr.alloc c0).heap.size = p + 1 := by simp [hp]
  have e2 : ((wr.alloc c0).alloc c1).heap.size = p + 2 := by simp [hp]
  have e3 : (((wr.alloc c0).alloc c1).alloc c2).heap.size = p + 3 := by simp [hp]
  have e4 : ((((wr.alloc c0).alloc c1).alloc c2).alloc c3).heap.size = p + 4 := by simp [hp]
  have e5 : (((((wr.alloc c0).alloc c1).alloc c2).alloc c3).alloc c4).heap.size = p + 5 := by simp [hp]
  have e6 : ((((((wr.alloc c0).alloc c1).alloc c2).alloc c3).alloc c4).alloc c5).heap.size = p + 6 := by simp [hp]
  have f5 : ∀ k, k < p + 5 → ((((((wr.alloc c0).alloc c1).alloc c2).alloc c3).alloc c4).alloc c5).heap[k]? = (((((wr.alloc c0).alloc c1).alloc c2).alloc c3).alloc c4).heap[k]? := fun k hk => heap_alloc_old _ _ (by omega)
  have f4 : ∀ k, k < p + 4 → ((((((wr.alloc c0).alloc c1).alloc c2).alloc c3).alloc c4).alloc c5).heap[k]? = ((((wr.alloc c0).alloc c1).alloc c2).alloc c3).heap[k]? := fun k hk => (f5 k (by omega)).trans (heap_alloc_old _ _ (by omega))
  have f3 : ∀ k, k < p + 3 → ((((((wr.alloc c0).alloc c1).alloc c2).alloc c3).alloc c4).alloc c5).heap[k]? = (((wr.alloc c0).alloc c1).alloc c2).heap[k]? := fun k hk => (f4 k (by omega)).trans (heap_alloc_old _ _ (by omega))
  have f2 : ∀ k, k < p + 2 → ((((((wr.alloc c0).alloc c1).alloc c2).alloc c3).alloc c4).alloc c5).heap[k]? = ((wr.alloc c0).alloc c1).heap[k]? := fun k hk => (f3 k (by omega)).trans (heap_alloc_old _ _ (by omega))
  have f1 : ∀ k, k < p + 1 → ((((((wr.alloc c0).alloc c1).alloc c2).alloc c3).alloc c4).alloc c5).heap[k]? = (wr.alloc c0).heap[k]? := fun k hk => (f2 k (by omega)).trans (heap_alloc_old _ _ (by omega))
  have f0 : ∀ k, k < p → ((((((wr.alloc c0).alloc c1).alloc c2).alloc c3).alloc c4).alloc c5).heap[k]? = wr.heap[k]? := fun k hk => (f1 k (by omega)).trans (heap_alloc_old _ _ (by omega))
  have b0 : ((((((wr.alloc c0).alloc c1).alloc c2).alloc c3).alloc c4).alloc c5).heap[p]? = some c0 := by
    rw [f1 p (by omega)]
    rw [hp]
    exact heap_alloc_new wr c0
  have b1 : ((((((wr.alloc c0).alloc c1).alloc c2).alloc c3).alloc c4).alloc c5).heap[p + 1]? = some c1 := by
    rw [f2 (p + 1) (by omega)]
    rw [← e1]
    exact heap_alloc_new _ c1
  have b2 : ((((((wr.alloc c0).alloc c1).alloc c2).alloc c3).alloc c4).alloc c5).heap[p + 2]? = some c2 := by
    rw [f3 (p + 2) (by omega)]
    rw [← e2]
    exact heap_alloc_new _ c2
  have b3 : ((((((wr.alloc c0).alloc c1).alloc c2).alloc c3).alloc c4).alloc c5).heap[p + 3]? = some c3 := by
    rw [f4 (p + 3) (by omega)]
    rw [← e3]
    exact heap_alloc_new _ c3
  have b4 : ((((((wr.alloc c0).alloc c1).alloc c2).alloc c3).alloc c4).alloc c5).heap[p + 4]? = some c4 := by
    rw [f5 (p + 4) (by omega)]
    rw [← e4]
    exact heap_alloc_new _ c4
  have b5 : ((((((wr.alloc c0).alloc c1).alloc c2).alloc c3).alloc c4).alloc c5).heap[p + 5]? = some c5 := by rw [← e5]; exact heap_alloc_new _ c5
  have B6 : Below p wr ((((((wr.alloc c0).alloc c1).alloc c2).alloc c3).alloc c4).alloc c5) := ⟨rfl, rfl, rfl, by rw [e6]; omega, f0⟩
  generalize ((((((wr.alloc c0).alloc c1).alloc c2).alloc c3).alloc c4).alloc c5) = u at *
  subst hc0 hc1 hc2 hc3 hc4 hc5
  refine ⟨b4, b3, ?_⟩
  have hs : ∀ k, k ≠ p + 4 → (u.setCell ⟨p + 4, 0, none⟩ (.slice (some ⟨p + 3, 0, none⟩) 0 1)).heap[k]? = u.heap[k]? := fun k hk => Below.heap_setCell _ _ _ _ hk
  refine ⟨(hL.below.trans (B6.mono (by omega))).setCell (by show n ≤ p + 4; omega) _, ?_, ?_, ?_, ⟨_, (hs _ (by omega)).trans b0, World.ownsInts_nil _ _ _ _⟩, (hs _ (by omega)).trans b1, (hs _ (by omega)).trans b2, one_setCell b4, (hs _ (by omega)).trans b5, by simp [World.setCell, e6], by omega⟩
  · exact (hs _ (by omega)).trans ((f0 _ (by omega)).trans hL.all)
  · exact ownsMap_of hL.map ((hs _ (by omega)).trans (f0 _ (by omega)))
  · exact (hs _ (by omega)).trans ((f0 _ (by omega)).trans hL.wh)
set_option maxHeartbeats 8000000 in
set_option maxRecDepth 1000000 in
theorem walk {w : World} {n A o cap : Nat} (hn : Hid (n = w.heap.size)) (hA : A < n) (V : Nat → Array Value) (hJ : ∀ k, k < 3 → Row w ⟨A, o + k * 18, none⟩ (V k)) (hVs : ∀ k, k < 3 → (V k).size = 18) (hV0 : ∀ k, k < 3 → (V k)[0]? = some (.int .i64 ((k : Int) + 1))) (hone : ∀ k, k < 3 → (V k).all (·.oneCell') = true)
    (A0 : Option Addr) (c0 : Nat) (h0 : w.cell? ⟨A, o + 9, none⟩ = some (.slice A0 0 c0))
    (m1 o1 c1 : Nat) (hm1 : m1 < n) (h1 : w.cell? ⟨A, o + 27, none⟩ = some (.slice (some ⟨m1, o1, none⟩) 1 c1)) (h1a : w.cell? ⟨m1, o1, none⟩ = some (.int .i64 1)) (h1b : w.cell? ⟨m1, o1 + 1, none⟩ = some (.bool false))
    (m2 o2 c2 : Nat) (hm2 : m2 < n) (h2 : w.cell? ⟨A, o + 45, none⟩ = some (.slice (some ⟨m2, o2, none⟩) 1 c2)) (h2a : w.cell? ⟨m2, o2, none⟩ = some (.int .i64 2)) (h2b : w.cell? ⟨m2, o2 + 1, none⟩ = some (.bool false)) :
    Calls Try.prog 66 #[.int .i64 3, .slice (some ⟨A, o, none⟩) 3 cap] w fun e w' => ∃ g cap', e = .returned (.slice (some ⟨g, 0, none⟩) 2 cap') ∧ 2 ≤ cap' ∧ n ≤ g ∧ g < w'.heap.size ∧ w'.cell? ⟨g, 0, none⟩ = some (.int .i64 1) ∧ w'.cell? ⟨g, 1, none⟩ = some (.int .i64 2) ∧ Below n w w' := by
  have HJ := Go.Lib.hid hJ
  have HONE := Go.Lib.hid hone
  have HVS := Go.Lib.hid hVs
  have HV0 := Go.Lib.hid hV0
  have HF : Hid (∀ (u : World) p, St w u n p A o cap [false, false, false] [] → Calls Try.prog 90 (argsF n p 3 0) u fun e u' => e = .returned (.tuple #[]) ∧ St w u' n p A o cap [true, true, false] [2, 1]) := fun u p h => follow hA A0 c0 h0 m1 o1 c1 hm1 h1 h1a h1b m2 o2 c2 hm2 h2 h2a h2b h
  clear hJ hone hVs hV0 h0 h1 h1a h1b h2 h2a h2b
  have hmm := @run_makeMap Try.prog
  have hmk := run_make3
  go_enter Try.func66, Try.ntmps66
  go_wp2
  obtain rfl := hn.out
  have L0 : Hid (Lo w (((w.alloc (.cells #[.slice (some ⟨A, o, none⟩) 3 cap] 36)).alloc (.map #[] 0)).alloc (.cells #[.map (some (w.heap.size + 1))] 138)) w.heap.size A o cap 0) := by
    have e1 : (w.alloc (.cells #[.slice (some ⟨A, o, none⟩) 3 cap] 36)).heap.size = w.heap.size + 1 := by simp
    have e2 : ((w.alloc (.cells #[.slice (some ⟨A, o, none⟩) 3 cap] 36)).alloc (.map #[] 0)).heap.size = w.heap.size + 2 := by simp
    refine ⟨(((Below.refl _ w).alloc (Nat.le_refl _) _).alloc (by omega) _).alloc (by omega) _, ?_, ?_, ?_, by simp⟩
    · rw [heap_alloc_old _ _ (by omega), heap_alloc_old _ _ (by omega)]
      exact heap_alloc_new _ _
    · have := (World.ownsMap_made (H := Unit) (w.alloc (.cells #[.slice (some ⟨A, o, none⟩) 3 cap] 36)) Try.prog 3 (plainElem Try.prog 3))
      rw [e1] at this
      exact this.alloc _
    · rw [← e2]
      exact heap_alloc_new _ _
  generalize ((w.alloc (.cells #[.slice (some ⟨A, o, none⟩) 3 cap] 36)).alloc (.map #[] 0)).alloc (.cells #[.map (some (w.heap.size + 1))] 138) = u0 at L0 ⊢
  rw [show w.heap.size + 1 + 1 = w.heap.size + 2 from rfl]
  generalize hgn : w.heap.size = n at *
  have HN : Hid (w.heap.size = n) := hgn
  clear hn hgn
  go_loopw [19] (fun i wr => ∃ k : Nat, k ≤ 3 ∧ i = .int .i64 k ∧ Hid (Lo w wr n A o cap k)) (fun i _ => 3 - (intOf i).toNat)
  case atStart => exact ⟨0, by omega, rfl, L0⟩
  case round =>
    obtain ⟨k, hk, rfl, hL⟩ := hrel
    by_cases hk3 : k < 3
    · obtain ⟨cs, hcs⟩ : ∃ cs, cs = V k := ⟨_, rfl⟩
      have hsz : cs.size = 18 := by rw [hcs]; exact HVS.out k hk3
      have hrow : Row wr ⟨A, o + k * 18, none⟩ cs := fun j v hj => by
        rw [hcs] at hj
        have := HJ.out k hk3 j v hj
        rw [Addr.add_lit] at this ⊢
        exact (hL.out.below.cell (by exact hA)).trans this
      have hT : AggT Try.prog 29 cs.size := by rw [hsz]; exact agg_Job
      have hall : cs.all (·.oneCell') = true := by rw [hcs]; exact HONE.out k hk3
      have hc0 : cs[0]? = some (.int .i64 ((k : Int) + 1)) := by rw [hcs]; exact HV0.out k hk3
      have hi18 : (Try.prog.info? 29).map (·.size) = some cs.size := by obtain ⟨_, _, _, h⟩ := hT; exact h
      have ld1 : Hid (wr.rangeAt A (o + k * 18) cs.toList) := fun j v hv => by
        have := hrow j v (by simpa using hv)
        rwa [Addr.add_lit] at this
      have st2 : ∀ c : Array Value, c.size = 18 → (storeCells ⟨wr.heap.size, 0, none⟩ cs.toList 0).run Try.prog (wr.alloc (.cells c 29)) = .ok () (wr.alloc (.cells cs 29)) := fun c hc => Go.run_storeCells_new wr _ c cs hi18 (hc.trans hsz.symm) hall
      have HI := Go.Lib.hid hi18
      have HA := Go.Lib.hid hall
      have cK : (wr.alloc (.cells cs 29)).cell? ⟨wr.heap.size, 0, none⟩ = some (.int .i64 ((k : Int) + 1)) := by
        rw [cell_of_row _ _ 0 cs _ (0, 0) (heap_alloc_new wr _)]
        exact hc0
      clear hc0 hi18 hall hT hrow hcs HJ HVS HV0 HONE
      have cW' : ∀ x, (wr.alloc x).cell? ⟨n + 2, 0, none⟩ = some (.map (some (n + 1))) := fun x => cell_of_one (hL.out.alloc x).wh
      go_wp2_with (first
        | (with_reducible refine wpList_load_mid rfl 29 (.tmp 22) rfl A (o + k * 18) rfl cs.toList _ ld1.out Try.underlying29 rfl (by rw [Array.length_toList]; exact HI.out) ?_)
        | (at_lookup; refine wpList_lookup_own_ok_int _ rfl _ _ 138 rfl 3 3 .i64 lawI Try.underlying138 Try.underlying3 (zeroI _) (n + 1) k _ rfl (hL.out.map.alloc _) _ (.int .i64 ((k : Int) + 1)) rfl (keyOf_int_mk Try.underlying3 (WalkArith.wf_i64 (by omega))) ?_; intro c hat hwc; rw [cc_not hk3])
        | (at_mapUpdate; refine wpList_mapUpdate_own _ rfl _ _ _ 138 rfl 3 3 lawI Try.underlying138 _ (n + 1) k _ rfl (hL.out.map.alloc _) (by unfold maxLen; omega) _ _ _ rfl rfl (keyOf_int_mk Try.underlying3 (WalkArith.wf_i64 (by omega))) _ [] (plainElem_int Try.underlying3 (WalkArith.wf_i64 (by omega))) ?_; intro w1 hown1 hgrow1)
        | go_in)
      exact ⟨⟨k + 1, by omega, by push_cast; rfl, (hL.out.alloc _).put hk3 hown1 hgrow1⟩, by simp [intOf]; omega⟩
    · obtain rfl : k = 3 := by omega
      have cA1 : ∀ x, (wr.alloc x).cell? ⟨n, 0, none⟩ = some (.slice (some ⟨A, o, none⟩) 3 cap) := fun x => cell_of_one (hL.out.alloc x).all
      clear HJ HVS HV0 HONE
      go_wp2
      rw [show wr.heap.size + 1 + 1 + 1 + 1 + 1 = wr.heap.size + 5 from rfl, show wr.heap.size + 1 + 1 + 1 + 1 = wr.heap.size + 4 from rfl, show wr.heap.size + 1 + 1 + 1 = wr.heap.size + 3 from rfl, show wr.heap.size + 1 + 1 = wr.heap.size + 2 from rfl]
      obtain ⟨u, hu⟩ : ∃ u, u = six wr wr.heap.size n := ⟨_, rfl⟩
      have hS := six_all (p := wr.heap.size) rfl hL.out
      rw [← hu] at hS
      unfold six at hu
      rw [← hu]
      obtain ⟨b4, b3, hSt⟩ := hS
      have HS := Go.Lib.hid hSt
      clear hSt hu cA1 hmk hmm
      generalize wr.heap.size = p at *
      have c4 := cell_of_one b4
      have g4 := free_of_one b4
      have c3 := cell_of_one b3
      have cF := cell_of_one HS.out.fol
      clear b4 b3
      refine wp_loop_rounds 2 ?_
      rw [rounds_succ]
      go_wp2_with (first
        | (go_at_call 90; refine (HF.out _ _ HS.out).mono ?_; rintro e u5 ⟨rfl, H5⟩)
        | go_in)
      rename_i H5
      obtain ⟨v, hv, hown⟩ := H5.ids
      obtain ⟨g, cap', cur, rfl, hg, hh, hnc, hcp, hcs, htake⟩ : ∃ g cap' cur, v = .slice (some ⟨g, 0, none⟩) 2 cap' ∧ p + 6 ≤ g ∧ u5.heap[g]? = some (.cells cur 3 (0, 0)) ∧ 2 ≤ cap' ∧ cap' ≤ maxLen ∧ cur.size = cap' * 1 ∧ cur.toList.take (2 * 1) = [.int .i64 2, .int .i64 1] := by
        rcases hown.1.2 with ⟨_, h0⟩ | h
        · simp at h0
        · exact h
      have hc0 : cur[0]? = some (.int .i64 2) := by
        have : (cur.toList.take (2 * 1))[0]? = some (.int .i64 2) := by rw [htake]; rfl
        rw [List.getElem?_take] at this
        simpa using this
      have hc1 : cur[1]? = some (.int .i64 1) := by
        have : (cur.toList.take (2 * 1))[1]? = some (.int .i64 1) := by rw [htake]; rfl
        rw [List.getElem?_take] at this
        simpa using this
      have hsort := Go.Lib.hid (sorted_two (cap := cap') hh hc0 hc1)
      have c4' := cell_of_one H5.later
      have cI' := cell_of_one hv
      have hlt := lt_of_block hh
      have HV := Go.Lib.hid hv
      have H6 := Go.Lib.hid H5
      clear H5 hv hown hh hcs htake hc0 hc1
      rw [rounds_succ]
      go_wp2_with (first
        | (go_at_call 91
           refine hsort.out.mono ?_
           rintro e u7 ⟨rfl, k0, k1, kg⟩
           have hv7 : u7.heap[p]? = some (.cells #[.slice (some ⟨g, 0, none⟩) 2 cap'] 60 (0, 0)) := (kg.block p (lt_of_block HV.out) (fun e => by have := Option.some.inj e; omega)).trans HV.out
           have cI7 := cell_of_one hv7
           have K0 := Go.Lib.hid k0
           have K1 := Go.Lib.hid k1
           have KG := Go.Lib.hid kg
           clear k0 k1 kg hv7)
        | go_in)
      go_ret
      have hnp := H6.out.np
      refine ⟨g, cap', rfl, hnc, by rw [HN.out]; omega, ?_, by assumption, by assumption, ?_⟩
      · exact Nat.lt_of_lt_of_le hlt KG.out.size
      · rw [HN.out]
        exact (H6.out.below).grown KG.out (by have := H6.out.sz; omega) (fun k hk => by cases hk; omega)
end Chain
end Go.Proofs.Ytnggfgfeghmddaa
