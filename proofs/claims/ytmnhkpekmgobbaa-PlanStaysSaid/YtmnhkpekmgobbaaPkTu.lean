/-
  What the proof of PlanStays leans on, part 21. (Many texts laid together by program.)
-/
import Derived.Test.YtmnhkpekmgobbaaPkTt
import Derived.Shelf.Sort.Plain
import Derived.Ground.Names2Prog
import Derived.Shelf.Slices.CompactI
import Derived.Test.YtmnhkpekmgobbaaProg
set_option linter.unnecessarySimpa false
set_option linter.unusedSimpArgs false
set_option linter.unusedVariables false
section
namespace Go.Proofs.Ytmnhkpekmgobbaa
open Go.RowKit Go.Lib Go
namespace InsStep
theorem setRow_other (w : World) (g : Nat) (cur : Array Value) (m : Nat) (h : m ≠ g) : (w.setRow g cur).heap[m]? = w.heap[m]? := by
 unfold World.setRow
 simp [Array.getElem?_modify, Ne.symm h]
theorem setRow_sz (w : World) (g : Nat) (cur : Array Value) : (w.setRow g cur).heap.size = w.heap.size := by
 unfold World.setRow
 simp
theorem cellsOf {w : World} {b : Nat} {cur : Array Value} {t : TypeId} {fr : Nat × Nat} (h : w.heap[b]? = some (.cells cur t fr)) (j : Nat) : w.cell? ⟨b, j, none⟩ = cur[j]? := by
 simp [World.cell?, h]
theorem frozenOf {w : World} {b : Nat} {cur : Array Value} {t : TypeId} (h : w.heap[b]? = some (.cells cur t (0, 0))) (j : Nat) : w.frozen? ⟨b, j, none⟩ = false := by
 simp [World.frozen?, h]
theorem shapeOf {w : World} {b : Nat} {cur : Array Value} {t : TypeId} {fr : Nat × Nat} (h : w.heap[b]? = some (.cells cur t fr)) : w.shape? b = some (t, cur.size) := by
 simp [World.shape?, h]
set_option maxHeartbeats 4000000 in
set_option maxRecDepth 100000 in
theorem shift (b N n c i vb vc : Nat) (cur vcur : Array Value) (tb tv : TypeId) (w : World) (hi : i < n) (hroom : n + 1 ≤ c) (hcN : c ≤ N) (hc63 : n ≤ 4294967296) (hvb : vb ≠ b)
   (hcur : w.heap[b]? = some (.cells cur tb (0, 0))) (hcs : cur.size = N * 5) (hv : w.heap[vb]? = some (.cells vcur tv (0, 0))) (hvs : 5 ≤ vcur.size)
   (h1c : ∀ j v, j < n * 5 → cur[j]? = some v → v.oneCell' = true) (h1v : ∀ j v, j < 5 → vcur[j]? = some v → v.oneCell' = true) :
   Calls Try.prog 215 #[.slice (some ⟨b, 0, none⟩) n c, .int .i64 i, .slice (some ⟨vb, 0, none⟩) 1 vc] w (InsPost 5 w b (n + 1) (cur.toList.take (i * 5) ++ vcur.toList.take 5 ++ (cur.toList.take (n * 5)).drop (i * 5))) := by
 have mixed : Try.prog.follows .mixedOrders = true := by kernel_rfl
 have hz2 : ¬ ((i : Int) = (n : Int)) := by omega
 have hin : i ≤ n := by omega
 have hw1 : IntKind.i64.wrap ((i : Int) + 1) = (i : Int) + 1 := by rw [IntKind.wrap_i64]; omega
 have hb1 : (0 : Int) ≤ (i : Int) + 1 := by omega
 have htn : ((i : Int) + 1).toNat = i + 1 := by omega
 have hb2 : ¬ (c = i + 1) := by omega
 have hb3 : (i : Int) ≤ (n : Int) + 1 := by omega
 have hb4 : ¬ (c = i) := by omega
 have hinfo : (Try.prog.info? 262).map (·.size) = some 5 := by kernel_rfl
 have hsz : ∀ w, (Go.sizeOf 262).run Try.prog w = .ok 5 w := fun w => by
   obtain ⟨i0, hi0, h0⟩ := Option.map_eq_some_iff.1 hinfo
   simp [Go.sizeOf, typeInfo, hi0, h0]
 have hN0 : cur.size ≠ 0 := by omega
 have hmid : ((cur.toList.take (n * 5)).drop (i * 5)).length = (n - i) * 5 := by
   rw [List.length_drop, List.length_take, Array.length_toList]; omega
 have hov : ∀ lb cb, (callFunc 223 #[.slice (some ⟨vb, 0, none⟩) 1 vc, .slice (some ⟨b, (i + 1) * 5, none⟩) lb cb]).run Try.prog w = .ok (.value (.bool false)) w := fun lb cb => by
   rw [run_callFunc_extern Try.func223 (by kernel_rfl) (by kernel_rfl) (by kernel_rfl) (e := Extern.SlicesOverlaps.overlaps #[220, 220] #[4]) (by kernel_rfl),
     Lib.run_overlaps_apart w 220 4 262 Try.underlying220 5 hsz ⟨vb, 0, none⟩ ⟨b, (i + 1) * 5, none⟩ 1 vc lb cb hvb tv tb vcur.size cur.size (shapeOf hv) (shapeOf hcur) hN0 (frozenOf hv _) (frozenOf hv _)]
   rfl
 obtain ⟨cur1, hcur1⟩ : ∃ cur1 : Array Value, cur1 = (cur.toList.take ((i + 1) * 5) ++ (cur.toList.take (n * 5)).drop (i * 5) ++ cur.toList.drop ((i + 1) * 5 + ((cur.toList.take (n * 5)).drop (i * 5)).length)).toArray := ⟨_, rfl⟩
 have hsz1 : cur1.size = cur.size := by
   have h1 : (cur.toList.take ((i + 1) * 5)).length = (i + 1) * 5 := by rw [List.length_take, Array.length_toList]; omega
   have h2 : (cur.toList.drop ((i + 1) * 5 + (n - i) * 5)).length = cur.size - ((i + 1) * 5 + (n - i) * 5) := by rw [List.length_drop, Array.length_toList]
   rw [hcur1, List.size_toArray, hmid, List.length_append, List.length_append, h1, hmid, h2]
   omega
 have hcp1 : ∀ (W : World), W.heap = w.heap → ∀ ty dc sc, (Builtin.copy_ #[220, 220] ty #[.slice (some ⟨b, (i + 1) * 5, none⟩) (n - i) dc, .slice (some ⟨b, i * 5, none⟩) (n + 1 - i) sc]).run Try.prog W = .ok (goInt (Nat.min (n + 1 - i) (n - i))) (W.setRow b cur1) := fun W hW ty dc sc => by
   rw [hcur1]
   refine run_copy_rowsK W _ _ ty 262 5 b ((i + 1) * 5) (n - i) dc ⟨b, i * 5, none⟩ (n + 1 - i) sc cur tb _ Try.underlying220 hinfo (by rw [hW]; exact hcur) ?_ ?_ ?_ ?_
   · rw [hmid, Nat.min_eq_min, Nat.min_eq_right (by omega)]
   · intro j v hj
     rw [Addr.add_lit, cellsOf (b := b) (cur := cur) (t := tb) (fr := (0, 0)) (by rw [hW]; exact hcur)]
     rw [List.getElem?_drop, List.getElem?_take] at hj
     split at hj
     · rw [← Array.getElem?_toList]; exact hj
     · cases hj
   · rw [hmid]; omega
   · intro v hv'
     obtain ⟨j, hj⟩ := List.getElem?_of_mem (List.mem_of_mem_drop hv')
     rw [List.getElem?_take] at hj
     split at hj
     · rename_i hlt
       exact h1c j v hlt (by rw [← Array.getElem?_toList]; exact hj)
     · cases hj
 have hcp2 : ∀ (W : World), W.heap[b]? = some (.cells cur1 tb (0, 0)) → W.heap[vb]? = some (.cells vcur tv (0, 0)) → ∀ ty dc, (Builtin.copy_ #[220, 220] ty #[.slice (some ⟨b, i * 5, none⟩) (n + 1 - i) dc, .slice (some ⟨vb, 0, none⟩) 1 vc]).run Try.prog W = .ok (goInt (Nat.min 1 (n + 1 - i))) (W.setRow b (cur1.toList.take (i * 5) ++ vcur.toList.take 5 ++ cur1.toList.drop (i * 5 + (vcur.toList.take 5).length)).toArray) := fun W hW hWv ty dc => by
   have hvl : (vcur.toList.take 5).length = 5 := by rw [List.length_take, Array.length_toList]; omega
   refine run_copy_rowsK W _ _ ty 262 5 b (i * 5) (n + 1 - i) dc ⟨vb, 0, none⟩ 1 vc cur1 tb _ Try.underlying220 hinfo hW ?_ ?_ ?_ ?_
   · rw [hvl, Nat.min_eq_min, Nat.min_eq_left (by omega), Nat.one_mul]
   · intro j v hj
     rw [Addr.add_lit, Nat.zero_add, cellsOf hWv]
     rw [List.getElem?_take] at hj
     split at hj
     · rw [← Array.getElem?_toList]; exact hj
     · cases hj
   · rw [hvl, hsz1]; omega
   · intro v hv'
     obtain ⟨j, hj⟩ := List.getElem?_of_mem hv'
     rw [List.getElem?_take] at hj
     split at hj
     · rename_i hlt
       exact h1v j v hlt (by rw [← Array.getElem?_toList]; exact hj)
     · cases hj
 have hg1 : ∀ (W : World), W.heap = w.heap → (W.setRow b cur1).heap[b]? = some (.cells cur1 tb (0, 0)) ∧ (W.setRow b cur1).heap[vb]? = some (.cells vcur tv (0, 0)) := fun W hW =>
   ⟨setRow_heap W b cur cur1 tb (0, 0) (by rw [hW]; exact hcur), by rw [setRow_other _ _ _ _ hvb, hW]; exact hv⟩
 obtain ⟨cur2, hcur2⟩ : ∃ cur2 : Array Value, cur2 = (cur1.toList.take (i * 5) ++ vcur.toList.take 5 ++ cur1.toList.drop (i * 5 + (vcur.toList.take 5).length)).toArray := ⟨_, rfl⟩
 have hvl : (vcur.toList.take 5).length = 5 := by rw [List.length_take, Array.length_toList]; omega
 have hsz2 : cur2.size = cur.size := by
   have h1 : (cur1.toList.take (i * 5)).length = i * 5 := by rw [List.length_take, Array.length_toList, hsz1]; omega
   have h2 : (cur1.toList.drop (i * 5 + 5)).length = cur1.size - (i * 5 + 5) := by rw [List.length_drop, Array.length_toList]
   rw [hcur2, List.size_toArray, hvl, List.length_append, List.length_append, h1, hvl, h2, hsz1]
   omega
 have hfin : ∀ j v, (cur.toList.take (i * 5) ++ vcur.toList.take 5 ++ (cur.toList.take (n * 5)).drop (i * 5))[j]? = some v → cur2[j]? = some v := fun j v hj => by
   rw [← Array.getElem?_toList, hcur2]
   simp only [hvl]
   have hl1 : (cur1.toList.take (i * 5)).length = i * 5 := by rw [List.length_take, Array.length_toList, hsz1]; omega
   have hl0 : (cur.toList.take (i * 5)).length = i * 5 := by rw [List.length_take, Array.length_toList]; omega
   have e1 : cur1.toList.take (i * 5) = cur.toList.take (i * 5) := by
     rw [hcur1]
     simp only
     rw [List.append_assoc, List.take_append_of_le_length (by rw [List.length_take, Array.length_toList]; omega), List.take_take, Nat.min_eq_left (by omega)]
   rw [e1]
   rw [List.append_assoc] at hj ⊢
   rw [List.getElem?_append] at hj ⊢
   rw [hl0] at hj ⊢
   split at hj
   · rename_i hlt; rw [if_pos hlt]; exact hj
   · rename_i hlt
     rw [if_neg hlt]
     rw [List.getElem?_append] at hj ⊢
     rw [hvl] at hj ⊢
     split at hj
     · rename_i hlt2; rw [if_pos hlt2]; exact hj
     · rename_i hlt2
       rw [if_neg hlt2]
       have hjl := (List.getElem?_eq_some_iff.1 hj).1
       rw [hmid] at hjl
       rw [List.getElem?_drop, hcur1]
       simp only
       have ht : (cur.toList.take ((i + 1) * 5)).length = (i + 1) * 5 := by rw [List.length_take, Array.length_toList]; omega
       rw [List.append_assoc, List.getElem?_append_right (by rw [ht]; omega), ht, List.getElem?_append_left (by rw [hmid]; omega)]
       rw [show i * 5 + 5 + (j - i * 5 - 5) - (i + 1) * 5 = j - i * 5 - 5 by omega]
       exact hj
 clear hsz hN0
 rw [← hcur2] at hcp2
 clear hcur2 hcur1 hsz1
 go_enter Try.func215, Try.ntmps215
 go_wp2_with (simp only [hov])
 go_region_law_o (refine step_copyK rfl _ _ 220 220 rfl (.slice (some ⟨b, (i + 1) * 5, none⟩) (n - i) (c - (i + 1))) (.slice (some ⟨b, i * 5, none⟩) (n + 1 - i) (c - i)) (by simp [Act.eval, Act.put]) (by simp [Act.eval, Act.put]) (hcp1 w.drew rfl 3 (c - (i + 1)) (c - i)) ?_)
 go_wp2_with (refine wpList_copyK _ rfl _ _ 220 220 rfl _ _ rfl rfl (hcp2 (w.drew.setRow b cur1) (hg1 w.drew rfl).1 (hg1 w.drew rfl).2 _ _) ?_)
 go_ret
 refine ⟨b, c, N, cur2, tb, rfl, setRow_heap _ b cur1 cur2 tb (0, 0) (hg1 w.drew rfl).1, by rw [hsz2]; exact hcs, hcN, hroom, hfin, .inl rfl, rfl, rfl, rfl, by rw [setRow_sz, setRow_sz]; exact Nat.le_refl _, fun m hm hmb => by rw [setRow_other _ _ _ _ hmb, setRow_other _ _ _ _ hmb]; rfl⟩
section ends
variable {P : Program} {t u ty el : TypeId} {i : TypeInfo} {z : Value} {cx : Value} {n : Nat} {news : List Value} {w : World}
theorem app_fits (ht : P.underlying t = some (.slice el)) (hi : P.info? el = some i) (hlen : (Builtin.lenOf cx).run P w = .ok n w) (hfirst : (Builtin.firstCells i.size n cx).run P w = .ok news.toArray w)
   {a : Addr} {sLen sCap : Nat} (hfit : sLen + n ≤ sCap) :
   (Builtin.append_ #[t, t] ty #[.slice (some a) sLen sCap, cx]).run P w = ((storeCells (a.add (sLen * i.size)) news).run P w).andThen fun _ w' => .ok (.slice (some a) (sLen + n) sCap) w' := by
 simp [Builtin.append_, run_underlying ht, sizeOf, typeInfo, hi, hlen, hfirst, hfit]
theorem app_grows (ht : P.underlying t = some (.slice el)) (hi : P.info? el = some i) (hz : i.zero = some z) (hlen : (Builtin.lenOf cx).run P w = .ok n w)
   (hfirst' : (Builtin.firstCells i.size n cx).run P w.drew = .ok news.toArray w.drew)
   {base : Option Addr} {sLen sCap : Nat} {olds : List Value} (holds : (Builtin.firstCells i.size sLen (.slice base sLen sCap)).run P w.drew = .ok olds.toArray w.drew)
   (hg : sCap < sLen + n) (h63 : sLen + n ≤ 9223372036854775807) (hb : (sLen + n) * i.bytes ≤ 140737488355328) :
   (Builtin.append_ #[t, t] ty #[.slice base sLen sCap, cx]).run P w =
     .ok (.slice (some ⟨w.heap.size, 0, none⟩) (sLen + n) (grownCap w (sLen + n) sCap el)) (w.drew.alloc (.cells (olds.toArray ++ news.toArray ++ Builtin.zeroCells z.cells (grownCap w (sLen + n) sCap el - (sLen + n))) el)) := by
 have hfit := growslice_fits hg hb
 have h1 : ¬ (sLen + n ≤ sCap) := by omega
 have h2 : ¬ (9223372036854775807 < ((sLen : Int) + (n : Int))) := by omega
 have h3 : ¬ (281474976710656 < Builtin.nextslicecap (sLen + n) sCap * i.bytes) := by omega
 simp [Builtin.append_, run_underlying ht, sizeOf, typeInfo, zeroValue, hi, hz, hlen, h1, h2, h3, Question.forced, hfirst', holds, newRow, grownCap]
 congr 2
 apply Array.ext'
 simp [List.append_assoc]
end ends
set_option maxHeartbeats 4000000 in
set_option maxRecDepth 100000 in
theorem endFits (b N n c vb vc : Nat) (cur vcur : Array Value) (tb tv : TypeId) (w : World) (hroom : n + 1 ≤ c) (hcN : c ≤ N) (hvb : vb ≠ b)
   (hcur : w.heap[b]? = some (.cells cur tb (0, 0))) (hcs : cur.size = N * 5) (hv : w.heap[vb]? = some (.cells vcur tv (0, 0))) (hvs : 5 ≤ vcur.size)
   (h1v : ∀ j v, j < 5 → vcur[j]? = some v → v.oneCell' = true) :
   Calls Try.prog 215 #[.slice (some ⟨b, 0, none⟩) n c, .int .i64 n, .slice (some ⟨vb, 0, none⟩) 1 vc] w (InsPost 5 w b (n + 1) (cur.toList.take (n * 5) ++ vcur.toList.take 5)) := by
 have mixed : Try.prog.follows .mixedOrders = true := by kernel_rfl
 have hinfo : (Try.prog.info? 262).map (·.size) = some 5 := by kernel_rfl
 obtain ⟨i0, hi0, hs0⟩ := Option.map_eq_some_iff.1 hinfo
 have hvl : (vcur.toList.take 5).length = 5 := by rw [List.length_take, Array.length_toList]; omega
 have h1l : ∀ v ∈ vcur.toList.take 5, v.oneCell' = true := fun v hv' => by
   obtain ⟨j, hj⟩ := List.getElem?_of_mem hv'
   rw [List.getElem?_take] at hj
   split at hj
   · rename_i hlt
     exact h1v j v hlt (by rw [← Array.getElem?_toList]; exact hj)
   · cases hj
 have hrun : ∀ ty, (Builtin.append_ #[220, 220] ty #[.slice (some ⟨b, 0, none⟩) n c, .slice (some ⟨vb, 0, none⟩) 1 vc]).run Try.prog w = .ok (.slice (some ⟨b, 0, none⟩) (n + 1) c) (w.setRow b (cur.toList.take (n * 5) ++ vcur.toList.take 5 ++ cur.toList.drop (n * 5 + (vcur.toList.take 5).length)).toArray) := fun ty => by
   have hfirst : (Builtin.firstCells i0.size 1 (.slice (some ⟨vb, 0, none⟩) 1 vc)).run Try.prog w = .ok (vcur.toList.take 5).toArray w := by
     rw [hs0]
     refine run_firstCells_some w 5 1 ⟨vb, 0, none⟩ 1 vc _ (by rw [hvl]) fun j v hj => ?_
     rw [Addr.add_lit, Nat.zero_add, cellsOf hv]
     rw [List.getElem?_take] at hj
     split at hj
     · rw [← Array.getElem?_toList]; exact hj
     · cases hj
   rw [app_fits Try.underlying220 hi0 rfl hfirst hroom, hs0, Addr.add_lit, Nat.zero_add]
   have hst := run_storeCells_at Try.prog b (n * 5) tb (vcur.toList.take 5) 0 cur w hcur (by rw [hvl]; omega) h1l
   simp only [Nat.add_zero] at hst
   rw [hst]
   rfl
 obtain ⟨cur2, hcur2⟩ : ∃ cur2 : Array Value, cur2 = (cur.toList.take (n * 5) ++ vcur.toList.take 5 ++ cur.toList.drop (n * 5 + (vcur.toList.take 5).length)).toArray := ⟨_, rfl⟩
 have hl1 : (cur.toList.take (n * 5)).length = n * 5 := by rw [List.length_take, Array.length_toList]; omega
 have hsz2 : cur2.size = cur.size := by
   have h2 : (cur.toList.drop (n * 5 + 5)).length = cur.size - (n * 5 + 5) := by rw [List.length_drop, Array.length_toList]
   rw [hcur2, List.size_toArray, hvl, List.length_append, List.length_append, hl1, hvl, h2]
   omega
 have hfin : ∀ j v, (cur.toList.take (n * 5) ++ vcur.toList.take 5)[j]? = some v → cur2[j]? = some v := fun j v hj => by
   rw [← Array.getElem?_toList, hcur2]
   simp only
   have hjl := (List.getElem?_eq_some_iff.1 hj).1
   rw [List.getElem?_append_left hjl]
   exact hj
 rw [← hcur2] at hrun
 clear hcur2
 go_enter Try.func215, Try.ntmps215
 go_wp2_with (at_builtin; refine Lib.wpList_append_run _ rfl _ _ _ _ rfl _ _ rfl rfl _ _ (hrun _) ?_)
 go_ret
 refine ⟨b, c, N, cur2, tb, rfl, setRow_heap _ b cur cur2 tb (0, 0) hcur, by rw [hsz2]; exact hcs, hcN, hroom, hfin, .inl rfl, rfl, rfl, rfl, by rw [setRow_sz]; exact Nat.le_refl _, fun m hm hmb => by rw [setRow_other _ _ _ _ hmb]⟩
set_option maxHeartbeats 4000000 in
set_option maxRecDepth 100000 in
theorem endGrows (base : Option Addr) (b n c vb vc : Nat) (olds : List Value) (vcur : Array Value) (tv : TypeId) (w : World) (hroom : c < n + 1) (hnc : n ≤ c) (hbig : (n + 1) * 40 ≤ 140737488355328)
   (hol : olds.length = n * 5) (hbase : ∀ a, base = some a → ∀ j v, olds[j]? = some v → w.cell? (a.add j) = some v) (hnil : base = none → n = 0)
   (hv : w.heap[vb]? = some (.cells vcur tv (0, 0))) (hvs : 5 ≤ vcur.size) :
   Calls Try.prog 215 #[.slice base n c, .int .i64 n, .slice (some ⟨vb, 0, none⟩) 1 vc] w (InsPost 5 w b (n + 1) (olds ++ vcur.toList.take 5)) := by
 have mixed : Try.prog.follows .mixedOrders = true := by kernel_rfl
 obtain ⟨i0, hi0, hz0, hs0, hb0⟩ := info_parts (P := Try.prog) (e := 262) (z := .agg #[.int .i64 0, .int .i64 0, .int .i64 0, .int .i64 0, .int .i64 0]) (size := 5) (bytes := 40) (by kernel_rfl)
 have hvl : (vcur.toList.take 5).length = 5 := by rw [List.length_take, Array.length_toList]; omega
 obtain ⟨G, hG⟩ : ∃ G, G = grownCap w (n + 1) c 262 := ⟨_, rfl⟩
 have hG1 : n + 1 ≤ G := by rw [hG]; exact grownCap_ge _ _ _ _
 obtain ⟨ROW, hROW⟩ : ∃ ROW : Array Value, ROW = olds.toArray ++ (vcur.toList.take 5).toArray ++ Builtin.zeroCells (Value.cells (.agg #[.int .i64 0, .int .i64 0, .int .i64 0, .int .i64 0, .int .i64 0])) (G - (n + 1)) := ⟨_, rfl⟩
 have hrun : ∀ ty, (Builtin.append_ #[220, 220] ty #[.slice base n c, .slice (some ⟨vb, 0, none⟩) 1 vc]).run Try.prog w = .ok (.slice (some ⟨w.heap.size, 0, none⟩) (n + 1) G) (w.drew.alloc (.cells ROW 262)) := fun ty => by
   have hfirst : (Builtin.firstCells i0.size 1 (.slice (some ⟨vb, 0, none⟩) 1 vc)).run Try.prog w.drew = .ok (vcur.toList.take 5).toArray w.drew := by
     rw [hs0]
     refine run_firstCells_some w.drew 5 1 ⟨vb, 0, none⟩ 1 vc _ (by rw [hvl]) fun j v hj => ?_
     rw [Addr.add_lit, Nat.zero_add, cellsOf (w := w.drew) (t := tv) (fr := (0, 0)) (cur := vcur) hv]
     rw [List.getElem?_take] at hj
     split at hj
     · rw [← Array.getElem?_toList]; exact hj
     · cases hj
   have hold : (Builtin.firstCells i0.size n (.slice base n c)).run Try.prog w.drew = .ok olds.toArray w.drew := by
     rw [hs0]
     cases base with
     | none =>
       have h0 := hnil rfl
       subst h0
       have : olds = [] := List.eq_nil_of_length_eq_zero (by omega)
       rw [this]
       simp [Builtin.firstCells]
     | some a => exact run_firstCells_some w.drew 5 n a n c olds hol (fun j v hj => hbase a rfl j v hj)
   rw [app_grows Try.underlying220 hi0 hz0 rfl hfirst hold hroom (by omega) (by rw [hb0]; exact hbig), hROW, hG]
 have hsz : ROW.size = G * 5 := by
   have hzc : (Value.cells (.agg #[.int .i64 0, .int .i64 0, .int .i64 0, .int .i64 0, .int .i64 0])).size = 5 := rfl
   rw [hROW, Array.size_append, Array.size_append, List.size_toArray, List.size_toArray, hol, hvl, size_zeroCells, hzc]
   omega
 have hfin : ∀ j v, (olds ++ vcur.toList.take 5)[j]? = some v → ROW[j]? = some v := fun j v hj => by
   rw [← Array.getElem?_toList, hROW]
   simp only [Array.toList_append]
   have hjl := (List.getElem?_eq_some_iff.1 hj).1
   rw [List.getElem?_append_left hjl]
   exact hj
 clear hROW hG
 go_enter Try.func215, Try.ntmps215
 go_wp2_with (at_builtin; refine Lib.wpList_append_run _ rfl _ _ _ _ rfl _ _ rfl rfl _ _ (hrun _) ?_)
 go_ret
 refine ⟨w.heap.size, G, G, ROW, 262, rfl, heap_alloc_new w.drew _, hsz, Nat.le_refl _, hG1, hfin, .inr (Nat.le_refl _), rfl, rfl, rfl, by simp, fun m hm hmb => by exact heap_alloc_old w.drew _ hm⟩
set_option maxHeartbeats 4000000 in
set_option maxRecDepth 100000 in
theorem grow (b N n c i vb vc : Nat) (cur vcur : Array Value) (tb tv : TypeId) (w : World) (hi : i < n) (hroom : c < n + 1) (hnc : n ≤ c) (hcN : c ≤ N) (hbig : (n + 1) * 40 ≤ 140737488355328)
   (hcur : w.heap[b]? = some (.cells cur tb (0, 0))) (hcs : cur.size = N * 5) (hv : w.heap[vb]? = some (.cells vcur tv (0, 0))) (hvs : 5 ≤ vcur.size)
   (h1c : ∀ j v, j < n * 5 → cur[j]? = some v → v.oneCell' = true) (h1v : ∀ j v, j < 5 → vcur[j]? = some v → v.oneCell' = true) :
   Calls Try.prog 215 #[.slice (some ⟨b, 0, none⟩) n c, .int .i64 i, .slice (some ⟨vb, 0, none⟩) 1 vc] w (InsPost 5 w b (n + 1) (cur.toList.take (i * 5) ++ vcur.toList.take 5 ++ (cur.toList.take (n * 5)).drop (i * 5))) := by
 have mixed : Try.prog.follows .mixedOrders = true := by kernel_rfl
 obtain ⟨i0, hi0, hz0, hs0, hb0⟩ := info_parts (P := Try.prog) (e := 262) (z := .agg #[.int .i64 0, .int .i64 0, .int .i64 0, .int .i64 0, .int .i64 0]) (size := 5) (bytes := 40) (by kernel_rfl)
 have hinfo : (Try.prog.info? 262).map (·.size) = some 5 := by kernel_rfl
 have hz2 : ¬ ((i : Int) = (n : Int)) := by omega
 have hz3 : (c : Int) < (n : Int) + 1 := by omega
 have hkk : (n : Int) + 1 - (i : Int) = ((n + 1 - i : Nat) : Int) := by omega
 have hik : i + (n + 1 - i) = n + 1 := by omega
 have hvl : (vcur.toList.take 5).length = 5 := by rw [List.length_take, Array.length_toList]; omega
 have hmid : ((cur.toList.take (n * 5)).drop (i * 5)).length = (n - i) * 5 := by
   rw [List.length_drop, List.length_take, Array.length_toList]; omega
 have hl0 : (cur.toList.take (i * 5)).length = i * 5 := by rw [List.length_take, Array.length_toList]; omega
 have h1m : ∀ v ∈ (cur.toList.take (n * 5)).drop (i * 5), v.oneCell' = true := fun v hv' => by
   obtain ⟨j, hj⟩ := List.getElem?_of_mem (List.mem_of_mem_drop hv')
   rw [List.getElem?_take] at hj
   split at hj
   · rename_i hlt
     exact h1c j v hlt (by rw [← Array.getElem?_toList]; exact hj)
   · cases hj
 have h1l : ∀ v ∈ vcur.toList.take 5, v.oneCell' = true := fun v hv' => by
   obtain ⟨j, hj⟩ := List.getElem?_of_mem hv'
   rw [List.getElem?_take] at hj
   split at hj
   · rename_i hlt
     exact h1v j v hlt (by rw [← Array.getElem?_toList]; exact hj)
   · cases hj
 have hblt : b < w.heap.size := by
   rcases Nat.lt_or_ge b w.heap.size with h | h
   · exact h
   · rw [Array.getElem?_eq_none h] at hcur; cases hcur
 have hvlt : vb < w.heap.size := by
   rcases Nat.lt_or_ge vb w.heap.size with h | h
   · exact h
   · rw [Array.getElem?_eq_none h] at hv; cases hv
 obtain ⟨G, hG⟩ : ∃ G, G = grownCap w (n + 1) c 262 := ⟨_, rfl⟩
 have hG1 : n + 1 ≤ G := by rw [hG]; exact grownCap_ge _ _ _ _
 have hG63 : G ≤ 9223372036854775807 := by
   have := grownCap_le_maxLen w (n + 1) c 262 (by unfold maxLen; omega)
   rw [← hG] at this
   unfold maxLen at this
   omega
 obtain ⟨ROW, hROW⟩ : ∃ ROW : Array Value, ROW = (cur.toList.take (i * 5)).toArray ++ Builtin.zeroCells (Value.cells (.agg #[.int .i64 0, .int .i64 0, .int .i64 0, .int .i64 0, .int .i64 0])) (n + 1 - i) ++ Builtin.zeroCells (Value.cells (.agg #[.int .i64 0, .int .i64 0, .int .i64 0, .int .i64 0, .int .i64 0])) (G - (n + 1)) := ⟨_, rfl⟩
 have hsz : ROW.size = G * 5 := by
   have hzc : (Value.cells (.agg #[.int .i64 0, .int .i64 0, .int .i64 0, .int .i64 0, .int .i64 0])).size = 5 := rfl
   rw [hROW, Array.size_append, Array.size_append, List.size_toArray, hl0, size_zeroCells, size_zeroCells, hzc]
   omega
 have hrz : ∀ ty, (Builtin.append_ #[220, 3] ty #[.slice (some ⟨b, 0, none⟩) i c, .int .i64 ((n : Int) + 1 - (i : Int))]).run Try.prog w =
     .ok (.slice (some ⟨w.heap.size, 0, none⟩) (n + 1) G) (w.drew.alloc (.cells ROW 262)) := fun ty => by
   have hold : (Builtin.firstCells i0.size i (.slice (some ⟨b, 0, none⟩) i c)).run Try.prog w.drew = .ok (cur.toList.take (i * 5)).toArray w.drew := by
     rw [hs0]
     refine run_firstCells_some w.drew 5 i ⟨b, 0, none⟩ i c _ hl0 fun j v hj => ?_
     rw [Addr.add_lit, Nat.zero_add, cellsOf (w := w.drew) (t := tb) (fr := (0, 0)) (cur := cur) hcur]
     rw [List.getElem?_take] at hj
     split at hj
     · rw [← Array.getElem?_toList]; exact hj
     · cases hj
   have h := Lib.run_append_grow_zeros w 220 3 ty 262 i0 _ .i64 .i64 Try.underlying220 Try.underlying3 hi0 hz0 (some ⟨b, 0, none⟩) i c _ hold (n + 1 - i) (by omega) (by rw [hs0]; decide) (by omega) (by omega) (by rw [hb0]; omega) (by rw [hb0, hik]; exact growslice_fits hroom hbig)
   rw [hik, ← hG, ← hROW] at h
   rw [hkk]
   exact h
 have hW1 : (w.drew.alloc (.cells ROW 262)).heap[w.heap.size]? = some (.cells ROW 262 (0, 0)) := heap_alloc_new w.drew _
 have hWb : (w.drew.alloc (.cells ROW 262)).heap[b]? = some (.cells cur tb (0, 0)) := (heap_alloc_old w.drew _ hblt).trans hcur
 have hWv : (w.drew.alloc (.cells ROW 262)).heap[vb]? = some (.cells vcur tv (0, 0)) := (heap_alloc_old w.drew _ hvlt).trans hv
 obtain ⟨W1, hW1e⟩ : ∃ W1, W1 = w.drew.alloc (.cells ROW 262) := ⟨_, rfl⟩
 rw [← hW1e] at hrz hW1 hWb hWv
 obtain ⟨cur1, hcur1⟩ : ∃ cur1 : Array Value, cur1 = (ROW.toList.take (i * 5) ++ vcur.toList.take 5 ++ ROW.toList.drop (i * 5 + (vcur.toList.take 5).length)).toArray := ⟨_, rfl⟩
 have hr1 : (ROW.toList.take (i * 5)).length = i * 5 := by rw [List.length_take, Array.length_toList, hsz]; have : i * 5 ≤ G * 5 := Nat.mul_le_mul_right _ (by omega); omega
 have hsz1 : cur1.size = G * 5 := by
   have h2 : (ROW.toList.drop (i * 5 + 5)).length = ROW.size - (i * 5 + 5) := by rw [List.length_drop, Array.length_toList]
   rw [hcur1, List.size_toArray, hvl, List.length_append, List.length_append, hr1, hvl, h2, hsz]
   omega
 have hcpA : ∀ (W : World), W.heap[w.heap.size]? = some (.cells ROW 262 (0, 0)) → W.heap[vb]? = some (.cells vcur tv (0, 0)) → ∀ ty dc, (Builtin.copy_ #[220, 220] ty #[.slice (some ⟨w.heap.size, i * 5, none⟩) (n + 1 - i) dc, .slice (some ⟨vb, 0, none⟩) 1 vc]).run Try.prog W = .ok (goInt (Nat.min 1 (n + 1 - i))) (W.setRow w.heap.size cur1) := fun W hW hWv ty dc => by
   rw [hcur1]
   refine run_copy_rowsK W _ _ ty 262 5 w.heap.size (i * 5) (n + 1 - i) dc ⟨vb, 0, none⟩ 1 vc ROW 262 _ Try.underlying220 hinfo hW ?_ ?_ ?_ h1l
   · rw [hvl, Nat.min_eq_min, Nat.min_eq_left (by omega), Nat.one_mul]
   · intro j v hj
     rw [Addr.add_lit, Nat.zero_add, cellsOf hWv]
     rw [List.getElem?_take] at hj
     split at hj
     · rw [← Array.getElem?_toList]; exact hj
     · cases hj
   · rw [hvl, hsz]; omega
 obtain ⟨cur2, hcur2⟩ : ∃ cur2 : Array Value, cur2 = (cur1.toList.take ((i + 1) * 5) ++ (cur.toList.take (n * 5)).drop (i * 5) ++ cur1.toList.drop ((i + 1) * 5 + ((cur.toList.take (n * 5)).drop (i * 5)).length)).toArray := ⟨_, rfl⟩
 have hc1 : (cur1.toList.take ((i + 1) * 5)).length = (i + 1) * 5 := by rw [List.length_take, Array.length_toList, hsz1]; omega
 have hsz2 : cur2.size = G * 5 := by
   have h2 : (cur1.toList.drop ((i + 1) * 5 + (n - i) * 5)).length = cur1.size - ((i + 1) * 5 + (n - i) * 5) := by rw [List.length_drop, Array.length_toList]
   rw [hcur2, List.size_toArray, hmid, List.length_append, List.length_append, hc1, hmid, h2, hsz1]
   omega
 have hcpB : ∀ (W : World), W.heap[w.heap.size]? = some (.cells cur1 262 (0, 0)) → W.heap[b]? = some (.cells cur tb (0, 0)) → ∀ ty dc sc, (Builtin.copy_ #[220, 220] ty #[.slice (some ⟨w.heap.size, (i + 1) * 5, none⟩) (n - i) dc, .slice (some ⟨b, i * 5, none⟩) (n - i) sc]).run Try.prog W = .ok (goInt (Nat.min (n - i) (n - i))) (W.setRow w.heap.size cur2) := fun W hW hWb ty dc sc => by
   rw [hcur2]
   refine run_copy_rowsK W _ _ ty 262 5 w.heap.size ((i + 1) * 5) (n - i) dc ⟨b, i * 5, none⟩ (n - i) sc cur1 262 _ Try.underlying220 hinfo hW ?_ ?_ ?_ h1m
   · rw [hmid, Nat.min_eq_min, Nat.min_self]
   · intro j v hj
     rw [Addr.add_lit, cellsOf hWb]
     rw [List.getElem?_drop, List.getElem?_take] at hj
     split at hj
     · rw [← Array.getElem?_toList]; exact hj
     · cases hj
   · rw [hmid, hsz1]; omega
 have hfin : ∀ j v, (cur.toList.take (i * 5) ++ vcur.toList.take 5 ++ (cur.toList.take (n * 5)).drop (i * 5))[j]? = some v → cur2[j]? = some v := fun j v hj => by
   have hjl := (List.getElem?_eq_some_iff.1 hj).1
   rw [List.length_append, List.length_append, hl0, hvl, hmid] at hjl
   have e0 : ROW.toList.take (i * 5) = cur.toList.take (i * 5) := by
     rw [hROW]
     simp only [Array.toList_append]
     rw [List.append_assoc, List.take_append_of_le_length (by rw [hl0]; exact Nat.le_refl _), List.take_of_length_le (by rw [hl0]; exact Nat.le_refl _)]
   have e1 : cur1.toList.take ((i + 1) * 5) = cur.toList.take (i * 5) ++ vcur.toList.take 5 := by
     rw [hcur1]
     simp only
     rw [e0, List.take_append_of_le_length (by rw [List.length_append, hl0, hvl]; omega), List.take_of_length_le (by rw [List.length_append, hl0, hvl]; omega)]
   rw [← Array.getElem?_toList, hcur2]
   simp only
   rw [e1, List.getElem?_append_left (by rw [List.length_append, List.length_append, hl0, hvl, hmid]; exact hjl)]
   exact hj
 have hbN : b ≠ w.heap.size := by omega
 have hvN : vb ≠ w.heap.size := by omega
 have hframe : ∀ m, m < w.heap.size → W1.heap[m]? = w.heap[m]? := fun m hm => by rw [hW1e]; exact heap_alloc_old w.drew _ hm
 have hw1sz : w.heap.size ≤ W1.heap.size := by rw [hW1e]; simp
 have hw1os : W1.os = w.os ∧ W1.tape = w.tape ∧ W1.output = w.output := by rw [hW1e]; exact ⟨rfl, rfl, rfl⟩
 have hW1' : ∀ (W : World), W.heap = W1.heap → W.heap[w.heap.size]? = some (.cells ROW 262 (0, 0)) ∧ W.heap[vb]? = some (.cells vcur tv (0, 0)) := fun W hW => by rw [hW]; exact ⟨hW1, hWv⟩
 have hW2' : ∀ (W : World), W.heap = W1.heap → (W.setRow w.heap.size cur1).heap[w.heap.size]? = some (.cells cur1 262 (0, 0)) ∧ (W.setRow w.heap.size cur1).heap[b]? = some (.cells cur tb (0, 0)) := fun W hW =>
   ⟨setRow_heap W _ ROW cur1 262 (0, 0) (by rw [hW]; exact hW1), by rw [setRow_other _ _ _ _ hbN, hW]; exact hWb⟩
 have hw1 : IntKind.i64.wrap ((i : Int) + 1) = (i : Int) + 1 := by rw [IntKind.wrap_i64]; omega
 have hb1 : (0 : Int) ≤ (i : Int) + 1 := by omega
 have hin : i ≤ n := by omega
 have htn : ((i : Int) + 1).toNat = i + 1 := by omega
 have hb3 : (i : Int) ≤ (n : Int) := by omega
 have hGi : ¬ (G = i) := by omega
 have hGim : ¬ (G = i + 1) := by omega
 have hci : ¬ (c = i) := by omega
 clear hkk hik hROW hG hW1e hcur1 hcur2 hsz hsz1 hr1 hc1 hmid hvl hl0
 go_enter Try.func215, Try.ntmps215
 go_wp2_with (first
   | (at_builtin; refine Lib.wpList_append_run _ rfl _ _ _ _ rfl _ _ rfl rfl _ _ (hrz _) ?_)
   | (refine wpList_copyK _ rfl _ _ 220 220 rfl _ _ rfl rfl (hcpA W1 (hW1' W1 rfl).1 (hW1' W1 rfl).2 _ _) ?_))
 go_region_law_o (refine step_copyK rfl _ _ 220 220 rfl (.slice (some ⟨w.heap.size, (i + 1) * 5, none⟩) (n - i) (G - (i + 1))) (.slice (some ⟨b, i * 5, none⟩) (n - i) (c - i)) (by simp [Act.eval, Act.put]) (by simp [Act.eval, Act.put]) (hcpB (W1.setRow w.heap.size cur1).drew (hW2' W1 rfl).1 (hW2' W1 rfl).2 3 (G - (i + 1)) (c - i)) ?_)
 go_wp2
 go_ret
 refine ⟨w.heap.size, G, G, cur2, 262, rfl, setRow_heap _ _ cur1 cur2 262 (0, 0) (hW2' W1 rfl).1, hsz2, Nat.le_refl _, hG1, hfin, .inr (Nat.le_refl _), hw1os.1, hw1os.2.1, hw1os.2.2, by rw [setRow_sz]; show _ ≤ (W1.setRow w.heap.size cur1).heap.size; rw [setRow_sz]; exact hw1sz, fun m hm hmb => ?_⟩
 rw [setRow_other _ _ _ _ (Nat.ne_of_lt hm)]
 show (W1.setRow w.heap.size cur1).heap[m]? = _
 rw [setRow_other _ _ _ _ (Nat.ne_of_lt hm)]
 exact hframe m hm
theorem raw : NM.RawIns Try.prog 215 5 40 where
 ent := ⟨_, Try.func215, by kernel_rfl, by kernel_rfl⟩
 pos := by decide
 here w m N n c i vb vc cur vcur tb tv hin hnc hcN hbig hn hvm hcur hcs hv hvs h1c h1v := by
   rcases Nat.lt_or_ge i n with hi | hi
   · rcases Nat.lt_or_ge c (n + 1) with hr | hr
     · exact grow m N n c i vb vc cur vcur tb tv w hi hr hnc hcN hbig hcur hcs hv hvs h1c h1v
     · exact shift m N n c i vb vc cur vcur tb tv w hi hr hcN hn hvm hcur hcs hv hvs h1c h1v
   · obtain rfl : i = n := Nat.le_antisymm hin hi
     have he : (cur.toList.take (i * 5)).drop (i * 5) = [] := List.drop_eq_nil_of_le (by rw [List.length_take]; exact Nat.min_le_left _ _)
     rw [he, List.append_nil]
     rcases Nat.lt_or_ge c (i + 1) with hr | hr
     · refine endGrows (some ⟨m, 0, none⟩) m i c vb vc (cur.toList.take (i * 5)) vcur tv w hr hnc hbig ?_ ?_ (fun h => by cases h) hv hvs
       · rw [List.length_take, Array.length_toList]; omega
       · intro a ha j v hj
         cases ha
         rw [Addr.add_lit, Nat.zero_add, cellsOf hcur]
         rw [List.getElem?_take] at hj
         split at hj
         · rw [← Array.getElem?_toList]; exact hj
         · cases hj
     · exact endFits m N i c vb vc cur vcur tb tv w hr hcN hvm hcur hcs hv hvs h1v
 void w A vb vc vcur tv hv hvs := by
   have := endGrows A w.heap.size 0 0 vb vc [] vcur tv w (by omega) (by omega) (by decide) rfl (fun a ha j v hj => by simp at hj) (fun _ => rfl) hv hvs
   simpa using this
end InsStep
namespace NM
theorem ext215 : NOk Try.prog ⟨215, sigI .step, fun x hh => insertG 40 x.2.1 hh.1 hh.2.1⟩ := NOk.insert .step InsStep.raw
end NM
end Go.Proofs.Ytmnhkpekmgobbaa
end
section
namespace Go.Proofs
open Go.Shelf
def Try.lays189_ren : Go.Shelf.Ren := ⟨fun | 189 => 151 | 125 => 182 | 257 => 181 | 128 => 202 | 129 => 203 | 294 => 193 | 295 => 194 | 296 => 195 | 297 => 196 | 298 => 197 | 299 => 198 | 216 => 199 | 300 => 200 | 301 => 201 | 328 => 216 | 329 => 217 | 330 => 218 | 331 => 219 | 332 => 220 | 215 => 179 | 343 => 225 | n => n, fun | 28 => 60 | 3 => 3 | 46 => 269 | 0 => 0 | 51 => 294 | 53 => 296 | 4 => 4 | 183 => 287 | 182 => 286 | 131 => 153 | 5 => 5 | 9 => 9 | 218 => 300 | 222 => 237 | 228 => 308 | 229 => 309 | n => n, fun | n => n⟩
theorem Try.lays189 : Go.Proofs.Lays.n189 Try.prog Try.lays189_ren := {
 mixed := by kernel_rfl
 f125 := Try.func182.trans (congrArg some (by kernel_rfl))
 f128 := Try.func202.trans (congrArg some (by kernel_rfl))
 f129 := Try.func203.trans (congrArg some (by kernel_rfl))
 f189 := Try.func151.trans (congrArg some (by kernel_rfl))
 f215 := Try.func179.trans (congrArg some (by kernel_rfl))
 f216 := Try.func199.trans (congrArg some (by kernel_rfl))
 f257 := Try.func181.trans (congrArg some (by kernel_rfl))
 f294 := Try.func193.trans (congrArg some (by kernel_rfl))
 f295 := Try.func194.trans (congrArg some (by kernel_rfl))
 f296 := Try.func195.trans (congrArg some (by kernel_rfl))
 f297 := Try.func196.trans (congrArg some (by kernel_rfl))
 f298 := Try.func197.trans (congrArg some (by kernel_rfl))
 f299 := Try.func198.trans (congrArg some (by kernel_rfl))
 f300 := Try.func200.trans (congrArg some (by kernel_rfl))
 f301 := Try.func201.trans (congrArg some (by kernel_rfl))
 f328 := Try.func216.trans (congrArg some (by kernel_rfl))
 f329 := Try.func217.trans (congrArg some (by kernel_rfl))
 f330 := Try.func218.trans (congrArg some (by kernel_rfl))
 f331 := Try.func219.trans (congrArg some (by kernel_rfl))
 f332 := Try.func220.trans (congrArg some (by kernel_rfl))
 f343 := Try.func225.trans (congrArg some (by kernel_rfl))
 t0 := Try.underlying0
 a0 := Try.isAgg0
 z0 := Try.sizeOf0
 v0 := Try.zeroValue0
 t3 := Try.underlying3
 a3 := Try.isAgg3
 z3 := Try.sizeOf3
 v3 := Try.zeroValue3
 t4 := Try.underlying4
 a4 := Try.isAgg4
 z4 := Try.sizeOf4
 v4 := Try.zeroValue4
 t5 := Try.underlying5
 a5 := Try.isAgg5
 z5 := Try.sizeOf5
 v5 := Try.zeroValue5
 t9 := Try.underlying9
 a9 := Try.isAgg9
 z9 := Try.sizeOf9
 v9 := Try.zeroValue9
 t28 := Try.underlying60
 a28 := Try.isAgg60
 z28 := Try.sizeOf60
 v28 := Try.zeroValue60
 t46 := Try.underlying269
 a46 := Try.isAgg269
 z46 := Try.sizeOf269
 v46 := Try.zeroValue269
 t51 := Try.underlying294
 a51 := Try.isAgg294
 z51 := Try.sizeOf294
 v51 := Try.zeroValue294
 t53 := Try.underlying296
 a53 := Try.isAgg296
 z53 := Try.sizeOf296
 v53 := Try.zeroValue296
 t131 := Try.underlying153
 a131 := Try.isAgg153
 z131 := Try.sizeOf153
 v131 := Try.zeroValue153
 t182 := Try.underlying286
 a182 := Try.isAgg286
 z182 := Try.sizeOf286
 v182 := Try.zeroValue286
 t183 := Try.underlying287
 a183 := Try.isAgg287
 z183 := Try.sizeOf287
 v183 := Try.zeroValue287
 t218 := Try.underlying300
 a218 := Try.isAgg300
 z218 := Try.sizeOf300
 v218 := Try.zeroValue300
 t222 := Try.underlying237
 a222 := Try.isAgg237
 z222 := Try.sizeOf237
 v222 := Try.zeroValue237
 t228 := Try.underlying308
 a228 := Try.isAgg308
 z228 := Try.sizeOf308
 v228 := Try.zeroValue308
 t229 := Try.underlying309
 a229 := Try.isAgg309
 z229 := Try.sizeOf309
 v229 := Try.zeroValue309 }
open Go.Sort Go.RowKit in
theorem Try.slices_Sort_int (blk off cap : Nat) (zs : List Int) (w : World) (hH : Holds (Value.int .i64) w blk off zs.toArray) (hblk : blk < w.heap.size) (hsz : zs.length < 4611686018427387904) :
   Calls Try.prog 151 #[.slice (some ⟨blk, off, none⟩) zs.length cap] w fun e w' =>
     e = .returned (.tuple #[]) ∧ ∃ n os, w' = grow (putRow (Value.int .i64) (Sort.ahead w n) blk off (zs.mergeSort fun x y => decide (x ≤ y)).toArray) os := Any.slices_Sort_int Try.lays189 blk off cap zs w hH hblk hsz
def Try.laysNm220_ren : Go.Shelf.Ren := ⟨fun | 20 => 171 | n => n, fun | 22 => 60 | 3 => 3 | 4 => 4 | 0 => 0 | n => n, fun | n => n⟩
theorem Try.laysNm220 : Go.Proofs.Lays2.n20 Try.prog Try.laysNm220_ren := {
 mixed := by kernel_rfl
 f20 := Try.func171.trans (congrArg some (by kernel_rfl))
 t0 := Try.underlying0
 a0 := Try.isAgg0
 z0 := Try.sizeOf0
 v0 := Try.zeroValue0
 t3 := Try.underlying3
 a3 := Try.isAgg3
 z3 := Try.sizeOf3
 v3 := Try.zeroValue3
 t4 := Try.underlying4
 a4 := Try.isAgg4
 z4 := Try.sizeOf4
 v4 := Try.zeroValue4
 t22 := Try.underlying60
 a22 := Try.isAgg60
 z22 := Try.sizeOf60
 v22 := Try.zeroValue60
 i3 := by kernel_rfl }
open Go.RowKit Go.Lib Go.Sort in
theorem Try.slices_Compact_int (blk off cap : Nat) (zs : List Int) (w : World) (hH : Holds (Value.int .i64) w blk off zs.toArray) (hsz : zs.length ≤ 9223372036854775807) (hcap : zs.length ≤ cap) :
   Calls Try.prog 171 #[.slice (some ⟨blk, off, none⟩) zs.length cap] w fun e w' => e = .returned (.slice (some ⟨blk, off, none⟩) (Lib.compact zs).length cap) ∧ ∃ q, w' = putRow (Value.int .i64) (Sort.ahead w q) blk off (Lib.compact zs ++ List.replicate (zs.length - (Lib.compact zs).length) 0).toArray := Any.slices_Compact_int Try.laysNm220 blk off cap zs w hH hsz hcap
end Go.Proofs
end
section
namespace Go.Proofs.Ytmnhkpekmgobbaa
open Go.RowKit Go.Lib Go Go.Sort
namespace NM
open AM
theorem arrOne {cargs : Array Value} (h : cargs.size = 1) : ∃ a, cargs = #[a] := by
 refine ⟨cargs[0], ?_⟩
 apply Array.ext
 · simp [h]
 · intro i h1 h2
   have : i = 0 := by omega
   subst this; simp
section
variable {μ : Nat → AM.Loc} {w w' : World} {S : Nat → Prop}
theorem one_block {K K' : AM.Blk} (r : HRep μ w S [.live K]) (hb : BlkR μ w' S (μ 0) K') (hfr : ∀ m, S m → w'.heap[m]? = w.heap[m]?) (hsz : w.heap.size ≤ w'.heap.size) : HRep μ w' S [.live K'] := by
 refine ⟨fun b k hk => ?_, fun b hk => ?_, fun b hk => ?_, r.inj, r.apart, fun m hm => Nat.lt_of_lt_of_le (r.inS m hm) hsz, r.gl.mono hfr (fun _ h => h)⟩
 · match b with
   | 0 =>
     have : K' = k := by unfold Heap.get at hk; simpa using hk
     subst this
     exact hb
   | b + 1 => unfold Heap.get at hk; simp at hk
 · match b with
   | 0 => unfold Heap.get at hk; simp at hk
   | b + 1 => exact r.gone (b + 1) (by unfold Heap.get; simp)
 · match b with
   | 0 => rcases hk with hk | hk
          · unfold Heap.isFree at hk; simp at hk
          · simp at hk
   | b + 1 => exact r.free (b + 1) (.inr (by simp))
end
theorem acells_one (x : Int) : acells (.int .i64) x = [.int .i64 x] := by
 obtain ⟨c, d, h1, h2, h3, h4⟩ := one_cells (t := .int .i64) rfl x
 have : c = .int .i64 x := by cases h1; rfl
 subst this
 cases h3
 exact h2
theorem put_other (enc : Int → Value) (w : World) (m : Nat) (d : Array Int) (j : Nat) (h : j ≠ m) : (putRow enc w m 0 d).heap[j]? = w.heap[j]? := by
 unfold putRow mapBlock
 simp only [Array.getElem?_modify]
 rw [if_neg (fun e => h e.symm)]
theorem put_here (enc : Int → Value) (w : World) (m : Nat) (d : Array Int) {c : Array Value} {t : TypeId} {fr : Nat × Nat} (h : w.heap[m]? = some (.cells c t fr)) : (putRow enc w m 0 d).heap[m]? = some (.cells (putCells enc 0 d c) t fr) := by
 unfold putRow mapBlock
 simp only [Array.getElem?_modify, if_true, h]
 rfl
theorem put_size (enc : Int → Value) (w : World) (m : Nat) (d : Array Int) : (putRow enc w m 0 d).heap.size = w.heap.size := by
 unfold putRow mapBlock
 simp
theorem putCells_at (enc : Int → Value) (d : List Int) (c : Array Value) (j : Nat) (x : Int) (hx : d[j]? = some x) (hc : j < c.size) : (putCells enc 0 d.toArray c)[j]? = some (enc x) := by
 have hj := (List.getElem?_eq_some_iff.1 hx).1
 unfold putCells
 rw [Array.getElem?_mapIdx, Array.getElem?_eq_getElem hc, Option.map_some, if_pos ⟨Nat.zero_le _, by simpa using hj⟩, Nat.sub_zero]
 have : d.toArray[j]! = x := by
   rw [getElem!_pos _ j (by simpa using hj)]
   have := (List.getElem?_eq_some_iff.1 hx).2
   simpa using this
 rw [this]
theorem holds_of {w : World} {S : Nat → Prop} {cells : Array Value} {tt : TypeId} {m : Nat} {xs : List Int} (hh : w.heap[m]? = some (.cells cells tt (0, 0)))
   (h : ∀ (i : Nat) (x : Int) (j : Nat) (c : AVal), xs[i]? = some x → (acells (.int .i64) x)[j]? = some c → ∃ v, cells[i * 1 + j]? = some v ∧ IR w S c v ∧ oneV v = true) : Holds (Value.int .i64) w m 0 xs.toArray := by
 intro j hj
 have hj' : j < xs.length := by simpa using hj
 obtain ⟨v, hv, hR, _⟩ := h j xs[j] 0 (.int .i64 xs[j]) (List.getElem?_eq_getElem hj') (by rw [acells_one]; rfl)
 have : v = .int .i64 xs[j] := by cases hR; rfl
 subst this
 rw [Nat.mul_one, Nat.add_zero] at hv
 refine ⟨?_, by simp [World.frozen?, hh]⟩
 have e : xs.toArray[j]! = xs[j] := by
   rw [getElem!_pos _ j hj]
   simp
 rw [e, Nat.zero_add]
 simp only [World.cell?, hh]
 exact hv
theorem ints_blk {μ : Nat → AM.Loc} {w' : World} {S : Nat → Prop} {cells : Array Value} {tt : TypeId} {m N : Nat} {ys zs : List Int} (hh : w'.heap[m]? = some (.cells (putCells (Value.int .i64) 0 zs.toArray cells) tt (0, 0)))
   (hsz : cells.size = N * 1) (hy : ys.length ≤ zs.length) (hN : zs.length ≤ N) (hyz : ∀ (j : Nat) (x : Int), ys[j]? = some x → zs[j]? = some x) : BlkR μ w' S (.here m N 1) ⟨1, true, ys.map (acells (.int .i64))⟩ := by
 refine ⟨rfl, by rw [List.length_map]; omega, fun r x hr => ?_, _, tt, hh, by unfold putCells; rw [Array.size_mapIdx]; exact hsz, fun r x j c hr hc => ?_⟩
 · rw [List.getElem?_map, Option.map_eq_some_iff] at hr
   obtain ⟨y, _, rfl⟩ := hr
   rw [acells_one]; rfl
 · rw [List.getElem?_map, Option.map_eq_some_iff] at hr
   obtain ⟨y, hy', rfl⟩ := hr
   rw [acells_one] at hc
   have hr' := (List.getElem?_eq_some_iff.1 hy').1
   match j, hc with
   | 0, hc =>
     simp at hc
     subst hc
     refine ⟨_, by rw [Nat.mul_one, Nat.add_zero]; exact putCells_at _ _ _ _ _ (hyz _ _ hy') (by omega), .int _ _, rfl⟩
def sortL (xs : List Int) : List Int := xs.mergeSort fun x y => decide (x ≤ y)
theorem sortL_len (xs : List Int) : (sortL xs).length = xs.length := List.length_mergeSort _
@[reducible] def sigSort : Sig := ⟨.cons (.slw 0 1) .nil, [.typed (.int .i64)], ((.tup .nil), [.typed (.int .i64)]), []⟩
def sortG (xs : List Int) : Option (Unit × (List Int × Unit)) := cond (decide (0 < xs.length ∧ xs.length ≤ 4294967296)) (some ((), (sortL xs, ()))) none
@[reducible] def sigCompact : Sig := ⟨.cons (.slw 0 1) .nil, [.typed (.int .i64)], ((.slw 1 1), [.dead, .typed (.int .i64)]), []⟩
def compactG (xs : List Int) : Option (Unit × (Unit × (List Int × Unit))) := cond (decide (0 < xs.length ∧ xs.length ≤ 4294967296)) (some ((), ((), (Lib.compact xs, ())))) none
theorem cond_inv {p : Prop} [Decidable p] {α : Type} {x y : α} (h : cond (decide p) (some x) none = some y) : p ∧ y = x := by
 by_cases hp : p
 · rw [decide_eq_true hp] at h; cases h; exact ⟨hp, rfl⟩
 · rw [decide_eq_false hp] at h; cases h
theorem NOk.sort {P : Program} {f : Nat} (hent : AM.Enters P f) (h : ∀ (m cap : Nat) (zs : List Int) (w : World), Holds (Value.int .i64) w m 0 zs.toArray → m < w.heap.size → zs.length < 4611686018427387904 →
     Calls P f #[.slice (some ⟨m, 0, none⟩) zs.length cap] w fun e w' => e = .returned (.tuple #[]) ∧ ∃ n os, w' = grow (putRow (Value.int .i64) (Sort.ahead w n) m 0 (zs.mergeSort fun x y => decide (x ≤ y)).toArray) os) :
   NOk P ⟨f, sigSort, fun x hh => sortG hh.1⟩ := by
 refine ⟨hent, rfl, fun x hh y hy args ahp ha hb => ?_⟩
 obtain ⟨u0, u1⟩ := x
 obtain ⟨xs, u2⟩ := hh
 have hy : sortG xs = some y := hy
 obtain ⟨⟨c1, c2⟩, rfl⟩ := cond_inv hy
 intro μ w S cargs r0 hl hv
 simp only [puts, put, putV, Ty.isAgg] at ha
 obtain ⟨a0, as0, rfl, h0, ha⟩ := ha.cons_inv
 rw [ha.nil_inv] at hl hv
 obtain ⟨v0, rfl⟩ := arrOne (by simpa using hl.symm)
 obtain ⟨n0, e0, l0⟩ := (RT.v h0).slw_inv
 subst e0
 have hn0 := lenAt_typed (h := .dead) l0
 subst hn0
 have s0 := (hv 0 _ v0 rfl rfl).sl_inv
 have r1 : HRep μ w S [.live ⟨1, true, xs.map (acells (.int .i64))⟩] := hrep_conv r0 (canH_conv (l := [.typed (.int .i64)]) (x := (xs, ())) putH_lens rfl hb)
 have B0 := r1.live 0 _ rfl
 have hlen : ahp.length = 1 := by rw [← hb.1]; rfl
 cases m0 : μ 0 with
 | free => rw [m0] at B0; exact B0.elim
 | dead => rw [m0] at B0; exact B0.elim
 | void =>
   rw [m0] at B0
   have : xs.map (acells (.int .i64)) = [] := B0
   have : xs = [] := by simpa using this
   subst this
   simp at c1
 | here m N e0 =>
   rw [m0] at B0 s0
   obtain ⟨he0, hN0, cur, tb, hcc, hcsz, hcr⟩ := blk_at (t := .int .i64) B0
   have he0 : e0 = 1 := he0
   subst he0
   obtain ⟨_, c, rfl, hcN, hcx⟩ := s0
   rw [Nat.zero_mul]
   have hm : m < w.heap.size := r1.lt ⟨0, N, 1, m0⟩
   refine (h m c xs w (holds_of hcc hcr) hm (by omega)).mono fun e w' ⟨he, n, os, hw⟩ => ?_
   have hfr : ∀ j, j < w.heap.size → j ≠ m → w'.heap[j]? = w.heap[j]? := fun j hj hjm => by
     rw [hw]
     show ((putRow (Value.int .i64) (Sort.ahead w n) m 0 _).heap ++ os)[j]? = _
     rw [Array.getElem?_append_left (by rw [put_size]; exact hj), put_other _ _ _ _ _ hjm]
     rfl
   have hhm : w'.heap[m]? = some (.cells (putCells (Value.int .i64) 0 (sortL xs).toArray cur) tb (0, 0)) := by
     rw [hw]
     show ((putRow (Value.int .i64) (Sort.ahead w n) m 0 _).heap ++ os)[m]? = _
     rw [Array.getElem?_append_left (by rw [put_size]; exact hm)]
     exact put_here _ _ _ _ hcc
   have hsz : w.heap.size ≤ w'.heap.size := by
     rw [hw]
     show w.heap.size ≤ ((putRow (Value.int .i64) (Sort.ahead w n) m 0 _).heap ++ os).size
     rw [Array.size_append, put_size]
     exact Nat.le_add_right _ _
   have hS : ∀ j, S j → w'.heap[j]? = w.heap[j]? := fun j hj => hfr j (r1.inS j hj) fun e => by subst e; exact r1.apart _ ⟨0, N, 1, m0⟩ hj
   have hos : w'.os = w.os ∧ w'.tape = w.tape ∧ w'.output = w.output := by rw [hw]; exact ⟨rfl, rfl, rfl⟩
   have hN1 : xs.length ≤ N := by simpa using hN0
   refine ⟨.tuple #[], μ, S, he, ?_, ⟨hos.1, hos.2.1, hos.2.2, hsz, fun j hj ho => hfr j hj fun e => by subst e; exact ho ⟨0, N, 1, m0⟩, fun _ h => h, fun _ h => .inl h, fun _ h => .inl h⟩, ?_, by rw [hlen]; exact Nat.le_refl _, fun b _ _ => .inl rfl⟩
   · show HRep μ w' S [.live ⟨1, true, (sortL xs).map (acells (.int .i64))⟩]
     refine one_block r1 ?_ hS hsz
     rw [m0]
     exact ints_blk (zs := sortL xs) hhm hcsz (Nat.le_refl _) (by rw [sortL_len]; exact hN1) (fun j x h => h)
   · have e3 : yA sigSort.res sigSort.more ((), (sortL xs, ())) = .tup [] := by
       simp [yA, outA, can, cans]
     rw [e3]
     exact .tup _ _ rfl (fun j c v h => by simp at h)
theorem NOk.compact {P : Program} {f : Nat} (hent : AM.Enters P f) (h : ∀ (m cap : Nat) (zs : List Int) (w : World), Holds (Value.int .i64) w m 0 zs.toArray → zs.length ≤ 9223372036854775807 → zs.length ≤ cap →
     Calls P f #[.slice (some ⟨m, 0, none⟩) zs.length cap] w fun e w' => e = .returned (.slice (some ⟨m, 0, none⟩) (Lib.compact zs).length cap) ∧ ∃ q, w' = putRow (Value.int .i64) (Sort.ahead w q) m 0 (Lib.compact zs ++ List.replicate (zs.length - (Lib.compact zs).length) 0).toArray)
   (hcl : ∀ zs : List Int, (Lib.compact zs).length ≤ zs.length) :
   NOk P ⟨f, sigCompact, fun x hh => compactG hh.1⟩ := by
 refine ⟨hent, rfl, fun x hh y hy args ahp ha hb => ?_⟩
 obtain ⟨u0, u1⟩ := x
 obtain ⟨xs, u2⟩ := hh
 have hy : compactG xs = some y := hy
 obtain ⟨⟨c1, c2⟩, rfl⟩ := cond_inv hy
 intro μ w S cargs r0 hl hv
 simp only [puts, put, putV, Ty.isAgg] at ha
 obtain ⟨a0, as0, rfl, h0, ha⟩ := ha.cons_inv
 rw [ha.nil_inv] at hl hv
 obtain ⟨v0, rfl⟩ := arrOne (by simpa using hl.symm)
 obtain ⟨n0, e0, l0⟩ := (RT.v h0).slw_inv
 subst e0
 have hn0 := lenAt_typed (h := .dead) l0
 subst hn0
 have s0 := (hv 0 _ v0 rfl rfl).sl_inv
 have r1 : HRep μ w S [.live ⟨1, true, xs.map (acells (.int .i64))⟩] := hrep_conv r0 (canH_conv (l := [.typed (.int .i64)]) (x := (xs, ())) putH_lens rfl hb)
 have B0 := r1.live 0 _ rfl
 have hlen : ahp.length = 1 := by rw [← hb.1]; rfl
 cases m0 : μ 0 with
 | free => rw [m0] at B0; exact B0.elim
 | dead => rw [m0] at B0; exact B0.elim
 | void =>
   rw [m0] at B0
   have : xs.map (acells (.int .i64)) = [] := B0
   have : xs = [] := by simpa using this
   subst this
   simp at c1
 | here m N e0 =>
   rw [m0] at B0 s0
   obtain ⟨he0, hN0, cur, tb, hcc, hcsz, hcr⟩ := blk_at (t := .int .i64) B0
   have he0 : e0 = 1 := he0
   subst he0
   obtain ⟨_, c, rfl, hcN, hcx⟩ := s0
   rw [Nat.zero_mul]
   have hm : m < w.heap.size := r1.lt ⟨0, N, 1, m0⟩
   have hN1 : xs.length ≤ N := by simpa using hN0
   have hcl1 := hcl xs
   refine (h m c xs w (holds_of hcc hcr) (by omega) hcx).mono fun e w' ⟨he, q, hw⟩ => ?_
   have hfr : ∀ j, j < w.heap.size → j ≠ m → w'.heap[j]? = w.heap[j]? := fun j hj hjm => by
     rw [hw, put_other _ _ _ _ _ hjm]
     rfl
   have hhm : w'.heap[m]? = some (.cells (putCells (Value.int .i64) 0 (Lib.compact xs ++ List.replicate (xs.length - (Lib.compact xs).length) 0).toArray cur) tb (0, 0)) := by
     rw [hw]
     exact put_here _ _ _ _ hcc
   have hsz : w.heap.size ≤ w'.heap.size := by rw [hw, put_size]; exact Nat.le_refl _
   have hS : ∀ j, S j → w'.heap[j]? = w.heap[j]? := fun j hj => hfr j (r1.inS j hj) fun e => by subst e; exact r1.apart _ ⟨0, N, 1, m0⟩ hj
   have hos : w'.os = w.os ∧ w'.tape = w.tape ∧ w'.output = w.output := by rw [hw]; exact ⟨rfl, rfl, rfl⟩
   obtain ⟨q1, q2, q3⟩ := place (hp2 := [.dead, .live ⟨1, true, (Lib.compact xs).map (acells (.int .i64))⟩]) (dead := fun b => b == 0) (g := m) (N' := N) (e := 1) r1 rfl rfl (fun b hb => by
       have : b = 0 := by simp at hb; omega
       subst this; rfl) (.inr ⟨0, N, 1, by simp, rfl, m0⟩)
     (ints_blk (μ := locs μ 1 (fun b => b == 0) (.here m N 1)) (S := S) (ys := Lib.compact xs) hhm hcsz (by rw [List.length_append]; exact Nat.le_add_right _ _) (by rw [List.length_append, List.length_replicate]; omega)
       (fun j x hx => by rw [List.getElem?_append_left (List.getElem?_eq_some_iff.1 hx).1]; exact hx)) hfr hsz hos.1 hos.2.1 hos.2.2
   refine ⟨_, _, S, he, q1, q2, ?_, by rw [hlen]; exact Nat.le_succ 1, fun b hb hf => q3 b (by rw [hlen] at hb; exact hb) hf⟩
   have e3 : yA sigCompact.res sigCompact.more ((), ((), (Lib.compact xs, ()))) = .sl 1 0 (Lib.compact xs).length 1 := by
     simp [yA, outA, can, lensOf, putH, putS, nget, NBlk.len]
   rw [e3]
   refine .sl _ _ _ _ _ ?_
   show SlAt (.here m N 1) 0 (Lib.compact xs).length 1 _
   exact ⟨rfl, c, by rw [Nat.zero_mul], by omega, by omega⟩
theorem NOk.never {P : Program} {f : Nat} (s : Sig) (hent : AM.Enters P f) (hs : sigGood s = true) : NOk P ⟨f, s, fun _ _ => none⟩ := ⟨hent, hs, fun x hh y hy => by cases hy⟩
theorem compact_eq (zs : List Int) : Lib.compact zs = ((List.range zs.length).filter (Lib.keeps zs.toArray)).map (zs.toArray[·]!) := rfl
theorem compact_len (zs : List Int) : (Lib.compact zs).length ≤ zs.length := by
 rw [compact_eq, List.length_map]
 have := List.length_filter_le (Lib.keeps zs.toArray) (List.range zs.length)
 rwa [List.length_range] at this
theorem at_get (zs : List Int) {i : Nat} (h : i < zs.length) : zs.toArray[i]! = zs[i] := by
 rw [getElem!_pos _ i (by simpa using h)]
 simp
theorem compact_mem (zs : List Int) (x : Int) : x ∈ Lib.compact zs ↔ x ∈ zs := by
 rw [compact_eq, List.mem_map]
 constructor
 · rintro ⟨i, hi, rfl⟩
   have hi := List.mem_range.1 (List.mem_filter.1 hi).1
   rw [at_get zs hi]
   exact List.getElem_mem hi
 · intro h
   obtain ⟨i, hi, rfl⟩ := List.mem_iff_getElem.1 h
   have key : ∀ n i, i ≤ n → ∀ hi : i < zs.length, ∃ j, j ∈ (List.range zs.length).filter (Lib.keeps zs.toArray) ∧ zs.toArray[j]! = zs[i] := by
     intro n
     induction n with
     | zero =>
       intro i hin hi
       have : i = 0 := by omega
       subst this
       exact ⟨0, List.mem_filter.2 ⟨List.mem_range.2 hi, Lib.keeps_lt_one _ 0 (by omega)⟩, at_get zs hi⟩
     | succ n ih =>
       intro i hin hi
       cases hk : Lib.keeps zs.toArray i with
       | true => exact ⟨i, List.mem_filter.2 ⟨List.mem_range.2 hi, hk⟩, at_get zs hi⟩
       | false =>
         have h0 : 0 < i := by
           rcases Nat.eq_zero_or_pos i with h | h
           · subst h; rw [Lib.keeps_lt_one _ 0 (by omega)] at hk; cases hk
           · exact h
         have he : zs.toArray[i]! = zs.toArray[i - 1]! := by
           by_cases h : zs.toArray[i]! = zs.toArray[i - 1]!
           · exact h
           · rw [Lib.keeps_pos h] at hk; cases hk
         obtain ⟨j, h1, h2⟩ := ih (i - 1) (by omega) (by omega)
         exact ⟨j, h1, h2.trans (by rw [← at_get zs (show i - 1 < zs.length by omega), ← he, at_get zs hi])⟩
   exact key i i (Nat.le_refl _) hi
theorem compact_sorted (zs : List Int) (h : zs.Pairwise (· ≤ ·)) : (Lib.compact zs).Pairwise (· ≤ ·) := by
 rw [compact_eq, List.pairwise_map]
 have h1 : (List.range zs.length).Pairwise (· < ·) := List.pairwise_lt_range
 have h2 := h1.filter (Lib.keeps zs.toArray)
 refine List.Pairwise.imp_of_mem ?_ h2
 intro a b ha hb hab
 have ha := List.mem_range.1 (List.mem_filter.1 ha).1
 have hb := List.mem_range.1 (List.mem_filter.1 hb).1
 rw [at_get zs ha, at_get zs hb]
 exact List.pairwise_iff_getElem.1 h a b ha hb hab
theorem sortL_mem (xs : List Int) (x : Int) : x ∈ sortL xs ↔ x ∈ xs := by
 unfold sortL
 exact List.mem_mergeSort
theorem sortL_sorted (xs : List Int) : (sortL xs).Pairwise (· ≤ ·) := by
 unfold sortL
 have := List.pairwise_mergeSort (le := fun x y : Int => decide (x ≤ y)) (fun a b c h1 h2 => by simp at *; omega) (fun a b => by simp; omega) xs
 exact this.imp fun h => by simpa using h
theorem ext151 : NOk Try.prog ⟨151, sigSort, fun x hh => sortG hh.1⟩ :=
 NOk.sort (P := Try.prog) ⟨_, Try.func151, rfl, rfl⟩ fun m cap zs w h1 h2 h3 => Try.slices_Sort_int m 0 cap zs w h1 h2 h3
theorem ext171 : NOk Try.prog ⟨171, sigCompact, fun x hh => compactG hh.1⟩ :=
 NOk.compact (P := Try.prog) ⟨_, Try.func171, rfl, rfl⟩ (fun m cap zs w h1 h2 h3 => Try.slices_Compact_int m 0 cap zs w h1 h2 h3) compact_len
end NM
end Go.Proofs.Ytmnhkpekmgobbaa
end
section
namespace Go.Proofs.Ytmnhkpekmgobbaa
open Go.RowKit Go.Lib Go
namespace CloneO
open InsStep
set_option maxHeartbeats 4000000 in
set_option maxRecDepth 100000 in
theorem walk (m n c : Nat) (cur : Array Value) (tb : TypeId) (w : World) (hn : 1 ≤ n) (hcur : n ≤ cur.size) (hbig : n * 24 ≤ 140737488355328) (hh : w.heap[m]? = some (.cells cur tb (0, 0))) :
   Calls Try.prog 131 #[.slice (some ⟨m, 0, none⟩) n c] w (InsPost 1 w w.heap.size n (cur.toList.take n)) := by
 have mixed : Try.prog.follows .mixedOrders = true := by kernel_rfl
 have hm : m < w.heap.size := by
   rcases Nat.lt_or_ge m w.heap.size with h | h
   · exact h
   · rw [Array.getElem?_eq_none h] at hh; cases hh
 obtain ⟨i0, hi0, hz0, hs0, hb0⟩ := info_parts (P := Try.prog) (e := 220) (z := .slice none 0 0) (size := 1) (bytes := 24) (by kernel_rfl)
 have hvl : (cur.toList.take n).length = n := by rw [List.length_take, Array.length_toList]; omega
 have hq := fun (u : World) => Lib.run_eql_slice_nil (P := Try.prog) u 216 220 (some ⟨m, 0, none⟩) n c 0 0 Try.underlying216
 obtain ⟨w1, hw1⟩ : ∃ w1 : World, w1 = w.alloc (.cells #[] 220) := ⟨_, rfl⟩
 have hh1 : w1.heap[m]? = some (.cells cur tb (0, 0)) := by rw [hw1, heap_alloc_old w _ hm]; exact hh
 have hsz1 : w1.heap.size = w.heap.size + 1 := by rw [hw1]; simp
 obtain ⟨G, hG⟩ : ∃ G, G = grownCap w1 (0 + n) 0 220 := ⟨_, rfl⟩
 have hG1 : 0 + n ≤ G := by rw [hG]; exact grownCap_ge _ _ _ _
 obtain ⟨ROW, hROW⟩ : ∃ ROW : Array Value, ROW = ([] : List Value).toArray ++ (cur.toList.take n).toArray ++ Builtin.zeroCells (Value.cells (.slice none 0 0)) (G - (0 + n)) := ⟨_, rfl⟩
 have hrun : ∀ ty, (Builtin.append_ #[216, 216] ty #[.slice (some ⟨w.heap.size, 0, none⟩) 0 0, .slice (some ⟨m, 0, none⟩) n c]).run Try.prog w1 = .ok (.slice (some ⟨w1.heap.size, 0, none⟩) (0 + n) G) (w1.drew.alloc (.cells ROW 220)) := fun ty => by
   have hfirst : (Builtin.firstCells i0.size n (.slice (some ⟨m, 0, none⟩) n c)).run Try.prog w1.drew = .ok (cur.toList.take n).toArray w1.drew := by
     rw [hs0]
     refine run_firstCells_some w1.drew 1 n ⟨m, 0, none⟩ n c _ (by rw [hvl, Nat.mul_one]) fun j v hj => ?_
     rw [Addr.add_lit, Nat.zero_add, cellsOf (w := w1.drew) (t := tb) (fr := (0, 0)) (cur := cur) hh1]
     rw [List.getElem?_take] at hj
     split at hj
     · rw [← Array.getElem?_toList]; exact hj
     · cases hj
   have hold : (Builtin.firstCells i0.size 0 (.slice (some ⟨w.heap.size, 0, none⟩) 0 0)).run Try.prog w1.drew = .ok ([] : List Value).toArray w1.drew := by
     rw [hs0]
     exact run_firstCells_some w1.drew 1 0 ⟨w.heap.size, 0, none⟩ 0 0 [] (by simp) (fun j v hj => by simp at hj)
   rw [app_grows Try.underlying216 hi0 hz0 rfl hfirst hold (by omega) (by omega) (by rw [hb0, Nat.zero_add]; exact hbig), hROW, hG]
 have hsz : ROW.size = G * 1 := by
   have hzc : (Value.cells (.slice none 0 0)).size = 1 := rfl
   rw [hROW, Array.size_append, Array.size_append, List.size_toArray, List.size_toArray, hvl, size_zeroCells, hzc]
   simp only [List.length_nil]
   omega
 have hfin : ∀ j v, (cur.toList.take n)[j]? = some v → ROW[j]? = some v := fun j v hj => by
   rw [← Array.getElem?_toList, hROW]
   simp only [Array.toList_append, List.nil_append]
   have hjl := (List.getElem?_eq_some_iff.1 hj).1
   rw [List.getElem?_append_left hjl]
   exact hj
 clear hROW hG
 rw [hw1] at hrun
 go_enter Try.func131, Try.ntmps131
 go_wp2_with (at_builtin; refine Lib.wpList_append_run _ rfl _ _ _ _ rfl _ _ rfl rfl _ _ (hrun _) ?_)
 go_ret
 have e2 : (w.alloc (.cells #[] 220)).heap.size = w.heap.size + 1 := by simp
 refine ⟨w.heap.size + 1, G, G, ROW, 220, rfl, ?_, hsz, Nat.le_refl _, by omega, hfin, .inr (Nat.le_succ _), rfl, rfl, rfl, ?_, fun j hj _ => ?_⟩
 · show ((w.alloc (.cells #[] 220)).alloc (.cells ROW 220)).heap[w.heap.size + 1]? = _
   rw [← e2]
   exact heap_alloc_new _ _
 · show w.heap.size ≤ ((w.alloc (.cells #[] 220)).alloc (.cells ROW 220)).heap.size
   simp
   omega
 · show ((w.alloc (.cells #[] 220)).alloc (.cells ROW 220)).heap[j]? = _
   rw [heap_alloc_old _ _ (by omega)]
   exact heap_alloc_old w _ hj
end CloneO
namespace NM
open AM
@[reducible] def sigClO (t : Ty) : Sig := ⟨.cons (.slw 0 1) .nil, [.typed t], ((.slw 1 1), [.typed t, .typed t]), []⟩
def cloneO {α : Type} (xs : List α) : Option (Unit × (List α × (List α × Unit))) := cond (decide (0 < xs.length ∧ xs.length ≤ 4294967296)) (some ((), (xs, (xs, ())))) none
theorem condO_inv {p : Prop} [Decidable p] {α : Type} {x y : α} (h : cond (decide p) (some x) none = some y) : p ∧ y = x := by
 by_cases hp : p
 · rw [decide_eq_true hp] at h; cases h; exact ⟨hp, rfl⟩
 · rw [decide_eq_false hp] at h; cases h
theorem NOk.cloneO {P : Program} {f : Nat} (t : Ty) (hk : (ops t).size = 1) (hg : sigGood (sigClO t) = true) (hent : AM.Enters P f) (h : ∀ (m n c : Nat) (cur : Array Value) (tb : TypeId) (w : World), 1 ≤ n → n ≤ cur.size → n * 24 ≤ 140737488355328 → w.heap[m]? = some (.cells cur tb (0, 0)) →
     Calls P f #[.slice (some ⟨m, 0, none⟩) n c] w (InsPost 1 w w.heap.size n (cur.toList.take n))) :
   NOk P ⟨f, sigClO t, fun x hh => NM.cloneO hh.1⟩ := by
 refine ⟨hent, hg, fun x hh y hy args ahp ha hb => ?_⟩
 obtain ⟨u0, u1⟩ := x
 obtain ⟨xs, u2⟩ := hh
 have hy : NM.cloneO xs = some y := hy
 obtain ⟨⟨c1, c2⟩, rfl⟩ := condO_inv hy
 intro μ w S cargs r0 hl hv
 simp only [puts, put, putV, Ty.isAgg] at ha
 obtain ⟨a0, as0, rfl, h0, ha⟩ := ha.cons_inv
 rw [ha.nil_inv] at hl hv
 obtain ⟨v0, rfl⟩ : ∃ v0, cargs = #[v0] := by
   have hl : cargs.size = 1 := by simpa using hl.symm
   refine ⟨cargs[0], ?_⟩
   apply Array.ext
   · simp [hl]
   · intro i h1 h2
     have : i = 0 := by omega
     subst this; simp
 obtain ⟨n0, e0, l0⟩ := (RT.v h0).slw_inv
 subst e0
 have hn0 := lenAt_typed (h := .dead) l0
 subst hn0
 have s0 := (hv 0 _ v0 rfl rfl).sl_inv
 have r1 : HRep μ w S [.live ⟨(ops t).size, true, xs.map (acells t)⟩] := hrep_conv r0 (canH_conv (l := [.typed t]) (x := (xs, ())) putH_lens rfl hb)
 have B0 := r1.live 0 _ rfl
 have hlen : ahp.length = 1 := by rw [← hb.1]; rfl
 cases m0 : μ 0 with
 | free => rw [m0] at B0; exact B0.elim
 | dead => rw [m0] at B0; exact B0.elim
 | void =>
   rw [m0] at B0
   have : xs.map (acells t) = [] := B0
   have : xs = [] := by simpa using this
   subst this
   simp at c1
 | here m N e0 =>
   rw [m0] at B0 s0
   obtain ⟨he0, hN0, cur, tb, hcc, hcsz, hcr⟩ := blk_at (t := t) B0
   rw [hk] at he0 hcsz hcr
   subst he0
   obtain ⟨_, c, rfl, hcN, hcx⟩ := s0
   rw [Nat.zero_mul]
   refine (h m xs.length c cur tb w c1 (by omega) (by omega) hcc).mono fun e w' hp => ?_
   obtain ⟨g, cap, N', cur', t', rfl, p1, p2, p3, p4, p5, p6, p7, p8, p9, p10, p11⟩ := hp
   have p6 : w.heap.size ≤ g := by rcases p6 with h | h <;> omega
   have hfr : ∀ j, j < w.heap.size → j ≠ g → w'.heap[j]? = w.heap[j]? := fun j hj _ => p11 j hj (by omega)
   have hS : ∀ j, S j → w'.heap[j]? = w.heap[j]? := fun j hj => p11 j (r1.inS j hj) (by have := r1.inS j hj; omega)
   have hblk : BlkR (locs μ 1 (fun _ => false) (.here g N' 1)) w' S (.here g N' 1) ⟨1, true, xs.map (acells t)⟩ := by
     refine ⟨rfl, by rw [List.length_map]; omega, fun r x hr => ?_, cur', t', p1, p2, fun r x j c hr hc => ?_⟩
     · rw [List.getElem?_map, Option.map_eq_some_iff] at hr
       obtain ⟨y, _, rfl⟩ := hr
       rw [acells_len, hk]
     · rw [List.getElem?_map, Option.map_eq_some_iff] at hr
       obtain ⟨y, hy', rfl⟩ := hr
       obtain ⟨v, hv, hR, h1⟩ := hcr r y j c hy' hc
       have hj : j < 1 := by
         have := (List.getElem?_eq_some_iff.1 hc).1
         rw [acells_len, hk] at this; exact this
       have hr' := (List.getElem?_eq_some_iff.1 hy').1
       refine ⟨v, p5 _ _ ?_, hR.mono hS (fun _ h => h), h1⟩
       show (cur.toList.take xs.length)[r * 1 + j]? = some v
       rw [List.getElem?_take, if_pos (by omega), Array.getElem?_toList]
       exact hv
   have r1' : HRep μ w S [.live ⟨1, true, xs.map (acells t)⟩] := by rw [hk] at r1; exact r1
   obtain ⟨q1, q2, q3⟩ := place (hp2 := [.live ⟨1, true, xs.map (acells t)⟩, .live ⟨1, true, xs.map (acells t)⟩]) (dead := fun _ => false) (g := g) (N' := N') (e := 1) r1' rfl rfl (fun b hb => by
       have : b = 0 := by simp at hb; omega
       subst this; rfl) (.inl p6) hblk hfr p10 p7 p8 p9
   refine ⟨_, _, S, rfl, ?_, q2, ?_, by rw [hlen]; exact Nat.le_succ 1, fun b hb hf => q3 b (by rw [hlen] at hb; exact hb) hf⟩
   · show HRep _ w' S [.live ⟨(ops t).size, true, xs.map (acells t)⟩, .live ⟨(ops t).size, true, xs.map (acells t)⟩]
     rw [hk]
     exact q1
   · have e3 : yA (sigClO t).res (sigClO t).more ((), (xs, (xs, ()))) = .sl 1 0 xs.length 1 := by
       simp [yA, outA, can, lensOf, putH, putS, nget, NBlk.len]
     rw [e3]
     refine .sl _ _ _ _ _ ?_
     show SlAt (.here g N' 1) 0 xs.length 1 _
     exact ⟨rfl, cap, by rw [Nat.zero_mul], by omega, by omega⟩
theorem ext131 : NOk Try.prog ⟨131, sigClO (.list .step), fun x hh => cloneO hh.1⟩ :=
 NOk.cloneO (P := Try.prog) (.list .step) rfl rfl ⟨_, Try.func131, rfl, rfl⟩ CloneO.walk
end NM
end Go.Proofs.Ytmnhkpekmgobbaa
end
