/-
  What the proof of SpecTexts leans on, part 10. (Many texts laid together by program.)
-/
import Derived.Test.YtjngkfdclcgfhaaGreatDoorPkTi
import Derived.Test.YtjngkfdclcgfhaaGreatDoorProg
import Derived.RangeFuncNested
import Derived.RangeFuncBound
import Derived.RangeFuncCalls
import Derived.RangeFuncLeaves
import Derived.Shelf.Abstract
import Derived.Shelf.RegionOpen
import Derived.WalkKit
import Derived.OwnWalkIn
import Derived.TacticsInMore
import Derived.LoopNIn
import Derived.LoopIn
import Derived.Maps.AppendAt
import Derived.LoopTactic
import Derived.Below
import Derived.Laws.OwnMore
import Derived.Laws.Rows
import Derived.Deep.Draws
import Derived.Deep.AppendLies
import Derived.Deep.QuietTactic
import Derived.Deep.OwnRows
import Derived.BigQuiet
import Derived.Lib.Hide
import Derived.Outline
import Derived.OpenShut
import Derived.ProofKit
import Derived.Deep.Slices
import Derived.ChangeOld
import Derived.Carry
import Derived.ScopeJumps
import Derived.RegionTactic
import Derived.OwnWalk
import Derived.Lib.SliceRun
import Derived.WalkSpells
import Derived.WalkLawsBesides
set_option linter.unnecessarySimpa false
set_option linter.unusedSimpArgs false
set_option linter.unusedVariables false
section
namespace Go.Proofs.YtjngkfdclcgfhaaGreatDoor
open Go.RowKit Go.Shelf
attribute [local go_sem] Oper.semAt_some
def pcs : Nat → ByteArray → List ByteArray
 | 0, s => [s]
 | k + 1, s => if Lib.indexByte s.data.toList 32 < 0 then [s] else s.extract 0 (Lib.indexByte s.data.toList 32).toNat :: pcs k (s.extract ((Lib.indexByte s.data.toList 32).toNat + 1) s.size)
def strAt (W : World) (b : Nat) : Nat := match W.cell? ⟨b, 0, none⟩ with
 | some (.string s) => s.size
 | _ => 0
def ItW (W : World) (Bp Bs Bv : Nat) (s : ByteArray) : Prop :=
 W.cell? ⟨Bp, 0, none⟩ = some (.string ⟨#[32]⟩) ∧ W.cell? ⟨Bs, 0, none⟩ = some (.string s) ∧ W.cell? ⟨Bv, 0, none⟩ = some (.int .i64 0) ∧ W.frozen? ⟨Bs, 0, none⟩ = false
def ItK (Bp Bs Bv : Nat) (W W' : World) : Prop := ∀ s, ItW W Bp Bs Bv s → ItW W' Bp Bs Bv s
def ItT (Bs : Nat) (A B : World) : Prop := ∃ v, B = A.setCell ⟨Bs, 0, none⟩ v ∧ ∃ u, A.cell? ⟨Bs, 0, none⟩ = some u
theorem idx_le (l : List UInt8) (c : UInt8) : -1 ≤ Lib.indexByte l c ∧ Lib.indexByte l c ≤ l.length ∧ (0 ≤ Lib.indexByte l c → Lib.indexByte l c < l.length) := by
 induction l with
 | nil => simp [Lib.indexByte]
 | cons x l ih =>
   obtain ⟨h1, h3, h2⟩ := ih
   unfold Lib.indexByte
   simp only [List.length_cons]
   by_cases hx : (x == c) = true
   · rw [if_pos hx]; omega
   · rw [if_neg hx]
     by_cases hm : (Lib.indexByte l c == -1) = true
     · rw [if_pos hm]; omega
     · rw [if_neg hm]
       have : ¬ Lib.indexByte l c = -1 := fun e => hm (by rw [e]; rfl)
       omega
theorem size_toList (s : ByteArray) : s.data.toList.length = s.size := by simp
theorem ext_size (s : ByteArray) (a : Nat) (h : a ≤ s.size) : (s.extract a s.size).size = s.size - a := by simp [ByteArray.size_extract]
theorem pcs_fuel : ∀ (k : Nat) (s : ByteArray), s.size ≤ k → pcs k s = pcs s.size s := by
 have key : ∀ (m k k' : Nat) (s : ByteArray), s.size ≤ m → s.size ≤ k → s.size ≤ k' → pcs k s = pcs k' s := by
   intro m
   induction m with
   | zero =>
     intro k k' s h1 h2 h3
     have hb := idx_le s.data.toList 32
     rw [size_toList] at hb
     have hn : Lib.indexByte s.data.toList 32 < 0 := by omega
     cases k <;> cases k' <;> simp only [pcs, if_pos hn]
   | succ m ih =>
     intro k k' s h1 h2 h3
     have hb := idx_le s.data.toList 32
     rw [size_toList] at hb
     by_cases hn : Lib.indexByte s.data.toList 32 < 0
     · cases k <;> cases k' <;> simp only [pcs, if_pos hn]
     · match k, k', (show 0 < k by omega), (show 0 < k' by omega) with
       | k + 1, k' + 1, _, _ =>
         simp only [pcs, if_neg hn]
         have hsz := ext_size s ((Lib.indexByte s.data.toList 32).toNat + 1) (by omega)
         rw [ih k k' (s.extract ((Lib.indexByte s.data.toList 32).toNat + 1) s.size) (by omega) (by omega) (by omega)]
 intro k s h
 exact key s.size k s.size s (Nat.le_refl _) h (Nat.le_refl _)
def parts (s : ByteArray) : List ByteArray := pcs s.size s
theorem parts_stop (s : ByteArray) (h : Lib.indexByte s.data.toList 32 < 0) : parts s = [s] := by
 unfold parts
 cases s.size <;> simp only [pcs, if_pos h]
theorem pcs_len : ∀ (k : Nat) (s : ByteArray), (pcs k s).length ≤ k + 1
 | 0, s => by simp [pcs]
 | k + 1, s => by
   simp only [pcs]
   split
   · simp
   · have := pcs_len k (s.extract ((Lib.indexByte s.data.toList 32).toNat + 1) s.size)
     simp only [List.length_cons]; omega
theorem parts_step (s : ByteArray) (i : Nat) (h : Lib.indexByte s.data.toList 32 = i) : parts s = s.extract 0 i :: parts (s.extract (i + 1) s.size) := by
 have hb := idx_le s.data.toList 32
 rw [size_toList] at hb
 have hsz := ext_size s (i + 1) (by omega)
 unfold parts
 obtain ⟨k, hk⟩ : ∃ k, s.size = k + 1 := ⟨s.size - 1, by omega⟩
 have : pcs s.size s = pcs (k + 1) s := by rw [hk]
 rw [this]
 simp only [pcs]
 rw [if_neg (by omega), h, Int.toNat_natCast, pcs_fuel k _ (by omega)]
set_option maxHeartbeats 4000000 in
set_option maxRecDepth 100000 in
theorem splitIt (n : Nat) (l Bp Bs Bv : Nat) (hps : Bp ≠ Bs) (hvs : Bv ≠ Bs) (s0 : ByteArray) (hs0 : s0.size ≤ 4294967296) (J Jx : List ByteArray → World → Prop)
   (hJ : ∀ s A B, J s A → ItT Bs A B → J s B)
   (hY : ∀ pre x W, J pre W → pre ++ [x] <+: parts s0 → YieldAt Fence.wide (n - 1) Tryz.prog l #[.string x] W fun e W' => (e = .returned (.bool true) ∧ J (pre ++ [x]) W' ∧ ItK Bp Bs Bv W W') ∨ (e = .returned (.bool false) ∧ Jx (pre ++ [x]) W'))
   (W : World) (hW : ItW W Bp Bs Bv s0) (h0 : J [] W) :
   CallsIn Fence.wide n Tryz.prog 83 #[.func (.yield l) #[] #[], .pointer (some ⟨Bp, 0, none⟩), .pointer (some ⟨Bs, 0, none⟩), .pointer (some ⟨Bv, 0, none⟩)] W fun e W' => (∃ v, e = .returned v) ∧
     ((∃ xs, xs = parts s0 ∧ J xs W') ∨ (∃ pre, pre <+: parts s0 ∧ Jx pre W')) := by
 refine callsIn_of_wp Tryz.func83 rfl trivial ?_ rfl
 simp only [Tryz.ntmps83, List.size_toArray, List.length_cons, List.length_nil, Nat.reduceAdd, Nat.reduceSub, Array.replicate_succ, Array.replicate_zero, List.push_toArray, List.append_toArray, List.nil_append, List.cons_append]
 obtain ⟨w1, w2, w3, w4⟩ := id hW
 gi_wp2
 gi_loopw [] (fun wr => ∃ pre s, ItW wr Bp Bs Bv s ∧ s.size ≤ s0.size ∧ parts s0 = pre ++ parts s ∧ J pre wr) (fun wr => strAt wr Bs)
 case atStart => exact ⟨[], s0, hW, Nat.le_refl _, rfl, h0⟩
 case round =>
   clear w1 w2 w3 w4
   obtain ⟨pre, s, hit, hsz, hx, hj⟩ := hrel
   obtain ⟨w1, w2, w3, w4⟩ := id hit
   have hb := idx_le s.data.toList 32
   rw [size_toList] at hb
   gi_wp2
   refine ⟨trivial, fun h => (by cases h), (callsIn_wide.2 (Tryz.strings_Index_one s 32 wr)).mono ?_⟩
   rintro e w' ⟨rfl, rfl⟩
   by_cases hn : Lib.indexByte s.data.toList 32 < 0
   · obtain ⟨fn, tmps, assign, body, hy, hR⟩ := hY pre s w' hj (by rw [hx, parts_stop s hn]; exact List.prefix_refl _)
     gi_wp2
     refine ⟨fun h => (by cases h), hR.mono ?_⟩
     rintro e W3 (⟨rfl, hJ3, hk3⟩ | ⟨rfl, hJx3⟩)
     · gi_wp2
       go_end0
       exact ⟨⟨_, rfl⟩, .inl ⟨pre ++ [s], by rw [hx, parts_stop s hn], hJ3⟩⟩
     · gi_wp2
       go_end0
       exact ⟨⟨_, rfl⟩, .inr ⟨pre ++ [s], by rw [hx, parts_stop s hn]; exact List.prefix_refl _, hJx3⟩⟩
   · obtain ⟨i, hi⟩ : ∃ i : Nat, Lib.indexByte s.data.toList 32 = i := ⟨(Lib.indexByte s.data.toList 32).toNat, by omega⟩
     rw [hi] at hb hn ⊢
     obtain ⟨fn, tmps, assign, body, hy, hR⟩ := hY pre (s.extract 0 i) w' hj (by rw [hx, parts_step s i hi]; exact ⟨parts (s.extract (i + 1) s.size), by simp⟩)
     gi_wp2
     refine ⟨fun h => (by cases h), hR.mono ?_⟩
     rintro e W3 (⟨rfl, hJ3, hk3⟩ | ⟨rfl, hJx3⟩)
     · obtain ⟨y1, y2, y3, y4⟩ := hk3 s hit
       gi_wp2
       have hsame : (W3.setCell ⟨Bs, 0, none⟩ (.string (s.extract (i + 1) s.size))).cell? ⟨Bs, 0, none⟩ = some (.string (s.extract (i + 1) s.size)) := World.cell?_setCell_same _ _ _ y2
       have hes := ext_size s (i + 1) (by omega)
       go_roundw
       case rel =>
         refine ⟨pre ++ [s.extract 0 i], s.extract (i + 1) s.size, ⟨?_, hsame, ?_, ?_⟩, by omega, ?_, hJ _ _ _ hJ3 ⟨_, rfl, _, y2⟩⟩
         · exact (World.cell?_setCell_other _ _ _ _ (fun e => hps (by cases e; rfl))).trans y1
         · exact (World.cell?_setCell_other _ _ _ _ (fun e => hvs (by cases e; rfl))).trans y3
         · rw [World.frozen?_setCell]; exact y4
         · rw [hx, parts_step s i hi]; simp
       case measure =>
         unfold strAt
         rw [hsame, w2]
         simp only
         omega
     · gi_wp2
       refine bodyPost_ret (results_none rfl _ _ _) rfl ?_
       exact ⟨⟨_, rfl⟩, .inr ⟨pre ++ [s.extract 0 i], by rw [hx, parts_step s i hi]; exact ⟨parts (s.extract (i + 1) s.size), by simp⟩, hJx3⟩⟩
end Go.Proofs.YtjngkfdclcgfhaaGreatDoor
end
section
namespace Go.Proofs.YtjngkfdclcgfhaaGreatDoor
open Go.RowKit Go.Shelf
attribute [local go_sem] Oper.semAt_some
def numB (s : ByteArray) : Option Int := match Lib.atoiAll s.data.toList with
 | .ok v => some v
 | _ => none
def numsB : List ByteArray → Option (List Int)
 | [] => some []
 | s :: l => match numB s, numsB l with
   | some v, some vs => some (v :: vs)
   | _, _ => none
theorem numsB_snoc : ∀ (l : List ByteArray) (s : ByteArray), numsB (l ++ [s]) = match numsB l, numB s with | some vs, some v => some (vs ++ [v]) | _, _ => none
 | [], s => by simp only [List.nil_append, numsB]; cases numB s <;> rfl
 | x :: l, s => by
   have ih := numsB_snoc l s
   simp only [List.cons_append, numsB, ih]
   cases numB x <;> cases numsB l <;> cases numB s <;> rfl
theorem numsB_none {l m : List ByteArray} (h : numsB l = none) (hp : l <+: m) : numsB m = none := by
 obtain ⟨r, rfl⟩ := hp
 induction l with
 | nil => cases h
 | cons x l ih =>
   simp only [List.cons_append, numsB] at h ⊢
   cases hx : numB x with
   | none => rfl
   | some v =>
     rw [hx] at h
     cases hl : numsB l with
     | none => rw [ih hl]
     | some vs => rw [hl] at h; cases h
theorem numsB_len : ∀ (l : List ByteArray) (zs : List Int), numsB l = some zs → zs.length = l.length
 | [], zs, h => by cases h; rfl
 | x :: l, zs, h => by
   simp only [numsB] at h
   cases hx : numB x <;> cases hl : numsB l <;> rw [hx, hl] at h <;> simp at h
   subst h
   simp [numsB_len l _ hl]
theorem ownsRow_below {W W' : World} {base : Nat} {e : TypeId} {size : Nat} {v : Value} {k : Nat} {xs : List Value} (h : W.ownsRow base e size v k xs) (hb : Below W.heap.size W W') : W'.ownsRow base e size v k xs := by
 refine ⟨h.1, ?_⟩
 rcases h.2 with hn | ⟨g, cap, cur, hv, hbg, hg, rest⟩
 · exact .inl hn
 · exact .inr ⟨g, cap, cur, hv, hbg, (hb.block g (Array.getElem?_eq_some_iff.1 hg).1).trans hg, rest⟩
theorem boxed_below {W W' : World} {B : Nat} {t : TypeId} {v : Value} (h : Boxed W B t v) (hb : Below W.heap.size W W') : Boxed W' B t v := (hb.block B h.lt).trans h
theorem cell_heap {W W' : World} {b : Nat} (h : W'.heap[b]? = W.heap[b]?) : W'.cell? ⟨b, 0, none⟩ = W.cell? ⟨b, 0, none⟩ ∧ W'.frozen? ⟨b, 0, none⟩ = W.frozen? ⟨b, 0, none⟩ := by
 simp only [World.cell?, World.frozen?, h, and_self]
theorem it_heap {W W' : World} {Bp Bs Bv : Nat} (hp : W'.heap[Bp]? = W.heap[Bp]?) (hs : W'.heap[Bs]? = W.heap[Bs]?) (hv : W'.heap[Bv]? = W.heap[Bv]?) : ItK Bp Bs Bv W W' := fun s ⟨h1, h2, h3, h4⟩ =>
 ⟨(cell_heap hp).1.trans h1, (cell_heap hs).1.trans h2, (cell_heap hv).1.trans h3, (cell_heap hs).2.trans h4⟩
theorem ownsRow_base {W : World} {base base' : Nat} {e : TypeId} {size : Nat} {v : Value} {k : Nat} {xs : List Value} (h : W.ownsRow base e size v k xs) (hb : base' ≤ base) : W.ownsRow base' e size v k xs := by
 refine ⟨h.1, ?_⟩
 rcases h.2 with hn | ⟨g, cap, cur, hv, hbg, rest⟩
 · exact .inl hn
 · exact .inr ⟨g, cap, cur, hv, Nat.le_trans hb hbg, rest⟩
theorem keeps_below {W W' : World} (hb : Below W.heap.size W W') : KeepsOthers W W' := ⟨hb.size, fun j o h _ => (hb.block j (Array.getElem?_eq_some_iff.1 h).1).trans h⟩
theorem pcs_size : ∀ (k : Nat) (s x : ByteArray), x ∈ pcs k s → x.size ≤ s.size
 | 0, s, x, h => by simp [pcs] at h; rw [h]; exact Nat.le_refl _
 | k + 1, s, x, h => by
   simp only [pcs] at h
   split at h
   · simp at h; rw [h]; exact Nat.le_refl _
   · rcases List.mem_cons.1 h with rfl | h
     · simp only [ByteArray.size_extract]; omega
     · have := pcs_size k _ x h
       simp only [ByteArray.size_extract] at this
       omega
theorem results_cells {fn : Func} {a b : Tmp} {ta tb : TypeId} (h : fn.results = #[.cell a ta, .cell b tb]) (tmps : Array Value) (w : World) (av bv : Addr) (x y : Value)
   (ha : tmps.getD a undef = .pointer (some av)) (hb : tmps.getD b undef = .pointer (some bv)) (hta : ∀ w, (isAgg ta).run Tryz.prog w = .ok false w) (htb : ∀ w, (isAgg tb).run Tryz.prog w = .ok false w)
   (hx : w.cell? av = some x) (hy : w.cell? bv = some y) : (results fn tmps).run Tryz.prog w = .ok (.tuple #[x, y]) w := by
 have e1 : (loadVar ta av).run Tryz.prog w = .ok x w := by simp [loadVar, Sem.run_bind, hta, Result.andThen, run_load, hx]
 have e2 : (loadVar tb bv).run Tryz.prog w = .ok y w := by simp [loadVar, Sem.run_bind, htb, Result.andThen, run_load, hy]
 have ha' : tmps[a]?.getD undef = .pointer (some av) := by simpa using ha
 have hb' : tmps[b]?.getD undef = .pointer (some bv) := by simpa using hb
 simp only [results, h]
 simp [Sem.run_bind, Result.andThen, ha', hb', e1, e2, asAddr]
theorem infoInt : (Tryz.prog.info? 3).map (fun i => (i.zero, i.size, i.bytes)) = some (some (.int .i64 0), 1, 8) := by kernel_rfl
set_option maxHeartbeats 4000000 in
set_option maxRecDepth 100000 in
theorem splitSeq_c (n : Nat) (s : ByteArray) (w : World) : CallsIn Fence.wide n Tryz.prog 59 #[.string s, .string ⟨#[32]⟩] w fun e w' =>
   e = .returned (.func (.func 83) #[] #[.pointer (some ⟨w.heap.size + 1, 0, none⟩), .pointer (some ⟨w.heap.size, 0, none⟩), .pointer (some ⟨w.heap.size + 2, 0, none⟩)]) ∧
   w' = ((w.alloc (.cells #[.string s] 9)).alloc (.cells #[.string ⟨#[32]⟩] 9)).alloc (.cells #[.int .i64 0] 3) := by
 have h1 : ∀ n, CallsIn Fence.wide n Tryz.prog 72 #[.string s, .string ⟨#[32]⟩, .int .i64 0] w fun e w' =>
   e = .returned (.func (.func 83) #[] #[.pointer (some ⟨w.heap.size + 1, 0, none⟩), .pointer (some ⟨w.heap.size, 0, none⟩), .pointer (some ⟨w.heap.size + 2, 0, none⟩)]) ∧
   w' = ((w.alloc (.cells #[.string s] 9)).alloc (.cells #[.string ⟨#[32]⟩] 9)).alloc (.cells #[.int .i64 0] 3) := fun n => by
   refine callsIn_of_wp Tryz.func72 rfl trivial ?_ rfl
   simp only [Tryz.ntmps72, List.size_toArray, List.length_cons, List.length_nil, Nat.reduceAdd, Nat.reduceSub, Array.replicate_succ, Array.replicate_zero, List.push_toArray, List.append_toArray, List.nil_append, List.cons_append]
   gi_wp2
   go_ret
   exact ⟨rfl, rfl⟩
 refine callsIn_of_wp Tryz.func59 rfl trivial ?_ rfl
 simp only [Tryz.ntmps59, List.size_toArray, List.length_cons, List.length_nil, Nat.reduceAdd, Nat.reduceSub, Array.replicate_succ, Array.replicate_zero, List.push_toArray, List.append_toArray, List.nil_append, List.cons_append]
 gi_wp2
 refine ⟨trivial, fun h => (by cases h), (h1 _).mono ?_⟩
 rintro e w' ⟨rfl, rfl⟩
 gi_wp2
 go_ret
 exact ⟨rfl, rfl⟩
set_option maxHeartbeats 4000000 in
set_option maxRecDepth 100000 in
theorem numbers_c (s : ByteArray) (hs : s.size ≤ 1000000) (w : World) (ev1 ev2 : Value) (he1 : w.cell? ⟨2, 0, none⟩ = some ev1) (he2 : w.cell? ⟨3, 0, none⟩ = some ev2) (hi1 : ev1 = .nilIface ∨ ∃ te pe, ev1 = .iface te pe) (hi2 : ev2 = .nilIface ∨ ∃ te pe, ev2 = .iface te pe)
   (R : Ending → World → Prop) (hR1 : ∀ zs v w', numsB (parts s) = some zs → Below w.heap.size w w' → w'.ownsRow (w.heap.size + 6) 3 1 v zs.length (zs.map fun z => .int .i64 z) → R (.returned (.tuple #[v, .bool true])) w')
   (hR2 : ∀ w', numsB (parts s) = none → Below w.heap.size w w' → R (.returned (.tuple #[.slice none 0 0, .bool false])) w') :
   Calls Tryz.prog 35 #[.string s] w R := by
 refine (callsIn_wide (n := 5)).1 ?_
 refine callsIn_of_wp_marks Tryz.func35 rfl trivial ?_ rfl
 simp only [Tryz.ntmps35, List.size_toArray, List.length_cons, List.length_nil, Nat.reduceAdd, Nat.reduceSub, Array.replicate_succ, Array.replicate_zero, List.push_toArray, List.append_toArray, List.nil_append, List.cons_append]
 gi_wp2
 refine ⟨trivial, (splitSeq_c _ s _).mono ?_⟩
 rintro e w' ⟨rfl, rfl⟩
 gi_wp2
 obtain ⟨m, hm⟩ : ∃ m, m = w.heap.size := ⟨_, rfl⟩
 rw [← hm]
 obtain ⟨W0, hW0⟩ : ∃ W0, ((((((w.alloc (.cells #[.slice none 0 0] 43)).alloc (.cells #[.bool false] 4)).alloc (.cells #[.slice none 0 0] 43)).alloc (.cells #[.string s] 9)).alloc (.cells #[.string ⟨#[32]⟩] 9)).alloc (.cells #[.int .i64 0] 3)) = W0 := ⟨_, rfl⟩
 rw [hW0]
 have hsz : W0.heap.size = m + 6 := by rw [← hW0, hm]; simp
 have b2 : Boxed W0 m 43 (.slice none 0 0) := by
   rw [← hW0, hm]; exact (((((Boxed.new w _ _).alloc _).alloc _).alloc _).alloc _).alloc _
 have b3 : Boxed W0 (m + 1) 4 (.bool false) := by
   have := Boxed.new (w.alloc (.cells #[.slice none 0 0] 43)) 4 (.bool false)
   rw [World.size_alloc] at this
   rw [← hW0, hm]; exact (((this.alloc _).alloc _).alloc _).alloc _
 have b4 : Boxed W0 (m + 1 + 1) 43 (.slice none 0 0) := by
   have := Boxed.new ((w.alloc (.cells #[.slice none 0 0] 43)).alloc (.cells #[.bool false] 4)) 43 (.slice none 0 0)
   rw [World.size_alloc, World.size_alloc] at this
   rw [← hW0, hm]; exact ((this.alloc _).alloc _).alloc _
 have b5 : Boxed W0 (m + 1 + 1 + 1) 9 (.string s) := by
   have := Boxed.new (((w.alloc (.cells #[.slice none 0 0] 43)).alloc (.cells #[.bool false] 4)).alloc (.cells #[.slice none 0 0] 43)) 9 (.string s)
   rw [World.size_alloc, World.size_alloc, World.size_alloc] at this
   rw [← hW0, hm]; exact (this.alloc _).alloc _
 have b6 : Boxed W0 (m + 1 + 1 + 1 + 1) 9 (.string ⟨#[32]⟩) := by
   have := Boxed.new ((((w.alloc (.cells #[.slice none 0 0] 43)).alloc (.cells #[.bool false] 4)).alloc (.cells #[.slice none 0 0] 43)).alloc (.cells #[.string s] 9)) 9 (.string ⟨#[32]⟩)
   rw [World.size_alloc, World.size_alloc, World.size_alloc, World.size_alloc] at this
   rw [← hW0, hm]; exact this.alloc _
 have b7 : Boxed W0 (m + 1 + 1 + 1 + 2) 3 (.int .i64 0) := by
   have := Boxed.new (((((w.alloc (.cells #[.slice none 0 0] 43)).alloc (.cells #[.bool false] 4)).alloc (.cells #[.slice none 0 0] 43)).alloc (.cells #[.string s] 9)).alloc (.cells #[.string ⟨#[32]⟩] 9)) 3 (.int .i64 0)
   rw [World.size_alloc, World.size_alloc, World.size_alloc, World.size_alloc, World.size_alloc] at this
   rw [← hW0, hm]; exact this
 have hit : ItW W0 (m + 1 + 1 + 1 + 1) (m + 1 + 1 + 1) (m + 1 + 1 + 1 + 2) s := ⟨b6.cell, b5.cell, b7.cell, b5.frozen⟩
 have hB0 : Below m w W0 := by
   rw [← hW0, hm]
   exact ((((((Below.refl _ w).alloc (Nat.le_refl _) _).alloc (by simp) _).alloc (by simp; omega) _).alloc (by simp; omega) _).alloc (by simp; omega) _).alloc (by simp; omega) _
 have hg1 : 2 < m := by rw [hm]; exact Lib.lt_of_cell he1
 have hg2 : 3 < m := by rw [hm]; exact Lib.lt_of_cell he2
 clear hW0
 refine range_turn rfl (by omega) (gf := 83) (lb := #[.pointer (some ⟨m + 1 + 1 + 1 + 1, 0, none⟩), .pointer (some ⟨m + 1 + 1 + 1, 0, none⟩), .pointer (some ⟨m + 1 + 1 + 1 + 2, 0, none⟩)]) rfl trivial (enters_of Tryz.func83 (by kernel_rfl) rfl)
   (encs := fun x : ByteArray => #[.string x]) (ItT (m + 1 + 1 + 1)) (ItK (m + 1 + 1 + 1 + 1) (m + 1 + 1 + 1) (m + 1 + 1 + 1 + 2)) (fun xs => xs = parts s) (fun pre => pre <+: parts s) (fun pre => pre <+: parts s)
   ?tu ?seq ?kt ?kb (fun _ => rfl)
   (fun pre W => (∃ zs, numsB pre = some zs ∧ ∃ v, Boxed W (m + 1 + 1) 43 v ∧ W.ownsRow (m + 6) 3 1 v zs.length (zs.map fun z => .int .i64 z)) ∧ Boxed W m 43 (.slice none 0 0) ∧ Boxed W (m + 1) 4 (.bool false) ∧ Below m w W)
   (fun pre W => numsB pre = none ∧ Boxed W m 43 (.slice none 0 0) ∧ Boxed W (m + 1) 4 (.bool false) ∧ Below m w W)
   ?hI ?hIx ?hIt ?h0
   (fun x => { tmps := #[.string s, undef, .pointer (some ⟨m, 0, none⟩), .pointer (some ⟨m + 1, 0, none⟩), .pointer (some ⟨m + 1 + 1, 0, none⟩), .string x, undef, undef, .string s,
     .func (.func 83) #[] #[.pointer (some ⟨m + 1 + 1 + 1 + 1, 0, none⟩), .pointer (some ⟨m + 1 + 1 + 1, 0, none⟩), .pointer (some ⟨m + 1 + 1 + 1 + 2, 0, none⟩)], .string x, undef, undef, undef, undef, undef, undef, undef, undef, undef, undef, undef, undef], defers := [] }) ?assign ?body ?done ?stop
 case tu =>
   rintro A B ⟨v, rfl, u, hu⟩ k o ho hc
   exact (KeepsOthers.setCell A _ v).same _ _ ho hc
 case seq =>
   intro l J Jx W hb hJ hY h0
   exact splitIt _ l _ _ _ (by omega) (by omega) s (by omega) J Jx hJ hY W (it_heap (hb.block _ (by omega)) (hb.block _ (by omega)) (hb.block _ (by omega)) s hit) h0
 case kt => intro A B C h1 h2 s hs; exact h2 s (h1 s hs)
 case kb =>
   intro W l o o' hl ho hc
   exact it_heap (World.putObj_heap_other (by omega)) (World.putObj_heap_other (by omega)) (World.putObj_heap_other (by omega))
 case hI =>
   rintro pre X Y row ⟨⟨zs, hz, v, hv, hr⟩, h2, h3, hb⟩ hg hrow
   have hne : ∀ b, b < m + 6 → some b ≠ row := fun b hb e => by have := (hrow b e.symm).1; omega
   obtain ⟨v', hv', hr', _⟩ := holdsRow_own (β := List Int) (m + 6) (m + 1 + 1) 43 3 1 (fun zs => zs.length) (fun zs => zs.map fun z => .int .i64 z) (fun _ _ => True) zs X Y row ⟨v, hv, hr, trivial⟩ hg (fun r e => (hrow r e).2)
   exact ⟨⟨zs, hz, v', hv', hr'⟩, h2.kept hg (hne _ (by omega)), h3.kept hg (hne _ (by omega)), hb.grown hg (by have := h2.lt; have := hb.size; omega) (fun k e => by have := (hrow k e).1; omega)⟩
 case hIx =>
   rintro pre X Y row ⟨hz, h2, h3, hb⟩ hg hrow
   have hne : ∀ b, b < m + 6 → some b ≠ row := fun b hb e => by have := (hrow b e.symm).1; omega
   exact ⟨hz, h2.kept hg (hne _ (by omega)), h3.kept hg (hne _ (by omega)), hb.grown hg (by have := h2.lt; have := hb.size; omega) (fun k e => by have := (hrow k e).1; omega)⟩
 case hIt =>
   rintro pre A B ⟨⟨zs, hz, v, hv, hr⟩, h2, h3, hb⟩ ⟨u, rfl, _⟩
   exact ⟨⟨zs, hz, v, hv.other (by omega) u, hr.kept (grownBy_setCell' A _ u) (.inr (fun e => by have := (hr.lt _ e).1; omega))⟩, h2.other (by omega) u, h3.other (by omega) u, hb.setCell (p := ⟨m + 1 + 1 + 1, 0, none⟩) (by simp only; omega) u⟩
 case h0 => exact ⟨⟨[], rfl, _, b4, World.ownsRow_nil ..⟩, b2, b3, hB0⟩
 case assign =>
   intro l x W K hK
   subst hm
   gi_wp2
   exact hK
 case body =>
   subst hm
   rintro l pre x W ⟨⟨zs, hzs, v, hv, hrow⟩, hn2, hn3, hbw⟩ hnp hlt
   have hxs : x.size ≤ 281474976710656 := by
     have := pcs_size _ _ x (hnp.subset (by simp))
     omega
   have hlen : zs.length + 1 ≤ 1000001 := by
     have h1 := numsB_len _ _ hzs
     have h2 := hnp.length_le
     have h3 := pcs_len s.size s
     unfold parts at h2
     simp only [List.length_append, List.length_cons, List.length_nil] at h2
     omega
   have e1 : W.cell? ⟨2, 0, none⟩ = some ev1 := (hbw.cell (p := ⟨2, 0, none⟩) hg1).trans he1
   have e2 : W.cell? ⟨3, 0, none⟩ = some ev2 := (hbw.cell (p := ⟨3, 0, none⟩) hg2).trans he2
   have hc2 := hn2.cell; have hf2 := hn2.frozen; have hc3 := hn3.cell; have hf3 := hn3.frozen; have hc4 := hv.cell; have hf4 := hv.frozen
   cases ha : Lib.atoiAll x.data.toList with
   | ok y =>
     obtain ⟨i0, hi, hz0, hz1, hz2⟩ := info_parts infoInt
     have hml : maxLen = 9223372036854775807 := rfl
     gi_wp2
     refine ⟨trivial, (CallsIn.inRound l (callsIn_wide.2 (Tryz.strconv_Atoi_ok x (by omega) y ha W))).mono ?_⟩
     rintro e W2 ⟨rfl, hW2⟩
     have hbx : Below W.heap.size W W2 := by
       rcases hW2 with rfl | ⟨t, rfl⟩
       · exact Below.refl _ _
       · exact Lib.bytesWorld_below _ _ _
     have hk0 : KeepsOthers W W2 := keeps_below hbx
     clear hW2
     have hv2 := boxed_below hv hbx
     have hrow2 := ownsRow_below hrow hbx
     have hlt2 : w.heap.size + 6 ≤ W2.heap.size := by have := hbx.size; omega
     have hc4 := hv2.cell; have hf4 := hv2.frozen
     gi_wp2_with (gi_at_builtin; refine wpListIn_append_own _ rfl _ _ 43 rfl (w.heap.size + 6) 3 i0 (.int .i64 0) 1 8 Tryz.underlying43 hi hz0 hz1 hz2 rfl (by decide) _ _ _ rfl (hrow2.alloc _) ⟨W2.heap.size, 0, none⟩ 1 1 [.int .i64 y] rfl rfl (cell_one_new _ _ _) (by simp [Value.oneCell']) (by omega) (by omega) (by simp; omega) ?_; intro v' w1 hown' hgrow _; obtain ⟨g', cap', rfl⟩ := ownsRow_succ hown'; obtain ⟨hv1, hv3, hr2, hk2, hb2⟩ := hv2.appended (by decide) (ownsRow_base hrow2 (show w.heap.size ≤ w.heap.size + 6 by omega)) (by omega) (by omega) (ownsRow_base hown' (show w.heap.size ≤ w.heap.size + 6 by omega)) hgrow; have hc1 := hv1.cell; have hf1 := hv1.frozen)
     have hrow4 := hown'.kept (grownBy_setCell' w1 (w.heap.size + 1 + 1) (.slice (some ⟨g', 0, none⟩) (zs.length + 1) cap')) (.inr (hv1.not_row (by decide) hown').symm)
     have hkeep : ∀ b, b < w.heap.size + 6 → b ≠ w.heap.size + 1 + 1 → (w1.setCell ⟨w.heap.size + 1 + 1, 0, none⟩ (.slice (some ⟨g', 0, none⟩) (zs.length + 1) cap')).heap[b]? = W.heap[b]? := fun b hb hne =>
       (Below.heap_setCell _ _ _ b hne).trans ((hgrow.block b (by simp; omega) (fun e => by have := (hrow2.lt b e.symm).1; omega)).trans ((Below.heap_alloc _ _ b (by omega)).trans (hbx.block b (by omega))))
     refine ⟨hk0.trans hk2, it_heap (hkeep _ (by omega) (by omega)) (hkeep _ (by omega) (by omega)) (hkeep _ (by omega) (by omega)), ⟨zs ++ [y], ?_, _, hv3, ?_⟩, (hkeep _ (by omega) (by omega)).trans hn2, (hkeep _ (by omega) (by omega)).trans hn3, (hbw.trans (hbx.mono (by omega))).trans hb2⟩
     · rw [numsB_snoc, hzs]
       simp only [numB, ha]
     · simpa using hrow4
   | range =>
     gi_wp2
     refine ⟨trivial, (CallsIn.inRound l (callsIn_wide.2 (Tryz.strconv_Atoi_range x hxs ha ev2 W e2 hi2))).mono ?_⟩
     rintro e W2 ⟨N, rfl, _, _, hbx⟩
     have hk0 : KeepsOthers W W2 := keeps_below hbx
     have hn2' := boxed_below hn2 hbx
     have hn3' := boxed_below hn3 hbx
     have hc2 := hn2'.cell; have hf2 := hn2'.frozen; have hc3 := hn3'.cell; have hf3 := hn3'.frozen
     gi_wp2
     refine ⟨(hk0.trans (KeepsOthers.setCell _ _ _)).trans (KeepsOthers.setCell _ _ _), ?_, ?_, ?_, ?_⟩
     · rw [numsB_snoc, hzs]
       simp only [numB, ha]
     · exact (hn2'.set (.slice none 0 0)).other (by omega) _
     · exact (hn3'.other (by omega) (.slice none 0 0)).set (.bool false)
     · exact ((hbw.trans (hbx.mono (by omega))).setCell (p := ⟨w.heap.size, 0, none⟩) (Nat.le_refl _) _).setCell (p := ⟨w.heap.size + 1, 0, none⟩) (by simp) _
   | _ =>
     gi_wp2
     refine ⟨trivial, (CallsIn.inRound l (callsIn_wide.2 (Tryz.strconv_Atoi_syntax x hxs (ha.trans rfl) ev1 W e1 hi1))).mono ?_⟩
     rintro e W2 ⟨N, rfl, _, _, hbx⟩
     have hk0 : KeepsOthers W W2 := keeps_below hbx
     have hn2' := boxed_below hn2 hbx
     have hn3' := boxed_below hn3 hbx
     have hc2 := hn2'.cell; have hf2 := hn2'.frozen; have hc3 := hn3'.cell; have hf3 := hn3'.frozen
     gi_wp2
     refine ⟨(hk0.trans (KeepsOthers.setCell _ _ _)).trans (KeepsOthers.setCell _ _ _), ?_, ?_, ?_, ?_⟩
     · rw [numsB_snoc, hzs]
       simp only [numB, ha]
     · exact (hn2'.set (.slice none 0 0)).other (by omega) _
     · exact (hn3'.other (by omega) (.slice none 0 0)).set (.bool false)
     · exact ((hbw.trans (hbx.mono (by omega))).setCell (p := ⟨w.heap.size, 0, none⟩) (Nat.le_refl _) _).setCell (p := ⟨w.heap.size + 1, 0, none⟩) (by simp) _
 case done =>
   rintro D xs W rfl ⟨⟨zs, hz, v, hv, hr⟩, h2, h3, hb⟩ hK hD
   subst hm
   have hc2 := h2.cell; have hf2 := h2.frozen; have hc3 := h3.cell; have hf3 := h3.frozen; have hc4 := hv.cell; have hf4 := hv.frozen
   obtain ⟨ad, n, c, rfl⟩ : ∃ ad n c, v = .slice ad n c := by
     rcases hr.2 with ⟨rfl, _⟩ | ⟨g, cap, cur, rfl, _⟩ <;> exact ⟨_, _, _, rfl⟩
   gi_wp2
   have hK' : ((W.setCell ⟨w.heap.size, 0, none⟩ (.slice ad n c)).setCell ⟨w.heap.size + 1, 0, none⟩ (.bool true)).heap[D]? = some (.deferred (some [])) :=
     ((KeepsOthers.setCell W _ _).trans (KeepsOthers.setCell _ _ _)).same D _ hK rfl
   generalize hWd : (W.setCell ⟨w.heap.size, 0, none⟩ (.slice ad n c)).setCell ⟨w.heap.size + 1, 0, none⟩ (.bool true) = Wd at hK' ⊢
   have k2 : Wd.cell? ⟨w.heap.size, 0, none⟩ = some (.slice ad n c) := by rw [← hWd]; exact ((h2.set (.slice ad n c)).other (by omega) _).cell
   have k3 : Wd.cell? ⟨w.heap.size + 1, 0, none⟩ = some (.bool true) := by rw [← hWd]; exact ((h3.other (by omega) (.slice ad n c)).set (.bool true)).cell
   have kb : Below w.heap.size w Wd := by rw [← hWd]; exact (hb.setCell (p := ⟨w.heap.size, 0, none⟩) (Nat.le_refl _) _).setCell (p := ⟨w.heap.size + 1, 0, none⟩) (by simp) _
   have kr : Wd.ownsRow (w.heap.size + 6) 3 1 (.slice ad n c) zs.length (zs.map fun z => .int .i64 z) := by
     rw [← hWd]
     have r1 := hr.kept (grownBy_setCell' W w.heap.size (.slice ad n c)) (.inr (fun e => by have := (hr.lt _ e).1; omega))
     exact r1.kept (grownBy_setCell' _ (w.heap.size + 1) (.bool true)) (.inr (fun e => by have := (r1.lt _ e).1; omega))
   refine ⟨by simp, .inl ⟨_, _, rfl, run_takeDeferred hK', ?_⟩⟩
   have hrow : ∀ r, some D = some r → ∃ o : Obj, Wd.heap[r]? = some o ∧ o.isCells = false := fun r e => by cases e; exact ⟨_, hK', rfl⟩
   refine ⟨_, results_cells (a := 2) (b := 3) (ta := 43) (tb := 4) (by kernel_rfl) _ _ _ _ _ _ rfl rfl (fun w => Tryz.isAgg43 w) (fun w => Tryz.isAgg4 w) (cell_kept k2 (grownBy_putObj' Wd D _) hrow) (cell_kept k3 (grownBy_putObj' Wd D _) hrow), ?_⟩
   exact hR1 _ _ _ hz (kb.grown (grownBy_putObj' Wd D _) (Nat.le_of_lt (Lib.lt_of_cell k2)) (fun k e => by cases e; omega)) (ownsRow_putObj kr _ hK' rfl)
 case stop =>
   rintro D pre W hp ⟨hz, h2, h3, hb⟩ hK hD
   subst hm
   have hc2 := h2.cell; have hf2 := h2.frozen; have hc3 := h3.cell; have hf3 := h3.frozen
   gi_wp2
   refine ⟨by simp, .inl ⟨_, _, rfl, run_takeDeferred hK, ?_⟩⟩
   have hrow : ∀ r, some D = some r → ∃ o : Obj, W.heap[r]? = some o ∧ o.isCells = false := fun r e => by cases e; exact ⟨_, hK, rfl⟩
   refine ⟨_, results_cells (a := 2) (b := 3) (ta := 43) (tb := 4) (by kernel_rfl) _ _ _ _ _ _ rfl rfl (fun w => Tryz.isAgg43 w) (fun w => Tryz.isAgg4 w) (cell_kept hc2 (grownBy_putObj' W D _) hrow) (cell_kept hc3 (grownBy_putObj' W D _) hrow), ?_⟩
   exact hR2 _ (numsB_none hz hp) (hb.grown (grownBy_putObj' W D _) (Nat.le_of_lt (Lib.lt_of_cell hc2)) (fun k e => by cases e; omega))
end Go.Proofs.YtjngkfdclcgfhaaGreatDoor
end
section
namespace Go.Proofs.YtjngkfdclcgfhaaGreatDoor
open Go.RowKit
theorem add_block (a : Addr) (n : Nat) : (a.add n).block = a.block := by unfold Addr.add; split <;> rfl
theorem add_add (a : Addr) (i j : Nat) : (a.add i).add j = a.add (i + j) := by
 unfold Addr.add
 by_cases hi : i = 0 <;> by_cases hj : j = 0 <;> simp [hi, hj, Nat.add_assoc]
def Lt (B : Nat) (b : Nat) : Prop := b < B
def Same (S : Nat → Prop) (w w' : World) : Prop := ∀ p : Addr, S p.block → w'.cell? p = w.cell? p
class Lay (α : Type) where
 n : Nat
 agg : Bool
 pos : 0 < n
 R : World → (Nat → Prop) → α → List Value → Prop
 size : ∀ {w : World} {B : Nat → Prop} {x : α} {cs : List Value}, R w B x cs → cs.length = n
 one : ∀ {w : World} {B : Nat → Prop} {x : α} {cs : List Value}, R w B x cs → ∀ u ∈ cs, u.oneCell' = true
 keep : ∀ {w w' : World} {B : Nat → Prop} {x : α} {cs : List Value}, Same B w w' → R w B x cs → R w' B x cs
 mono : ∀ {w : World} {B B' : Nat → Prop} {x : α} {cs : List Value}, (∀ b, B b → B' b) → R w B x cs → R w B' x cs
def I64 (n : Int) : Prop := -9223372036854775808 ≤ n ∧ n ≤ 9223372036854775807
instance : Lay Int where
 n := 1
 agg := false
 pos := Nat.one_pos
 R _ _ x cs := cs = [.int .i64 x] ∧ I64 x
 size h := by rw [h.1]; rfl
 one h u hu := by rw [h.1] at hu; simp at hu; subst hu; rfl
 keep _ h := h
 mono _ h := h
instance : Lay Bool where
 n := 1
 agg := false
 pos := Nat.one_pos
 R _ _ x cs := cs = [.bool x]
 size h := by rw [h]; rfl
 one h u hu := by rw [h] at hu; simp at hu; subst hu; rfl
 keep _ h := h
 mono _ h := h
instance : Lay UInt8 where
 n := 1
 agg := false
 pos := Nat.one_pos
 R _ _ x cs := cs = [.int .u8 (x.toNat : Int)]
 size h := by rw [h]; rfl
 one h u hu := by rw [h] at hu; simp at hu; subst hu; rfl
 keep _ h := h
 mono _ h := h
instance : Lay ByteArray where
 n := 1
 agg := false
 pos := Nat.one_pos
 R _ _ x cs := cs = [.string x] ∧ x.size ≤ maxLen
 size h := by rw [h.1]; rfl
 one h u hu := by rw [h.1] at hu; simp at hu; subst hu; rfl
 keep _ h := h
 mono _ h := h
def Sl {α : Type} [Lay α] (w : World) (B : Nat → Prop) (A : Option Addr) (xs : List α) : Prop :=
 ∀ (k : Nat) (x : α), xs[k]? = some x → ∃ ad cs, A = some ad ∧ B ad.block ∧ Lay.R w B x cs ∧ ∀ j u, cs[j]? = some u → w.cell? (ad.add (k * Lay.n α + j)) = some u
section
variable {α : Type} [Lay α] {w w' : World} {B B' : Nat → Prop} {A : Option Addr} {xs : List α}
theorem Sl.nil : Sl w B A ([] : List α) := fun k x h => by simp at h
theorem Sl.keep (h : Sl w B A xs) (hs : Same B w w') : Sl w' B A xs := fun k x hk => by
 obtain ⟨ad, cs, rfl, hb, hr, hc⟩ := h k x hk
 exact ⟨ad, cs, rfl, hb, Lay.keep hs hr, fun j u hu => (hs _ (by rw [add_block]; exact hb)).trans (hc j u hu)⟩
theorem Sl.mono (h : Sl w B A xs) (hB : ∀ b, B b → B' b) : Sl w B' A xs := fun k x hk => by
 obtain ⟨ad, cs, rfl, hb, hr, hc⟩ := h k x hk
 exact ⟨ad, cs, rfl, hB _ hb, Lay.mono hB hr, hc⟩
end
theorem Sl.byte {w : World} {B : Nat → Prop} {A : Option Addr} {zs : List UInt8} (h : Sl w B A zs) {k : Nat} (hk : k < zs.length) :
   ∃ ad x, A = some ad ∧ zs[k]? = some x ∧ w.cell? (ad.add k) = some (.int .u8 (x.toNat : Int)) ∧ x.toNat < 256 := by
 obtain ⟨ad, cs, rfl, hb, h1, hc⟩ := h k _ (List.getElem?_eq_getElem hk)
 have h1 : cs = _ := h1
 subst h1
 exact ⟨ad, zs[k], rfl, List.getElem?_eq_getElem hk, by simpa [Lay.n] using hc 0 _ rfl, UInt8.toNat_lt _⟩
instance {α : Type} [Lay α] : Lay (List α) where
 n := 1
 agg := false
 pos := Nat.one_pos
 R w B xs cs := ∃ A c, cs = [.slice A xs.length c] ∧ xs.length ≤ c ∧ c ≤ maxLen ∧ (A = none → c = 0) ∧ Sl w B A xs
 size h := by obtain ⟨A, c, rfl, _⟩ := h; rfl
 one h u hu := by obtain ⟨A, c, rfl, _⟩ := h; simp at hu; subst hu; rfl
 keep hs h := by obtain ⟨A, c, rfl, hc, hm, hn, h⟩ := h; exact ⟨A, c, rfl, hc, hm, hn, h.keep hs⟩
 mono hB h := by obtain ⟨A, c, rfl, hc, hm, hn, h⟩ := h; exact ⟨A, c, rfl, hc, hm, hn, h.mono hB⟩
instance {α β : Type} [Lay α] [Lay β] : Lay (α × β) where
 n := Lay.n α + Lay.n β
 agg := true
 pos := by have : 0 < Lay.n α := Lay.pos; omega
 R w B x cs := ∃ c d, cs = c ++ d ∧ Lay.R w B x.1 c ∧ Lay.R w B x.2 d
 size h := by obtain ⟨c, d, rfl, h1, h2⟩ := h; rw [List.length_append, Lay.size h1, Lay.size h2]
 one h u hu := by
   obtain ⟨c, d, rfl, h1, h2⟩ := h
   rcases List.mem_append.1 hu with hu | hu
   · exact Lay.one h1 u hu
   · exact Lay.one h2 u hu
 keep hs h := by obtain ⟨c, d, rfl, h1, h2⟩ := h; exact ⟨c, d, rfl, Lay.keep hs h1, Lay.keep hs h2⟩
 mono hB h := by obtain ⟨c, d, rfl, h1, h2⟩ := h; exact ⟨c, d, rfl, Lay.mono hB h1, Lay.mono hB h2⟩
@[reducible] def Lay.iso {α β : Type} [Lay β] (f : α → β) : Lay α where
 n := Lay.n β
 agg := true
 pos := Lay.pos
 R w B x cs := Lay.R w B (f x) cs
 size h := Lay.size h
 one h := Lay.one h
 keep hs h := Lay.keep hs h
 mono hB h := Lay.mono hB h
def isAgg : Value → Bool | .agg _ => true | _ => false
def V {α : Type} [Lay α] (w : World) (B : Nat → Prop) (x : α) (v : Value) : Prop := Lay.R w B x v.cells.toList ∧ isAgg v = Lay.agg α
section
variable {α : Type} [Lay α] {w w' : World} {B B' : Nat → Prop} {x : α} {v : Value}
theorem V.cells_eq (h : Lay.agg α = false) (k : V w B x v) : v.cells.toList = [v] := by
 have h2 := k.2
 rw [h] at h2
 cases v <;> simp_all [isAgg, Value.cells]
theorem V.agg_eq (h : Lay.agg α = true) (k : V w B x v) : ∃ cs, v = .agg cs ∧ Lay.R w B x cs.toList := by
 have h2 := k.2
 rw [h] at h2
 cases v <;> simp [isAgg] at h2
 exact ⟨_, rfl, k.1⟩
end
def Rd (P : Program) (t : TypeId) (α : Type) [Lay α] : Prop :=
 ∀ {H : Type} {enc : TypeId × Value → H} {w : World} {base : Nat} {spare : Nat → Bool} {held : Bool} {fuel : Nat} {cs : List Value} {y : DataW H × List MemPlace},
   DataW.trod enc P w base spare held fuel t cs = some y → ∃ x : α, Lay.R w (Lt w.heap.size) x cs
theorem rd_int {P : Program} {t : TypeId} (ht : P.underlying t = some (.int .i64)) : Rd P t Int := fun h => by
 obtain ⟨n, rfl, _, hw⟩ := DataW.trod_int ht h
 refine ⟨n, rfl, ?_⟩
 simpa [I64, Lit.wf, IntKind.min, IntKind.max, IntKind.signed, IntKind.bits] using hw
theorem rd_string {P : Program} {t : TypeId} (ht : P.underlying t = some .string) : Rd P t ByteArray := fun h => by
 obtain ⟨s, rfl, _, hs⟩ := DataW.trod_string ht h
 exact ⟨s, rfl, hs⟩
theorem cell_lt {w : World} {p : Addr} {u : Value} (h : w.cell? p = some u) : p.block < w.heap.size := by
 rcases Nat.lt_or_ge p.block w.heap.size with hlt | hge
 · exact hlt
 · unfold World.cell? at h
   rw [Array.getElem?_eq_none hge] at h
   simp at h
theorem choose_list {α : Type} {Q : Nat → α → Prop} : ∀ (n : Nat), (∀ i, i < n → ∃ x, Q i x) → ∃ xs : List α, xs.length = n ∧ ∀ i x, xs[i]? = some x → Q i x
 | 0, _ => ⟨[], rfl, by simp⟩
 | n + 1, h => by
   obtain ⟨xs, hl, hx⟩ := choose_list n (fun i hi => h i (by omega))
   obtain ⟨y, hy⟩ := h n (by omega)
   refine ⟨xs ++ [y], by simp [hl], fun i x hi => ?_⟩
   rcases Nat.lt_trichotomy i n with h1 | h1 | h1
   · rw [List.getElem?_append_left (by omega)] at hi; exact hx i x hi
   · subst h1; rw [List.getElem?_append_right (by omega)] at hi; simp [hl] at hi; subst hi; exact hy
   · rw [List.getElem?_eq_none (by simp; omega)] at hi; cases hi
theorem rd_slice {P : Program} {t e : TypeId} {α : Type} [Lay α] (ht : P.underlying t = some (.slice e)) (hc : P.cellsOf e = Lay.n α) (he : Rd P e α) : Rd P t (List α) := fun {H enc w base spare held fuel cs y} h => by
 rcases Deep.open_slice ht h with ⟨rfl, _⟩ | ⟨a, len, cap, m, n, D, Pl, rfl, _, hl, hm, hmm, _, hi⟩
 · exact ⟨[], none, 0, rfl, Nat.le_refl _, Nat.zero_le _, fun _ => rfl, Sl.nil⟩
 · have hlm : len ≤ m := by rw [hmm]; split <;> omega
   obtain ⟨xs, hxl, hx⟩ := choose_list (Q := fun i (x : α) => Lt w.heap.size a.block ∧ ∃ cs, Lay.R w (Lt w.heap.size) x cs ∧ ∀ j u, cs[j]? = some u → w.cell? (a.add (i * Lay.n α + j)) = some u) len (fun i hi' => by
     obtain ⟨cs', hcs, htr⟩ := hi i (by omega)
     obtain ⟨x, hx⟩ := he htr
     rw [hc] at hcs
     obtain ⟨_, hcl, hat⟩ := World.cells?_some hcs
     have hcell : ∀ j u, cs'[j]? = some u → w.cell? (a.add (i * Lay.n α + j)) = some u := fun j u hu => by
       have hj : j < Lay.n α := by rw [← Lay.size hx]; exact (List.getElem?_eq_some_iff.1 hu).1
       have := hat j hj
       rw [add_add] at this
       rw [this, hu]
     have h0 : 0 < cs'.length := by rw [Lay.size hx]; exact Lay.pos
     have := cell_lt (hcell 0 _ (List.getElem?_eq_getElem h0))
     rw [add_block] at this
     exact ⟨x, this, cs', hx, hcell⟩)
   refine ⟨xs, some a, cap, by rw [hxl], by omega, hm, (fun h => (by cases h)), fun k x hk => ?_⟩
   obtain ⟨hb, cs, h1, h2⟩ := hx k x hk
   exact ⟨a, cs, rfl, hb, h1, h2⟩
def RdF (P : Program) (fs : List Field) (off : Nat) (α : Type) [Lay α] : Prop :=
 ∀ {H : Type} {enc : TypeId × Value → H} {w : World} {base : Nat} {spare : Nat → Bool} {held : Bool} {fuel : Nat} {cs : List Value},
   (∀ f ∈ fs, ∃ y, DataW.trod enc P w base spare held fuel f.type ((cs.drop f.offset).take (P.cellsOf f.type)) = some y) → cs.length = off + Lay.n α → ∃ x : α, Lay.R w (Lt w.heap.size) x (cs.drop off)
theorem RdF.last {P : Program} {f : Field} {off : Nat} {α : Type} [Lay α] (h : Rd P f.type α) (ho : f.offset = off) (hc : P.cellsOf f.type = Lay.n α) : RdF P [f] off α := fun hf hl => by
 obtain ⟨y, hy⟩ := hf f (by simp)
 rw [ho, hc, List.take_of_length_le (by rw [List.length_drop, hl]; omega)] at hy
 exact h hy
theorem RdF.cons {P : Program} {f : Field} {fs : List Field} {off off' : Nat} {α β : Type} [Lay α] [Lay β] (h : Rd P f.type α) (ho : f.offset = off) (hc : P.cellsOf f.type = Lay.n α) (he : off' = off + Lay.n α) (k : RdF P fs off' β) : RdF P (f :: fs) off (α × β) := fun {H enc w base spare held fuel cs} hf hl => by
 obtain ⟨y, hy⟩ := hf f (by simp)
 rw [ho, hc] at hy
 obtain ⟨x, hx⟩ := h hy
 have hl' : cs.length = off + (Lay.n α + Lay.n β) := hl
 obtain ⟨z, hz⟩ := k (enc := enc) (w := w) (base := base) (spare := spare) (held := held) (fuel := fuel) (cs := cs) (fun g hg => hf g (by simp [hg])) (by rw [hl', he]; omega)
 refine ⟨(x, z), (cs.drop off).take (Lay.n α), cs.drop off', ?_, hx, hz⟩
 rw [he, ← List.drop_drop, List.take_append_drop]
theorem rd_struct {P : Program} {t : TypeId} {fs : Array Field} {α : Type} [Lay α] (ht : P.underlying t = some (.struct fs)) (hc : P.cellsOf t = Lay.n α) (h : RdF P fs.toList 0 α) : Rd P t α := fun {H enc w base spare held fuel cs y} hr => by
 obtain ⟨xs, n, _, _, hl, hxl, hf⟩ := DataW.trod_struct ht hr
 obtain ⟨x, hx⟩ := h (enc := enc) (w := w) (base := base) (spare := spare) (held := held) (fuel := n) (cs := cs) (fun f hfm => by
   obtain ⟨i, hi⟩ := List.getElem?_of_mem hfm
   have hi' : fs[i]? = some f := by simpa using hi
   have hlt : i < fs.size := (Array.getElem?_eq_some_iff.1 hi').1
   exact ⟨xs[i]'(by omega), by rw [hf i f hi']; exact List.getElem?_eq_getElem (by omega)⟩) (by rw [hl, hc]; omega)
 exact ⟨x, by simpa using hx⟩
theorem rd_iso {P : Program} {t : TypeId} {α β : Type} [Lay β] (f : α → β) (g : β → α) (hfg : ∀ y, f (g y) = y) (h : Rd P t β) : @Rd P t α (Lay.iso f) := fun hr => by
 obtain ⟨y, hy⟩ := h hr
 exact ⟨g y, by show Lay.R _ _ (f (g y)) _; rw [hfg]; exact hy⟩
theorem arg_of {P : Program} {H : Type} {enc : TypeId × Value → H} {w : World} {base : Nat} {spare : Nat → Bool} {held : Bool} {t : TypeId} {v : Value} {d : DataW H} {ps : List MemPlace} {α : Type} [Lay α] (h : Rd P t α) (hd : DataW.Trod enc P w base spare held t v d ps)
   (ha : isAgg v = Lay.agg α) : ∃ x : α, V w (Lt w.heap.size) x v := by
 obtain ⟨fuel, hf⟩ := hd
 obtain ⟨x, hx⟩ := h hf
 exact ⟨x, hx, ha⟩
theorem agg_string {P : Program} {w : World} {r : Reach} {b : Nat} {t : TypeId} {v : Value} (ht : P.underlying t = some .string) (h : Value.okWide P w r b t v) : isAgg v = false := by
 obtain ⟨n, rfl⟩ := WideShapes.okWide_string ht h; rfl
theorem agg_struct {P : Program} {w : World} {r : Reach} {b : Nat} {t : TypeId} {v : Value} {fs : Array Field} (ht : P.underlying t = some (.struct fs)) (h : Value.okWide P w r b t v) : isAgg v = true := by
 obtain ⟨cs, rfl, _⟩ := WideShapes.okWide_struct ht h; rfl
def Rs {α : Type} [Lay α] (w : World) (B : Nat → Prop) : List α → List Value → Prop
 | [], cs => cs = []
 | x :: xs, cs => ∃ c r, cs = c ++ r ∧ Lay.R w B x c ∧ Rs w B xs r
section
variable {α : Type} [Lay α] {w w' : World} {B B' : Nat → Prop}
end
def Blk (w : World) (g : Nat) (t : TypeId) (cs : List Value) : Prop := w.heap[g]? = some (.cells cs.toArray t (0, 0))
section
variable {w w' : World} {g : Nat} {t : TypeId} {cs : List Value}
end
class Flat (α : Type) [Lay α] : Prop where
 flat : ∀ {w w' : World} {B B' : Nat → Prop} {x : α} {cs : List Value}, Lay.R w B x cs → Lay.R w' B' x cs
instance : Flat Int := ⟨fun h => h⟩
instance : Flat Bool := ⟨fun h => h⟩
instance : Flat UInt8 := ⟨fun h => h⟩
instance : Flat ByteArray := ⟨fun h => h⟩
instance {α β : Type} [Lay α] [Lay β] [Flat α] [Flat β] : Flat (α × β) := ⟨fun h => by obtain ⟨c, d, rfl, h1, h2⟩ := h; exact ⟨c, d, rfl, Flat.flat h1, Flat.flat h2⟩⟩
theorem Flat.iso {α β : Type} [Lay β] [Flat β] (f : α → β) : @Flat α (Lay.iso f) := @Flat.mk α (Lay.iso f) (fun h => Flat.flat (α := β) h)
def Src {α : Type} [Lay α] (w : World) (B : Nat → Prop) (A : Option Addr) (ys : List α) : Prop :=
 ∃ news, Rs w B ys news ∧ (ys ≠ [] → A ≠ none) ∧ ∀ ad, A = some ad → ∀ j u, news[j]? = some u → w.cell? (ad.add j) = some u
structure Elem (P : Program) (t e : TypeId) (bytes : Nat) (α : Type) [Lay α] : Prop where
 ty : P.underlying t = some (.slice e)
 small : bytes ≤ 4096
 info : ∃ i z, P.info? e = some i ∧ i.zero = some z ∧ i.size = Lay.n α ∧ i.bytes = bytes ∧ z.cells.size = Lay.n α
section
variable {α : Type} [Lay α] {base : Nat} {e : TypeId} {w w' : World} {B : Nat → Prop} {v : Value} {xs : List α}
end
section
variable {P : Program} (w : World)
end
structure Late (w : World) where
 val : World
 below : Below w.heap.size w val
instance {w : World} : Nonempty (Late w) := ⟨⟨w, Below.refl _ _⟩⟩
end Go.Proofs.YtjngkfdclcgfhaaGreatDoor
end
section
namespace Go.Proofs.YtjngkfdclcgfhaaGreatDoor
open Go.RowKit
theorem int_inv {w : World} {B : Nat → Prop} {x : Int} {cs : List Value} (h : Lay.R w B x cs) : cs = [.int .i64 x] ∧ I64 x := h
theorem bool_inv {w : World} {B : Nat → Prop} {x : Bool} {cs : List Value} (h : Lay.R w B x cs) : cs = [.bool x] := h
structure Res where
 cpu : Int
 mem : Int
 gpu : Int
 lic : Int
def Res.pr (x : Res) : Int × Int × Int × Int := (x.cpu, x.mem, x.gpu, x.lic)
def Res.of (y : Int × Int × Int × Int) : Res := ⟨y.1, y.2.1, y.2.2.1, y.2.2.2⟩
instance : Lay Res := Lay.iso Res.pr
theorem rd_Res : Rd Tryz.prog 41 Res := rd_iso Res.pr Res.of (fun _ => rfl) (rd_struct Tryz.underlying41 (by kernel_rfl) (RdF.cons (rd_int Tryz.underlying3) rfl (by kernel_rfl) rfl (RdF.cons (rd_int Tryz.underlying3) rfl (by kernel_rfl) rfl (RdF.cons (rd_int Tryz.underlying3) rfl (by kernel_rfl) rfl (RdF.last (rd_int Tryz.underlying3) rfl (by kernel_rfl))))))
structure Dep where
 job : Int
 ok : Bool
def Dep.pr (x : Dep) : Int × Bool := (x.job, x.ok)
def Dep.of (y : Int × Bool) : Dep := ⟨y.1, y.2⟩
instance : Lay Dep := Lay.iso Dep.pr
structure Queue where
 part : Int
 users : (List Int)
 maxJobs : Int
 maxRun : Int
 maxUser : Int
 qos : Int
def Queue.pr (x : Queue) : Int × (List Int) × Int × Int × Int × Int := (x.part, x.users, x.maxJobs, x.maxRun, x.maxUser, x.qos)
def Queue.of (y : Int × (List Int) × Int × Int × Int × Int) : Queue := ⟨y.1, y.2.1, y.2.2.1, y.2.2.2.1, y.2.2.2.2.1, y.2.2.2.2.2⟩
instance : Lay Queue := Lay.iso Queue.pr
theorem rd_Queue : Rd Tryz.prog 45 Queue := rd_iso Queue.pr Queue.of (fun _ => rfl) (rd_struct Tryz.underlying45 (by kernel_rfl) (RdF.cons (rd_int Tryz.underlying3) rfl (by kernel_rfl) rfl (RdF.cons (rd_slice Tryz.underlying43 (by kernel_rfl) (rd_int Tryz.underlying3)) rfl (by kernel_rfl) rfl (RdF.cons (rd_int Tryz.underlying3) rfl (by kernel_rfl) rfl (RdF.cons (rd_int Tryz.underlying3) rfl (by kernel_rfl) rfl (RdF.cons (rd_int Tryz.underlying3) rfl (by kernel_rfl) rfl (RdF.last (rd_int Tryz.underlying3) rfl (by kernel_rfl))))))))
structure Weights where
 age : Int
 size : Int
 qos : Int
 share : Int
def Weights.pr (x : Weights) : Int × Int × Int × Int := (x.age, x.size, x.qos, x.share)
def Weights.of (y : Int × Int × Int × Int) : Weights := ⟨y.1, y.2.1, y.2.2.1, y.2.2.2⟩
instance : Lay Weights := Lay.iso Weights.pr
theorem rd_Weights : Rd Tryz.prog 26 Weights := rd_iso Weights.pr Weights.of (fun _ => rfl) (rd_struct Tryz.underlying26 (by kernel_rfl) (RdF.cons (rd_int Tryz.underlying3) rfl (by kernel_rfl) rfl (RdF.cons (rd_int Tryz.underlying3) rfl (by kernel_rfl) rfl (RdF.cons (rd_int Tryz.underlying3) rfl (by kernel_rfl) rfl (RdF.last (rd_int Tryz.underlying3) rfl (by kernel_rfl))))))
structure Spec where
 nodes : (List Res)
 parts : (List (List Int))
 queues : (List Queue)
 users : Int
 weights : Weights
 decay : Int
 mode : Int
 jobs : Int
 ids : Int
 versions : Int
 linger : Int
 keep : Int
 inn : Int
 out : Int
 cache : Int
def Spec.pr (x : Spec) : (List Res) × (List (List Int)) × (List Queue) × Int × Weights × Int × Int × Int × Int × Int × Int × Int × Int × Int × Int := (x.nodes, x.parts, x.queues, x.users, x.weights, x.decay, x.mode, x.jobs, x.ids, x.versions, x.linger, x.keep, x.inn, x.out, x.cache)
def Spec.of (y : (List Res) × (List (List Int)) × (List Queue) × Int × Weights × Int × Int × Int × Int × Int × Int × Int × Int × Int × Int) : Spec := ⟨y.1, y.2.1, y.2.2.1, y.2.2.2.1, y.2.2.2.2.1, y.2.2.2.2.2.1, y.2.2.2.2.2.2.1, y.2.2.2.2.2.2.2.1, y.2.2.2.2.2.2.2.2.1, y.2.2.2.2.2.2.2.2.2.1, y.2.2.2.2.2.2.2.2.2.2.1, y.2.2.2.2.2.2.2.2.2.2.2.1, y.2.2.2.2.2.2.2.2.2.2.2.2.1, y.2.2.2.2.2.2.2.2.2.2.2.2.2.1, y.2.2.2.2.2.2.2.2.2.2.2.2.2.2⟩
instance : Lay Spec := Lay.iso Spec.pr
theorem rd_Spec : Rd Tryz.prog 28 Spec := rd_iso Spec.pr Spec.of (fun _ => rfl) (rd_struct Tryz.underlying28 (by kernel_rfl) (RdF.cons (rd_slice Tryz.underlying22 (by kernel_rfl) rd_Res) rfl (by kernel_rfl) rfl (RdF.cons (rd_slice Tryz.underlying23 (by kernel_rfl) (rd_slice Tryz.underlying43 (by kernel_rfl) (rd_int Tryz.underlying3))) rfl (by kernel_rfl) rfl (RdF.cons (rd_slice Tryz.underlying24 (by kernel_rfl) rd_Queue) rfl (by kernel_rfl) rfl (RdF.cons (rd_int Tryz.underlying3) rfl (by kernel_rfl) rfl (RdF.cons rd_Weights rfl (by kernel_rfl) rfl (RdF.cons (rd_int Tryz.underlying3) rfl (by kernel_rfl) rfl (RdF.cons (rd_int Tryz.underlying3) rfl (by kernel_rfl) rfl (RdF.cons (rd_int Tryz.underlying3) rfl (by kernel_rfl) rfl (RdF.cons (rd_int Tryz.underlying3) rfl (by kernel_rfl) rfl (RdF.cons (rd_int Tryz.underlying3) rfl (by kernel_rfl) rfl (RdF.cons (rd_int Tryz.underlying3) rfl (by kernel_rfl) rfl (RdF.cons (rd_int Tryz.underlying3) rfl (by kernel_rfl) rfl (RdF.cons (rd_int Tryz.underlying3) rfl (by kernel_rfl) rfl (RdF.cons (rd_int Tryz.underlying3) rfl (by kernel_rfl) rfl (RdF.last (rd_int Tryz.underlying3) rfl (by kernel_rfl)))))))))))))))))
structure Job where
 id : Int
 user : Int
 queue : Int
 many : Int
 need : Res
 wall : Int
 after : (List Dep)
 state : Int
 ok : Bool
 kill : Bool
 version : Int
 born : Int
 start : Int
 fin : Int
 array : Int
def Job.pr (x : Job) : Int × Int × Int × Int × Res × Int × (List Dep) × Int × Bool × Bool × Int × Int × Int × Int × Int := (x.id, x.user, x.queue, x.many, x.need, x.wall, x.after, x.state, x.ok, x.kill, x.version, x.born, x.start, x.fin, x.array)
def Job.of (y : Int × Int × Int × Int × Res × Int × (List Dep) × Int × Bool × Bool × Int × Int × Int × Int × Int) : Job := ⟨y.1, y.2.1, y.2.2.1, y.2.2.2.1, y.2.2.2.2.1, y.2.2.2.2.2.1, y.2.2.2.2.2.2.1, y.2.2.2.2.2.2.2.1, y.2.2.2.2.2.2.2.2.1, y.2.2.2.2.2.2.2.2.2.1, y.2.2.2.2.2.2.2.2.2.2.1, y.2.2.2.2.2.2.2.2.2.2.2.1, y.2.2.2.2.2.2.2.2.2.2.2.2.1, y.2.2.2.2.2.2.2.2.2.2.2.2.2.1, y.2.2.2.2.2.2.2.2.2.2.2.2.2.2⟩
instance : Lay Job := Lay.iso Job.pr
structure Share where
 node : Int
 many : Int
def Share.pr (x : Share) : Int × Int := (x.node, x.many)
def Share.of (y : Int × Int) : Share := ⟨y.1, y.2⟩
instance : Lay Share := Lay.iso Share.pr
structure Alloc where
 job : Int
 need : Res
 shares : (List Share)
def Alloc.pr (x : Alloc) : Int × Res × (List Share) := (x.job, x.need, x.shares)
def Alloc.of (y : Int × Res × (List Share)) : Alloc := ⟨y.1, y.2.1, y.2.2⟩
instance : Lay Alloc := Lay.iso Alloc.pr
structure Run where
 need : Res
 shares : (List Share)
 til : Int
def Run.pr (x : Run) : Res × (List Share) × Int := (x.need, x.shares, x.til)
def Run.of (y : Res × (List Share) × Int) : Run := ⟨y.1, y.2.1, y.2.2⟩
instance : Lay Run := Lay.iso Run.pr
structure Booking where
 id : Int
 node : Int
 fro : Int
 to : Int
def Booking.pr (x : Booking) : Int × Int × Int × Int := (x.id, x.node, x.fro, x.to)
def Booking.of (y : Int × Int × Int × Int) : Booking := ⟨y.1, y.2.1, y.2.2.1, y.2.2.2⟩
instance : Lay Booking := Lay.iso Booking.pr
structure Step where
 at_ : Int
 free : Res
def Step.pr (x : Step) : Int × Res := (x.at_, x.free)
def Step.of (y : Int × Res) : Step := ⟨y.1, y.2⟩
instance : Lay Step := Lay.iso Step.pr
structure Request where
 kind : Int
 key : Int
 job : Int
 version : Int
 queue : Int
 many : Int
 need : Res
 wall : Int
 tasks : Int
 after : (List Dep)
 node : Int
 fro : Int
 to : Int
 id : Int
def Request.pr (x : Request) : Int × Int × Int × Int × Int × Int × Res × Int × Int × (List Dep) × Int × Int × Int × Int := (x.kind, x.key, x.job, x.version, x.queue, x.many, x.need, x.wall, x.tasks, x.after, x.node, x.fro, x.to, x.id)
def Request.of (y : Int × Int × Int × Int × Int × Int × Res × Int × Int × (List Dep) × Int × Int × Int × Int) : Request := ⟨y.1, y.2.1, y.2.2.1, y.2.2.2.1, y.2.2.2.2.1, y.2.2.2.2.2.1, y.2.2.2.2.2.2.1, y.2.2.2.2.2.2.2.1, y.2.2.2.2.2.2.2.2.1, y.2.2.2.2.2.2.2.2.2.1, y.2.2.2.2.2.2.2.2.2.2.1, y.2.2.2.2.2.2.2.2.2.2.2.1, y.2.2.2.2.2.2.2.2.2.2.2.2.1, y.2.2.2.2.2.2.2.2.2.2.2.2.2⟩
instance : Lay Request := Lay.iso Request.pr
structure Reply where
 key : Int
 err : Int
 job : Int
 version : Int
 nums : (List Int)
def Reply.pr (x : Reply) : Int × Int × Int × Int × (List Int) := (x.key, x.err, x.job, x.version, x.nums)
def Reply.of (y : Int × Int × Int × Int × (List Int)) : Reply := ⟨y.1, y.2.1, y.2.2.1, y.2.2.2.1, y.2.2.2.2⟩
instance : Lay Reply := Lay.iso Reply.pr
structure Call where
 user : Int
 request : Request
def Call.pr (x : Call) : Int × Request := (x.user, x.request)
def Call.of (y : Int × Request) : Call := ⟨y.1, y.2⟩
instance : Lay Call := Lay.iso Call.pr
structure Entry where
 kind : Int
 user : Int
 request : Request
 reply : Reply
 job : Int
 ok : Bool
def Entry.pr (x : Entry) : Int × Int × Request × Reply × Int × Bool := (x.kind, x.user, x.request, x.reply, x.job, x.ok)
def Entry.of (y : Int × Int × Request × Reply × Int × Bool) : Entry := ⟨y.1, y.2.1, y.2.2.1, y.2.2.2.1, y.2.2.2.2.1, y.2.2.2.2.2⟩
instance : Lay Entry := Lay.iso Entry.pr
structure Event where
 kind : Int
 user : Int
 request : Request
 bytes : (List UInt8)
 n : Int
 keep : Bool
 job : Int
 ok : Bool
def Event.pr (x : Event) : Int × Int × Request × (List UInt8) × Int × Bool × Int × Bool := (x.kind, x.user, x.request, x.bytes, x.n, x.keep, x.job, x.ok)
instance : Lay Event := Lay.iso Event.pr
end Go.Proofs.YtjngkfdclcgfhaaGreatDoor
end
section
namespace Go.Proofs.YtjngkfdclcgfhaaGreatDoor
open AM
class Enc (α : Type) [Lay α] where
 cells : α → List AVal
 ok : ∀ {w : World} {B S : Nat → Prop} {x : α} {cs : List Value}, Lay.R w B x cs → (∀ b, B b → S b) → cs.length = (cells x).length ∧ ∀ (j : Nat) (c : AVal) (v : Value), (cells x)[j]? = some c → cs[j]? = some v → IR w S c v
theorem one_cell {w : World} {S : Nat → Prop} {c : AVal} {v : Value} (h : IR w S c v) : [v].length = [c].length ∧ ∀ (j : Nat) (c' : AVal) (v' : Value), [c][j]? = some c' → [v][j]? = some v' → IR w S c' v' := by
 refine ⟨rfl, fun j c' v' hj hv => ?_⟩
 cases j with
 | zero => simp at hj hv; subst hj; subst hv; exact h
 | succ j => simp at hj
instance : Enc Int where
 cells x := [.int .i64 x]
 ok h _ := by rw [h.1]; exact one_cell (.int _ _)
instance : Enc Bool where
 cells x := [.bool x]
 ok h _ := by
   have h : _ = _ := h
   rw [h]; exact one_cell (.bool _)
instance : Enc UInt8 where
 cells x := [.int .u8 (x.toNat : Int)]
 ok h _ := by
   have h : _ = _ := h
   rw [h]; exact one_cell (.int _ _)
instance : Enc ByteArray where
 cells x := [.str x.data.toList]
 ok h _ := by rw [h.1]; exact one_cell (.str _)
instance {α : Type} [Lay α] [Enc α] : Enc (List α) where
 cells xs := [.imm (Lay.n α) (xs.map Enc.cells)]
 ok {w B S xs cs} h hS := by
   obtain ⟨A, c, rfl, hlc, hcm, hn, hsl⟩ := h
   have key : IR w S (.imm (Lay.n α) (xs.map Enc.cells)) (.slice A (xs.map (Enc.cells (α := α))).length c) := by
     refine .imm _ _ A c (fun i j => (match A with | some ad => (w.cell? (ad.add (i * Lay.n α + j))).getD undef | none => undef)) (by simpa using hlc) hn (fun i x hi => ?_) (fun i x j cc hi hj => ?_) (fun i x j cc hi hj => ?_)
     · rw [List.getElem?_map] at hi
       simp only [Option.map_eq_some_iff] at hi
       obtain ⟨y, hy, rfl⟩ := hi
       obtain ⟨ad, cs, _, _, hr, _⟩ := hsl i y hy
       rw [← (Enc.ok hr hS).1, Lay.size hr]
     · rw [List.getElem?_map] at hi
       simp only [Option.map_eq_some_iff] at hi
       obtain ⟨y, hy, rfl⟩ := hi
       obtain ⟨ad, cs, rfl, hb, hr, hcell⟩ := hsl i y hy
       have hl := (Enc.ok hr hS).1
       have hjl := (List.getElem?_eq_some_iff.1 hj).1
       have hlen := (List.getElem?_eq_some_iff.1 hy).1
       -- the first element shows that the address is plain
       obtain ⟨ad', cs', had, _, hr', hcell'⟩ := hsl 0 xs[0] (List.getElem?_eq_getElem (by omega))
       cases had
       have h0 : 0 < cs'.length := by rw [Lay.size hr']; exact Lay.pos
       have hplain := hcell' 0 cs'[0] (List.getElem?_eq_getElem h0)
       have hspot : ad.spot = none := by
         cases hsp : ad.spot with
         | none => rfl
         | some q =>
           exfalso
           simp only [Nat.zero_mul, Nat.add_zero, Addr.add, if_true, World.cell?] at hplain
           split at hplain
           · rw [hsp] at hplain; simp at hplain
           · cases hplain
       have hadd : ∀ n, ad.add n = ⟨ad.block, ad.off + n, none⟩ := fun n => by
         obtain ⟨b, o, s⟩ := ad
         simp only at hspot
         subst hspot
         exact add_mk b o n
       have hu := hcell j (cs[j]'(by omega)) (List.getElem?_eq_getElem _)
       refine ⟨ad.block, ad.off, by obtain ⟨b, o, s⟩ := ad; simp only at hspot; subst hspot; rfl, hS _ hb, ?_⟩
       simp only
       rw [← hadd, hu]
       rfl
     · rw [List.getElem?_map] at hi
       simp only [Option.map_eq_some_iff] at hi
       obtain ⟨y, hy, rfl⟩ := hi
       obtain ⟨ad, cs, rfl, hb, hr, hcell⟩ := hsl i y hy
       obtain ⟨hl, hir⟩ := Enc.ok hr hS
       have hjl := (List.getElem?_eq_some_iff.1 hj).1
       have hcs : cs[j]? = some (cs[j]'(by omega)) := List.getElem?_eq_getElem _
       simp only
       rw [hcell j _ hcs]
       exact hir j cc _ hj hcs
   rw [List.length_map] at key
   exact one_cell key
instance {α β : Type} [Lay α] [Lay β] [Enc α] [Enc β] : Enc (α × β) where
 cells x := Enc.cells x.1 ++ Enc.cells x.2
 ok h hS := by
   obtain ⟨c, d, rfl, h1, h2⟩ := h
   obtain ⟨l1, r1⟩ := Enc.ok h1 hS
   obtain ⟨l2, r2⟩ := Enc.ok h2 hS
   refine ⟨by simp [l1, l2], fun j a v hj hv => ?_⟩
   rw [List.getElem?_append] at hj hv
   rw [l1] at hv
   split at hj
   · rename_i hlt; rw [if_pos hlt] at hv; exact r1 j a v hj hv
   · rename_i hlt; rw [if_neg hlt] at hv; exact r2 _ a v hj hv
@[reducible] def Enc.iso {α β : Type} [Lay β] [Enc β] (f : α → β) : @Enc α (Lay.iso f) :=
 @Enc.mk α (Lay.iso f) (fun x => Enc.cells (f x)) (fun h hS => Enc.ok (α := β) h hS)
instance : Enc Res := Enc.iso Res.pr
instance : Enc Dep := Enc.iso Dep.pr
instance : Enc Queue := Enc.iso Queue.pr
instance : Enc Weights := Enc.iso Weights.pr
instance : Enc Spec := Enc.iso Spec.pr
instance : Enc Job := Enc.iso Job.pr
instance : Enc Share := Enc.iso Share.pr
instance : Enc Alloc := Enc.iso Alloc.pr
instance : Enc Run := Enc.iso Run.pr
instance : Enc Booking := Enc.iso Booking.pr
instance : Enc Step := Enc.iso Step.pr
instance : Enc Request := Enc.iso Request.pr
instance : Enc Reply := Enc.iso Reply.pr
instance : Enc Call := Enc.iso Call.pr
instance : Enc Entry := Enc.iso Entry.pr
instance : Enc Event := Enc.iso Event.pr
def encV {α : Type} [Lay α] [Enc α] (x : α) : AVal := if Lay.agg α then .agg (Enc.cells x) else (Enc.cells x).headD .undef
theorem V.vr {α : Type} [Lay α] [Enc α] {w : World} {B S : Nat → Prop} {x : α} {v : Value} (h : V w B x v) (hS : ∀ b, B b → S b) (μ : Nat → AM.Loc) : VR μ w S (encV x) v := by
 obtain ⟨hl, hr⟩ := Enc.ok h.1 hS
 unfold encV
 split
 · rename_i ha
   obtain ⟨cs, rfl, hR⟩ := h.agg_eq ha
   exact .agg _ cs (by simpa [Value.cells] using hl.symm) fun j c u hj hu => .imm _ _ (hr j c u hj (by simpa [Value.cells] using hu))
 · rename_i ha
   have hc := h.cells_eq (by simpa using ha)
   rw [hc] at hl hr
   match hx : Enc.cells x, hl, hr with
   | [c], _, hr => exact .imm _ _ (hr 0 c v rfl rfl)
end Go.Proofs.YtjngkfdclcgfhaaGreatDoor
end
