/-
  What the proof of SpecTexts leans on, part 3. (Many texts laid together by program.)
-/
import Derived.Test.YtjngkfdclcgfhaaGreatDoorPkTb
import Derived.Laws.Tables
set_option linter.unnecessarySimpa false
set_option linter.unusedSimpArgs false
set_option linter.unusedVariables false
section
namespace Go.Proofs.YtjngkfdclcgfhaaGreatDoor
namespace AM
section
variable {P : Program} {μ : Nat → Loc} {w : World} {S : Nat → Prop}
def Cells (μ : Nat → Loc) (w : World) (S : Nat → Prop) (cs : List AVal) (a : Array Value) : Prop :=
 cs.length = a.size ∧ ∀ (j : Nat) (c : AVal) (v : Value), cs[j]? = some c → a[j]? = some v → VR μ w S c v
theorem Cells.vr {cs : List AVal} {a : Array Value} (h : Cells μ w S cs a) : VR μ w S (.agg cs) (.agg a) := .agg cs a h.1 h.2
theorem Cells.get {cs : List AVal} {a : Array Value} (h : Cells μ w S cs a) {j : Nat} {c : AVal} (hj : cs[j]? = some c) : ∃ v, a[j]? = some v ∧ VR μ w S c v := by
 have hl := (List.getElem?_eq_some_iff.1 hj).1
 rw [h.1] at hl
 exact ⟨a[j], by simp [hl], h.2 j c _ hj (by simp [hl])⟩
def laid (cells : Array Value) (off : Nat) (vs : List Value) : Array Value := (vs.zipIdx).foldl (fun cs (p : Value × Nat) => cs.setIfInBounds (off + p.2) p.1) cells
theorem laid_go (off : Nat) : ∀ (vs : List Value) (s : Nat) (cells : Array Value),
   ((vs.zipIdx s).foldl (fun cs (p : Value × Nat) => cs.setIfInBounds (off + p.2) p.1) cells).size = cells.size ∧
   ∀ i, ((vs.zipIdx s).foldl (fun cs (p : Value × Nat) => cs.setIfInBounds (off + p.2) p.1) cells)[i]? =
     if off + s ≤ i ∧ i < off + s + vs.length ∧ i < cells.size then vs[i - (off + s)]? else cells[i]?
 | [], s, cells => ⟨rfl, fun i => by simp; intro h1 h2; omega⟩
 | v :: vs, s, cells => by
   obtain ⟨h1, h2⟩ := laid_go off vs (s + 1) (cells.setIfInBounds (off + s) v)
   refine ⟨by simpa using h1, fun i => ?_⟩
   have h3 := h2 i
   simp only [List.zipIdx_cons, List.foldl_cons]
   rw [h3, Array.getElem?_setIfInBounds]
   have hsz : (cells.setIfInBounds (off + s) v).size = cells.size := by simp
   rw [hsz]
   by_cases hi : i < cells.size
   · by_cases ha : off + s = i
     · subst ha
       rw [if_neg (by omega), if_pos rfl, if_pos hi, if_pos (by simp; omega)]
       simp
     · rw [if_neg ha]
       by_cases hb : off + (s + 1) ≤ i ∧ i < off + (s + 1) + vs.length ∧ i < cells.size
       · rw [if_pos hb, if_pos (by rw [List.length_cons]; omega), show i - (off + s) = (i - (off + (s + 1))) + 1 by omega]
         simp
       · rw [if_neg hb, if_neg (by rw [List.length_cons]; omega)]
   · have hc : cells[i]? = none := Array.getElem?_eq_none (by omega)
     rw [if_neg (by omega), hc]
     have hr : (if off + s ≤ i ∧ i < off + s + (v :: vs).length ∧ i < cells.size then (v :: vs)[i - (off + s)]? else none) = none := if_neg fun h => hi h.2.2
     rw [hr]
     split
     · split
       · exfalso; omega
       · rfl
     · rfl
theorem laid_size (cells : Array Value) (off : Nat) (vs : List Value) : (laid cells off vs).size = cells.size := (laid_go off vs 0 cells).1
theorem laid_get (cells : Array Value) (off : Nat) (vs : List Value) (h : off + vs.length ≤ cells.size) (i : Nat) :
   (laid cells off vs)[i]? = if off ≤ i ∧ i < off + vs.length then vs[i - off]? else cells[i]? := by
 have := (laid_go off vs 0 cells).2 i
 unfold laid
 rw [this]
 by_cases hi : off ≤ i ∧ i < off + vs.length
 · rw [if_pos hi, if_pos (by simp; omega)]; simp
 · rw [if_neg hi, if_neg (by simp; omega)]
theorem putAt_length {cs vs : List AVal} {off : Nat} (h : off + vs.length ≤ cs.length) : (putAt cs off vs).length = cs.length := by
 simp [putAt]; omega
theorem putAt_get {cs vs : List AVal} {off : Nat} (h : off + vs.length ≤ cs.length) (i : Nat) : (putAt cs off vs)[i]? = if off ≤ i ∧ i < off + vs.length then vs[i - off]? else cs[i]? := by
 unfold putAt
 by_cases h1 : i < off
 · rw [List.append_assoc, List.getElem?_append_left (by simp; omega), List.getElem?_take, if_pos h1, if_neg (by omega)]
 · by_cases h2 : i < off + vs.length
   · rw [if_pos (by omega), List.append_assoc, List.getElem?_append_right (by simp; omega), List.getElem?_append_left (by simp; omega)]
     congr 1; simp; omega
   · rw [if_neg (by omega), List.getElem?_append_right (by simp; omega), List.getElem?_drop]
     congr 1; simp; omega
theorem Cells.put {cs vs : List AVal} {a b : Array Value} {off : Nat} (h : Cells μ w S cs a) (k : Cells μ w S vs b) (hl : off + vs.length ≤ cs.length) :
   Cells μ w S (putAt cs off vs) (laid a off b.toList) := by
 have hb : b.toList.length = vs.length := by simp [k.1]
 refine ⟨by rw [putAt_length hl, laid_size, h.1], fun j c v hj hv => ?_⟩
 rw [putAt_get hl] at hj
 rw [laid_get a off b.toList (by rw [hb, ← h.1]; exact hl), hb] at hv
 split at hj
 · rename_i hc; rw [if_pos hc] at hv; exact k.2 _ c v hj (by simpa using hv)
 · rename_i hc; rw [if_neg hc] at hv; exact h.2 _ c v hj hv
theorem Cells.of {c : AVal} {v : Value} (h : VR μ w S c v) (hc : (cellsOf c).all AVal.cellB = true) : Cells μ w S (cellsOf c) v.cells :=
 ⟨(h.cells hc).1.symm, fun j x u hj hu => (h.cells hc).2 j x u hj hu⟩
theorem fill_cons (place : Nat → Option (Nat × Nat)) (cells : Array Value) (i off size : Nat) (v : Value) (rest : List (Nat × Value)) (hp : place i = some (off, size)) (hs : v.cells.size = size) (hl : off + size ≤ cells.size) :
   Instr.fill place cells ((i, v) :: rest) = Instr.fill place (laid cells off v.cells.toList) rest := by
 rw [Instr.fill]
 simp only [hp]
 rw [if_neg (by simp; omega)]
 congr 1
 unfold laid
 rw [← Array.foldl_toList, Array.toList_zipIdx]
theorem fillP_sound {ρ : Operand → Value} {r : Opd → AVal} (hρ : ∀ x y, chkOpd x y = true → VR μ w S (r y) (ρ x)) (place : Nat → Option (Nat × Nat)) :
   ∀ (parts : List (Nat × Operand)) (ps : List (Nat × Nat × Opd)) (cs out : List AVal) (a : Array Value),
     all2 (fun (p : Nat × Operand) (q : Nat × Nat × Opd) => decide (place p.1 = some (q.1, q.2.1)) && chkOpd p.2 q.2.2) parts ps = true → Cells μ w S cs a → fillP r cs ps = some out →
     ∃ b, Instr.fill place a (parts.map fun p => (p.1, ρ p.2)) = some b ∧ Cells μ w S out b
 | [], [], cs, out, a, _, h, hf => by simp [fillP] at hf; subst hf; exact ⟨a, rfl, h⟩
 | p :: parts, q :: ps, cs, out, a, hc, h, hf => by
   obtain ⟨off, n, x⟩ := q
   simp [all2] at hc
   obtain ⟨⟨hp, hx⟩, hrest⟩ := hc
   simp only [fillP] at hf
   split at hf
   · rename_i hcond
     obtain ⟨h1, h2, h3⟩ := hcond
     have hv := Cells.of (hρ _ _ hx) h3
     have hput := h.put hv (off := off) (by rw [h1]; exact h2)
     obtain ⟨b, hb, hcb⟩ := fillP_sound hρ place parts ps _ out _ (by simpa using hrest) hput hf
     refine ⟨b, ?_, hcb⟩
     rw [List.map_cons, fill_cons place a p.1 off n (ρ p.2) _ hp (by rw [← hv.1]; exact h1) (by rw [← h.1]; exact h2)]
     exact hb
   · cases hf
 | [], q :: ps, _, _, _, hc, _, _ => by simp [all2] at hc
 | p :: parts, [], _, _, _, hc, _, _ => by simp [all2] at hc
theorem zeroB_inv {t : TypeId} {zs : List AVal} (h : zeroB P t zs = true) : ∃ i z, P.info? t = some i ∧ i.zero = some z ∧ i.size = zs.length ∧ ∀ (μ : Nat → Loc) (w : World) (S : Nat → Prop), Cells μ w S zs z.cells := by
 unfold zeroB at h
 split at h
 · rename_i i hi
   split at h
   · rename_i z hz
     simp only [Bool.and_eq_true, beq_iff_eq] at h
     exact ⟨i, z, hi, hz, h.2, fun μ w S => ⟨by simpa using all2_length h.1, fun j c v hj hv => .imm _ _ (.of_constB (all2_get h.1 j c v hj (by simpa using hv)))⟩⟩
   · cases h
 · cases h
theorem szB_inv {t : TypeId} {n : Nat} (h : szB P t n = true) : ∃ i, P.info? t = some i ∧ i.size = n := by
 unfold szB at h
 split at h
 · rename_i i hi; exact ⟨i, hi, by simpa using h⟩
 · cases h
theorem aggB_inv {t : TypeId} {b : Bool} (h : aggB P t b = true) : ∃ d, P.underlying t = some d ∧ isAggD d = b := by
 unfold aggB at h
 split at h
 · rename_i d hd; exact ⟨d, hd, by simpa using h⟩
 · cases h
theorem run_isAgg {t : TypeId} {b : Bool} (h : aggB P t b = true) (w : World) : (isAgg t).run P w = .ok b w := by
 obtain ⟨d, hd, hb⟩ := aggB_inv h
 cases d <;> simp [isAggD] at hb <;> subst hb <;> simp [isAgg, run_underlying hd]
theorem run_sizeOf {t : TypeId} {n : Nat} (h : szB P t n = true) (w : World) : (sizeOf t).run P w = .ok n w := by
 obtain ⟨i, hi, rfl⟩ := szB_inv h
 simp [sizeOf, typeInfo, hi]
theorem part_sound {t : TypeId} {agg : Bool} {off n : Nat} {cs : List AVal} {a : Array Value} {v : AVal} (hs : szB P t n = true) (ha : aggB P t agg = true) (h : Cells μ w S cs a) (hv : partOf agg cs off n = some v) :
   ∃ cv, (part t a off).run P w = .ok cv w ∧ VR μ w S v cv := by
 unfold partOf at hv
 split at hv
 · rename_i hl
   cases agg with
   | true =>
     simp at hv
     subst hv
     refine ⟨.agg (a.extract off (off + n)), by simp [part, run_isAgg ha, run_sizeOf hs], .agg _ _ ?_ ?_⟩
     · have := h.1; simp; omega
     · intro j c u hj hu
       rw [List.getElem?_take] at hj
       split at hj
       · rename_i hjn
         rw [List.getElem?_drop] at hj
         rw [Array.getElem?_extract] at hu
         split at hu
         · exact h.2 _ c u hj hu
         · cases hu
       · cases hj
   | false =>
     simp at hv
     obtain ⟨rfl, hv⟩ := hv
     obtain ⟨u, hu, hr⟩ := h.get hv
     exact ⟨u, by simp [part, run_isAgg ha, hu], hr⟩
 · cases hv
theorem run_bound {v : Value} {k : IntKind} {n y : Nat} {code : BoundsCode} (hv : v = .int k (n : Int)) (h : n ≤ y) : (Instr.sliceBound v y code).run P w = .ok n w := by
 subst hv
 simp [Instr.sliceBound, asIntOf, h]
theorem run_bounds {isSl : Bool} {len cap l h m : Nat} {low high max : Option Value}
   (hl : (low = none ∧ l = 0) ∨ ∃ k, low = some (.int k (l : Int))) (hh : (high = none ∧ max = none ∧ h = len) ∨ ∃ k, high = some (.int k (h : Int)))
   (hm : (max = none ∧ m = cap) ∨ ∃ k, max = some (.int k (m : Int))) (h1 : l ≤ h) (h2 : h ≤ m) (h3 : m ≤ cap) :
   (Instr.sliceBounds isSl len cap low high max).run P w = .ok (l, h, m) w := by
 have e1 : ∀ (k : IntKind) c, (Instr.sliceBound (.int k (l : Int)) h c).run P w = .ok l w := fun k c => run_bound rfl h1
 have e2 : ∀ (k : IntKind) c, (Instr.sliceBound (.int k (h : Int)) m c).run P w = .ok h w := fun k c => run_bound rfl h2
 have e3 : ∀ (k : IntKind) c, (Instr.sliceBound (.int k (m : Int)) cap c).run P w = .ok m w := fun k c => run_bound rfl h3
 unfold Instr.sliceBounds
 rcases hl with ⟨rfl, rfl⟩ | ⟨k1, rfl⟩ <;> rcases hh with ⟨rfl, h5, rfl⟩ | ⟨k2, rfl⟩ <;> rcases hm with ⟨h6, rfl⟩ | ⟨k3, h6⟩ <;> (first | (rw [h5] at h6; cases h6; done) | skip) <;> subst h6 <;>
   simp [e1, e2, e3]
theorem bound_inv {ρ : Operand → Value} {r : Opd → AVal} (hρ : ∀ x y, chkOpd x y = true → VR μ w S (r y) (ρ x)) {lo : Option Operand} {lo' : Option Opd} {d l : Nat} (hc : chkOpt lo lo' = true) (h : bound r lo' d = some l) :
   (lo = none ∧ lo' = none ∧ l = d) ∨ ∃ k, lo.map ρ = some (.int k (l : Int)) := by
 unfold chkOpt at hc
 split at hc
 · simp [bound] at h; exact .inl ⟨rfl, rfl, h.symm⟩
 · rename_i x y
   simp only [bound] at h
   obtain ⟨kd, n, hn, h0, rfl⟩ := idxNat_inv h
   have := hρ x y hc
   rw [hn] at this
   exact .inr ⟨kd, by rw [Option.map_some, this.int_inv]⟩
 · cases hc
theorem opt_inv {ρ : Operand → Value} {r : Opd → AVal} (hρ : ∀ x y, chkOpd x y = true → VR μ w S (r y) (ρ x)) {lo : Option Operand} {lo' : Option Opd} {l : Option Nat} (hc : chkOpt lo lo' = true)
   (h : optIdx r lo' = some l) : (lo = none ∧ lo' = none ∧ l = none) ∨ ∃ k n, lo.map ρ = some (.int k ((n : Nat) : Int)) ∧ l = some n := by
 unfold chkOpt at hc
 split at hc
 · simp [optIdx] at h; exact .inl ⟨rfl, rfl, h.symm⟩
 · rename_i x y
   simp only [optIdx] at h
   split at h
   case h_2 => cases h
   rename_i n hn
   simp only [Option.some.injEq] at h
   subst h
   obtain ⟨kd, z, hz, h0, rfl⟩ := idxNat_inv hn
   have := hρ x y hc
   rw [hz] at this
   exact .inr ⟨kd, n, by rw [Option.map_some, this.int_inv], rfl⟩
 · cases hc
theorem run_slice_sl {t el : TypeId} {e : Nat} {a : Option Addr} {len cap l h m : Nat} {low high max : Option Value} (ht : P.underlying t = some (.slice el)) (hs : szB P el e = true)
   (hb : (Instr.sliceBounds true len cap low high max).run P w = .ok (l, h, m) w) :
   (Instr.sliceAt t (.slice a len cap) low high max).run P w = .ok (.slice (if m = l then a else a.map (·.add (l * e))) (h - l) (m - l)) w := by
 simp [Instr.sliceAt, Instr.slice, run_underlying ht, hb, run_sizeOf hs]
theorem drop_take_get {α : Type} {xs : List α} {l h i : Nat} {x : α} (hx : ((xs.take h).drop l)[i]? = some x) : xs[l + i]? = some x ∧ l + i < h := by
 rw [List.getElem?_drop, List.getElem?_take] at hx
 split at hx
 · rename_i hlt; exact ⟨hx, hlt⟩
 · cases hx
theorem gives_slice {t el : TypeId} {e l : Nat} {x v : AVal} {cx : Value} {h' m' : Option Nat} {low high max : Option Value} (ht : P.underlying t = some (.slice el)) (hs : szB P el e = true) (hx : VR μ w S x cx)
   (hl : (low = none ∧ l = 0) ∨ ∃ k, low = some (.int k (l : Int))) (hh : (high = none ∧ h' = none ∧ max = none) ∨ ∃ k n, high = some (.int k ((n : Nat) : Int)) ∧ h' = some n)
   (hm : (max = none ∧ m' = none) ∨ ∃ k n, max = some (.int k ((n : Nat) : Int)) ∧ m' = some n)
   (hv : sliceVal e x l h' m' = some v) : ∃ cv, (Instr.sliceAt t cx low high max).run P w = .ok cv w ∧ VR μ w S v cv := by
 unfold sliceVal at hv
 split at hv
 · rename_i e' xs
   have hir := hx.imm_inv
   cases hir with
   | imm e' xs A cap g hlen hn hel hcell hsub =>
   simp only at hv
   split at hv
   · rename_i hlh
     obtain rfl := hlh.2.2
     have hb : ∀ m, ((max = none ∧ m = cap) ∨ ∃ k, max = some (.int k (m : Int))) → h'.getD xs.length ≤ m → m ≤ cap → (Instr.sliceBounds true xs.length cap low high max).run P w = .ok (l, h'.getD xs.length, m) w := fun m h1 h2 h3 =>
       run_bounds hl (by rcases hh with ⟨a, b, c⟩ | ⟨k, n, a, b⟩; exact .inl ⟨a, c, by rw [b]; rfl⟩; exact .inr ⟨k, by rw [a, b]; rfl⟩) h1 hlh.1 h2 h3
     have hres : ∀ m, m ≤ cap → h'.getD xs.length ≤ m → IR w S (.imm e' ((xs.take (h'.getD xs.length)).drop l)) (.slice (if m = l then A else A.map (·.add (l * e'))) (h'.getD xs.length - l) (m - l)) := by
       intro m h3 h2
       have hl' : ((xs.take (h'.getD xs.length)).drop l).length = h'.getD xs.length - l := by simp; omega
       have := IR.imm (w := w) (S := S) e' ((xs.take (h'.getD xs.length)).drop l) (if m = l then A else A.map (·.add (l * e'))) (m - l) (fun i j => g (l + i) j) (by rw [hl']; omega) (by
         intro hA
         split at hA
         · omega
         · have : A = none := by cases A with | none => rfl | some a => cases hA
           have := hn this
           omega) (fun i x hi => hel (l + i) x (drop_take_get hi).1) (fun i x j c hi hj => by
         obtain ⟨h4, h5⟩ := drop_take_get hi
         obtain ⟨mm, o, rfl, hS, hc⟩ := hcell (l + i) x j c h4 hj
         rw [if_neg (by omega), Option.map_some, add_mk]
         refine ⟨mm, o + l * e', rfl, hS, ?_⟩
         rw [show o + l * e' + (i * e' + j) = o + ((l + i) * e' + j) by rw [Nat.add_mul]; omega]
         exact hc) (fun i x j c hi hj => hsub (l + i) x j c (drop_take_get hi).1 hj)
       rw [hl'] at this
       exact this
     cases hm' : m' with
     | none =>
       rw [hm'] at hv hm
       simp at hv
       subst hv
       have hmn : max = none := by rcases hm with ⟨a, b⟩ | ⟨k, n, a, b⟩; exact a; cases b
       exact ⟨_, run_slice_sl ht hs (hb cap (.inl ⟨hmn, rfl⟩) (by omega) (Nat.le_refl _)), .imm _ _ (hres cap (Nat.le_refl _) (by omega))⟩
     | some m =>
       rw [hm'] at hv hm
       have hmx : ∃ k, max = some (.int k (m : Int)) := by rcases hm with ⟨a, b⟩ | ⟨k, n, a, b⟩; cases b; cases b; exact ⟨k, a⟩
       simp only at hv
       split at hv
       · rename_i hmb
         have hrun := run_slice_sl (P := P) (w := w) (a := A) ht hs (hb m (.inr hmx) hmb.1 (by omega))
         split at hv
         · rename_i hml
           simp at hv
           subst hv
           refine ⟨_, hrun, .imm _ _ ?_⟩
           rw [show h'.getD xs.length - l = 0 by omega, show m - l = 0 by omega]
           exact .zsl _
         · simp at hv
           subst hv
           exact ⟨_, hrun, .imm _ _ (hres m (by omega) hmb.1)⟩
       · cases hv
   · cases hv
 · obtain ⟨A, rfl⟩ := hx.zsl_inv
   split at hv
   · rename_i hz
     simp at hv
     subst hv
     obtain ⟨rfl, h2, h3⟩ := hz
     refine ⟨_, run_slice_sl ht hs (run_bounds (l := 0) (h := 0) (m := 0) hl ?_ ?_ (Nat.le_refl _) (Nat.le_refl _) (Nat.le_refl _)), ?_⟩
     · rcases hh with ⟨a, b, c⟩ | ⟨k, n, a, b⟩
       · exact .inl ⟨a, c, rfl⟩
       · rw [b] at h2; simp at h2; subst h2; exact .inr ⟨k, a⟩
     · rcases hm with ⟨a, b⟩ | ⟨k, n, a, b⟩
       · exact .inl ⟨a, rfl⟩
       · rw [b] at h3; simp at h3; subst h3; exact .inr ⟨k, a⟩
     · exact .imm _ _ (.zsl _)
   · cases hv
 · rename_i b off len e1
   have hsl := hx.sl_inv
   simp only at hv
   split at hv
   · rename_i hlh
     obtain rfl := hlh.2.2
     -- the slice value
     have hval : ∃ A cap, cx = .slice A len cap ∧ len ≤ cap ∧ (A = none → cap = 0) := by
       cases hμ : μ b with
       | free => rw [hμ] at hsl; exact hsl.elim
       | dead => rw [hμ] at hsl; obtain ⟨A, cap, rfl, h1, h2⟩ := hsl; exact ⟨A, cap, rfl, h1, h2⟩
       | void => rw [hμ] at hsl; obtain ⟨_, rfl, A, rfl⟩ := hsl; exact ⟨A, 0, rfl, Nat.le_refl _, fun _ => rfl⟩
       | here m n e' => rw [hμ] at hsl; obtain ⟨_, cap, rfl, h1, h2⟩ := hsl; exact ⟨_, cap, rfl, h2, fun h => by cases h⟩
     obtain ⟨A, cap, rfl, hcap, hnone⟩ := hval
     have hb : ∀ m, ((max = none ∧ m = cap) ∨ ∃ k, max = some (.int k (m : Int))) → h'.getD len ≤ m → m ≤ cap → (Instr.sliceBounds true len cap low high max).run P w = .ok (l, h'.getD len, m) w := fun m h1 h2 h3 =>
       run_bounds hl (by rcases hh with ⟨a, b, c⟩ | ⟨k, n, a, b⟩; exact .inl ⟨a, c, by rw [b]; rfl⟩; exact .inr ⟨k, by rw [a, b]; rfl⟩) h1 hlh.1 h2 h3
     cases hm' : m' with
     | none =>
       rw [hm'] at hv hm
       simp only at hv
       split at hv
       · rename_i hlo
         simp at hv
         subst hv
         have hmn : max = none := by rcases hm with ⟨a, b⟩ | ⟨k, n, a, b⟩; exact a; cases b
         refine ⟨_, run_slice_sl ht hs (hb cap (.inl ⟨hmn, rfl⟩) (by omega) (Nat.le_refl _)), .sl _ _ _ _ _ ?_⟩
         cases hμ : μ b with
         | free => rw [hμ] at hsl; exact hsl.elim
         | dead =>
           rw [hμ] at hsl
           obtain ⟨A', cap', hh1, h1, h2⟩ := hsl
           cases hh1
           refine ⟨_, _, rfl, by omega, fun hA => ?_⟩
           split at hA
           · omega
           · have : A = none := by cases A with | none => rfl | some a => cases hA
             have := h2 this
             omega
         | void =>
           rw [hμ] at hsl
           obtain ⟨h1, h2, A', h3⟩ := hsl
           cases h3
           subst h1
           exact ⟨by omega, by omega, _, by rw [show h'.getD 0 - l = 0 by omega, Nat.zero_sub]⟩
         | here m n e' =>
           rw [hμ] at hsl
           obtain ⟨rfl, cap', hh1, h1, h2⟩ := hsl
           cases hh1
           refine ⟨rfl, cap - l, ?_, by omega, by omega⟩
           congr 1
           split
           · rename_i hcl
             have : l = 0 := by omega
             subst this
             simp
           · rw [Option.map_some, add_mk, Nat.add_mul]
       · rename_i hlo
         simp at hv
         subst hv
         have hmn : max = none := by rcases hm with ⟨a, b⟩ | ⟨k, n, a, b⟩; exact a; cases b
         have hl0 : h'.getD len - l = 0 := by omega
         refine ⟨_, run_slice_sl ht hs (hb cap (.inl ⟨hmn, rfl⟩) (by omega) (Nat.le_refl _)), .imm _ _ ?_⟩
         rw [hl0]
         refine .imm _ [] _ _ (fun _ _ => .nilFunc) (Nat.zero_le _) (fun hA => ?_) (fun i x hx => by simp at hx) (fun i x j c hx => by simp at hx) (fun i x j c hx => by simp at hx)
         split at hA
         · omega
         · have : A = none := by cases A with | none => rfl | some a => cases hA
           have := hnone this
           omega
     | some m =>
       rw [hm'] at hv hm
       have hmx : ∃ k, max = some (.int k (m : Int)) := by rcases hm with ⟨a, b⟩ | ⟨k, n, a, b⟩; cases b; cases b; exact ⟨k, a⟩
       simp only at hv
       split at hv
       · rename_i hmb
         simp at hv
         subst hv
         refine ⟨_, run_slice_sl ht hs (hb m (.inr hmx) hmb.1 (by omega)), .imm _ _ ?_⟩
         rw [show h'.getD len - l = 0 by omega, show m - l = 0 by omega]
         exact .zsl _
       · cases hv
   · cases hv
 · cases hv
end
end AM
end Go.Proofs.YtjngkfdclcgfhaaGreatDoor
end
