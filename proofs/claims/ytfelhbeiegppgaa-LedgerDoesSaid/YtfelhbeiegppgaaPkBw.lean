/-
  What the proof of LedgerDoes leans on, part 23. (Many texts laid together by program.)
-/
import Derived.Test.YtfelhbeiegppgaaPkBv
import Derived.Carry
import Derived.Lib.SlKeysI
import Derived.Maps.Own
import Derived.Shelf.Sort.Plain
import Derived.Shelf.Slices.In.SortNone
import Derived.Shelf.SlIterI.Nil
import Derived.Shelf.SlIterI.Sorted
import Derived.Shelf.SlMaps.Clone
import Derived.Test.YtfelhbeiegppgaaProg
import Derived.ProofKit
set_option linter.unnecessarySimpa false
set_option linter.unusedSimpArgs false
set_option linter.unusedVariables false
section
namespace Go.Proofs.Ytfelhbeiegppgaa
open Go Go.RowKit
namespace NM
open AM
/- plain -/
section
variable {α : Type}
def mget (k : Int) : List (Int × α) → Option α
 | [] => none
 | p :: l => cond (decide (p.1 = k)) (some p.2) (mget k l)
def mset (k : Int) (v : α) : List (Int × α) → List (Int × α)
 | [] => [(k, v)]
 | p :: l => cond (decide (k < p.1)) ((k, v) :: p :: l) (cond (decide (p.1 = k)) ((k, v) :: l) (p :: mset k v l))
def mdel (k : Int) (l : List (Int × α)) : List (Int × α) := l.filter fun p => !decide (p.1 = k)
theorem mget_of : ∀ {l : List (Int × α)} {i : Nat} {p : Int × α}, l.Pairwise (fun a b => a.1 < b.1) → l[i]? = some p → mget p.1 l = some p.2
 | [], i, p, _, h => by simp at h
 | q :: l, 0, p, _, h => by simp at h; subst h; simp [mget]
 | q :: l, i + 1, p, ha, h => by
   simp at h
   obtain ⟨h1, h2⟩ := List.pairwise_cons.1 ha
   have := h1 p (List.mem_of_getElem? h)
   have hne : ¬ (q.1 = p.1) := by omega
   rw [mget, decide_eq_false hne]
   exact mget_of h2 h
theorem mget_none : ∀ {l : List (Int × α)} {k : Int}, (∀ p, p ∈ l → p.1 ≠ k) → mget k l = none
 | [], _, _ => rfl
 | q :: l, k, h => by
   rw [mget, decide_eq_false (h q (by simp))]
   exact mget_none (fun p hp => h p (by simp [hp]))
end
theorem canon2 {w : World} {S : Nat → Prop} {cells : List NVal} {cs ds : List AVal} (ha : A2 RIc cells cs) (hb : A2 RIc cells ds) {j : Nat} {c d : AVal} {v : Value} (hc : cs[j]? = some c) (hd : ds[j]? = some d) (hv : IR w S c v) : IR w S d v := by
 have hj : j < cells.length := by rw [ha.1]; exact (List.getElem?_eq_some_iff.1 hc).1
 have e1 : cells[j]? = some cells[j] := List.getElem?_eq_getElem hj
 exact (hb.2 j _ d e1 hd).canon (ha.2 j _ c e1 hc).ri hv
section
variable {P : Program} {w : World} {S : Nat → Prop} {te : Ty}
@[reducible] def MT (te : Ty) : Ty := .pair (.int .i64) te
def AggR (w : World) (S : Nat → Prop) (te : Ty) (x : den te) (a : Array Value) : Prop := (acells te x).length = a.size ∧ ∀ (j : Nat) (c : AVal) (v : Value), (acells te x)[j]? = some c → a[j]? = some v → IR w S c v ∧ oneV v = true
def MRow (w : World) (S : Nat → Prop) (te : Ty) (p : Int × den te) (q : Lit × DataW Value) : Prop := ∃ a, q = (.int .i64 p.1, .held (.agg a)) ∧ AggR w S te p.2 a
@[reducible] def mlist (es : Array MapEntry) : List (Lit × DataW Value) := (es.toList.map mg).foldr DataW.insert []
def MapX (w : World) (S : Nat → Prop) (m : Nat) (te : Ty) (xs : List (Int × den te)) : Prop :=
 ∃ es clock, w.heap[m]? = some (.map es clock) ∧ MapKept.Stamped es clock ∧ es.size ≤ maxLen ∧ (∀ x, x ∈ es.toList → ∃ z, x.key = .int .i64 z ∧ (Lit.int .i64 z).wf = true) ∧ A2 (MRow w S te) xs (mlist es)
@[reducible] noncomputable def mblk (te : Ty) (xs : List (Int × den te)) : AM.Blk := ⟨(ops (MT te)).size, true, xs.map (acells (MT te))⟩
theorem pair_cells (p : Int × den te) : (ops (MT te)).cells p = .int .i64 p.1 :: (ops te).cells p.2 := rfl
theorem pair_acells (p : Int × den te) : ∃ cs, acells (MT te) p = .int .i64 p.1 :: cs ∧ A2 RIc ((ops te).cells p.2) cs := by
 have h := acells_rel (MT te) p
 rw [pair_cells] at h
 obtain ⟨a, cs, e, h1, h2⟩ := h.cons_inv
 cases h1
 exact ⟨cs, e, h2⟩
theorem mapX_of {m : Nat} {xs : List (Int × den te)} (h : MapR w S m (mblk te xs)) : MapX w S m te xs := by
 obtain ⟨_, _, es, clock, h3, h4, h5, h6, h7, h8⟩ := h
 refine ⟨es, clock, h3, h4, h5, h6, by simpa using h7, fun i p q hp hq => ?_⟩
 obtain ⟨z, cs, a, e1, e2, e3, e4⟩ := h8 i (acells (MT te) p) q (by simp [hp]) hq
 obtain ⟨cs', f1, f2⟩ := pair_acells p
 rw [f1] at e1
 simp only [List.cons.injEq, AVal.int.injEq, true_and] at e1
 obtain ⟨hz, hcs⟩ := e1
 subst hz
 rw [← hcs] at e3 e4
 have hac := acells_rel te p.2
 refine ⟨a, e2, hac.1.symm.trans (f2.1.trans e3), fun j c v hc hv => ?_⟩
 have hj : j < cs'.length := by rw [← f2.1, hac.1]; exact (List.getElem?_eq_some_iff.1 hc).1
 obtain ⟨k1, k2⟩ := e4 j cs'[j] v (List.getElem?_eq_getElem hj) hv
 exact ⟨canon2 f2 hac (List.getElem?_eq_getElem hj) hc k1, k2⟩
theorem mapX_to {m : Nat} {xs : List (Int × den te)} (h : MapX w S m te xs) : MapR w S m (mblk te xs) := by
 obtain ⟨es, clock, h3, h4, h5, h6, h7⟩ := h
 refine ⟨rfl, fun i x hx => ?_, es, clock, h3, h4, h5, h6, by simpa using h7.1, fun i x q hx hq => ?_⟩
 · simp only [List.getElem?_map, Option.map_eq_some_iff] at hx
   obtain ⟨p, _, rfl⟩ := hx
   rw [← (acells_rel (MT te) p).1]
   exact (good (MT te)).1 p
 · simp only [List.getElem?_map, Option.map_eq_some_iff] at hx
   obtain ⟨p, hp, rfl⟩ := hx
   obtain ⟨a, e2, e3, e4⟩ := h7.2 i p q hp hq
   obtain ⟨cs', f1, f2⟩ := pair_acells p
   have hac := acells_rel te p.2
   refine ⟨p.1, cs', a, f1, e2, f2.1.symm.trans (hac.1.trans e3), fun j c v hc hv => ?_⟩
   have hj : j < (acells te p.2).length := by rw [← hac.1, f2.1]; exact (List.getElem?_eq_some_iff.1 hc).1
   obtain ⟨k1, k2⟩ := e4 j _ v (List.getElem?_eq_getElem hj) hv
   exact ⟨canon2 hac f2 (List.getElem?_eq_getElem hj) hc k1, k2⟩
def RV0 : Value → Option (DataW Value × List MemPlace) := fun v => some (.held v, [])
section
variable {kt e : TypeId} {es : Array MapEntry} {clock : Nat}
theorem fit_of (hk : P.underlying kt = some (.int .i64)) (h1 : MapKept.Stamped es clock) (h2 : es.size ≤ maxLen) (h3 : ∀ x, x ∈ es.toList → ∃ z, x.key = .int .i64 z ∧ (Lit.int .i64 z).wf = true) :
   WideElems.Fit P kt RV0 es clock ∧ es.toList.map (WideElems.rg P kt RV0) = es.toList.map mg := by
 have hr : ∀ x, x ∈ es.toList → WideElems.rd P kt RV0 x = some (mg x) := fun x hx => by
   obtain ⟨z, e1, e2⟩ := h3 x hx
   have := Maps.keyOf_int_mk hk e2
   simp [WideElems.rd, e1, this, RV0, mg, keyLit]
 exact ⟨⟨h2, h1, fun x hx => ⟨_, hr x hx⟩⟩, List.map_congr_left fun x hx => WideElems.rg_of (hr x hx)⟩
theorem mkeys_of (hk : P.underlying kt = some (.int .i64)) (F : WideElems.Fit P kt RV0 es clock) : ∀ x, x ∈ es.toList → ∃ z, x.key = .int .i64 z ∧ (Lit.int .i64 z).wf = true := fun x hx => by
 obtain ⟨y, hy⟩ := F.reads x hx
 have hkey := WideElems.rd_key hy
 cases hx2 : x.key <;> simp [keyOf, hk, mapKey, hx2] at hkey
 obtain ⟨⟨rfl, h⟩, _⟩ := hkey
 exact ⟨_, rfl, h⟩
theorem msorted (hk : P.underlying kt = some (.int .i64)) (F : WideElems.Fit P kt RV0 es clock) (he : es.toList.map (WideElems.rg P kt RV0) = es.toList.map mg) : (mlist es).Pairwise (fun p q => p.1.before q.1 = true) := by
 have := Maps.sorted_sorted (Maps.int_keyed hk).one _ (Maps.fit_keys F) (Maps.fit_apart (Maps.int_keyed hk) F)
 rw [he] at this
 exact this
end
theorem masc {xs : List (Int × den te)} {D : List (Lit × DataW Value)} (h : A2 (MRow w S te) xs D) (hs : D.Pairwise (fun p q => p.1.before q.1 = true)) : xs.Pairwise (fun a b => a.1 < b.1) := by
 rw [List.pairwise_iff_getElem] at hs ⊢
 intro i j hi hj hij
 have hi' : i < D.length := by rw [← h.1]; exact hi
 have hj' : j < D.length := by rw [← h.1]; exact hj
 have := hs i j hi' hj' hij
 obtain ⟨a, e1, _⟩ := h.2 i _ _ (List.getElem?_eq_getElem hi) (List.getElem?_eq_getElem hi')
 obtain ⟨b, e2, _⟩ := h.2 j _ _ (List.getElem?_eq_getElem hj) (List.getElem?_eq_getElem hj')
 rw [e1, e2] at this
 simpa [Lit.before] using this
theorem insert_low {k : Int} {d : DataW Value} : ∀ {D : List (Lit × DataW Value)}, (∀ q, q ∈ D → ∃ a, q.1 = .int .i64 a ∧ k < a) → DataW.insert (.int .i64 k, d) D = (.int .i64 k, d) :: D
 | [], _ => rfl
 | q :: D, h => by
   obtain ⟨a, e1, e2⟩ := h q (by simp)
   unfold DataW.insert
   rw [if_pos (by rw [e1]; simpa [Lit.before] using e2)]
theorem keep_all {k : Int} : ∀ {D : List (Lit × DataW Value)}, (∀ q, q ∈ D → ∃ a, q.1 = .int .i64 a ∧ a ≠ k) → D.filter (ChangeMaps.notKey (.int .i64 k)) = D := fun {D} h => by
 rw [List.filter_eq_self]
 intro q hq
 obtain ⟨a, e1, e2⟩ := h q hq
 unfold ChangeMaps.notKey
 rw [e1]
 simp [Lit.sameKey, e2]
theorem tail_keys {p : Int × den te} {q : Lit × DataW Value} {xs : List (Int × den te)} {D : List (Lit × DataW Value)} (h : A2 (MRow w S te) (p :: xs) (q :: D)) (hs : (q :: D).Pairwise (fun p q => p.1.before q.1 = true)) : q.1 = .int .i64 p.1 ∧ ∀ r, r ∈ D → ∃ a, r.1 = .int .i64 a ∧ p.1 < a := by
 obtain ⟨a, e1, _⟩ := h.2 0 p q rfl rfl
 refine ⟨by rw [e1], fun r hr => ?_⟩
 obtain ⟨j, hj, rfl⟩ := List.getElem_of_mem hr
 have hl : xs.length = D.length := by simpa using h.1
 obtain ⟨b, e2, _⟩ := h.2 (j + 1) (xs[j]'(by omega)) D[j] (by simp) (by simp)
 have := (List.pairwise_cons.1 hs).1 _ hr
 rw [e1, e2] at this
 exact ⟨_, by rw [e2], by simpa [Lit.before] using this⟩
theorem mset_rel {k : Int} {v : den te} {a : Array Value} (hv : AggR w S te v a) : ∀ {xs : List (Int × den te)} {D : List (Lit × DataW Value)}, A2 (MRow w S te) xs D → D.Pairwise (fun p q => p.1.before q.1 = true) →
   A2 (MRow w S te) (mset k v xs) (ChangeMaps.putKey (.int .i64 k) (.held (.agg a)) D)
 | [], D, h, _ => by
   rw [h.nil_inv]
   exact .single ⟨a, rfl, hv⟩
 | p :: xs, D, h, hs => by
   obtain ⟨q, D', rfl, h1, h2⟩ := h.cons_inv
   obtain ⟨t1, t2⟩ := tail_keys h hs
   have hs2 := (List.pairwise_cons.1 hs).2
   have hnk : ChangeMaps.notKey (.int .i64 k) q = !decide (p.1 = k) := by
     unfold ChangeMaps.notKey
     rw [t1]
     simp [Lit.sameKey]
   unfold ChangeMaps.putKey mset
   by_cases c1 : k < p.1
   · rw [decide_eq_true c1]
     have hall : ∀ r, r ∈ q :: D' → ∃ b, r.1 = .int .i64 b ∧ k < b := fun r hr => by
       rcases List.mem_cons.1 hr with rfl | hr
       · exact ⟨_, t1, c1⟩
       · obtain ⟨b, e1, e2⟩ := t2 r hr
         exact ⟨b, e1, by omega⟩
     rw [keep_all (fun r hr => by obtain ⟨b, e1, e2⟩ := hall r hr; exact ⟨b, e1, by omega⟩), insert_low hall]
     exact .cons ⟨a, rfl, hv⟩ h
   · rw [decide_eq_false c1]
     by_cases c2 : p.1 = k
     · rw [decide_eq_true c2]
       have hall : ∀ r, r ∈ D' → ∃ b, r.1 = .int .i64 b ∧ k < b := fun r hr => by
         obtain ⟨b, e1, e2⟩ := t2 r hr
         exact ⟨b, e1, by omega⟩
       rw [List.filter_cons, hnk, decide_eq_true c2]
       simp only [Bool.not_true, Bool.false_eq_true, if_false, cond_false, cond_true]
       rw [keep_all (fun r hr => by obtain ⟨b, e1, e2⟩ := hall r hr; exact ⟨b, e1, by omega⟩), insert_low hall]
       exact .cons ⟨a, rfl, hv⟩ h2
     · rw [decide_eq_false c2, List.filter_cons, hnk, decide_eq_false c2]
       simp only [Bool.not_false, if_true, cond_false]
       unfold DataW.insert
       rw [if_neg (by rw [t1]; simp [Lit.before]; omega)]
       exact .cons h1 (mset_rel hv h2 hs2)
theorem mdel_rel {k : Int} : ∀ {xs : List (Int × den te)} {D : List (Lit × DataW Value)}, A2 (MRow w S te) xs D → A2 (MRow w S te) (mdel k xs) (ChangeMaps.delKey (.int .i64 k) D)
 | [], D, h => by
   rw [h.nil_inv]
   exact .nil
 | p :: xs, D, h => by
   obtain ⟨q, D', rfl, h1, h2⟩ := h.cons_inv
   have ih := mdel_rel (k := k) h2
   have hnk : ChangeMaps.notKey (.int .i64 k) q = !decide (p.1 = k) := by
     obtain ⟨a, e1, _⟩ := h1
     unfold ChangeMaps.notKey
     rw [e1]
     simp [Lit.sameKey]
   unfold mdel ChangeMaps.delKey at ih ⊢
   rw [List.filter_cons, List.filter_cons, hnk]
   cases decide (p.1 = k) with
   | true => simpa using ih
   | false =>
     simp only [Bool.not_false, if_true]
     exact .cons h1 ih
theorem map_at {μ : Nat → AM.Loc} {xs : List (Int × den te)} (r : HRep μ w S [.live (mblk te xs)]) {v : Value} (hv : VR μ w S (.mp 0) v) : ∃ m, μ 0 = .mapAt m ∧ v = .map (some m) ∧ MapX w S m te xs := by
 have B := r.live 0 _ rfl
 have hm := hv.mp_inv
 cases h0 : μ 0 with
 | free => rw [h0] at B; exact B.elim
 | dead => rw [h0] at B; exact B.elim
 | void => rw [h0] at hm; exact hm.elim
 | here m n e => rw [h0] at hm; exact hm.elim
 | mapAt m =>
   rw [h0] at B hm
   exact ⟨m, rfl, hm, mapX_of B⟩
theorem map_put {μ : Nat → AM.Loc} {xs ys : List (Int × den te)} {m : Nat} {w' : World} (r : HRep μ w S [.live (mblk te xs)]) (h0 : μ 0 = .mapAt m) (hy : MapX w' S m te ys) (hos : w'.os = w.os) (ht : w'.tape = w.tape) (ho : w'.output = w.output) (hsz : w.heap.size ≤ w'.heap.size)
   (hs : ∀ i, i < w.heap.size → i ≠ m → w'.heap[i]? = w.heap[i]?) : HRep μ w' S [.live (mblk te ys)] ∧ Ext μ S w μ S w' := by
 have hown : Owned μ m := ⟨0, by rw [h0]; rfl⟩
 have hS : ∀ q, S q → w'.heap[q]? = w.heap[q]? := fun q hq => hs q (r.inS q hq) (fun e => r.apart m hown (by rw [← e]; exact hq))
 refine ⟨⟨fun b k hb => ?_, fun b hb => ?_, fun b hb => ?_, r.inj, r.apart, fun q hq => Nat.lt_of_lt_of_le (r.inS q hq) hsz, r.gl.mono hS (fun _ h => h)⟩, ⟨hos, ht, ho, hsz, fun q hq hn => hs q hq (fun e => hn (by rw [e]; exact hown)), fun _ h => h, fun _ h => .inl h, fun _ h => .inl h⟩⟩
 · cases b with
   | zero =>
     cases hb
     rw [h0]
     exact mapX_to hy
   | succ b => simp [Heap.get] at hb
 · cases b with
   | zero => simp [Heap.get] at hb
   | succ b => exact r.gone _ (by simp [Heap.get])
 · cases b with
   | zero => simp [Heap.isFree] at hb
   | succ b => exact r.free _ (.inr (by simp))
theorem agg_arg {μ : Nat → AM.Loc} (hagg : te.isAgg = true) {hp : NHeap} {x : den te} {c : AVal} {v : Value} (h : RV hp (putV te x) c) (hv : VR μ w S c v) : ∃ a, v = .agg a ∧ AggR w S te x a := by
 unfold putV at h
 rw [hagg] at h
 obtain ⟨ds, rfl, hc⟩ := (RT.v h).agg_inv
 obtain ⟨a, rfl, hl, ha⟩ := hv.agg_inv
 have hac := acells_rel te x
 refine ⟨a, rfl, hac.1.symm.trans (hc.1.trans hl), fun j c u hj hu => ?_⟩
 have hj' : j < ((ops te).cells x).length := by rw [hac.1]; exact (List.getElem?_eq_some_iff.1 hj).1
 have hcell := List.getElem?_eq_getElem hj'
 have hjd : j < ds.length := by rw [← hc.1]; exact hj'
 have hd := List.getElem?_eq_getElem hjd
 obtain ⟨h1, h2⟩ := (hc.2 j _ _ hcell hd).imm ((good te).2.2.1 x _ (List.mem_of_getElem? hcell))
 have hir := (hac.2 j _ c hcell hj).canon h1 ((ha j _ u hd hu).imm_of h2)
 exact ⟨hir, hir.one⟩
theorem agg_res {μ : Nat → AM.Loc} {x : den te} {a : Array Value} (h : AggR w S te x a) : VR μ w S (.agg (acells te x)) (.agg a) := .agg _ _ h.1 fun j c v hc hv => .imm _ _ (h.2 j c v hc hv).1
end
def kOk (k : Int) : Bool := decide (-9223372036854775808 ≤ k) && decide (k ≤ 9223372036854775807)
theorem kOk_wf {k : Int} (h : kOk k = true) : (Lit.int .i64 k).wf = true := by
 simp only [kOk, Bool.and_eq_true, decide_eq_true_eq] at h
 simp [Lit.wf, IntKind.min, IntKind.max, IntKind.signed, IntKind.bits, h.1, h.2]
structure MapTy (P : Program) (t kt e : TypeId) (te : Ty) (z : den te) (za : Array Value) : Prop where
 ht : P.underlying t = some (.map kt e)
 hk : P.underlying kt = some (.int .i64)
 hz : ∀ w, (zeroValue e).run P w = .ok (.agg za) w
 hza : ∀ w S, AggR w S te z za
 hagg : te.isAgg = true
section
variable {P : Program} {t kt e : TypeId} {te : Ty} {z : den te} {za : Array Value}
theorem map_look (T : MapTy P t kt e te z za) {w : World} {S : Nat → Prop} {m : Nat} {k : Int} {xs : List (Int × den te)} (hX : MapX w S m te xs) (hw : (Lit.int .i64 k).wf = true) :
   ∃ a, AggR w S te ((mget k xs).getD z) a ∧ ∀ c, (Instr.lookup t (.map (some m)) (.int .i64 k) c).run P w = .ok (if c then .tuple #[.agg a, .bool (mget k xs).isSome] else .agg a) w := by
 obtain ⟨es, clock, hh, hst, hsz, hks, hrel⟩ := hX
 obtain ⟨F, he⟩ := fit_of T.hk hst hsz hks
 have hs := msorted T.hk F he
 have hasc := masc hrel hs
 have hkey := Maps.keyOf_int_mk T.hk hw
 have hmem : ∀ q, q ∈ mlist es ↔ q ∈ es.toList.map mg := fun q => (WideShapes.sorted_perm (es.toList.map mg)).mem_iff
 -- an entry at the key
 have hit : ∀ e0, e0 ∈ es.toList → e0.key = .int .i64 k → ∃ p a, mget k xs = some p ∧ e0.val = .agg a ∧ AggR w S te p a := fun e0 h1 h2 => by
   have h3 : mg e0 ∈ mlist es := (hmem _).2 (List.mem_map.2 ⟨e0, h1, rfl⟩)
   obtain ⟨i, hi, h4⟩ := List.getElem_of_mem h3
   have hix : i < xs.length := by rw [hrel.1]; exact hi
   obtain ⟨a, e1, e2⟩ := hrel.2 i _ _ (List.getElem?_eq_getElem hix) (List.getElem?_eq_getElem hi)
   rw [h4] at e1
   simp only [mg, h2, keyLit, Prod.mk.injEq, Lit.int.injEq, true_and, DataW.held.injEq] at e1
   have hg := mget_of hasc (List.getElem?_eq_getElem hix)
   rw [← e1.1] at hg
   exact ⟨_, a, hg, e1.2, e2⟩
 by_cases hex : ∃ e0, e0 ∈ es.toList ∧ e0.key = .int .i64 k
 · obtain ⟨e0, h1, h2⟩ := hex
   obtain ⟨p, a, g1, g2, g3⟩ := hit e0 h1 h2
   refine ⟨a, by rw [g1]; exact g3, fun c => ?_⟩
   rcases Maps.fit_look c (Maps.int_keyed T.hk) T.ht (T.hz w) hh F hkey with ⟨_, habs, _⟩ | ⟨e1, y, k1, k2, hrun, _⟩
   · exact absurd h2 (habs e0 h1)
   · obtain ⟨p', a', g1', g2', g3'⟩ := hit e1 k1 k2
     have hsame : e1.val = e0.val := by
       have i1 : mg e1 ∈ mlist es := (hmem _).2 (List.mem_map.2 ⟨e1, k1, rfl⟩)
       have i0 : mg e0 ∈ mlist es := (hmem _).2 (List.mem_map.2 ⟨e0, h1, rfl⟩)
       obtain ⟨j1, hj1, e1'⟩ := List.getElem_of_mem i1
       obtain ⟨j0, hj0, e0'⟩ := List.getElem_of_mem i0
       have hb : (mg e1).1 = (mg e0).1 := by simp [mg, k2, h2]
       have hj : j1 = j0 := by
         rcases Nat.lt_trichotomy j1 j0 with h | h | h
         · have := (List.pairwise_iff_getElem.1 hs) j1 j0 hj1 hj0 h
           rw [e1', e0', hb] at this
           simp [mg, h2, keyLit, Lit.before] at this
         · exact h
         · have := (List.pairwise_iff_getElem.1 hs) j0 j1 hj0 hj1 h
           rw [e1', e0', hb] at this
           simp [mg, h2, keyLit, Lit.before] at this
       subst hj
       rw [e1'] at e0'
       have := congrArg Prod.snd e0'
       simpa [mg] using this
     rw [hrun, hsame, g2, g1]
     rfl
 · have hno : mget k xs = none := mget_none fun p hp hpk => by
     obtain ⟨i, hi, rfl⟩ := List.getElem_of_mem hp
     have hid : i < (mlist es).length := by rw [← hrel.1]; exact hi
     obtain ⟨a, e1, _⟩ := hrel.2 i _ _ (List.getElem?_eq_getElem hi) (List.getElem?_eq_getElem hid)
     have h3 := (hmem _).1 (List.getElem_mem hid)
     rw [e1] at h3
     obtain ⟨x, hx, hxe⟩ := List.mem_map.1 h3
     obtain ⟨zz, f1, _⟩ := hks x hx
     have := congrArg Prod.fst hxe
     simp only [mg, f1, keyLit, Lit.int.injEq, true_and] at this
     exact hex ⟨x, hx, by rw [f1, this, hpk]⟩
   refine ⟨za, by rw [hno]; exact T.hza w S, fun c => ?_⟩
   rcases Maps.fit_look c (Maps.int_keyed T.hk) T.ht (T.hz w) hh F hkey with ⟨hrun, _, _⟩ | ⟨e1, y, k1, k2, _⟩
   · rw [hrun, hno]
     rfl
   · exact absurd ⟨e1, k1, k2⟩ hex
@[reducible] def sigM1 (te : Ty) : Sig := ⟨.cons (.mp 0) (.cons (.v (.int .i64)) .nil), [.typed (MT te)], (.tup (.cons (.v te) (.cons (.v .bool) .nil)), [.typed (MT te)]), []⟩
@[reducible] def sigM0 (te : Ty) : Sig := ⟨.cons (.mp 0) (.cons (.v (.int .i64)) .nil), [.typed (MT te)], (.v te, [.typed (MT te)]), []⟩
@[reducible] def sigM2 (te : Ty) : Sig := ⟨.cons (.mp 0) (.cons (.v (.int .i64)) (.cons (.v te) .nil)), [.typed (MT te)], (.tup .nil, [.typed (MT te)]), []⟩
@[reducible] def sigM3 (te : Ty) : Sig := ⟨.cons (.mp 0) (.cons (.v (.int .i64)) .nil), [.typed (MT te)], (.tup .nil, [.typed (MT te)]), []⟩
@[reducible] def sigM4 (te : Ty) : Sig := ⟨.nil, [], (.mp 0, [.typed (MT te)]), []⟩
def mlook1 {α : Type} (z : α) (k : Int) (xs : List (Int × α)) : Option ((α × (Bool × Unit)) × (List (Int × α) × Unit)) := cond (kOk k) (some (((mget k xs).getD z, ((mget k xs).isSome, ())), (xs, ()))) none
def mlook0 {α : Type} (z : α) (k : Int) (xs : List (Int × α)) : Option (α × (List (Int × α) × Unit)) := cond (kOk k) (some ((mget k xs).getD z, (xs, ()))) none
def mput {α : Type} (k : Int) (v : α) (xs : List (Int × α)) : Option (Unit × (List (Int × α) × Unit)) := cond (kOk k && decide (xs.length < 4294967296)) (some ((), (mset k v xs, ()))) none
def mdrop {α : Type} (k : Int) (xs : List (Int × α)) : Option (Unit × (List (Int × α) × Unit)) := cond (kOk k) (some ((), (mdel k xs, ()))) none
theorem arrM2 {cargs : Array Value} (h : cargs.size = 2) : ∃ a b, cargs = #[a, b] := by
 refine ⟨cargs[0], cargs[1], ?_⟩
 apply Array.ext
 · simp [h]
 · intro i h1 h2
   have : i = 0 ∨ i = 1 := by omega
   rcases this with rfl | rfl <;> simp
theorem arrM3 {cargs : Array Value} (h : cargs.size = 3) : ∃ a b c, cargs = #[a, b, c] := by
 refine ⟨cargs[0], cargs[1], cargs[2], ?_⟩
 apply Array.ext
 · simp [h]
 · intro i h1 h2
   have : i = 0 ∨ i = 1 ∨ i = 2 := by omega
   rcases this with rfl | rfl | rfl <;> simp
theorem NPk.look1 {n : Nat} (T : MapTy P t kt e te z za) (hn : n = PB + 8 * t + 1 := by decide) : NPk P ⟨n, sigM1 te, fun x h => mlook1 z x.2.1 h.1⟩ := by
 subst hn
 refine ⟨rfl, fun x hh y hy args ahp ha hb => ?_⟩
 obtain ⟨u, k, u2⟩ := x
 obtain ⟨xs, u3⟩ := hh
 have hy : mlook1 z k xs = some y := hy
 unfold mlook1 at hy
 cases hkk : kOk k with
 | false => rw [hkk] at hy; cases hy
 | true =>
   rw [hkk] at hy
   cases hy
   have h2 : A2 (RV _) [.mp 0, putV (.int .i64) k] args := ha
   obtain ⟨a0, bs, rfl, h0, h2⟩ := h2.cons_inv
   obtain ⟨a1, cs, rfl, h1, h2⟩ := h2.cons_inv
   rw [h2.nil_inv]
   rw [(RT.v h0).mp_inv]
   have e1 : a1 = .int .i64 k := (RT.v h1).int_inv
   subst e1
   intro μ w S cargs r0 hl hv
   obtain ⟨v0, v1, rfl⟩ := arrM2 (by simpa using hl.symm)
   have r1 : HRep μ w S [.live (mblk te xs)] := hrep_conv r0 (canH_conv (l := [.typed (MT te)]) (x := (xs, ())) putH_lens rfl hb)
   obtain ⟨m, hm0, rfl, hX⟩ := map_at r1 (hv 0 _ v0 rfl rfl)
   have := (hv 1 _ v1 rfl rfl).int_inv
   subst this
   obtain ⟨a, hA, hrun⟩ := map_look T hX (kOk_wf hkk)
   refine ⟨_, _, w, μ, S, prim1 t _ _, hrun true, r1, Ext.refl _ _ _, ?_, by rw [← hb.1]; exact Nat.le_refl 1, fun b _ _ => .inl rfl⟩
   have e3 : yA (sigM1 te).res (sigM1 te).more (((mget k xs).getD z, ((mget k xs).isSome, ())), (xs, ())) = .tup [.agg (acells te ((mget k xs).getD z)), .bool (mget k xs).isSome] := by
     obtain ⟨c, d, q1, q2, q3, q4⟩ := one_cells (t := .bool) rfl (mget k xs).isSome
     have : c = .bool (mget k xs).isSome := by cases q1; rfl
     subst this
     cases q3
     simp only [yA, outA, can, cans, T.hagg, q2]
     rfl
   rw [e3]
   refine .tup _ _ rfl fun j c v hc hv => ?_
   match j with
   | 0 => simp at hc hv; subst hc; subst hv; exact agg_res hA
   | 1 => simp at hc hv; subst hc; subst hv; exact .imm _ _ (.bool _)
   | j + 2 => simp at hc
theorem NPk.look0 {n : Nat} (T : MapTy P t kt e te z za) (hn : n = PB + 8 * t + 0 := by decide) : NPk P ⟨n, sigM0 te, fun x h => mlook0 z x.2.1 h.1⟩ := by
 subst hn
 refine ⟨rfl, fun x hh y hy args ahp ha hb => ?_⟩
 obtain ⟨u, k, u2⟩ := x
 obtain ⟨xs, u3⟩ := hh
 have hy : mlook0 z k xs = some y := hy
 unfold mlook0 at hy
 cases hkk : kOk k with
 | false => rw [hkk] at hy; cases hy
 | true =>
   rw [hkk] at hy
   cases hy
   have h2 : A2 (RV _) [.mp 0, putV (.int .i64) k] args := ha
   obtain ⟨a0, bs, rfl, h0, h2⟩ := h2.cons_inv
   obtain ⟨a1, cs, rfl, h1, h2⟩ := h2.cons_inv
   rw [h2.nil_inv]
   rw [(RT.v h0).mp_inv]
   have e1 : a1 = .int .i64 k := (RT.v h1).int_inv
   subst e1
   intro μ w S cargs r0 hl hv
   obtain ⟨v0, v1, rfl⟩ := arrM2 (by simpa using hl.symm)
   have r1 : HRep μ w S [.live (mblk te xs)] := hrep_conv r0 (canH_conv (l := [.typed (MT te)]) (x := (xs, ())) putH_lens rfl hb)
   obtain ⟨m, hm0, rfl, hX⟩ := map_at r1 (hv 0 _ v0 rfl rfl)
   have := (hv 1 _ v1 rfl rfl).int_inv
   subst this
   obtain ⟨a, hA, hrun⟩ := map_look T hX (kOk_wf hkk)
   refine ⟨_, _, w, μ, S, prim0 t _ _, hrun false, r1, Ext.refl _ _ _, ?_, by rw [← hb.1]; exact Nat.le_refl 1, fun b _ _ => .inl rfl⟩
   have e3 : yA (sigM0 te).res (sigM0 te).more ((mget k xs).getD z, (xs, ())) = .agg (acells te ((mget k xs).getD z)) := by
     simp only [yA, outA, can, T.hagg]
   rw [e3]
   exact agg_res hA
theorem NPk.put {n : Nat} (T : MapTy P t kt e te z za) (hn : n = PB + 8 * t + 2 := by decide) : NPk P ⟨n, sigM2 te, fun x h => mput x.2.1 x.2.2.1 h.1⟩ := by
 subst hn
 refine ⟨rfl, fun x hh y hy args ahp ha hb => ?_⟩
 obtain ⟨u, k, v, u2⟩ := x
 obtain ⟨xs, u3⟩ := hh
 have hy : mput k v xs = some y := hy
 unfold mput at hy
 cases hkk : kOk k && decide (xs.length < 4294967296) with
 | false => rw [hkk] at hy; cases hy
 | true =>
   rw [hkk] at hy
   cases hy
   simp only [Bool.and_eq_true, decide_eq_true_eq] at hkk
   have h2 : A2 (RV _) [.mp 0, putV (.int .i64) k, putV te v] args := ha
   obtain ⟨a0, bs, rfl, h0, h2⟩ := h2.cons_inv
   obtain ⟨a1, cs, rfl, h1, h2⟩ := h2.cons_inv
   obtain ⟨a2, ds, rfl, h3, h2⟩ := h2.cons_inv
   rw [h2.nil_inv]
   rw [(RT.v h0).mp_inv]
   have e1 : a1 = .int .i64 k := (RT.v h1).int_inv
   subst e1
   intro μ w S cargs r0 hl hv
   obtain ⟨v0, v1, v2, rfl⟩ := arrM3 (by simpa using hl.symm)
   have r1 : HRep μ w S [.live (mblk te xs)] := hrep_conv r0 (canH_conv (l := [.typed (MT te)]) (x := (xs, ())) putH_lens rfl hb)
   obtain ⟨m, hm0, rfl, hX⟩ := map_at r1 (hv 0 _ v0 rfl rfl)
   have := (hv 1 _ v1 rfl rfl).int_inv
   subst this
   obtain ⟨a, rfl, hA⟩ := agg_arg T.hagg h3 (hv 2 _ v2 rfl rfl)
   obtain ⟨es, clock, hh, hst, hsz, hks, hrel⟩ := hX
   obtain ⟨F, he⟩ := fit_of T.hk hst hsz hks
   have hs := msorted T.hk F he
   have hlen : es.size = xs.length := by
     rw [hrel.1, (WideShapes.sorted_perm (es.toList.map mg)).length_eq]
     simp
   obtain ⟨es', clock', hrun, F', hput, _⟩ := Maps.fit_store (R' := RV0) (Maps.int_keyed T.hk) T.ht hh F (by rw [hlen]; unfold maxLen; omega) (fun _ _ _ _ hz => hz) (Maps.keyOf_int_mk T.hk (kOk_wf hkk.1)) (yv := (.held (.agg a), [])) rfl
   have hks' := mkeys_of T.hk F'
   obtain ⟨_, he'⟩ := fit_of T.hk F'.stamped F'.size hks'
   rw [he', he] at hput
   have hother : ∀ i, i ≠ m → (ChangeMaps.setBlock w m (.map es' clock')).heap[i]? = w.heap[i]? := fun i hi => ChangeMaps.heap_setBlock_other hh _ hi
   have hown : Owned μ m := ⟨0, by rw [hm0]; rfl⟩
   have hS : ∀ q, S q → (ChangeMaps.setBlock w m (.map es' clock')).heap[q]? = w.heap[q]? := fun q hq => hother q (fun e => r1.apart m hown (by rw [← e]; exact hq))
   have hmono : ∀ p q, MRow w S te p q → MRow (ChangeMaps.setBlock w m (.map es' clock')) S te p q := fun p q ⟨b, e1, e2, e3⟩ => ⟨b, e1, e2, fun j c u hc hu => ⟨(e3 j c u hc hu).1.mono hS (fun _ h => h), (e3 j c u hc hu).2⟩⟩
   have hX' : MapX (ChangeMaps.setBlock w m (.map es' clock')) S m te (mset k v xs) := by
     refine ⟨es', clock', ChangeMaps.heap_setBlock_same hh _, F'.stamped, F'.size, hks', ?_⟩
     show A2 _ _ ((es'.toList.map mg).foldr DataW.insert [])
     rw [hput]
     exact (mset_rel hA hrel hs).mono hmono
   obtain ⟨r2, x2⟩ := map_put r1 hm0 hX' rfl rfl rfl (by simp [ChangeMaps.setBlock]) (fun i _ hi => hother i hi)
   refine ⟨_, undef, _, μ, S, prim2 t _ _ _, by simp [hrun, Result.andThen], r2, x2, ?_, by rw [← hb.1]; exact Nat.le_refl 1, fun b _ _ => .inl rfl⟩
   show VR _ _ _ (.tup []) undef
   exact .tup _ _ rfl (by simp)
theorem NPk.drop {n : Nat} (T : MapTy P t kt e te z za) (hn : n = PB + 8 * t + 3 := by decide) : NPk P ⟨n, sigM3 te, fun x h => mdrop x.2.1 h.1⟩ := by
 subst hn
 refine ⟨rfl, fun x hh y hy args ahp ha hb => ?_⟩
 obtain ⟨u, k, u2⟩ := x
 obtain ⟨xs, u3⟩ := hh
 have hy : mdrop k xs = some y := hy
 unfold mdrop at hy
 cases hkk : kOk k with
 | false => rw [hkk] at hy; cases hy
 | true =>
   rw [hkk] at hy
   cases hy
   have h2 : A2 (RV _) [.mp 0, putV (.int .i64) k] args := ha
   obtain ⟨a0, bs, rfl, h0, h2⟩ := h2.cons_inv
   obtain ⟨a1, cs, rfl, h1, h2⟩ := h2.cons_inv
   rw [h2.nil_inv]
   rw [(RT.v h0).mp_inv]
   have e1 : a1 = .int .i64 k := (RT.v h1).int_inv
   subst e1
   intro μ w S cargs r0 hl hv
   obtain ⟨v0, v1, rfl⟩ := arrM2 (by simpa using hl.symm)
   have r1 : HRep μ w S [.live (mblk te xs)] := hrep_conv r0 (canH_conv (l := [.typed (MT te)]) (x := (xs, ())) putH_lens rfl hb)
   obtain ⟨m, hm0, rfl, hX⟩ := map_at r1 (hv 0 _ v0 rfl rfl)
   have := (hv 1 _ v1 rfl rfl).int_inv
   subst this
   obtain ⟨es, clock, hh, hst, hsz, hks, hrel⟩ := hX
   obtain ⟨F, he⟩ := fit_of T.hk hst hsz hks
   obtain ⟨es', hrun, F', _, hdel, _⟩ := Maps.fit_drop (ty := 0) (Maps.int_keyed T.hk) T.ht hh F (Maps.keyOf_int_mk T.hk (kOk_wf hkk))
   have hks' := mkeys_of T.hk F'
   obtain ⟨_, he'⟩ := fit_of T.hk F'.stamped F'.size hks'
   rw [he', he] at hdel
   have hother : ∀ i, i ≠ m → (ChangeMaps.setBlock w m (.map es' clock)).heap[i]? = w.heap[i]? := fun i hi => ChangeMaps.heap_setBlock_other hh _ hi
   have hown : Owned μ m := ⟨0, by rw [hm0]; rfl⟩
   have hS : ∀ q, S q → (ChangeMaps.setBlock w m (.map es' clock)).heap[q]? = w.heap[q]? := fun q hq => hother q (fun e => r1.apart m hown (by rw [← e]; exact hq))
   have hmono : ∀ p q, MRow w S te p q → MRow (ChangeMaps.setBlock w m (.map es' clock)) S te p q := fun p q ⟨b, e1, e2, e3⟩ => ⟨b, e1, e2, fun j c u hc hu => ⟨(e3 j c u hc hu).1.mono hS (fun _ h => h), (e3 j c u hc hu).2⟩⟩
   have hX' : MapX (ChangeMaps.setBlock w m (.map es' clock)) S m te (mdel k xs) := by
     refine ⟨es', clock, ChangeMaps.heap_setBlock_same hh _, F'.stamped, F'.size, hks', ?_⟩
     show A2 _ _ ((es'.toList.map mg).foldr DataW.insert [])
     rw [hdel]
     exact (mdel_rel hrel).mono hmono
   obtain ⟨r2, x2⟩ := map_put r1 hm0 hX' rfl rfl rfl (by simp [ChangeMaps.setBlock]) (fun i _ hi => hother i hi)
   have hrun2 : (Builtin.delete_ #[t] 0 #[.map (some m), .int .i64 k]).run P w = .ok (.tuple #[]) (ChangeMaps.setBlock w m (.map es' clock)) := by
     rw [← hrun]
     simp [Builtin.delete_]
   refine ⟨_, _, _, μ, S, prim3 t _ _, hrun2, r2, x2, ?_, by rw [← hb.1]; exact Nat.le_refl 1, fun b _ _ => .inl rfl⟩
   show VR _ _ _ (.tup []) (.tuple #[])
   exact .tup _ _ rfl (by simp)
theorem NPk.make {P : Program} (t : TypeId) {n : Nat} {te : Ty} (hn : n = PB + 8 * t + 4 := by decide) : NPk P ⟨n, sigM4 te, fun _ _ => some ((), (([] : List (Int × den te)), ()))⟩ := by
 subst hn
 refine ⟨rfl, fun x hh y hy args ahp ha hb => ?_⟩
 cases hy
 have ha : A2 (RV _) [] args := ha
 have hb : A2 (RS _) [] ahp := hb
 rw [ha.nil_inv, hb.nil_inv]
 intro μ w S cargs r0 hl hv
 have hc : cargs = #[] := Array.eq_empty_of_size_eq_zero (by simpa using hl.symm)
 subst hc
 have hfr : μ 0 = .free := r0.free 0 (.inr (Nat.le_refl _))
 have r1 := r0.more 1
 obtain ⟨h1, h2, h3⟩ := alloc_heap w (.map #[] 0)
 have hX : MapX (w.alloc (.map #[] 0)) S w.heap.size te [] := ⟨#[], 0, h2, MapKept.stamped_empty 0, by simp, by simp, .nil⟩
 have q1 := give_rep (w' := w.alloc (.map #[] 0)) (k := mblk te []) (l := .mapAt w.heap.size) r1 hfr (by simp) (mapX_to hX) h1 (by omega) (fun m hm => by cases hm; exact Nat.le_refl _)
 have q2 := give_ext (w' := w.alloc (.map #[] 0)) (l := .mapAt w.heap.size) r1 hfr rfl rfl rfl h1 (by omega) (fun m hm => by cases hm; exact Nat.le_refl _)
 refine ⟨_, _, _, give μ 0 (.mapAt w.heap.size), S, prim4 t, run_makeMap t w, q1, q2, ?_, Nat.zero_le _, fun b hb _ => absurd hb (Nat.not_lt_zero _)⟩
 show VR _ _ _ (.mp 0) _
 refine .mp _ _ ?_
 rw [give_same]
 rfl
end
end NM
end Go.Proofs.Ytfelhbeiegppgaa
end
section
namespace Go.Proofs.Ytfelhbeiegppgaa
open Go Go.RowKit
namespace NM
open AM
theorem perm_sorted {l : List Int} : ∀ {l' : List Int}, l.Perm l' → l.Pairwise (· ≤ ·) → l'.Pairwise (· ≤ ·) → l = l' := by
 induction l with
 | nil => intro l' h _ _; exact (List.Perm.nil_eq h)
 | cons a l ih =>
   intro l' h h1 h2
   cases l' with
   | nil => exact absurd h.symm (by simp)
   | cons b l' =>
     obtain ⟨a1, a2⟩ := List.pairwise_cons.1 h1
     obtain ⟨b1, b2⟩ := List.pairwise_cons.1 h2
     have e : a = b := by
       have m1 : a ∈ b :: l' := h.mem_iff.1 (List.mem_cons_self ..)
       have m2 : b ∈ a :: l := h.mem_iff.2 (List.mem_cons_self ..)
       rcases List.mem_cons.1 m1 with h3 | h3
       · exact h3
       · rcases List.mem_cons.1 m2 with h4 | h4
         · exact h4.symm
         · have := a1 b h4
           have := b1 a h3
           omega
     subst e
     rw [ih (List.Perm.cons_inv h) a2 b2]
section
variable {P : Program} {te : Ty}
@[reducible] def sigMC (te : Ty) : Sig := ⟨.cons (.mp 0) .nil, [.typed (MT te)], (.mp 1, [.typed (MT te), .typed (MT te)]), []⟩
def mclone {α : Type} (xs : List (Int × α)) : Option (Unit × (List (Int × α) × (List (Int × α) × Unit))) := some ((), (xs, (xs, ())))
theorem MapX.more {w w' : World} {S S' : Nat → Prop} {m' : Nat} {xs : List (Int × den te)} {es : Array MapEntry} {clock : Nat} (hw : ∀ q, S q → w'.heap[q]? = w.heap[q]?) (hS : ∀ q, S q → S' q) (hh : w'.heap[m']? = some (.map es clock)) (h1 : MapKept.Stamped es clock) (h2 : es.size ≤ maxLen)
   (h3 : ∀ x, x ∈ es.toList → ∃ z, x.key = .int .i64 z ∧ (Lit.int .i64 z).wf = true) (h4 : A2 (MRow w S te) xs (mlist es)) : MapX w' S' m' te xs :=
 ⟨es, clock, hh, h1, h2, h3, h4.mono fun p q ⟨b, e1, e2, e3⟩ => ⟨b, e1, e2, fun j c u hc hu => ⟨(e3 j c u hc hu).1.mono hw hS, (e3 j c u hc hu).2⟩⟩⟩
theorem NOk.mclone {f : Nat} (hent : AM.Enters P f) (h : ∀ (b : Nat) (es : Array MapEntry) (clock : Nat) (w : World), w.heap[b]? = some (.map es clock) → Calls P f #[.map (some b)] w fun e w' => e = .returned (.map (some w.heap.size)) ∧ w' = w.alloc (.map es clock)) :
   NOk P ⟨f, sigMC te, fun x hh => NM.mclone hh.1⟩ := by
 refine ⟨hent, rfl, fun x hh y hy args ahp ha hb => ?_⟩
 obtain ⟨u, u2⟩ := x
 obtain ⟨xs, u3⟩ := hh
 cases hy
 have h2 : A2 (RV _) [.mp 0] args := ha
 obtain ⟨a0, bs, rfl, h0, h2⟩ := h2.cons_inv
 rw [h2.nil_inv, (RT.v h0).mp_inv]
 intro μ w S cargs r0 hl hv
 obtain ⟨v0, rfl⟩ : ∃ v, cargs = #[v] := by
   have hsz : cargs.size = 1 := by simpa using hl.symm
   refine ⟨cargs[0], ?_⟩
   apply Array.ext
   · simp [hsz]
   · intro i h1 h2
     have : i = 0 := by omega
     subst this
     rfl
 have r1 : HRep μ w S [.live (mblk te xs)] := hrep_conv r0 (canH_conv (l := [.typed (MT te)]) (x := (xs, ())) putH_lens rfl hb)
 obtain ⟨m, hm0, rfl, es, clock, hh, hst, hsz, hks, hrel⟩ := map_at r1 (hv 0 _ v0 rfl rfl)
 have hlen : ahp.length = 1 := by rw [← hb.1]; rfl
 refine (h m es clock w hh).mono fun e w' ⟨he, hw⟩ => ?_
 subst hw
 subst he
 have hf1 : μ 1 = .free := r1.free 1 (.inr (by simp))
 have r2 := r1.more 1
 obtain ⟨q1, q2, q3⟩ := alloc_heap w (.map es clock)
 have hX : MapX (w.alloc (.map es clock)) S w.heap.size te xs := MapX.more (fun q hq => q1 q (r1.inS q hq)) (fun _ h => h) q2 hst hsz hks hrel
 have g1 := give_rep (w' := w.alloc (.map es clock)) (k := mblk te xs) (l := .mapAt w.heap.size) r2 hf1 (by simp) (mapX_to hX) q1 (by omega) (fun m hm => by cases hm; exact Nat.le_refl _)
 have g2 := give_ext (w' := w.alloc (.map es clock)) (l := .mapAt w.heap.size) r2 hf1 rfl rfl rfl q1 (by omega) (fun m hm => by cases hm; exact Nat.le_refl _)
 have hset : (([.live (mblk te xs)] : AM.Heap) ++ List.replicate 1 Slot.free).set 1 (.live (mblk te xs)) = [.live (mblk te xs), .live (mblk te xs)] := rfl
 rw [hset] at g1
 refine ⟨_, give μ 1 (.mapAt w.heap.size), S, rfl, g1, g2, ?_, by rw [hlen]; exact Nat.le_succ 1, fun b hb hf => .inl (give_other (by omega))⟩
 show VR _ _ _ (.mp 1) _
 refine .mp _ _ ?_
 rw [give_same]
 rfl
@[reducible] def sigSK (te : Ty) (g : Nat) : Sig := ⟨.cons (.fn g (.cons (.ptr 0 0 0) .nil)) .nil, [.cell false (.cons (.mp 1) .nil), .typed (MT te)], (.slw 2 1, [.cell false (.cons (.mp 1) .nil), .typed (MT te), .typed (.int .i64)]), []⟩
def mkeys {α : Type} (xs : List (Int × α)) : Option (Unit × ((Unit × Unit) × (List (Int × α) × (List Int × Unit)))) := cond (decide (xs.length ≤ 4294967296)) (some ((), (((), ()), (xs, (xs.map (·.1), ()))))) none
theorem NOk.mkeys {f g kt eI : Nat} (hent : AM.Enters P f) (hk : P.underlying kt = some (.int .i64))
   (h : ∀ (Bm b nn : Nat) (D0 : DataW Value) (w : World), Bm < w.heap.size → w.cell? ⟨Bm, 0, none⟩ = some (.map (some b)) → w.ownsMap P kt RV0 b nn D0 → Maps.size D0 ≤ maxLen → Maps.size D0 * 8 ≤ 140737488355328 →
     Calls P f #[.func (.func g) #[] #[.pointer (some ⟨Bm, 0, none⟩)]] w fun e w' => ∃ v ss, e = .returned v ∧ ss.Perm (intKeys D0) ∧ w'.ownsRow w.heap.size eI 1 v ss.length ((ss.mergeSort fun x y => decide (x ≤ y)).map encZ) ∧ (v = .slice none 0 0 ↔ ss = []) ∧ Below w.heap.size w w') :
   NOk P ⟨f, sigSK te g, fun x hh => NM.mkeys hh.2.1⟩ := by
 refine ⟨hent, rfl, fun x hh y hy args ahp ha hb => ?_⟩
 obtain ⟨⟨ux, uy⟩, u2⟩ := x
 obtain ⟨⟨uz, uw⟩, xs, u3⟩ := hh
 have hy : NM.mkeys xs = some y := hy
 unfold NM.mkeys at hy
 cases hsm : decide (xs.length ≤ 4294967296) with
 | false => rw [hsm] at hy; cases hy
 | true =>
   rw [hsm] at hy
   cases hy
   have hsm := of_decide_eq_true hsm
   have h2 : A2 (RV _) [.fn g [.ptr 0 0 0]] args := ha
   obtain ⟨a0, bs, rfl, h0, h2⟩ := h2.cons_inv
   rw [h2.nil_inv]
   obtain ⟨cap', rfl, hcap⟩ := (RT.v h0).fn_inv
   obtain ⟨c0, cs, rfl, hc0, hcap⟩ := hcap.cons_inv
   rw [hcap.nil_inv, hc0.rt.ptr_inv]
   intro μ w S cargs r0 hl hv
   obtain ⟨v0, rfl⟩ : ∃ v, cargs = #[v] := by
     have hsz : cargs.size = 1 := by simpa using hl.symm
     refine ⟨cargs[0], ?_⟩
     apply Array.ext
     · simp [hsz]
     · intro i h1 h2
       have : i = 0 := by omega
       subst this
       rfl
   have r1 : HRep μ w S [.live ⟨1, false, [[.mp 1]]⟩, .live (mblk te xs)] := hrep_conv r0 (canH_conv (l := [.cell false (.cons (.mp 1) .nil), .typed (MT te)]) (x := (((), ()), (xs, ()))) putH_lens rfl hb)
   have hlen : ahp.length = 2 := by rw [← hb.1]; rfl
   obtain ⟨caps, rfl, hcl, hcaps⟩ := (hv 0 _ v0 rfl rfl).fn_inv
   have hcs : caps.size = 1 := by simpa using hcl.symm
   obtain ⟨p0, rfl⟩ : ∃ v, caps = #[v] := by
     refine ⟨caps[0], ?_⟩
     apply Array.ext
     · simp [hcs]
     · intro i h1 h2
       have : i = 0 := by omega
       subst this
       rfl
   have hp0 := (hcaps 0 _ p0 rfl rfl).ptr_inv
   have B0 := r1.live 0 _ rfl
   have B1 := r1.live 1 _ rfl
   cases m0 : μ 0 with
   | free => rw [m0] at B0; exact B0.elim
   | dead => rw [m0] at B0; exact B0.elim
   | void => rw [m0] at hp0; exact hp0.elim
   | mapAt q => rw [m0] at hp0; exact hp0.elim
   | here m n e =>
     rw [m0] at B0 hp0
     have hp0 : p0 = .pointer (some ⟨m, 0 * e + 0, none⟩) := hp0
     rw [Nat.zero_mul] at hp0
     subst hp0
     obtain ⟨he, _, _, cells, tb, hhm, hcsz, hcc⟩ := B0
     obtain ⟨vm, hvm, hR, _⟩ := hcc 0 [.mp 1] 0 (.mp 1) rfl rfl
     have hR : VR μ w S (.mp 1) vm := hR
     have hmp := hR.mp_inv
     cases m1 : μ 1 with
     | free => rw [m1] at B1; exact B1.elim
     | dead => rw [m1] at B1; exact B1.elim
     | void => rw [m1] at hmp; exact hmp.elim
     | here m' n' e' => rw [m1] at hmp; exact hmp.elim
     | mapAt mm =>
       rw [m1] at B1 hmp
       have hmp : vm = .map (some mm) := hmp
       subst hmp
       obtain ⟨es, clock, hh, hst, hsz, hks, hrel⟩ := mapX_of B1
       obtain ⟨F, hge⟩ := fit_of hk hst hsz hks
       have hsrt := msorted hk F hge
       have hasc := masc hrel hsrt
       have hown : w.ownsMap P kt RV0 mm es.size (.map (mlist es)) := ⟨es, clock, hh, F, Nat.le_refl _, by rw [hge]⟩
       have hln : (mlist es).length = xs.length := hrel.1.symm
       have hkeys : intKeys (DataW.map (mlist es)) = xs.map (·.1) := by
         show (mlist es).map (fun p => _root_.Go.intOf p.1) = _
         apply List.ext_getElem
         · simp [hln]
         · intro i g1 g2
           have gi : i < xs.length := by simpa using g2
           obtain ⟨a, e1, _⟩ := hrel.2 i _ _ (List.getElem?_eq_getElem gi) (List.getElem?_eq_getElem (by omega))
           rw [List.getElem_map, List.getElem_map, e1]
           rfl
       have hml : m < w.heap.size := r1.lt ⟨0, by rw [m0]; rfl⟩
       have hszD : Maps.size (DataW.map (mlist es)) = xs.length := by
         rw [← hln]
         rfl
       have hcell : w.cell? ⟨m, 0, none⟩ = some (.map (some mm)) := by
         simp only [World.cell?, hhm]
         simpa using hvm
       refine (h m mm es.size (.map (mlist es)) w hml hcell hown (by rw [hszD]; unfold maxLen; omega) (by rw [hszD]; omega)).mono fun e w' ⟨v, ss, hret, hperm, hrow, hnil, hbel⟩ => ?_
       subst hret
       rw [hkeys] at hperm
       have hkasc : (xs.map (·.1)).Pairwise (· ≤ ·) := by
         rw [List.pairwise_map]
         exact hasc.imp fun h => Int.le_of_lt h
       have hms : ss.mergeSort (fun x y => decide (x ≤ y)) = xs.map (·.1) := by
         refine perm_sorted ((List.mergeSort_perm _ _).trans hperm) ?_ hkasc
         have := List.pairwise_mergeSort (le := fun x y : Int => decide (x ≤ y)) (fun a b c h1 h2 => by simp at *; omega) (fun a b => by simp; omega) ss
         exact this.imp fun h => by simpa using h
       have hssl : ss.length = xs.length := by rw [hperm.length_eq, List.length_map]
       rw [hms, hssl] at hrow
       have hf2 : μ 2 = .free := r1.free 2 (.inr (by simp))
       have r2 := r1.more 1
       have hset : ∀ k, (([.live ⟨1, false, [[.mp 1]]⟩, .live (mblk te xs)] : AM.Heap) ++ List.replicate 1 Slot.free).set 2 (.live k) = [.live ⟨1, false, [[.mp 1]]⟩, .live (mblk te xs), .live k] := fun k => rfl
       have e3 : yA (sigSK te g).res (sigSK te g).more ((), (((), ()), (xs, (xs.map (·.1), ())))) = .sl 2 0 xs.length 1 := by
         simp [yA, outA, can, lensOf, putH, putS, nget, NBlk.len, puts, put]
       have fin : ∀ (l : AM.Loc), (∀ q, l.blk = some q → w.heap.size ≤ q) → BlkR (give μ 2 l) w' S l ⟨1, true, (xs.map (·.1)).map (acells (.int .i64))⟩ → SlAt l 0 xs.length 1 v →
           ∃ v'' μ' S', Ending.returned v = .returned v'' ∧ HRep μ' w' S' (yB (sigSK te g).res (sigSK te g).more ((), (((), ()), (xs, (xs.map (·.1), ()))))) ∧ Ext μ S w μ' S' w' ∧ VR μ' w' S' (yA (sigSK te g).res (sigSK te g).more ((), (((), ()), (xs, (xs.map (·.1), ()))))) v'' ∧ ahp.length ≤ (yB (sigSK te g).res (sigSK te g).more ((), (((), ()), (xs, (xs.map (·.1), ()))))).length ∧ ∀ b, b < ahp.length → μ b ≠ .free → μ' b = μ b ∨ μ' b = .dead := by
         intro l g1 g2 g3
         have q1 := give_rep (w' := w') (k := ⟨1, true, (xs.map (·.1)).map (acells (.int .i64))⟩) (l := l) r2 hf2 (by simp) g2 hbel.block hbel.size g1
         have q2 := give_ext (w' := w') (l := l) r2 hf2 hbel.os hbel.tape hbel.output hbel.block hbel.size g1
         rw [hset] at q1
         refine ⟨v, give μ 2 l, S, rfl, q1, q2, ?_, by rw [hlen]; exact Nat.le_succ 2, fun b hb hf => .inl (give_other (by omega))⟩
         rw [e3]
         refine .sl _ _ _ _ _ ?_
         rw [give_same]
         exact g3
       obtain ⟨_, hrow⟩ := hrow
       rcases hrow with ⟨rfl, hz⟩ | ⟨gb, cap, cur, rfl, hgb, hgh, hnc, hcm, hcz, htk⟩
       · have hx0 : xs = [] := List.eq_nil_of_length_eq_zero hz
         subst hx0
         exact fin .void (fun q hq => by cases hq) rfl ⟨rfl, rfl, none, rfl⟩
       · refine fin (.here gb cap 1) (fun q hq => by cases hq; exact hgb) ?_ ⟨rfl, cap, rfl, by omega, hnc⟩
         have hint : ∀ z : Int, acells (.int .i64) z = [.int .i64 z] := fun z => by
           obtain ⟨c, d, q1, q2, q3, q4⟩ := one_cells (t := .int .i64) rfl z
           have : c = .int .i64 z := by cases q1; rfl
           subst this
           cases q3
           exact q2
         refine ⟨rfl, by simpa using hnc, fun i x hx => ?_, cur, _, hgh, by omega, fun i x j c hx hc => ?_⟩
         · simp only [List.getElem?_map, Option.map_eq_some_iff] at hx
           obtain ⟨p, _, rfl⟩ := hx
           rw [hint]
           rfl
         · simp only [List.getElem?_map, Option.map_eq_some_iff] at hx
           obtain ⟨p, ⟨p0, hp0, rfl⟩, rfl⟩ := hx
           rw [hint] at hc
           match j with
           | j + 1 => simp at hc
           | 0 =>
             simp at hc
             subst hc
             have hil : i < xs.length := (List.getElem?_eq_some_iff.1 hp0).1
             have h1 := congrArg (·[i]?) htk
             simp only [List.getElem?_take, List.getElem?_map, hp0, Option.map_some] at h1
             rw [if_pos (by omega)] at h1
             refine ⟨.int .i64 p0.1, ?_, .int _ _, rfl⟩
             show cur[i * 1 + 0]? = _
             rw [Nat.mul_one, Nat.add_zero, ← Array.getElem?_toList]
             exact h1
end
end NM
end Go.Proofs.Ytfelhbeiegppgaa
end
section
namespace Go.Proofs
open Go.Shelf
def Try.lays189_ren : Go.Shelf.Ren := ⟨fun | 189 => 77 | 125 => 92 | 257 => 91 | 128 => 113 | 129 => 114 | 294 => 104 | 295 => 105 | 296 => 106 | 297 => 107 | 298 => 108 | 299 => 109 | 216 => 110 | 300 => 111 | 301 => 112 | 328 => 117 | 329 => 118 | 330 => 119 | 331 => 120 | 332 => 121 | 215 => 122 | 343 => 123 | n => n, fun | 28 => 90 | 3 => 3 | 46 => 137 | 0 => 0 | 51 => 160 | 53 => 162 | 4 => 4 | 183 => 153 | 182 => 152 | 131 => 82 | 5 => 5 | 9 => 9 | 218 => 164 | 222 => 168 | 228 => 170 | 229 => 171 | n => n, fun | n => n⟩
theorem Try.lays189 : Go.Proofs.Lays.n189 Try.prog Try.lays189_ren := {
 mixed := by kernel_rfl
 f125 := Try.func92.trans (congrArg some (by kernel_rfl))
 f128 := Try.func113.trans (congrArg some (by kernel_rfl))
 f129 := Try.func114.trans (congrArg some (by kernel_rfl))
 f189 := Try.func77.trans (congrArg some (by kernel_rfl))
 f215 := Try.func122.trans (congrArg some (by kernel_rfl))
 f216 := Try.func110.trans (congrArg some (by kernel_rfl))
 f257 := Try.func91.trans (congrArg some (by kernel_rfl))
 f294 := Try.func104.trans (congrArg some (by kernel_rfl))
 f295 := Try.func105.trans (congrArg some (by kernel_rfl))
 f296 := Try.func106.trans (congrArg some (by kernel_rfl))
 f297 := Try.func107.trans (congrArg some (by kernel_rfl))
 f298 := Try.func108.trans (congrArg some (by kernel_rfl))
 f299 := Try.func109.trans (congrArg some (by kernel_rfl))
 f300 := Try.func111.trans (congrArg some (by kernel_rfl))
 f301 := Try.func112.trans (congrArg some (by kernel_rfl))
 f328 := Try.func117.trans (congrArg some (by kernel_rfl))
 f329 := Try.func118.trans (congrArg some (by kernel_rfl))
 f330 := Try.func119.trans (congrArg some (by kernel_rfl))
 f331 := Try.func120.trans (congrArg some (by kernel_rfl))
 f332 := Try.func121.trans (congrArg some (by kernel_rfl))
 f343 := Try.func123.trans (congrArg some (by kernel_rfl))
 t0 := Try.underlying0
 a0 := Try.isAgg0
 z0 := Try.sizeOf0
 v0 := Try.zeroValue0
 t3 := Try.underlying3
 a3 := Try.isAgg3
 z3 := Try.sizeOf3
 v3 := Try.zeroValue3
 t4 := Try.underlying4
 a4 := Try.isAgg4
 z4 := Try.sizeOf4
 v4 := Try.zeroValue4
 t5 := Try.underlying5
 a5 := Try.isAgg5
 z5 := Try.sizeOf5
 v5 := Try.zeroValue5
 t9 := Try.underlying9
 a9 := Try.isAgg9
 z9 := Try.sizeOf9
 v9 := Try.zeroValue9
 t28 := Try.underlying90
 a28 := Try.isAgg90
 z28 := Try.sizeOf90
 v28 := Try.zeroValue90
 t46 := Try.underlying137
 a46 := Try.isAgg137
 z46 := Try.sizeOf137
 v46 := Try.zeroValue137
 t51 := Try.underlying160
 a51 := Try.isAgg160
 z51 := Try.sizeOf160
 v51 := Try.zeroValue160
 t53 := Try.underlying162
 a53 := Try.isAgg162
 z53 := Try.sizeOf162
 v53 := Try.zeroValue162
 t131 := Try.underlying82
 a131 := Try.isAgg82
 z131 := Try.sizeOf82
 v131 := Try.zeroValue82
 t182 := Try.underlying152
 a182 := Try.isAgg152
 z182 := Try.sizeOf152
 v182 := Try.zeroValue152
 t183 := Try.underlying153
 a183 := Try.isAgg153
 z183 := Try.sizeOf153
 v183 := Try.zeroValue153
 t218 := Try.underlying164
 a218 := Try.isAgg164
 z218 := Try.sizeOf164
 v218 := Try.zeroValue164
 t222 := Try.underlying168
 a222 := Try.isAgg168
 z222 := Try.sizeOf168
 v222 := Try.zeroValue168
 t228 := Try.underlying170
 a228 := Try.isAgg170
 z228 := Try.sizeOf170
 v228 := Try.zeroValue170
 t229 := Try.underlying171
 a229 := Try.isAgg171
 z229 := Try.sizeOf171
 v229 := Try.zeroValue171 }
open Go.Sort Go.RowKit in
theorem Try.slices_Sort_int (blk off cap : Nat) (zs : List Int) (w : World) (hH : Holds (Value.int .i64) w blk off zs.toArray) (hblk : blk < w.heap.size) (hsz : zs.length < 4611686018427387904) :
   Calls Try.prog 77 #[.slice (some ⟨blk, off, none⟩) zs.length cap] w fun e w' =>
     e = .returned (.tuple #[]) ∧ ∃ n os, w' = grow (putRow (Value.int .i64) (Sort.ahead w n) blk off (zs.mergeSort fun x y => decide (x ≤ y)).toArray) os := Any.slices_Sort_int Try.lays189 blk off cap zs w hH hblk hsz
open Go.RowKit Go.Sort in
theorem Try.slices_Sort_int_none (p : Option Addr) (cap : Nat) (w : World) :
   Calls Try.prog 77 #[.slice p 0 cap] w fun e w' => e = .returned (.tuple #[]) ∧ w' = w := Any.slices_Sort_int_none Try.lays189 p cap w
def Try.mcL_ren : Go.Shelf.Ren := ⟨fun | 5 => 51 | 7 => 79 | n => n, fun | 23 => 95 | 25 => 3 | 3 => 57 | 4 => 4 | 20 => 20 | n => n, fun | n => n⟩
theorem Try.mcL : Go.Proofs.SlLaysW.n5 Try.prog Try.mcL_ren := {
 mixed := by kernel_rfl
 f5 := ⟨Try.f51.name, by decide, Try.func51.trans (congrArg some (by kernel_rfl))⟩
 f7 := Try.func79.trans (congrArg some (by kernel_rfl))
 t4 := Try.underlying4
 a4 := Try.isAgg4
 z4 := Try.sizeOf4
 v4 := Try.zeroValue4
 t20 := Try.underlying20
 a20 := Try.isAgg20
 z20 := Try.sizeOf20
 v20 := Try.zeroValue20
 t23 := Try.underlying95
 a23 := Try.isAgg95
 z23 := Try.sizeOf95
 v23 := Try.zeroValue95 }
theorem Try.maps_Clone (b : Nat) (es : Array MapEntry) (clock : Nat) (w : World) (hb : w.heap[b]? = some (.map es clock)) :
   Calls Try.prog 51 #[.map (some b)] w fun e w' => e = .returned (.map (some w.heap.size)) ∧ w' = w.alloc (.map es clock) := AnyW.maps_Clone Try.mcL b es clock w hb
def Try.skL_ren : Go.Shelf.Ren := ⟨fun | 6 => 48 | 8 => 76 | 9 => 77 | 11 => 90 | 13 => 92 | 12 => 91 | 23 => 113 | 24 => 114 | 14 => 104 | 15 => 105 | 16 => 106 | 17 => 107 | 18 => 108 | 19 => 109 | 20 => 110 | 21 => 111 | 22 => 112 | 25 => 117 | 26 => 118 | 27 => 119 | 28 => 120 | 29 => 121 | 30 => 122 | 31 => 123 | n => n, fun | 26 => 3 | 28 => 105 | 24 => 90 | 0 => 0 | 3 => 3 | 37 => 137 | 48 => 160 | 50 => 162 | 4 => 4 | 40 => 153 | 39 => 152 | 45 => 82 | 5 => 5 | 9 => 9 | 51 => 164 | 55 => 168 | 57 => 170 | 58 => 171 | 33 => 107 | n => n, fun | n => n⟩
theorem Try.skL : Go.Proofs.SlLaysZI.n6 Try.prog Try.skL_ren := {
 mixed := by kernel_rfl
 f6 := ⟨Try.f48.name, by decide, Try.func48.trans (congrArg some (by kernel_rfl))⟩
 f8 := ⟨Try.f76.name, by decide, Try.func76.trans (congrArg some (by kernel_rfl))⟩
 f11 := ⟨Try.f90.name, by decide, Try.func90.trans (congrArg some (by kernel_rfl))⟩
 t0 := Try.underlying0
 a0 := Try.isAgg0
 z0 := Try.sizeOf0
 v0 := Try.zeroValue0
 t24 := Try.underlying90
 a24 := Try.isAgg90
 z24 := Try.sizeOf90
 v24 := Try.zeroValue90
 t26 := Try.underlying3
 a26 := Try.isAgg3
 z26 := Try.sizeOf3
 v26 := Try.zeroValue3
 t28 := Try.underlying105
 a28 := Try.isAgg105
 z28 := Try.sizeOf105
 v28 := Try.zeroValue105
 i26 := by kernel_rfl }
def Try.mkL_ren : Go.Shelf.Ren := ⟨fun | 7 => 49 | 10 => 78 | n => n, fun | 23 => 95 | 26 => 3 | 3 => 57 | 28 => 105 | 0 => 0 | 27 => 104 | 33 => 107 | 4 => 4 | n => n, fun | n => n⟩
theorem Try.mkL : Go.Proofs.SlLaysZI.n7 Try.prog Try.mkL_ren := {
 mixed := by kernel_rfl
 f7 := ⟨Try.f49.name, by decide, Try.func49.trans (congrArg some (by kernel_rfl))⟩
 f10 := ⟨Try.f78.name, by decide, Try.func78.trans (congrArg some (by kernel_rfl))⟩
 t0 := Try.underlying0
 a0 := Try.isAgg0
 z0 := Try.sizeOf0
 v0 := Try.zeroValue0
 t4 := Try.underlying4
 a4 := Try.isAgg4
 z4 := Try.sizeOf4
 v4 := Try.zeroValue4
 t23 := Try.underlying95
 a23 := Try.isAgg95
 z23 := Try.sizeOf95
 v23 := Try.zeroValue95
 t26 := Try.underlying3
 a26 := Try.isAgg3
 z26 := Try.sizeOf3
 v26 := Try.zeroValue3
 t27 := Try.underlying104
 a27 := Try.isAgg104
 z27 := Try.sizeOf104
 v27 := Try.zeroValue104
 t28 := Try.underlying105
 a28 := Try.isAgg105
 z28 := Try.sizeOf105
 v28 := Try.zeroValue105
 t33 := Try.underlying107
 a33 := Try.isAgg107
 z33 := Try.sizeOf107
 v33 := Try.zeroValue107 }
open Go.RowKit Go.Maps Go.Sort in
theorem Try.sorts_in (m : Nat) : AnyZI.SortsIn Try.prog Try.skL_ren Fence.wide m :=
 ⟨fun blk off cap ss W hH hblk hsz => callsIn_wide.2 (Try.slices_Sort_int blk off cap ss W hH hblk hsz), fun p cap W => callsIn_wide.2 (Try.slices_Sort_int_none p cap W)⟩
open Go.RowKit Go.Maps Go.Sort in
theorem Try.sorted_keys {H : Type} (Bm b nn : Nat) (D0 : DataW H) (R : Value → Option (DataW H × List MemPlace)) (w : World) (hBm : Bm < w.heap.size) (hm : w.cell? ⟨Bm, 0, none⟩ = some (.map (some b))) (hown : w.ownsMap Try.prog 3 R b nn D0) (hmax : Maps.size D0 ≤ maxLen) (hbytes : Maps.size D0 * 8 ≤ 140737488355328) :
   Calls Try.prog 48 #[.func (.func 78) #[] #[.pointer (some ⟨Bm, 0, none⟩)]] w fun e w' => ∃ v ss, e = .returned v ∧ ss.Perm (intKeys D0) ∧ w'.ownsRow w.heap.size 3 1 v ss.length ((ss.mergeSort fun x y => decide (x ≤ y)).map encZ) ∧ (v = .slice none 0 0 ↔ ss = []) ∧ Below w.heap.size w w' :=
 have hseq : SeqGives Fence.wide 2 Try.prog 78 #[.pointer (some ⟨Bm, 0, none⟩)] encZ (fun ss => ss.Perm (intKeys D0)) (Maps.size D0) w := AnyZI.keys_gives (ρ := Try.mkL_ren) { Try.mkL with } Fence.wide _ trivial rfl (by omega) Bm b nn D0 w hBm hm hown
 (callsIn_wide (n := 5)).1 (AnyZI.sorted_in Try.skL Fence.wide 5 trivial trivial trivial trivial rfl (by omega) (Try.sorts_in _) (enters_of Try.func77 (by kernel_rfl) rfl) 78 #[.pointer (some ⟨Bm, 0, none⟩)] trivial (enters_of Try.func78 (by kernel_rfl) rfl) _ _ hmax hbytes _ hseq)
end Go.Proofs
end
section
namespace Go.Proofs.Ytfelhbeiegppgaa
open Go Go.RowKit
namespace NM
open AM
@[reducible] def zMap : Alloc := Alloc.mk 0 (Res.mk 0 0 0 0) []
@[reducible] def zaMap : Array Value := #[.int .i64 0, .int .i64 0, .int .i64 0, .int .i64 0, .int .i64 0, .slice none 0 0]
theorem zaMap_rel (w : World) (S : Nat → Prop) : AggR w S .alloc zMap zaMap := by
 have h := acells_rel .alloc zMap
 have e : (ops .alloc).cells zMap = [.int .i64 0, .int .i64 0, .int .i64 0, .int .i64 0, .int .i64 0, .lst .share []] := rfl
 rw [e] at h
 refine ⟨h.1.symm, fun j c v hc hv => ?_⟩
 match j with
 | 0 => cases hv; exact ⟨(h.2 0 _ c rfl hc).canon (.int ..) (.int ..), rfl⟩
 | 1 => cases hv; exact ⟨(h.2 1 _ c rfl hc).canon (.int ..) (.int ..), rfl⟩
 | 2 => cases hv; exact ⟨(h.2 2 _ c rfl hc).canon (.int ..) (.int ..), rfl⟩
 | 3 => cases hv; exact ⟨(h.2 3 _ c rfl hc).canon (.int ..) (.int ..), rfl⟩
 | 4 => cases hv; exact ⟨(h.2 4 _ c rfl hc).canon (.int ..) (.int ..), rfl⟩
 | 5 => cases hv; exact ⟨(h.2 5 _ c rfl hc).canon (.lst0 _) (.zsl none), rfl⟩
 | j + 6 => cases hv
theorem mapTyM : MapTy Try.prog 95 3 57 .alloc zMap zaMap where
 ht := by kernel_rfl
 hk := by kernel_rfl
 hz := Try.zeroValue57
 hza := zaMap_rel
 hagg := rfl
theorem ext51 : NOk Try.prog ⟨51, sigMC .alloc, fun x h => mclone h.1⟩ :=
 NOk.mclone (P := Try.prog) ⟨_, Try.func51, rfl, rfl⟩ fun b es clock w h => Try.maps_Clone b es clock w h
theorem ext48 : NOk Try.prog ⟨48, sigSK .alloc 78, fun x h => mkeys h.2.1⟩ :=
 NOk.mkeys (P := Try.prog) ⟨_, Try.func48, rfl, rfl⟩ (by kernel_rfl) fun Bm b nn D0 w h1 h2 h3 h4 h5 => Try.sorted_keys Bm b nn D0 RV0 w h1 h2 h3 h4 h5
end NM
end Go.Proofs.Ytfelhbeiegppgaa
end
