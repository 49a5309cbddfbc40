/-
  deps.Chain at its chapter's example, part 1: memory within the call, and the closure that follows dependencies.
-/
import Derived.Test.YtnggfgfeghmddaaNInsert
import Derived.Maps.OwnSet
import Derived.Maps.OwnRows
import Derived.OneCell
import Derived.LoopN
import Derived.WalkKit
import Derived.WalkSpells
import Derived.Below
set_option linter.unusedVariables false
set_option linter.unusedSimpArgs false
namespace Go.Proofs.Ytnggfgfeghmddaa
open Go.RowKit Go.Lib Go Go.Maps
namespace Chain

theorem lawI : Keyed Try.prog 3 := int_keyed Try.underlying3
theorem zeroI (w : World) : (zeroValue 3).run Try.prog w = .ok (.int .i64 0) w := by kernel_rfl
theorem infoI : (Try.prog.info? 3).map (fun i => (i.zero, i.size, i.bytes)) = some (some (.int .i64 0), 1, 8) := by kernel_rfl
def C0 : DataW Unit := .map []
def C1 : DataW Unit := C0.put (.int .i64 1) (.lit (.int .i64 0))
def C2 : DataW Unit := C1.put (.int .i64 2) (.lit (.int .i64 1))
def C3 : DataW Unit := C2.put (.int .i64 3) (.lit (.int .i64 2))

/-- the call's own memory while dependencies are followed; its first block is n -/
structure St (w u : World) (n p A o cap : Nat) (s : List Bool) (ids : List Int) : Prop where
  below : Below n w u
  all : u.heap[n]? = some (.cells #[.slice (some ⟨A, o, none⟩) 3 cap] 36 (0, 0))
  map : u.ownsMap Try.prog 3 (plainElem Try.prog 3) (n + 1) 3 C3
  wh : u.heap[n + 2]? = some (.cells #[.map (some (n + 1))] 138 (0, 0))
  ids : ∃ v, u.heap[p]? = some (.cells #[v] 60 (0, 0)) ∧ u.ownsInts (p + 6) 3 .i64 v ids
  seenB : u.heap[p + 1]? = some (.cells (s.map Value.bool).toArray 4 (0, 0))
  seen : u.heap[p + 2]? = some (.cells #[.slice (some ⟨p + 1, 0, none⟩) 3 3] 139 (0, 0))
  later : u.heap[p + 4]? = some (.cells #[.slice (some ⟨p + 3, 0, none⟩) 0 1] 60 (0, 0))
  fol : u.heap[p + 5]? = some (.cells #[.func (.func 90) #[] #[.pointer (some ⟨n + 2, 0, none⟩), .pointer (some ⟨p + 4, 0, none⟩), .pointer (some ⟨n, 0, none⟩), .pointer (some ⟨p + 2, 0, none⟩), .pointer (some ⟨p, 0, none⟩), .pointer (some ⟨p + 5, 0, none⟩)]] 140 (0, 0))
  sz : p + 6 ≤ u.heap.size
  np : n + 3 ≤ p
theorem ownsMap_of {P : Program} {k e : TypeId} {u u' : World} {b m : Nat} {D : DataW Unit} (h : u.ownsMap P k (plainElem P e) b m D) (hb : u'.heap[b]? = u.heap[b]?) : u'.ownsMap P k (plainElem P e) b m D := by
  obtain ⟨es, clock, h1, h2⟩ := h
  exact ⟨es, clock, hb.trans h1, h2⟩
theorem St.turn {w u u' : World} {n p A o cap : Nat} {s s' : List Bool} {ids ids' : List Int} (h : St w u n p A o cap s ids) (hos : u'.os = u.os) (htape : u'.tape = u.tape) (hout : u'.output = u.output) (hsz : u.heap.size ≤ u'.heap.size)
    (hb : ∀ k, k < p + 6 → k ≠ p → k ≠ p + 1 → u'.heap[k]? = u.heap[k]?)
    (hi : ∃ v, u'.heap[p]? = some (.cells #[v] 60 (0, 0)) ∧ u'.ownsInts (p + 6) 3 .i64 v ids')
    (hs : u'.heap[p + 1]? = some (.cells (s'.map Value.bool).toArray 4 (0, 0))) : St w u' n p A o cap s' ids' := by
  have np := h.np
  exact ⟨h.below.trans ⟨hos, htape, hout, hsz, fun k hk => hb k (by omega) (by omega) (by omega)⟩,
    (hb n (by omega) (by omega) (by omega)).trans h.all,
    ownsMap_of h.map (hb _ (by omega) (by omega) (by omega)),
    (hb _ (by omega) (by omega) (by omega)).trans h.wh,
    hi,
    hs,
    (hb _ (by omega) (by omega) (by omega)).trans h.seen,
    (hb _ (by omega) (by omega) (by omega)).trans h.later,
    (hb _ (by omega) (by omega) (by omega)).trans h.fol,
    Nat.le_trans h.sz hsz,
    np⟩
theorem St.alloc {w u : World} {n p A o cap : Nat} {s : List Bool} {ids : List Int} (h : St w u n p A o cap s ids) (x : Obj) : St w (u.alloc x) n p A o cap s ids := by
  have hsz := h.sz
  have hb : ∀ k, k < p + 6 → (u.alloc x).heap[k]? = u.heap[k]? := fun k hk => Below.heap_alloc _ _ _ (by omega)
  obtain ⟨v, h1, h2⟩ := h.ids
  exact h.turn rfl rfl rfl (by simp) (fun k hk _ _ => hb k hk) ⟨v, (hb _ (by omega)).trans h1, h2.1.alloc _, h2.2⟩ ((hb _ (by omega)).trans h.seenB)
theorem set_row {s : List Bool} {k : Nat} (hk : k < s.length) : (s.map Value.bool).toArray.setIfInBounds k (.bool true) = ((s.set k true).map Value.bool).toArray := by
  simp [List.map_set]
theorem St.setSeen {w u : World} {n p A o cap : Nat} {s : List Bool} {ids : List Int} (h : St w u n p A o cap s ids) (k : Nat) (hk : k < s.length) : St w (u.setCell ⟨p + 1, k, none⟩ (.bool true)) n p A o cap (s.set k true) ids := by
  have hsz := h.sz
  have hb : ∀ j, j ≠ p + 1 → (u.setCell ⟨p + 1, k, none⟩ (.bool true)).heap[j]? = u.heap[j]? := fun j hj => Below.heap_setCell _ _ _ _ hj
  obtain ⟨v, h1, h2⟩ := h.ids
  refine h.turn rfl rfl rfl (by simp [World.setCell]) (fun k hk _ h7 => hb k h7) ⟨v, (hb _ (by omega)).trans h1, ownsRow_setCell_below h2.1 (by show p + 1 < p + 6; omega) _, h2.2⟩ ?_
  have hB := h.seenB
  have hlt : p + 1 < u.heap.size := by omega
  have h' : u.heap[p + 1] = .cells (s.map Value.bool).toArray 4 (0, 0) := by simpa [Array.getElem?_eq_getElem hlt] using hB
  show (u.heap.modify (p + 1) _)[p + 1]? = _
  rw [Array.getElem?_eq_getElem (by simpa using hlt), Array.getElem_modify_self, h']
  simp only [List.map_set]
  simp [Array.modify, Array.setIfInBounds]
  intro hh
  omega
/-- the numbers grow by one; whatever else there is stays -/
theorem St.grown {w u u1 : World} {n p A o cap : Nat} {s : List Bool} {ids ids' : List Int} {v v' : Value} (h : St w u n p A o cap s ids) (hv : u.heap[p]? = some (.cells #[v] 60 (0, 0))) (hown : u.ownsInts (p + 6) 3 .i64 v ids)
    (hg : u.grownBy u1 v.ownBlock) (hown' : u1.ownsInts (p + 6) 3 .i64 v' ids') : St w (u1.setCell ⟨p, 0, none⟩ v') n p A o cap s ids' := by
  have hsz := h.sz
  have hlow : ∀ k, v.ownBlock = some k → p + 6 ≤ k := fun k hk => (hown.1.lt k hk).1
  have hb1 : ∀ k, k < p + 6 → u1.heap[k]? = u.heap[k]? := fun k hk => hg.block k (by omega) (fun e => by have := hlow k e.symm; omega)
  have hb : ∀ k, k < p + 6 → k ≠ p → (u1.setCell ⟨p, 0, none⟩ v').heap[k]? = u.heap[k]? := fun k hk h6 => (Below.heap_setCell _ _ _ _ h6).trans (hb1 k hk)
  refine h.turn hg.os hg.tape hg.output (by have := hg.size; simpa [World.setCell] using this) (fun k hk h6 _ => hb k hk h6) ⟨v', one_setCell ((hb1 _ (by omega)).trans hv), ownsRow_setCell_below hown'.1 (by show p < p + 6; omega) _, hown'.2⟩ ((hb _ (by omega) (by omega)).trans h.seenB)
/-- the arguments of the closure -/
abbrev argsF (n p : Nat) (id d : Int) : Array Value := #[.int .i64 id, .int .i64 d, .pointer (some ⟨n + 2, 0, none⟩), .pointer (some ⟨p + 4, 0, none⟩), .pointer (some ⟨n, 0, none⟩), .pointer (some ⟨p + 2, 0, none⟩), .pointer (some ⟨p, 0, none⟩), .pointer (some ⟨p + 5, 0, none⟩)]
theorem has1 : Maps.has C3 (.int .i64 1) = true := rfl
theorem has2 : Maps.has C3 (.int .i64 2) = true := rfl
theorem has3 : Maps.has C3 (.int .i64 3) = true := rfl
theorem at1 {c : Int} (h : C3.atKey (.int .i64 1) (.lit (.int .i64 0)) = .lit (.int .i64 c)) : c = 0 := by cases h; rfl
theorem at2 {c : Int} (h : C3.atKey (.int .i64 2) (.lit (.int .i64 0)) = .lit (.int .i64 c)) : c = 1 := by cases h; rfl
theorem at3 {c : Int} (h : C3.atKey (.int .i64 3) (.lit (.int .i64 0)) = .lit (.int .i64 c)) : c = 2 := by cases h; rfl
set_option maxHeartbeats 4000000 in
set_option maxRecDepth 1000000 in
/-- a job that waits for none -/
theorem leaf {w u : World} {n p A o cap : Nat} {s : List Bool} {ids : List Int} (hA : A < n) (A0 : Option Addr) (c0 : Nat) (h9 : w.cell? ⟨A, o + 9, none⟩ = some (.slice A0 0 c0)) (h : St w u n p A o cap s ids) :
    Calls Try.prog 90 (argsF n p 1 2) u fun e u' => e = .returned (.tuple #[]) ∧ St w u' n p A o cap s ids := by
  have cW := cell_of_one h.wh
  have cA := cell_of_one h.all
  have hcell : u.cell? ⟨A, o + 9, none⟩ = some (.slice A0 0 c0) := (h.below.cell (by exact hA)).trans h9
  have hmap := h.map
  have H := Go.Lib.hid h
  clear h h9
  go_enter Try.func90, Try.ntmps90
  go_wp2_with (first
    | (at_lookup; refine wpList_lookup_own_ok_int _ rfl _ _ 138 rfl 3 3 .i64 lawI Try.underlying138 Try.underlying3 (zeroI _) (n + 1) 3 _ rfl hmap _ (.int .i64 1) rfl (keyOf_int_mk Try.underlying3 (by decide)) ?_; intro c hat hwc; obtain rfl := at1 hat; rw [has1])
    | go_in)
  refine wp_loop_rounds 1 ?_
  rw [rounds_succ]
  go_wp2
  go_end0
  exact ⟨rfl, H.out⟩
set_option maxHeartbeats 4000000 in
set_option maxRecDepth 1000000 in
/-- a job (the one at k, of the id) that waits for one other (at kd), which has not been seen -/
theorem step {w : World} {n p A o cap : Nat} {s : List Bool} {ids ids' : List Int} {s' : List Bool} (id dep d : Int) (k kd : Nat) (hk : k < 3) (hkd : kd < 3) (hA : A < n) (hs3 : s.length = 3) (hskd : s[kd]? = some false)
    (m0 o0 c0 : Nat) (hm0 : m0 < n) (h9 : w.cell? ⟨A, o + k * 18 + 9, none⟩ = some (.slice (some ⟨m0, o0, none⟩) 1 c0)) (hd0 : w.cell? ⟨m0, o0, none⟩ = some (.int .i64 d)) (hd1 : w.cell? ⟨m0, o0 + 1, none⟩ = some (.bool false))
    (hid : Maps.has C3 (.int .i64 id) = true) (hidk : ∀ c : Int, C3.atKey (.int .i64 id) (.lit (.int .i64 0)) = .lit (.int .i64 c) → c = (k : Int)) (hwid : (Lit.int .i64 id).wf = true)
    (hd : Maps.has C3 (.int .i64 d) = true) (hdk : ∀ c : Int, C3.atKey (.int .i64 d) (.lit (.int .i64 0)) = .lit (.int .i64 c) → c = (kd : Int)) (hwd : (Lit.int .i64 d).wf = true) (hdep0 : 0 ≤ dep) (hdep : dep < 100) (hlen : ids.length < 100)
    (inner : ∀ u, St w u n p A o cap (s.set kd true) (ids ++ [d]) → Calls Try.prog 90 (argsF n p d (dep + 1)) u fun e u' => e = .returned (.tuple #[]) ∧ St w u' n p A o cap s' ids')
    {u : World} (h : St w u n p A o cap s ids) :
    Calls Try.prog 90 (argsF n p id dep) u fun e u' => e = .returned (.tuple #[]) ∧ St w u' n p A o cap s' ids' := by
  obtain ⟨i0, hi, hz0, hz1, hz2⟩ := info_parts infoI
  have cW := cell_of_one h.wh
  have cA := cell_of_one h.all
  have hcell : u.cell? ⟨A, o + k * 18 + 9, none⟩ = some (.slice (some ⟨m0, o0, none⟩) 1 c0) := (h.below.cell (by exact hA)).trans h9
  have hcell0 : u.cell? ⟨m0, o0, none⟩ = some (.int .i64 d) := (h.below.cell (by exact hm0)).trans hd0
  have hcell1 : u.cell? ⟨m0, o0 + 1, none⟩ = some (.bool false) := (h.below.cell (by exact hm0)).trans hd1
  have hmap := h.map
  have H := Go.Lib.hid h
  have Hin := Go.Lib.hid inner
  clear h h9 hd0 hd1 inner
  go_enter Try.func90, Try.ntmps90
  go_wp2_with (first
    | (at_lookup; refine wpList_lookup_own_ok_int _ rfl _ _ 138 rfl 3 3 .i64 lawI Try.underlying138 Try.underlying3 (zeroI _) (n + 1) 3 _ rfl hmap _ (.int .i64 id) rfl (keyOf_int_mk Try.underlying3 hwid) ?_; intro c hat hwc; obtain rfl := hidk _ hat; rw [hid])
    | go_in)
  refine wp_loop_rounds 2 ?_
  rw [rounds_succ]
  have cW' : ∀ x, (u.alloc x).cell? ⟨n + 2, 0, none⟩ = some (.map (some (n + 1))) := fun x => cell_of_one (H.out.alloc x).wh
  go_wp2_with (first
    | (at_lookup
       have H1 : Hid (St w (u.alloc (.cells #[.int .i64 d, .bool false] 48)) n p A o cap s ids) := H.out.alloc _
       have hD : (u.alloc (.cells #[.int .i64 d, .bool false] 48)).heap[u.heap.size]? = some (.cells #[.int .i64 d, .bool false] 48 (0, 0)) := heap_alloc_new _ _
       have hb1 : p + 6 ≤ u.heap.size := H.out.sz
       generalize u.alloc (.cells #[.int .i64 d, .bool false] 48) = u1 at H1 hD ⊢
       generalize u.heap.size = b1 at hD hb1 ⊢
       clear cW cW' cA hcell hcell0 hcell1 hmap H
       have cS := cell_of_one H1.out.seen
       have cSk : u1.cell? ⟨p + 1, kd, none⟩ = some (.bool false) := by (simp only [World.cell?, H1.out.seenB]; simp [hskd])
       have fSk : u1.frozen? ⟨p + 1, kd, none⟩ = false := by simp [World.frozen?, H1.out.seenB]
       have cD : u1.cell? ⟨b1, 0, none⟩ = some (.int .i64 d) := by simp [World.cell?, hD]
       have hmap1 := H1.out.map
       have H2 : Hid (St w (u1.setCell ⟨p + 1, kd, none⟩ (.bool true)) n p A o cap (s.set kd true) ids) := H1.out.setSeen kd (by omega)
       have hD2 : (u1.setCell ⟨p + 1, kd, none⟩ (.bool true)).heap[b1]? = some (.cells #[.int .i64 d, .bool false] 48 (0, 0)) := (Below.heap_setCell _ _ _ _ (by show b1 ≠ p + 1; omega)).trans hD
       have cD2 : (u1.setCell ⟨p + 1, kd, none⟩ (.bool true)).cell? ⟨b1, 0, none⟩ = some (.int .i64 d) := by simp only [World.cell?, hD2]; rfl
       obtain ⟨v, hv, hown⟩ := H2.out.ids
       have cI2 := cell_of_one hv
       have HV := Go.Lib.hid hv
       have HO := Go.Lib.hid hown
       have HD2 := Go.Lib.hid hD2
       clear hv hown hD2 hD
       refine wpList_lookup_own_ok_int _ rfl _ _ 138 rfl 3 3 .i64 lawI Try.underlying138 Try.underlying3 (zeroI _) (n + 1) 3 _ rfl hmap1 _ (.int .i64 d) rfl (keyOf_int_mk Try.underlying3 hwd) ?_
       intro c hat hwc
       obtain rfl := hdk _ hat
       rw [hd])
    | (at_builtin
       refine wpList_append_own _ rfl _ _ 60 rfl (p + 6) 3 i0 (.int .i64 0) 1 8 Try.underlying60 hi hz0 hz1 hz2 rfl (by decide) v _ _ rfl (HO.out.1.alloc _) ⟨u1.heap.size, 0, none⟩ 1 1 [.int .i64 d] rfl rfl ?c1 ?c2 ?c3 ?c4 ?c5 ?_)
    | go_in)
  case c1 =>
    intro j x hj
    match j, hj with
    | 0, hj =>
      simp at hj
      subst hj
      have e : u1.heap.size = (u1.setCell ⟨p + 1, kd, none⟩ (.bool true)).heap.size := by simp [World.setCell]
      rw [e, Addr.add_lit]
      exact cell_of_one (heap_alloc_new _ _)
    | j + 1, hj => simp at hj
  case c2 => first | rfl | (intro x hx; simp at hx; subst hx; rfl)
  case c3 => unfold maxLen; omega
  case c4 => omega
  case c5 => exact Nat.le_trans H2.out.sz (by simp)
  intro v' u3 hown' hgrow hnil
  obtain ⟨g', cap', rfl⟩ : ∃ g' cap', v' = .slice (some ⟨g', 0, none⟩) (ids.length + 1) cap' := by
    rcases hown'.2 with ⟨_, h0⟩ | ⟨g', cap', cur', h1, _⟩
    · omega
    · exact ⟨g', cap', h1⟩
  obtain ⟨v', hv'⟩ : ∃ v', v' = Value.slice (some ⟨g', 0, none⟩) (ids.length + 1) cap' := ⟨_, rfl⟩
  rw [← hv'] at hown'
  have hne : some b1 ≠ v.ownBlock := by
    intro he
    rcases HO.out.1.2 with ⟨rfl, _⟩ | ⟨g, cap', cur, rfl, _, hh, _⟩
    · cases he
    · have hg : b1 = g := by simpa [Value.ownBlock] using he
      subst hg
      have h2 := HD2.out
      rw [hh] at h2
      simp at h2
  have hsz2 := H2.out.sz
  have hlt1 : b1 < (u1.setCell ⟨p + 1, kd, none⟩ (.bool true)).heap.size := lt_of_block HD2.out
  generalize u1.setCell ⟨p + 1, kd, none⟩ (.bool true) = u2 at *
  have hvX : (u2.alloc (.cells #[.int .i64 d] 3)).heap[p]? = some (.cells #[v] 60 (0, 0)) := (Below.heap_alloc _ _ _ (by omega)).trans HV.out
  have hDX : (u2.alloc (.cells #[.int .i64 d] 3)).heap[b1]? = some (.cells #[.int .i64 d, .bool false] 48 (0, 0)) := (Below.heap_alloc _ _ _ hlt1).trans HD2.out
  have hv3 : u3.heap[p]? = some (.cells #[v] 60 (0, 0)) := (hgrow.block (p) (lt_of_block hvX) (fun e => by have := (HO.out.1.lt _ e.symm).1; omega)).trans hvX
  have hD3 : u3.heap[b1]? = some (.cells #[.int .i64 d, .bool false] 48 (0, 0)) := (hgrow.block b1 (lt_of_block hDX) hne).trans hDX
  have H4 : Hid (St w (u3.setCell ⟨p, 0, none⟩ v') n p A o cap (s.set kd true) (ids ++ [d])) := (H2.out.alloc _).grown hvX ⟨HO.out.1.alloc _, HO.out.2⟩ hgrow ⟨by simpa using hown', fun z hz => by rcases List.mem_append.1 hz with hz | hz; exact HO.out.2 z hz; simp at hz; subst hz; exact hwd⟩
  have hD4 : (u3.setCell ⟨p, 0, none⟩ v').heap[b1]? = some (.cells #[.int .i64 d, .bool false] 48 (0, 0)) := (Below.heap_setCell _ _ _ _ (by show b1 ≠ p; omega)).trans hD3
  have cI3 := cell_of_one hv3
  have fI3 := free_of_one hv3
  have cF := cell_of_one H4.out.fol
  have cD4 : (u3.setCell ⟨p, 0, none⟩ v').cell? ⟨b1, 0, none⟩ = some (.int .i64 d) := by simp only [World.cell?, hD4]; rfl
  subst hv'
  clear hvX hDX hv3 hD3 hD4 hown' hgrow hnil
  go_wp2_with (first
    | (go_at_call 90; refine (Hin.out _ H4.out).mono ?_; rintro e u5 ⟨rfl, H5⟩)
    | go_in)
  rw [rounds_succ]
  go_wp2
  go_end0
  exact ⟨rfl, by assumption⟩
theorem wf1 : (Lit.int .i64 1).wf = true := by decide
theorem wf2 : (Lit.int .i64 2).wf = true := by decide
theorem wf3 : (Lit.int .i64 3).wf = true := by decide
/-- all of it: from the third job on -/
theorem follow {w u : World} {n p A o cap : Nat} (hA : A < n) (A0 : Option Addr) (c0 : Nat) (h0 : w.cell? ⟨A, o + 9, none⟩ = some (.slice A0 0 c0))
    (m1 o1 c1 : Nat) (hm1 : m1 < n) (h1 : w.cell? ⟨A, o + 27, none⟩ = some (.slice (some ⟨m1, o1, none⟩) 1 c1)) (h1a : w.cell? ⟨m1, o1, none⟩ = some (.int .i64 1)) (h1b : w.cell? ⟨m1, o1 + 1, none⟩ = some (.bool false))
    (m2 o2 c2 : Nat) (hm2 : m2 < n) (h2 : w.cell? ⟨A, o + 45, none⟩ = some (.slice (some ⟨m2, o2, none⟩) 1 c2)) (h2a : w.cell? ⟨m2, o2, none⟩ = some (.int .i64 2)) (h2b : w.cell? ⟨m2, o2 + 1, none⟩ = some (.bool false))
    (h : St w u n p A o cap [false, false, false] []) :
    Calls Try.prog 90 (argsF n p 3 0) u fun e u' => e = .returned (.tuple #[]) ∧ St w u' n p A o cap [true, true, false] [2, 1] :=
  step (s := [false, false, false]) 3 0 2 2 1 (by decide) (by decide) hA rfl rfl m2 o2 c2 hm2 h2 h2a h2b has3 (fun c hc => at3 hc) wf3 has2 (fun c hc => at2 hc) wf2 (by decide) (by decide) (by decide)
    (fun u1 k1 => step (s := [false, true, false]) 2 1 1 1 0 (by decide) (by decide) hA rfl rfl m1 o1 c1 hm1 h1 h1a h1b has2 (fun c hc => at2 hc) wf2 has1 (fun c hc => at1 hc) wf1 (by decide) (by decide) (by decide)
      (fun u2 k2 => leaf hA A0 c0 h0 k2) k1) h
end Chain
end Go.Proofs.Ytnggfgfeghmddaa
