/-
  What the abstract machine's values and blocks stand for in memory, and how that is kept when memory grows or blocks of the call's own change.
-/
import Derived.Test.YtfelhbeiegppgaaAmA
import Derived.Test.YtfelhbeiegppgaaFloat
set_option linter.unusedVariables false
set_option linter.unusedSimpArgs false
namespace Go.Proofs.Ytfelhbeiegppgaa
namespace AM

/-- the cell at a place of a block -/
theorem cell_heap {w w' : World} {m : Nat} (h : w'.heap[m]? = w.heap[m]?) (o : Nat) : w'.cell? ⟨m, o, none⟩ = w.cell? ⟨m, o, none⟩ := by
  simp only [World.cell?, h]

/-- read-only values: what they lead to lies in blocks of S -/
inductive IR (w : World) (S : Nat → Prop) : AVal → Value → Prop
  | bool (b : Bool) : IR w S (.bool b) (.bool b)
  | int (k : IntKind) (n : Int) : IR w S (.int k n) (.int k n)
  | str (s : ByteArray) : IR w S (.str s.data.toList) (.string s)
  | nilp : IR w S .nilp (.pointer none)
  | iptr (cs : List AVal) (off m o : Nat) (g : Nat → Value) : S m → (∀ (j : Nat) (c : AVal), cs[j]? = some c → w.cell? ⟨m, o + j, none⟩ = some (g j)) →
      (∀ (j : Nat) (c : AVal), cs[j]? = some c → IR w S c (g j)) → IR w S (.iptr cs off) (.pointer (some ⟨m, o + off, none⟩))
  | imm (e : Nat) (xs : List (List AVal)) (A : Option Addr) (cap : Nat) (g : Nat → Nat → Value) : xs.length ≤ cap → (A = none → cap = 0) → (∀ (i : Nat) (x : List AVal), xs[i]? = some x → x.length = e) →
      (∀ (i : Nat) (x : List AVal) (j : Nat) (c : AVal), xs[i]? = some x → x[j]? = some c → ∃ m o, A = some ⟨m, o, none⟩ ∧ S m ∧ w.cell? ⟨m, o + (i * e + j), none⟩ = some (g i j)) →
      (∀ (i : Nat) (x : List AVal) (j : Nat) (c : AVal), xs[i]? = some x → x[j]? = some c → IR w S c (g i j)) → IR w S (.imm e xs) (.slice A xs.length cap)
  | zsl (A : Option Addr) : IR w S .zsl (.slice A 0 0)
  | fn (f : Nat) (cap : List AVal) (caps : Array Value) : cap.length = caps.size → (∀ (j : Nat) (c : AVal) (v : Value), cap[j]? = some c → caps[j]? = some v → IR w S c v) → IR w S (.fn f cap) (.func (.func f) #[] caps)
  | nilfn : IR w S .nilfn .nilFunc
  | nili : IR w S .nili .nilIface
  | fl (n : Int) : IR w S (.fl n) (.float .f64 (Fl.bits n))
  | cx (a b : Int) : IR w S (.cx a b) (.complex .f64 (Fl.bits a) (Fl.bits b))

theorem IR.mono {w w' : World} {S S' : Nat → Prop} (hw : ∀ m, S m → w'.heap[m]? = w.heap[m]?) (hS : ∀ m, S m → S' m) {c : AVal} {v : Value} (h : IR w S c v) : IR w' S' c v := by
  induction h with
  | bool b => exact .bool b
  | int k n => exact .int k n
  | str s => exact .str s
  | nilp => exact .nilp
  | iptr cs off m o g hm hc _ ih => exact .iptr cs off m o g (hS _ hm) (fun j c hj => by rw [cell_heap (hw m hm)]; exact hc j c hj) ih
  | imm e xs A cap g hl hn he hc _ ih =>
    refine .imm e xs A cap g hl hn he (fun i x j c hi hj => ?_) ih
    obtain ⟨m, o, hA, hm, hcell⟩ := hc i x j c hi hj
    exact ⟨m, o, hA, hS _ hm, by rw [cell_heap (hw m hm)]; exact hcell⟩
  | zsl A => exact .zsl A
  | fn f cap caps hl _ ih => exact .fn f cap caps hl ih
  | nilfn => exact .nilfn
  | nili => exact .nili
  | fl n => exact .fl n
  | cx a b => exact .cx a b

/-- where a block of the call's own lies: free: its number was never given out; dead: it was given up; void: it has no cell; here m n e: block m, of n elements of e cells -/
inductive Loc where
  | free
  | dead
  | void
  | here (m n e : Nat)

def PtrAt (l : Loc) (i f : Nat) (v : Value) : Prop :=
  match l with
  | .free => False
  | .dead => ∃ a, v = .pointer (some a)
  | .void => False
  | .here m n e => v = .pointer (some ⟨m, i * e + f, none⟩)
def SlAt (l : Loc) (off len e : Nat) (v : Value) : Prop :=
  match l with
  | .free => False
  | .dead => ∃ A cap, v = .slice A len cap ∧ len ≤ cap ∧ (A = none → cap = 0)
  | .void => off = 0 ∧ len = 0 ∧ ∃ A, v = .slice A 0 0
  | .here m n e' => e' = e ∧ ∃ cap, v = .slice (some ⟨m, off * e, none⟩) len cap ∧ off + cap ≤ n ∧ len ≤ cap

inductive VR (μ : Nat → Loc) (w : World) (S : Nat → Prop) : AVal → Value → Prop
  | undef (v : Value) : VR μ w S .undef v
  | imm (c : AVal) (v : Value) : IR w S c v → VR μ w S c v
  | ptr (b i f : Nat) (v : Value) : PtrAt (μ b) i f v → VR μ w S (.ptr b i f) v
  | sl (b off len e : Nat) (v : Value) : SlAt (μ b) off len e v → VR μ w S (.sl b off len e) v
  | fn (f : Nat) (cap : List AVal) (caps : Array Value) : cap.length = caps.size → (∀ (j : Nat) (c : AVal) (v : Value), cap[j]? = some c → caps[j]? = some v → VR μ w S c v) → VR μ w S (.fn f cap) (.func (.func f) #[] caps)
  | agg (cs : List AVal) (a : Array Value) : cs.length = a.size → (∀ (j : Nat) (c : AVal) (v : Value), cs[j]? = some c → a[j]? = some v → VR μ w S c v) → VR μ w S (.agg cs) (.agg a)
  | tup (cs : List AVal) (a : Array Value) : cs.length = a.size → (∀ (j : Nat) (c : AVal) (v : Value), cs[j]? = some c → a[j]? = some v → VR μ w S c v) → VR μ w S (.tup cs) (.tuple a)

/-- a block's number keeps its place, or is given up -/
def Up (μ μ' : Nat → Loc) : Prop := ∀ b, μ b ≠ .free → μ' b = μ b ∨ μ' b = .dead

theorem Up.refl (μ : Nat → Loc) : Up μ μ := fun _ _ => .inl rfl
theorem Up.trans {a b c : Nat → Loc} (h : Up a b) (k : Up b c) : Up a c := fun x hx => by
  rcases h x hx with e | e
  · rcases k x (by rw [e]; exact hx) with e' | e'
    · exact .inl (e'.trans e)
    · exact .inr e'
  · rcases k x (by rw [e]; simp) with e' | e'
    · exact .inr (e'.trans e)
    · exact .inr e'

theorem PtrAt.up {μ μ' : Nat → Loc} (h : Up μ μ') {b i f : Nat} {v : Value} (k : PtrAt (μ b) i f v) : PtrAt (μ' b) i f v := by
  have hf : μ b ≠ .free := fun e => by rw [e] at k; exact k
  rcases h b hf with e | e
  · rw [e]; exact k
  · rw [e]
    generalize μ b = l at k
    cases l with
    | free => exact k.elim
    | dead => exact k
    | void => exact k.elim
    | here m n e => exact ⟨_, k⟩
theorem SlAt.up {μ μ' : Nat → Loc} (h : Up μ μ') {b i f e : Nat} {v : Value} (k : SlAt (μ b) i f e v) : SlAt (μ' b) i f e v := by
  have hf : μ b ≠ .free := fun e => by rw [e] at k; exact k
  rcases h b hf with e | e
  · rw [e]; exact k
  · rw [e]
    generalize μ b = l at k
    cases l with
    | free => exact k.elim
    | dead => exact k
    | void => obtain ⟨_, rfl, A, rfl⟩ := k; exact ⟨A, 0, rfl, Nat.le_refl _, fun _ => rfl⟩
    | here m n e => obtain ⟨_, cap, rfl, _, hc⟩ := k; exact ⟨_, _, rfl, hc, fun h => by cases h⟩

theorem VR.mono {μ μ' : Nat → Loc} {w w' : World} {S S' : Nat → Prop} (hμ : Up μ μ') (hw : ∀ m, S m → w'.heap[m]? = w.heap[m]?) (hS : ∀ m, S m → S' m) {c : AVal} {v : Value} (h : VR μ w S c v) : VR μ' w' S' c v := by
  induction h with
  | undef v => exact .undef v
  | imm c v h => exact .imm c v (h.mono hw hS)
  | ptr b i f v h => exact .ptr b i f v (h.up hμ)
  | sl b i f e v h => exact .sl b i f e v (h.up hμ)
  | fn f cap caps hl _ ih => exact .fn f cap caps hl ih
  | agg cs a hl _ ih => exact .agg cs a hl ih
  | tup cs a hl _ ih => exact .tup cs a hl ih

/-- read-only values do not look at μ -/
theorem VR.imm_of {μ : Nat → Loc} {w : World} {S : Nat → Prop} {c : AVal} {v : Value} (h : VR μ w S c v) (hc : c.immP = true) : IR w S c v := by
  cases h with
  | imm c v h => exact h
  | undef v => simp [AVal.immP] at hc
  | ptr b i f v h => simp [AVal.immP] at hc
  | sl b i f e v h => simp [AVal.immP] at hc
  | fn f cap caps hl h => simp [AVal.immP] at hc
  | agg cs a hl h => simp [AVal.immP] at hc
  | tup cs a hl h => simp [AVal.immP] at hc
theorem VR.immC_of {μ : Nat → Loc} {w : World} {S : Nat → Prop} {c : AVal} {v : Value} (h : VR μ w S c v) (hc : c.immC = true) : IR w S c v := by
  cases h with
  | fn f cap caps hl h =>
    refine .fn f cap caps hl fun j c v hj hv => ?_
    have : c.immP = true := by
      simp only [AVal.immC, List.all_eq_true] at hc
      exact hc c (List.mem_of_getElem? hj)
    exact (h j c v hj hv).imm_of this
  | imm c v h => exact h
  | undef v => simp [AVal.immC, AVal.immP] at hc
  | ptr b i f v h => simp [AVal.immC, AVal.immP] at hc
  | sl b i f e v h => simp [AVal.immC, AVal.immP] at hc
  | agg cs a hl h => simp [AVal.immC, AVal.immP] at hc
  | tup cs a hl h => simp [AVal.immC, AVal.immP] at hc

/-- a value of one cell -/
def oneV : Value → Bool
  | .agg _ => false
  | .tuple _ => false
  | _ => true

def Blk.R (μ : Nat → Loc) (w : World) (S : Nat → Prop) (flat : Bool) (c : AVal) (v : Value) : Prop := (if flat then IR w S c v else VR μ w S c v) ∧ oneV v = true

theorem Blk.R.vr {μ : Nat → Loc} {w : World} {S : Nat → Prop} {flat : Bool} {c : AVal} {v : Value} (h : Blk.R μ w S flat c v) : VR μ w S c v := by
  have h := h.1
  split at h
  · exact .imm _ _ h
  · exact h
theorem Blk.R.mono {μ μ' : Nat → Loc} {w w' : World} {S S' : Nat → Prop} {flat : Bool} {c : AVal} {v : Value} (hμ : Up μ μ') (hw : ∀ m, S m → w'.heap[m]? = w.heap[m]?) (hS : ∀ m, S m → S' m)
    (h : Blk.R μ w S flat c v) : Blk.R μ' w' S' flat c v := by
  refine ⟨?_, h.2⟩
  have h := h.1
  split
  · rename_i hf; rw [if_pos hf] at h; exact h.mono hw hS
  · rename_i hf; rw [if_neg hf] at h; exact h.mono hμ hw hS

/-- block k lies at l -/
def BlkR (μ : Nat → Loc) (w : World) (S : Nat → Prop) (l : Loc) (k : Blk) : Prop :=
  match l with
  | .free => False
  | .dead => False
  | .void => k.elems = []
  | .here m n e => e = k.e ∧ k.elems.length ≤ n ∧ (∀ (i : Nat) (x : List AVal), k.elems[i]? = some x → x.length = k.e) ∧
      ∃ (cells : Array Value) (t : TypeId), w.heap[m]? = some (.cells cells t (0, 0)) ∧ cells.size = n * k.e ∧
        ∀ (i : Nat) (x : List AVal) (j : Nat) (c : AVal), k.elems[i]? = some x → x[j]? = some c → ∃ v, cells[i * k.e + j]? = some v ∧ Blk.R μ w S k.flat c v

theorem BlkR.mono {μ μ' : Nat → Loc} {w w' : World} {S S' : Nat → Prop} {l : Loc} {k : Blk} (hμ : Up μ μ') (hw : ∀ m, S m → w'.heap[m]? = w.heap[m]?) (hS : ∀ m, S m → S' m)
    (hl : ∀ m n e, l = .here m n e → w'.heap[m]? = w.heap[m]?) (h : BlkR μ w S l k) : BlkR μ' w' S' l k := by
  cases l with
  | free => exact h
  | dead => exact h
  | void => exact h
  | here m n e =>
    obtain ⟨he, hn, hx, cells, t, hh, hs, hc⟩ := h
    exact ⟨he, hn, hx, cells, t, by rw [hl m n e rfl]; exact hh, hs, fun i x j c hi hj => by
      obtain ⟨v, hv, hr⟩ := hc i x j c hi hj
      exact ⟨v, hv, hr.mono hμ hw hS⟩⟩

def Owned (μ : Nat → Loc) (m : Nat) : Prop := ∃ b n e, μ b = .here m n e

/-- the package variables hold what is told of them, and are read-only -/
def GlobR (w : World) (S : Nat → Prop) : Prop := ∀ b cs, globOf b globs = some cs → IR w S (.iptr cs 0) (.pointer (some ⟨b, 0, none⟩)) ∧ S b ∧ ∃ us t p, w.heap[b]? = some (.cells us t p) ∧ us.size = cs.length
theorem GlobR.mono {w w' : World} {S S' : Nat → Prop} (h : GlobR w S) (hw : ∀ m, S m → w'.heap[m]? = w.heap[m]?) (hS : ∀ m, S m → S' m) : GlobR w' S' := fun b cs hb => by
  obtain ⟨h1, h2, us, t, p, h3, h4⟩ := h b cs hb
  exact ⟨h1.mono hw hS, hS b h2, us, t, p, by rw [hw b h2]; exact h3, h4⟩
theorem GlobR.nil {w : World} {S : Nat → Prop} (h : globs = []) : GlobR w S := fun b cs hb => by rw [h] at hb; cases hb
/-- the blocks of the call's own lie in memory, apart from each other and from what is read-only -/
structure HRep (μ : Nat → Loc) (w : World) (S : Nat → Prop) (hp : Heap) : Prop where
  live : ∀ b k, hp.get b = some k → BlkR μ w S (μ b) k
  gone : ∀ b, hp.get b = none → μ b = .free ∨ μ b = .dead
  free : ∀ b, hp.isFree b = true ∨ hp.length ≤ b → μ b = .free
  inj : ∀ b b' m n n' e e', μ b = .here m n e → μ b' = .here m n' e' → b = b'
  apart : ∀ m, Owned μ m → ¬ S m
  inS : ∀ m, S m → m < w.heap.size
  gl : GlobR w S

theorem Heap.get_lt {hp : Heap} {b : Nat} {k : Blk} (h : hp.get b = some k) : b < hp.length := by
  unfold Heap.get at h
  rcases Nat.lt_or_ge b hp.length with hl | hl
  · exact hl
  · rw [List.getElem?_eq_none hl] at h; cases h

theorem HRep.here {μ : Nat → Loc} {w : World} {S : Nat → Prop} {hp : Heap} (h : HRep μ w S hp) {b m n e : Nat} (hb : μ b = .here m n e) : ∃ k, hp.get b = some k := by
  cases hk : hp.get b with
  | some k => exact ⟨k, rfl⟩
  | none => rcases h.gone b hk with e' | e' <;> rw [e'] at hb <;> cases hb
theorem HRep.lt {μ : Nat → Loc} {w : World} {S : Nat → Prop} {hp : Heap} (h : HRep μ w S hp) {m : Nat} (ho : Owned μ m) : m < w.heap.size := by
  obtain ⟨b, n, e, hb⟩ := ho
  obtain ⟨k, hk⟩ := h.here hb
  have := h.live b k hk
  rw [hb] at this
  obtain ⟨_, _, _, cells, t, hh, _⟩ := this
  rcases Nat.lt_or_ge m w.heap.size with hl | hl
  · exact hl
  · rw [Array.getElem?_eq_none hl] at hh; cases hh

/-- what a step leaves: memory that is not of the call's own is as it was -/
structure Ext (μ : Nat → Loc) (S : Nat → Prop) (w : World) (μ' : Nat → Loc) (S' : Nat → Prop) (w' : World) : Prop where
  os : w'.os = w.os
  tape : w'.tape = w.tape
  output : w'.output = w.output
  size : w.heap.size ≤ w'.heap.size
  same : ∀ m, m < w.heap.size → ¬ Owned μ m → w'.heap[m]? = w.heap[m]?
  sub : ∀ m, S m → S' m
  new : ∀ m, S' m → S m ∨ Owned μ m ∨ w.heap.size ≤ m
  own : ∀ m, Owned μ' m → Owned μ m ∨ w.heap.size ≤ m

theorem Ext.refl (μ : Nat → Loc) (S : Nat → Prop) (w : World) : Ext μ S w μ S w := ⟨rfl, rfl, rfl, Nat.le_refl _, fun _ _ _ => rfl, fun _ h => h, fun _ h => .inl h, fun _ h => .inl h⟩
theorem Ext.trans {μ μ' μ'' : Nat → Loc} {S S' S'' : Nat → Prop} {w w' w'' : World} (h : Ext μ S w μ' S' w') (k : Ext μ' S' w' μ'' S'' w'') : Ext μ S w μ'' S'' w'' where
  os := k.os.trans h.os
  tape := k.tape.trans h.tape
  output := k.output.trans h.output
  size := Nat.le_trans h.size k.size
  same m hm ho := by
    rw [k.same m (Nat.lt_of_lt_of_le hm h.size) (fun h2 => by rcases h.own m h2 with h3 | h3; exact ho h3; omega)]
    exact h.same m hm ho
  sub m hm := k.sub m (h.sub m hm)
  new m hm := by
    rcases k.new m hm with h1 | h1 | h1
    · exact h.new m h1
    · rcases h.own m h1 with h2 | h2
      · exact .inr (.inl h2)
      · exact .inr (.inr h2)
    · exact .inr (.inr (Nat.le_trans h.size h1))
  own m hm := by
    rcases k.own m hm with h1 | h1
    · exact h.own m h1
    · exact .inr (Nat.le_trans h.size h1)

/-- read-only memory stays -/
theorem Ext.keeps {μ μ' : Nat → Loc} {S S' : Nat → Prop} {w w' : World} {hp : Heap} (h : Ext μ S w μ' S' w') (r : HRep μ w S hp) : ∀ m, S m → w'.heap[m]? = w.heap[m]? :=
  fun m hm => h.same m (r.inS m hm) (fun ho => r.apart m ho hm)

theorem VR.ext {μ μ' : Nat → Loc} {S S' : Nat → Prop} {w w' : World} {hp : Heap} {c : AVal} {v : Value} (h : VR μ w S c v) (r : HRep μ w S hp) (x : Ext μ S w μ' S' w') (u : Up μ μ') : VR μ' w' S' c v :=
  h.mono u (x.keeps r) x.sub

/- inversions -/
section
variable {μ : Nat → Loc} {w : World} {S : Nat → Prop} {v : Value}
theorem VR.bool_inv {b : Bool} (h : VR μ w S (.bool b) v) : v = .bool b := by cases h with | imm c v h => cases h; rfl
theorem VR.int_inv {k : IntKind} {n : Int} (h : VR μ w S (.int k n) v) : v = .int k n := by cases h with | imm c v h => cases h; rfl
theorem VR.fl_inv {n : Int} (h : VR μ w S (.fl n) v) : v = .float .f64 (Fl.bits n) := by cases h with | imm c v h => cases h; rfl
theorem VR.cx_inv {a b : Int} (h : VR μ w S (.cx a b) v) : v = .complex .f64 (Fl.bits a) (Fl.bits b) := by cases h with | imm c v h => cases h; rfl
theorem VR.str_inv {l : List UInt8} (h : VR μ w S (.str l) v) : ∃ s : ByteArray, v = .string s ∧ s.data.toList = l := by cases h with | imm c v h => cases h with | str s => exact ⟨s, rfl, rfl⟩
theorem VR.nilp_inv (h : VR μ w S .nilp v) : v = .pointer none := by cases h with | imm c v h => cases h; rfl
theorem VR.nili_inv (h : VR μ w S .nili v) : v = .nilIface := by cases h with | imm c v h => cases h; rfl
theorem VR.zsl_inv (h : VR μ w S .zsl v) : ∃ A, v = .slice A 0 0 := by cases h with | imm c v h => cases h with | zsl A => exact ⟨A, rfl⟩
theorem VR.ptr_inv {b i f : Nat} (h : VR μ w S (.ptr b i f) v) : PtrAt (μ b) i f v := by
  cases h with
  | imm c v h => cases h
  | ptr b i f v h => exact h
theorem VR.sl_inv {b i f e : Nat} (h : VR μ w S (.sl b i f e) v) : SlAt (μ b) i f e v := by
  cases h with
  | imm c v h => cases h
  | sl b i f e v h => exact h
theorem VR.agg_inv {cs : List AVal} (h : VR μ w S (.agg cs) v) : ∃ a : Array Value, v = .agg a ∧ cs.length = a.size ∧ ∀ (j : Nat) (c : AVal) (u : Value), cs[j]? = some c → a[j]? = some u → VR μ w S c u := by
  cases h with
  | imm c v h => cases h
  | agg cs a hl h => exact ⟨a, rfl, hl, h⟩
theorem VR.tup_inv {cs : List AVal} (h : VR μ w S (.tup cs) v) : ∃ a : Array Value, v = .tuple a ∧ cs.length = a.size ∧ ∀ (j : Nat) (c : AVal) (u : Value), cs[j]? = some c → a[j]? = some u → VR μ w S c u := by
  cases h with
  | imm c v h => cases h
  | tup cs a hl h => exact ⟨a, rfl, hl, h⟩
theorem VR.fn_inv {f : Nat} {cap : List AVal} (h : VR μ w S (.fn f cap) v) : ∃ caps : Array Value, v = .func (.func f) #[] caps ∧ cap.length = caps.size ∧ ∀ (j : Nat) (c : AVal) (u : Value), cap[j]? = some c → caps[j]? = some u → VR μ w S c u := by
  cases h with
  | imm c v h => cases h with | fn f cap caps hl h => exact ⟨caps, rfl, hl, fun j c u hj hu => .imm _ _ (h j c u hj hu)⟩
  | fn f cap caps hl h => exact ⟨caps, rfl, hl, h⟩
theorem VR.imm_inv {e : Nat} {xs : List (List AVal)} (h : VR μ w S (.imm e xs) v) : IR w S (.imm e xs) v := by cases h with | imm c v h => exact h
theorem VR.iptr_inv {cs : List AVal} {off : Nat} (h : VR μ w S (.iptr cs off) v) : IR w S (.iptr cs off) v := by cases h with | imm c v h => exact h
end

theorem IR.one {w : World} {S : Nat → Prop} {c : AVal} {v : Value} (h : IR w S c v) : oneV v = true := by cases h <;> rfl
theorem PtrAt.one {l : Loc} {i f : Nat} {v : Value} (h : PtrAt l i f v) : oneV v = true := by
  cases l with
  | free => exact h.elim
  | dead => obtain ⟨a, rfl⟩ := h; rfl
  | void => exact h.elim
  | here m n e => have h : v = _ := h; subst h; rfl
theorem SlAt.one {l : Loc} {i f e : Nat} {v : Value} (h : SlAt l i f e v) : oneV v = true := by
  cases l with
  | free => exact h.elim
  | dead => obtain ⟨a, b, rfl, _⟩ := h; rfl
  | void => obtain ⟨_, _, A, rfl⟩ := h; rfl
  | here m n e => obtain ⟨_, cap, rfl, _⟩ := h; rfl
theorem VR.one {μ : Nat → Loc} {w : World} {S : Nat → Prop} {c : AVal} {v : Value} (h : VR μ w S c v) (hc : c.cellB = true) : oneV v = true := by
  cases h with
  | undef v => simp [AVal.cellB] at hc
  | imm c v h => exact h.one
  | ptr b i f v h => exact h.one
  | sl b i f e v h => exact h.one
  | fn f cap caps hl h => rfl
  | agg cs a hl h => simp [AVal.cellB] at hc
  | tup cs a hl h => simp [AVal.cellB] at hc

/-- the cells of a value -/
theorem VR.cells {μ : Nat → Loc} {w : World} {S : Nat → Prop} {c : AVal} {v : Value} (h : VR μ w S c v) (hc : (cellsOf c).all AVal.cellB = true) :
    v.cells.size = (cellsOf c).length ∧ ∀ (j : Nat) (x : AVal) (u : Value), (cellsOf c)[j]? = some x → v.cells[j]? = some u → VR μ w S x u := by
  have single : c.cellB = true → cellsOf c = [c] → v.cells.size = (cellsOf c).length ∧ ∀ (j : Nat) (x : AVal) (u : Value), (cellsOf c)[j]? = some x → v.cells[j]? = some u → VR μ w S x u := by
    intro h1 h2
    have ho := h.one h1
    have hv : v.cells = #[v] := by cases v <;> first | rfl | simp [oneV] at ho
    rw [h2, hv]
    refine ⟨rfl, fun j x u hj hu => ?_⟩
    cases j with
    | zero => simp at hj hu; subst hj; subst hu; exact h
    | succ j => simp at hj
  cases c with
  | agg cs =>
    obtain ⟨a, rfl, hl, hx⟩ := h.agg_inv
    exact ⟨hl.symm, hx⟩
  | undef => simp [cellsOf, AVal.cellB] at hc
  | tup vs => simp [cellsOf, AVal.cellB] at hc
  | _ => exact single rfl rfl

end AM
end Go.Proofs.Ytfelhbeiegppgaa
