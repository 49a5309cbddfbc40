/-
  What the proof of SpecTexts leans on, part 2. (Many texts laid together by program.)
-/
import Derived.Test.YtjngkfdclcgfhaaGreatDoorPkTa
import Derived.WalkKit
import Derived.ChangeKeysEq
import Derived.Laws.StructEq
import Derived.Laws.Cover3
set_option linter.unnecessarySimpa false
set_option linter.unusedSimpArgs false
set_option linter.unusedVariables false
section
namespace Go.Proofs.YtjngkfdclcgfhaaGreatDoor
namespace AM
theorem cell_heap {w w' : World} {m : Nat} (h : w'.heap[m]? = w.heap[m]?) (o : Nat) : w'.cell? ⟨m, o, none⟩ = w.cell? ⟨m, o, none⟩ := by
 simp only [World.cell?, h]
inductive IR (w : World) (S : Nat → Prop) : AVal → Value → Prop
 | bool (b : Bool) : IR w S (.bool b) (.bool b)
 | int (k : IntKind) (n : Int) : IR w S (.int k n) (.int k n)
 | str (s : ByteArray) : IR w S (.str s.data.toList) (.string s)
 | nilp : IR w S .nilp (.pointer none)
 | iptr (cs : List AVal) (off m o : Nat) (g : Nat → Value) : S m → (∀ (j : Nat) (c : AVal), cs[j]? = some c → w.cell? ⟨m, o + j, none⟩ = some (g j)) →
     (∀ (j : Nat) (c : AVal), cs[j]? = some c → IR w S c (g j)) → IR w S (.iptr cs off) (.pointer (some ⟨m, o + off, none⟩))
 | imm (e : Nat) (xs : List (List AVal)) (A : Option Addr) (cap : Nat) (g : Nat → Nat → Value) : xs.length ≤ cap → (A = none → cap = 0) → (∀ (i : Nat) (x : List AVal), xs[i]? = some x → x.length = e) →
     (∀ (i : Nat) (x : List AVal) (j : Nat) (c : AVal), xs[i]? = some x → x[j]? = some c → ∃ m o, A = some ⟨m, o, none⟩ ∧ S m ∧ w.cell? ⟨m, o + (i * e + j), none⟩ = some (g i j)) →
     (∀ (i : Nat) (x : List AVal) (j : Nat) (c : AVal), xs[i]? = some x → x[j]? = some c → IR w S c (g i j)) → IR w S (.imm e xs) (.slice A xs.length cap)
 | zsl (A : Option Addr) : IR w S .zsl (.slice A 0 0)
 | fn (f : Nat) (cap : List AVal) (caps : Array Value) : cap.length = caps.size → (∀ (j : Nat) (c : AVal) (v : Value), cap[j]? = some c → caps[j]? = some v → IR w S c v) → IR w S (.fn f cap) (.func (.func f) #[] caps)
 | nilfn : IR w S .nilfn .nilFunc
 | nili : IR w S .nili .nilIface
 | fl (n : Int) : IR w S (.fl n) (.float .f64 (Fl.bits n))
 | cx (a b : Int) : IR w S (.cx a b) (.complex .f64 (Fl.bits a) (Fl.bits b))
theorem IR.mono {w w' : World} {S S' : Nat → Prop} (hw : ∀ m, S m → w'.heap[m]? = w.heap[m]?) (hS : ∀ m, S m → S' m) {c : AVal} {v : Value} (h : IR w S c v) : IR w' S' c v := by
 induction h with
 | bool b => exact .bool b
 | int k n => exact .int k n
 | str s => exact .str s
 | nilp => exact .nilp
 | iptr cs off m o g hm hc _ ih => exact .iptr cs off m o g (hS _ hm) (fun j c hj => by rw [cell_heap (hw m hm)]; exact hc j c hj) ih
 | imm e xs A cap g hl hn he hc _ ih =>
   refine .imm e xs A cap g hl hn he (fun i x j c hi hj => ?_) ih
   obtain ⟨m, o, hA, hm, hcell⟩ := hc i x j c hi hj
   exact ⟨m, o, hA, hS _ hm, by rw [cell_heap (hw m hm)]; exact hcell⟩
 | zsl A => exact .zsl A
 | fn f cap caps hl _ ih => exact .fn f cap caps hl ih
 | nilfn => exact .nilfn
 | nili => exact .nili
 | fl n => exact .fl n
 | cx a b => exact .cx a b
inductive Loc where
 | free
 | dead
 | void
 | here (m n e : Nat)
def PtrAt (l : Loc) (i f : Nat) (v : Value) : Prop :=
 match l with
 | .free => False
 | .dead => ∃ a, v = .pointer (some a)
 | .void => False
 | .here m n e => v = .pointer (some ⟨m, i * e + f, none⟩)
def SlAt (l : Loc) (off len e : Nat) (v : Value) : Prop :=
 match l with
 | .free => False
 | .dead => ∃ A cap, v = .slice A len cap ∧ len ≤ cap ∧ (A = none → cap = 0)
 | .void => off = 0 ∧ len = 0 ∧ ∃ A, v = .slice A 0 0
 | .here m n e' => e' = e ∧ ∃ cap, v = .slice (some ⟨m, off * e, none⟩) len cap ∧ off + cap ≤ n ∧ len ≤ cap
inductive VR (μ : Nat → Loc) (w : World) (S : Nat → Prop) : AVal → Value → Prop
 | undef (v : Value) : VR μ w S .undef v
 | imm (c : AVal) (v : Value) : IR w S c v → VR μ w S c v
 | ptr (b i f : Nat) (v : Value) : PtrAt (μ b) i f v → VR μ w S (.ptr b i f) v
 | sl (b off len e : Nat) (v : Value) : SlAt (μ b) off len e v → VR μ w S (.sl b off len e) v
 | fn (f : Nat) (cap : List AVal) (caps : Array Value) : cap.length = caps.size → (∀ (j : Nat) (c : AVal) (v : Value), cap[j]? = some c → caps[j]? = some v → VR μ w S c v) → VR μ w S (.fn f cap) (.func (.func f) #[] caps)
 | agg (cs : List AVal) (a : Array Value) : cs.length = a.size → (∀ (j : Nat) (c : AVal) (v : Value), cs[j]? = some c → a[j]? = some v → VR μ w S c v) → VR μ w S (.agg cs) (.agg a)
 | tup (cs : List AVal) (a : Array Value) : cs.length = a.size → (∀ (j : Nat) (c : AVal) (v : Value), cs[j]? = some c → a[j]? = some v → VR μ w S c v) → VR μ w S (.tup cs) (.tuple a)
def Up (μ μ' : Nat → Loc) : Prop := ∀ b, μ b ≠ .free → μ' b = μ b ∨ μ' b = .dead
theorem Up.refl (μ : Nat → Loc) : Up μ μ := fun _ _ => .inl rfl
theorem Up.trans {a b c : Nat → Loc} (h : Up a b) (k : Up b c) : Up a c := fun x hx => by
 rcases h x hx with e | e
 · rcases k x (by rw [e]; exact hx) with e' | e'
   · exact .inl (e'.trans e)
   · exact .inr e'
 · rcases k x (by rw [e]; simp) with e' | e'
   · exact .inr (e'.trans e)
   · exact .inr e'
theorem PtrAt.up {μ μ' : Nat → Loc} (h : Up μ μ') {b i f : Nat} {v : Value} (k : PtrAt (μ b) i f v) : PtrAt (μ' b) i f v := by
 have hf : μ b ≠ .free := fun e => by rw [e] at k; exact k
 rcases h b hf with e | e
 · rw [e]; exact k
 · rw [e]
   generalize μ b = l at k
   cases l with
   | free => exact k.elim
   | dead => exact k
   | void => exact k.elim
   | here m n e => exact ⟨_, k⟩
theorem SlAt.up {μ μ' : Nat → Loc} (h : Up μ μ') {b i f e : Nat} {v : Value} (k : SlAt (μ b) i f e v) : SlAt (μ' b) i f e v := by
 have hf : μ b ≠ .free := fun e => by rw [e] at k; exact k
 rcases h b hf with e | e
 · rw [e]; exact k
 · rw [e]
   generalize μ b = l at k
   cases l with
   | free => exact k.elim
   | dead => exact k
   | void => obtain ⟨_, rfl, A, rfl⟩ := k; exact ⟨A, 0, rfl, Nat.le_refl _, fun _ => rfl⟩
   | here m n e => obtain ⟨_, cap, rfl, _, hc⟩ := k; exact ⟨_, _, rfl, hc, fun h => by cases h⟩
theorem VR.mono {μ μ' : Nat → Loc} {w w' : World} {S S' : Nat → Prop} (hμ : Up μ μ') (hw : ∀ m, S m → w'.heap[m]? = w.heap[m]?) (hS : ∀ m, S m → S' m) {c : AVal} {v : Value} (h : VR μ w S c v) : VR μ' w' S' c v := by
 induction h with
 | undef v => exact .undef v
 | imm c v h => exact .imm c v (h.mono hw hS)
 | ptr b i f v h => exact .ptr b i f v (h.up hμ)
 | sl b i f e v h => exact .sl b i f e v (h.up hμ)
 | fn f cap caps hl _ ih => exact .fn f cap caps hl ih
 | agg cs a hl _ ih => exact .agg cs a hl ih
 | tup cs a hl _ ih => exact .tup cs a hl ih
theorem VR.imm_of {μ : Nat → Loc} {w : World} {S : Nat → Prop} {c : AVal} {v : Value} (h : VR μ w S c v) (hc : c.immP = true) : IR w S c v := by
 cases h with
 | imm c v h => exact h
 | undef v => simp [AVal.immP] at hc
 | ptr b i f v h => simp [AVal.immP] at hc
 | sl b i f e v h => simp [AVal.immP] at hc
 | fn f cap caps hl h => simp [AVal.immP] at hc
 | agg cs a hl h => simp [AVal.immP] at hc
 | tup cs a hl h => simp [AVal.immP] at hc
theorem VR.immC_of {μ : Nat → Loc} {w : World} {S : Nat → Prop} {c : AVal} {v : Value} (h : VR μ w S c v) (hc : c.immC = true) : IR w S c v := by
 cases h with
 | fn f cap caps hl h =>
   refine .fn f cap caps hl fun j c v hj hv => ?_
   have : c.immP = true := by
     simp only [AVal.immC, List.all_eq_true] at hc
     exact hc c (List.mem_of_getElem? hj)
   exact (h j c v hj hv).imm_of this
 | imm c v h => exact h
 | undef v => simp [AVal.immC, AVal.immP] at hc
 | ptr b i f v h => simp [AVal.immC, AVal.immP] at hc
 | sl b i f e v h => simp [AVal.immC, AVal.immP] at hc
 | agg cs a hl h => simp [AVal.immC, AVal.immP] at hc
 | tup cs a hl h => simp [AVal.immC, AVal.immP] at hc
def oneV : Value → Bool
 | .agg _ => false
 | .tuple _ => false
 | _ => true
def Blk.R (μ : Nat → Loc) (w : World) (S : Nat → Prop) (flat : Bool) (c : AVal) (v : Value) : Prop := (if flat then IR w S c v else VR μ w S c v) ∧ oneV v = true
theorem Blk.R.vr {μ : Nat → Loc} {w : World} {S : Nat → Prop} {flat : Bool} {c : AVal} {v : Value} (h : Blk.R μ w S flat c v) : VR μ w S c v := by
 have h := h.1
 split at h
 · exact .imm _ _ h
 · exact h
theorem Blk.R.mono {μ μ' : Nat → Loc} {w w' : World} {S S' : Nat → Prop} {flat : Bool} {c : AVal} {v : Value} (hμ : Up μ μ') (hw : ∀ m, S m → w'.heap[m]? = w.heap[m]?) (hS : ∀ m, S m → S' m)
   (h : Blk.R μ w S flat c v) : Blk.R μ' w' S' flat c v := by
 refine ⟨?_, h.2⟩
 have h := h.1
 split
 · rename_i hf; rw [if_pos hf] at h; exact h.mono hw hS
 · rename_i hf; rw [if_neg hf] at h; exact h.mono hμ hw hS
def BlkR (μ : Nat → Loc) (w : World) (S : Nat → Prop) (l : Loc) (k : Blk) : Prop :=
 match l with
 | .free => False
 | .dead => False
 | .void => k.elems = []
 | .here m n e => e = k.e ∧ k.elems.length ≤ n ∧ (∀ (i : Nat) (x : List AVal), k.elems[i]? = some x → x.length = k.e) ∧
     ∃ (cells : Array Value) (t : TypeId), w.heap[m]? = some (.cells cells t (0, 0)) ∧ cells.size = n * k.e ∧
       ∀ (i : Nat) (x : List AVal) (j : Nat) (c : AVal), k.elems[i]? = some x → x[j]? = some c → ∃ v, cells[i * k.e + j]? = some v ∧ Blk.R μ w S k.flat c v
theorem BlkR.mono {μ μ' : Nat → Loc} {w w' : World} {S S' : Nat → Prop} {l : Loc} {k : Blk} (hμ : Up μ μ') (hw : ∀ m, S m → w'.heap[m]? = w.heap[m]?) (hS : ∀ m, S m → S' m)
   (hl : ∀ m n e, l = .here m n e → w'.heap[m]? = w.heap[m]?) (h : BlkR μ w S l k) : BlkR μ' w' S' l k := by
 cases l with
 | free => exact h
 | dead => exact h
 | void => exact h
 | here m n e =>
   obtain ⟨he, hn, hx, cells, t, hh, hs, hc⟩ := h
   exact ⟨he, hn, hx, cells, t, by rw [hl m n e rfl]; exact hh, hs, fun i x j c hi hj => by
     obtain ⟨v, hv, hr⟩ := hc i x j c hi hj
     exact ⟨v, hv, hr.mono hμ hw hS⟩⟩
def Owned (μ : Nat → Loc) (m : Nat) : Prop := ∃ b n e, μ b = .here m n e
def GlobT (w : World) (S : Nat → Prop) : Prop := ∀ b cs, globOf b globs = some cs → IR w S (.iptr cs 0) (.pointer (some ⟨b, 0, none⟩)) ∧ S b ∧ ∃ us t p, w.heap[b]? = some (.cells us t p) ∧ us.size = cs.length
def IfOk (ev : Value) : Prop := ev = .nilIface ∨ ∃ te pe, ev = .iface te pe
def GlobR (w : World) (S : Nat → Prop) : Prop := GlobT w S ∧ (∀ b, b ∈ anyInts → S b ∧ ∃ m t p, w.heap[b]? = some (.cells #[.int .i64 m] t p)) ∧ ∀ b, b ∈ anyIfs → S b ∧ ∃ ev t p, w.heap[b]? = some (.cells #[ev] t p) ∧ IfOk ev
theorem GlobR.mono {w w' : World} {S S' : Nat → Prop} (h : GlobR w S) (hw : ∀ m, S m → w'.heap[m]? = w.heap[m]?) (hS : ∀ m, S m → S' m) : GlobR w' S' := ⟨fun b cs hb => by
 obtain ⟨h1, h2, us, t, p, h3, h4⟩ := h.1 b cs hb
 exact ⟨h1.mono hw hS, hS b h2, us, t, p, by rw [hw b h2]; exact h3, h4⟩, fun b hb => by
 obtain ⟨h1, m, t, p, h2⟩ := h.2.1 b hb
 exact ⟨hS b h1, m, t, p, by rw [hw b h1]; exact h2⟩, fun b hb => by
 obtain ⟨h1, m, t, p, h2, h3⟩ := h.2.2 b hb
 exact ⟨hS b h1, m, t, p, by rw [hw b h1]; exact h2, h3⟩⟩
structure HRep (μ : Nat → Loc) (w : World) (S : Nat → Prop) (hp : Heap) : Prop where
 live : ∀ b k, hp.get b = some k → BlkR μ w S (μ b) k
 gone : ∀ b, hp.get b = none → μ b = .free ∨ μ b = .dead
 free : ∀ b, hp.isFree b = true ∨ hp.length ≤ b → μ b = .free
 inj : ∀ b b' m n n' e e', μ b = .here m n e → μ b' = .here m n' e' → b = b'
 apart : ∀ m, Owned μ m → ¬ S m
 inS : ∀ m, S m → m < w.heap.size
 gl : GlobR w S
theorem Heap.get_lt {hp : Heap} {b : Nat} {k : Blk} (h : hp.get b = some k) : b < hp.length := by
 unfold Heap.get at h
 rcases Nat.lt_or_ge b hp.length with hl | hl
 · exact hl
 · rw [List.getElem?_eq_none hl] at h; cases h
theorem HRep.here {μ : Nat → Loc} {w : World} {S : Nat → Prop} {hp : Heap} (h : HRep μ w S hp) {b m n e : Nat} (hb : μ b = .here m n e) : ∃ k, hp.get b = some k := by
 cases hk : hp.get b with
 | some k => exact ⟨k, rfl⟩
 | none => rcases h.gone b hk with e' | e' <;> rw [e'] at hb <;> cases hb
theorem HRep.lt {μ : Nat → Loc} {w : World} {S : Nat → Prop} {hp : Heap} (h : HRep μ w S hp) {m : Nat} (ho : Owned μ m) : m < w.heap.size := by
 obtain ⟨b, n, e, hb⟩ := ho
 obtain ⟨k, hk⟩ := h.here hb
 have := h.live b k hk
 rw [hb] at this
 obtain ⟨_, _, _, cells, t, hh, _⟩ := this
 rcases Nat.lt_or_ge m w.heap.size with hl | hl
 · exact hl
 · rw [Array.getElem?_eq_none hl] at hh; cases hh
structure Ext (μ : Nat → Loc) (S : Nat → Prop) (w : World) (μ' : Nat → Loc) (S' : Nat → Prop) (w' : World) : Prop where
 os : w'.os = w.os
 tape : w'.tape = w.tape
 output : w'.output = w.output
 size : w.heap.size ≤ w'.heap.size
 same : ∀ m, m < w.heap.size → ¬ Owned μ m → w'.heap[m]? = w.heap[m]?
 sub : ∀ m, S m → S' m
 new : ∀ m, S' m → S m ∨ Owned μ m ∨ w.heap.size ≤ m
 own : ∀ m, Owned μ' m → Owned μ m ∨ w.heap.size ≤ m
theorem Ext.refl (μ : Nat → Loc) (S : Nat → Prop) (w : World) : Ext μ S w μ S w := ⟨rfl, rfl, rfl, Nat.le_refl _, fun _ _ _ => rfl, fun _ h => h, fun _ h => .inl h, fun _ h => .inl h⟩
theorem Ext.trans {μ μ' μ'' : Nat → Loc} {S S' S'' : Nat → Prop} {w w' w'' : World} (h : Ext μ S w μ' S' w') (k : Ext μ' S' w' μ'' S'' w'') : Ext μ S w μ'' S'' w'' where
 os := k.os.trans h.os
 tape := k.tape.trans h.tape
 output := k.output.trans h.output
 size := Nat.le_trans h.size k.size
 same m hm ho := by
   rw [k.same m (Nat.lt_of_lt_of_le hm h.size) (fun h2 => by rcases h.own m h2 with h3 | h3; exact ho h3; omega)]
   exact h.same m hm ho
 sub m hm := k.sub m (h.sub m hm)
 new m hm := by
   rcases k.new m hm with h1 | h1 | h1
   · exact h.new m h1
   · rcases h.own m h1 with h2 | h2
     · exact .inr (.inl h2)
     · exact .inr (.inr h2)
   · exact .inr (.inr (Nat.le_trans h.size h1))
 own m hm := by
   rcases k.own m hm with h1 | h1
   · exact h.own m h1
   · exact .inr (Nat.le_trans h.size h1)
theorem Ext.keeps {μ μ' : Nat → Loc} {S S' : Nat → Prop} {w w' : World} {hp : Heap} (h : Ext μ S w μ' S' w') (r : HRep μ w S hp) : ∀ m, S m → w'.heap[m]? = w.heap[m]? :=
 fun m hm => h.same m (r.inS m hm) (fun ho => r.apart m ho hm)
theorem VR.ext {μ μ' : Nat → Loc} {S S' : Nat → Prop} {w w' : World} {hp : Heap} {c : AVal} {v : Value} (h : VR μ w S c v) (r : HRep μ w S hp) (x : Ext μ S w μ' S' w') (u : Up μ μ') : VR μ' w' S' c v :=
 h.mono u (x.keeps r) x.sub
/- inversions -/
section
variable {μ : Nat → Loc} {w : World} {S : Nat → Prop} {v : Value}
theorem VR.bool_inv {b : Bool} (h : VR μ w S (.bool b) v) : v = .bool b := by cases h with | imm c v h => cases h; rfl
theorem VR.int_inv {k : IntKind} {n : Int} (h : VR μ w S (.int k n) v) : v = .int k n := by cases h with | imm c v h => cases h; rfl
theorem VR.fl_inv {n : Int} (h : VR μ w S (.fl n) v) : v = .float .f64 (Fl.bits n) := by cases h with | imm c v h => cases h; rfl
theorem VR.cx_inv {a b : Int} (h : VR μ w S (.cx a b) v) : v = .complex .f64 (Fl.bits a) (Fl.bits b) := by cases h with | imm c v h => cases h; rfl
theorem VR.str_inv {l : List UInt8} (h : VR μ w S (.str l) v) : ∃ s : ByteArray, v = .string s ∧ s.data.toList = l := by cases h with | imm c v h => cases h with | str s => exact ⟨s, rfl, rfl⟩
theorem VR.nilp_inv (h : VR μ w S .nilp v) : v = .pointer none := by cases h with | imm c v h => cases h; rfl
theorem VR.nili_inv (h : VR μ w S .nili v) : v = .nilIface := by cases h with | imm c v h => cases h; rfl
theorem VR.zsl_inv (h : VR μ w S .zsl v) : ∃ A, v = .slice A 0 0 := by cases h with | imm c v h => cases h with | zsl A => exact ⟨A, rfl⟩
theorem VR.ptr_inv {b i f : Nat} (h : VR μ w S (.ptr b i f) v) : PtrAt (μ b) i f v := by
 cases h with
 | imm c v h => cases h
 | ptr b i f v h => exact h
theorem VR.sl_inv {b i f e : Nat} (h : VR μ w S (.sl b i f e) v) : SlAt (μ b) i f e v := by
 cases h with
 | imm c v h => cases h
 | sl b i f e v h => exact h
theorem VR.agg_inv {cs : List AVal} (h : VR μ w S (.agg cs) v) : ∃ a : Array Value, v = .agg a ∧ cs.length = a.size ∧ ∀ (j : Nat) (c : AVal) (u : Value), cs[j]? = some c → a[j]? = some u → VR μ w S c u := by
 cases h with
 | imm c v h => cases h
 | agg cs a hl h => exact ⟨a, rfl, hl, h⟩
theorem VR.tup_inv {cs : List AVal} (h : VR μ w S (.tup cs) v) : ∃ a : Array Value, v = .tuple a ∧ cs.length = a.size ∧ ∀ (j : Nat) (c : AVal) (u : Value), cs[j]? = some c → a[j]? = some u → VR μ w S c u := by
 cases h with
 | imm c v h => cases h
 | tup cs a hl h => exact ⟨a, rfl, hl, h⟩
theorem VR.fn_inv {f : Nat} {cap : List AVal} (h : VR μ w S (.fn f cap) v) : ∃ caps : Array Value, v = .func (.func f) #[] caps ∧ cap.length = caps.size ∧ ∀ (j : Nat) (c : AVal) (u : Value), cap[j]? = some c → caps[j]? = some u → VR μ w S c u := by
 cases h with
 | imm c v h => cases h with | fn f cap caps hl h => exact ⟨caps, rfl, hl, fun j c u hj hu => .imm _ _ (h j c u hj hu)⟩
 | fn f cap caps hl h => exact ⟨caps, rfl, hl, h⟩
theorem VR.imm_inv {e : Nat} {xs : List (List AVal)} (h : VR μ w S (.imm e xs) v) : IR w S (.imm e xs) v := by cases h with | imm c v h => exact h
theorem VR.iptr_inv {cs : List AVal} {off : Nat} (h : VR μ w S (.iptr cs off) v) : IR w S (.iptr cs off) v := by cases h with | imm c v h => exact h
end
theorem IR.one {w : World} {S : Nat → Prop} {c : AVal} {v : Value} (h : IR w S c v) : oneV v = true := by cases h <;> rfl
theorem PtrAt.one {l : Loc} {i f : Nat} {v : Value} (h : PtrAt l i f v) : oneV v = true := by
 cases l with
 | free => exact h.elim
 | dead => obtain ⟨a, rfl⟩ := h; rfl
 | void => exact h.elim
 | here m n e => have h : v = _ := h; subst h; rfl
theorem SlAt.one {l : Loc} {i f e : Nat} {v : Value} (h : SlAt l i f e v) : oneV v = true := by
 cases l with
 | free => exact h.elim
 | dead => obtain ⟨a, b, rfl, _⟩ := h; rfl
 | void => obtain ⟨_, _, A, rfl⟩ := h; rfl
 | here m n e => obtain ⟨_, cap, rfl, _⟩ := h; rfl
theorem VR.one {μ : Nat → Loc} {w : World} {S : Nat → Prop} {c : AVal} {v : Value} (h : VR μ w S c v) (hc : c.cellB = true) : oneV v = true := by
 cases h with
 | undef v => simp [AVal.cellB] at hc
 | imm c v h => exact h.one
 | ptr b i f v h => exact h.one
 | sl b i f e v h => exact h.one
 | fn f cap caps hl h => rfl
 | agg cs a hl h => simp [AVal.cellB] at hc
 | tup cs a hl h => simp [AVal.cellB] at hc
theorem VR.cells {μ : Nat → Loc} {w : World} {S : Nat → Prop} {c : AVal} {v : Value} (h : VR μ w S c v) (hc : (cellsOf c).all AVal.cellB = true) :
   v.cells.size = (cellsOf c).length ∧ ∀ (j : Nat) (x : AVal) (u : Value), (cellsOf c)[j]? = some x → v.cells[j]? = some u → VR μ w S x u := by
 have single : c.cellB = true → cellsOf c = [c] → v.cells.size = (cellsOf c).length ∧ ∀ (j : Nat) (x : AVal) (u : Value), (cellsOf c)[j]? = some x → v.cells[j]? = some u → VR μ w S x u := by
   intro h1 h2
   have ho := h.one h1
   have hv : v.cells = #[v] := by cases v <;> first | rfl | simp [oneV] at ho
   rw [h2, hv]
   refine ⟨rfl, fun j x u hj hu => ?_⟩
   cases j with
   | zero => simp at hj hu; subst hj; subst hu; exact h
   | succ j => simp at hj
 cases c with
 | agg cs =>
   obtain ⟨a, rfl, hl, hx⟩ := h.agg_inv
   exact ⟨hl.symm, hx⟩
 | undef => simp [cellsOf, AVal.cellB] at hc
 | tup vs => simp [cellsOf, AVal.cellB] at hc
 | _ => exact single rfl rfl
end AM
end Go.Proofs.YtjngkfdclcgfhaaGreatDoor
end
section
namespace Go.Proofs.YtjngkfdclcgfhaaGreatDoor
namespace AM
def constB : AVal → Value → Bool
 | .bool a, .bool b => a == b
 | .int k a, .int k' b => decide (k = k') && decide (a = b)
 | .str l, .string s => l == s.data.toList
 | .nilp, .pointer none => true
 | .zsl, .slice none 0 0 => true
 | .nilfn, .nilFunc => true
 | .nili, .nilIface => true
 | .fl n, .float .f64 x => decide (x = Fl.bits n)
 | .cx a b, .complex .f64 x y => decide (x = Fl.bits a) && decide (y = Fl.bits b)
 | _, _ => false
def all2 {α β : Type} (f : α → β → Bool) : List α → List β → Bool
 | [], [] => true
 | x :: xs, y :: ys => f x y && all2 f xs ys
 | _, _ => false
def constV : AVal → Value → Bool
 | .agg cs, .agg a => all2 constB cs a.toList
 | .undef, _ => true
 | c, v => constB c v
def chkOpd : Operand → Opd → Bool
 | .tmp t, .tmp u => t == u
 | .const v, .const c => constV c v
 | .func f, .func g => f == g
 | .global g, .glob h => g == h
 | _, _ => false
def chkOpt : Option Operand → Option Opd → Bool
 | none, none => true
 | some x, some y => chkOpd x y
 | _, _ => false
def szB (P : Program) (t : TypeId) (n : Nat) : Bool := match P.info? t with | some i => i.size == n | none => false
def bytesB (P : Program) (t : TypeId) (n : Nat) : Bool := match P.info? t with | some i => i.bytes == n | none => false
def isAggD : TypeDesc → Bool
 | .struct _ | .array _ _ => true
 | _ => false
def aggB (P : Program) (t : TypeId) (b : Bool) : Bool := match P.underlying t with | some d => isAggD d == b | none => false
def zeroB (P : Program) (t : TypeId) (zs : List AVal) : Bool := match P.info? t with
 | some i => match i.zero with | some z => all2 constB zs z.cells.toList && i.size == zs.length | none => false
 | none => false
def chkPart (P : Program) (fs : Array Field) (p : Nat × Operand) (q : Nat × Nat × Opd) : Bool :=
 match fs[p.1]? with
 | some f => f.offset == q.1 && szB P f.type q.2.1 && chkOpd p.2 q.2.2
 | none => false
def eqNe : BinOp → Option Bool
 | .eql => some false
 | .neq => some true
 | _ => none
def eqKs (P : Program) : Nat → TypeId → Option (List CK)
 | 0, _ => none
 | d + 1, t => match P.underlying t with
   | some .bool => some [.bool]
   | some (.int k) => some [.int k]
   | some .string => some [.str]
   | some (.struct fs) => if P.stoodInHeld t then none else eqFs P (eqKs P d) 0 fs.toList
   | some (.array n e) => match P.info? e, eqKs P d e with
     | some i, some ks => if i.size = ks.length then some (List.replicate n ks).flatten else none
     | _, _ => none
   | _ => none
where
 eqFs (P : Program) (g : TypeId → Option (List CK)) : Nat → List Field → Option (List CK)
   | _, [] => some []
   | o, f :: fs => match P.info? f.type, g f.type with
     | some i, some ks => if f.name = "_" ∨ f.offset ≠ o ∨ i.size ≠ ks.length then none else match eqFs P g (o + ks.length) fs with
       | some l => some (ks ++ l)
       | none => none
     | _, _ => none
def chkPure (P : Program) (op : Op) (ao : AOp) : Bool :=
 match op, ao with
 | .move x, .move y => chkOpd x y
 | .assign x, .move y => chkOpd x y
 | .pick c a b, .pick c' a' b' => chkOpd c c' && chkOpd a a' && chkOpd b b'
 | .build t parts, .build zero ps => zeroB P t zero && (match P.underlying t with
   | some (.struct fs) => fs.all (fun f => (P.info? f.type).isSome) && all2 (chkPart P fs) parts.toList ps
   | some (.array _ e) => match P.info? e with
     | some i => all2 (fun (p : Nat × Operand) (q : Nat × Nat × Opd) => q.1 == p.1 * i.size && q.2.1 == i.size && chkOpd p.2 q.2.2) parts.toList ps
     | none => false
   | _ => false)
 | .nilCheck x, .nilCheck y => chkOpd x y
 | .binOp op t x y _, .bin op' x' y' => decide (op = op') && chkOpd x x' && chkOpd y y'
 | .binOp op t x y _, .eqB neg x' y' => eqNe op == some neg && (match P.underlying t with | some .bool => true | _ => false) && chkOpd x x' && chkOpd y y'
 | .binOp op t x y _, .eqP neg x' y' => eqNe op == some neg && (match P.underlying t with | some (.pointer _) => true | _ => false) && chkOpd x x' && chkOpd y y'
 | .binOp op t x y _, .eqI neg x' y' => eqNe op == some neg && (match P.underlying t with | some (.slice _) => true | _ => false) && chkOpd x x' && (match y, y' with | .const (.slice none 0 0), .const .zsl => true | _, _ => false)
 | .binOp op t x y _, .eqAgg neg x' y' => eqNe op == some neg.1 && decide (eqKs P 6 t = some neg.2) && (match P.underlying t with | some (.struct _) | some (.array _ _) => true | _ => false) && !P.eqGuardType P.depth t && chkOpd x x' && chkOpd y y'
 | .unOp op _ x, .un op' x' => decide (op = op') && chkOpd x x'
 | .convert s d x, .conv k x' => (P.underlying s).isSome && (match P.underlying d with | some (.int k') => decide (k = k') | _ => false) && chkOpd x x'
 | .slice t x lo hi mx, .slice e x' lo' hi' mx' => (match P.underlying t with | some (.slice el) => szB P el e | _ => false) && chkOpd x x' && chkOpt lo lo' && chkOpt hi hi' && chkOpt mx mx' && (mx'.isNone || hi'.isSome)
 | .slice t x lo hi none, .sliceStr x' lo' hi' => (match P.underlying t with | some .string => true | _ => false) && chkOpd x x' && chkOpt lo lo' && chkOpt hi hi'
 | .fieldAddr s x f, .fieldAddr off x' => (match P.underlying s with
   | some (.struct fs) => match fs[f]? with | some g => g.offset == off && (match P.info? g.type with | some i => i.size != 0 | none => false) | none => false
   | _ => false) && chkOpd x x'
 | .field s x f, .field agg off n x' => (match P.underlying s with
   | some (.struct fs) => match fs[f]? with | some g => g.offset == off && szB P g.type n && aggB P g.type agg | none => false
   | _ => false) && chkOpd x x'
 | .indexAddr t x i, .indexSl e x' i' => e != 0 && (match P.underlying t with | some (.slice el) => szB P el e | _ => false) && chkOpd x x' && chkOpd i i'
 | .indexAddr t x i, .indexArr n e x' i' => (match P.underlying t with | some (.array m el) => m == n && szB P el e | _ => false) && chkOpd x x' && chkOpd i i'
 | .index t x i, .indexVal agg n e x' i' => (match P.underlying t with | some (.array m el) => m == n && szB P el e && aggB P el agg | _ => false) && chkOpd x x' && chkOpd i i'
 | .index t x i, .indexStr x' i' => (match P.underlying t with | some .string => true | _ => false) && chkOpd x x' && chkOpd i i'
 | .extract x i, .extract x' i' => i == i' && chkOpd x x'
 | .makeFunc (.func f) first cap, .makeFunc f' cap' => f == f' && first.isEmpty && all2 chkOpd cap.toList cap'
 | .call { callee := .builtin .len, args, argTypes }, .len x' => (match args.toList, argTypes.toList with | [x], [t] => (match P.underlying t with | some (.slice _) => true | _ => false) && chkOpd x x' | _, _ => false)
 | .call { callee := .builtin .len, args, argTypes }, .lenStr x' => (match args.toList, argTypes.toList with | [x], [t] => (match P.underlying t with | some .string => true | _ => false) && chkOpd x x' | _, _ => false)
 | .call { callee := .builtin .len, args, argTypes }, .move (.const (.int .i64 n)) => (match argTypes.toList, args.toList with | [t], [x] => (match P.underlying t with | some (.array m _) => decide ((m : Int) = n) | _ => false) | _, _ => false)
 | .call { callee := .builtin .min, args, .. }, .minmax false x' y' => (match args.toList with | [x, y] => chkOpd x x' && chkOpd y y' | _ => false)
 | .call { callee := .builtin .max, args, .. }, .minmax true x' y' => (match args.toList with | [x, y] => chkOpd x x' && chkOpd y y' | _ => false)
 | .convert s d x, .flt .ofInt x' y' => (P.underlying s).isSome && (match P.underlying d with | some (.float .f64) => true | _ => false) && chkOpd x x'
 | .convert s d x, .flt .toInt x' y' => (P.underlying s).isSome && (match P.underlying d with | some (.int .i64) => true | _ => false) && chkOpd x x'
 | .binOp .add t x y _, .flt .add x' y' => chkOpd x x' && chkOpd y y'
 | .binOp .sub t x y _, .flt .sub x' y' => chkOpd x x' && chkOpd y y'
 | .binOp .mul t x y _, .flt .mul x' y' => chkOpd x x' && chkOpd y y'
 | .call { callee := .builtin .complex, args, .. }, .flt .mk x' y' => (match args.toList with | [x, y] => chkOpd x x' && chkOpd y y' | _ => false)
 | .call { callee := .builtin .real, args, .. }, .flt .re x' y' => (match args.toList with | [x] => chkOpd x x' | _ => false)
 | .call { callee := .builtin .imag, args, .. }, .flt .im x' y' => (match args.toList with | [x] => chkOpd x x' | _ => false)
 | _, _ => false
theorem IR.of_constB {w : World} {S : Nat → Prop} {c : AVal} {v : Value} (h : constB c v = true) : IR w S c v := by
 unfold constB at h
 split at h <;> first
   | (simp at h; subst h; exact .bool _)
   | (simp at h; obtain ⟨rfl, rfl⟩ := h; exact .int _ _)
   | (simp at h; subst h; exact .str _)
   | exact .nilp
   | exact .zsl _
   | (simp at h; subst h; exact .fl _)
   | (simp at h; obtain ⟨rfl, rfl⟩ := h; exact .cx _ _)
   | exact .nilfn
   | exact .nili
   | cases h
theorem all2_length {α β : Type} {f : α → β → Bool} : ∀ {xs : List α} {ys : List β}, all2 f xs ys = true → xs.length = ys.length
 | [], [], _ => rfl
 | x :: xs, y :: ys, h => by simp [all2] at h; simp [all2_length h.2]
 | [], y :: ys, h => by simp [all2] at h
 | x :: xs, [], h => by simp [all2] at h
theorem all2_get {α β : Type} {f : α → β → Bool} : ∀ {xs : List α} {ys : List β}, all2 f xs ys = true → ∀ (j : Nat) (x : α) (y : β), xs[j]? = some x → ys[j]? = some y → f x y = true
 | [], [], _, j, x, y, hx, _ => by simp at hx
 | x :: xs, y :: ys, h, 0, a, b, hx, hy => by simp at hx hy; subst hx; subst hy; simp [all2] at h; exact h.1
 | x :: xs, y :: ys, h, j + 1, a, b, hx, hy => by simp [all2] at h; simp at hx hy; exact all2_get h.2 j a b hx hy
 | [], y :: ys, h, _, _, _, _, _ => by simp [all2] at h
 | x :: xs, [], h, _, _, _, _, _ => by simp [all2] at h
theorem VR.of_constV {μ : Nat → Loc} {w : World} {S : Nat → Prop} {c : AVal} {v : Value} (h : constV c v = true) : VR μ w S c v := by
 unfold constV at h
 split at h
 · rename_i cs a
   exact .agg cs a (by rw [all2_length h]; simp) fun j c u hj hu => .imm _ _ (.of_constB (all2_get h j c u hj (by simpa using hu)))
 · exact .undef _
 · exact .imm _ _ (.of_constB h)
structure Tmps (μ : Nat → Loc) (w : World) (S : Nat → Prop) (tmps : List AVal) (a : Act) : Prop where
 size : tmps.length = a.tmps.size
 vr : ∀ (t : Nat) (v : AVal), tmps[t]? = some v → VR μ w S v (a.tmps.getD t undef)
 defers : a.defers = []
theorem Tmps.look {μ : Nat → Loc} {w : World} {S : Nat → Prop} {tmps : List AVal} {a : Act} (h : Tmps μ w S tmps a) (hg : GlobR w S) {x : Operand} {y : Opd} (hx : chkOpd x y = true) : VR μ w S (look tmps y) (a.eval x) := by
 unfold chkOpd at hx
 split at hx
 · rename_i t u
   simp at hx
   subst hx
   simp only [AM.look, Act.eval]
   cases ht : tmps[t]? with
   | some v => rw [List.getD_eq_getElem?_getD, ht]; exact h.vr t v ht
   | none => rw [List.getD_eq_getElem?_getD, ht]; exact .undef _
 · exact .of_constV hx
 · simp at hx
   subst hx
   exact .imm _ _ (.fn _ [] #[] rfl (by simp))
 · rename_i g b
   simp at hx
   subst hx
   simp only [AM.look, Act.eval]
   cases hb : globOf g globs with
   | some cs => exact .imm _ _ (hg.1 g cs hb).1
   | none => exact .undef _
 · cases hx
theorem add_mk (m o n : Nat) : (⟨m, o, none⟩ : Addr).add n = ⟨m, o + n, none⟩ := by
 unfold Addr.add
 split
 · rename_i h; subst h; rfl
 · rfl
theorem idxNat_inv {c : AVal} {k : Nat} (h : idxNat c = some k) : ∃ kd n, c = .int kd n ∧ 0 ≤ n ∧ n = (k : Int) := by
 unfold idxNat at h
 split at h
 · rename_i kd n
   split at h
   · rename_i h0; simp at h; exact ⟨kd, n, rfl, h0, by omega⟩
   · cases h
 · cases h
section
variable {P : Program} {μ : Nat → Loc} {w : World} {S : Nat → Prop} {ρ : Operand → Value} {r : Opd → AVal}
def Gives (P : Program) (μ : Nat → Loc) (w : World) (S : Nat → Prop) (s : Sem Next) (v : AVal) : Prop := ∃ cv, s.run P w = .ok (.value cv) w ∧ VR μ w S v cv
theorem gives_bin {op : BinOp} {x y : AVal} {t : TypeId} {a b : Value} {xo yo : Operand} {v : AVal} (hx : VR μ w S x a) (hy : VR μ w S y b) (h : binop op x y = some v) :
   ∃ cv, (do eqGuard op t xo yo a b; binOp op t a b : Sem Value).run P w = .ok cv w ∧ VR μ w S v cv := by
 unfold binop at h
 split at h
 · rename_i k m k' n
   have ha := hx.int_inv
   have hb := hy.int_inv
   subst ha
   subst hb
   split at h
   · rename_i hk
     cases op <;> simp only [binInt, isShift, Bool.false_eq_true, or_false, or_true] at h hk <;> (try subst hk) <;> (try (split at h; cases h)) <;> simp only [Option.some.injEq] at h <;> subst h <;>
       first
         | (refine ⟨_, ?_, .imm _ _ (.int _ _)⟩; (cases k <;> rfl); done)
         | (refine ⟨_, ?_, .imm _ _ (.int _ _)⟩; simp [eqGuard, binOp, Op.intArith, Op.intDiv, Op.intBits, Op.intCmp, Op.shift, go_sem, *]; done)
         | (refine ⟨.int k (k.wrap (m * 2 ^ (min n.toNat k.bits))), ?_, .imm _ _ (.int _ _)⟩; show (Op.shift BinOp.shl k m k' n).run P w = _; unfold Op.shift; rw [if_neg (by assumption)]; rfl)
         | (refine ⟨.int k (m.fdiv (2 ^ (min n.toNat k.bits))), ?_, .imm _ _ (.int _ _)⟩; show (Op.shift BinOp.shr k m k' n).run P w = _; unfold Op.shift; rw [if_neg (by assumption)]; rfl)
         | (refine ⟨_, ?_, .imm _ _ (.bool _)⟩; (cases k <;> rfl); done)
         | (refine ⟨_, ?_, .imm _ _ (.bool _)⟩; simp [eqGuard, binOp, Op.intArith, Op.intDiv, Op.intBits, Op.intCmp, Op.shift, go_sem, *]; done)
         | fail
   · cases h
 · rename_i l m
   obtain ⟨s, rfl, rfl⟩ := hx.str_inv
   obtain ⟨u, rfl, rfl⟩ := hy.str_inv
   have e1 : s.toList = s.data.toList := ByteArray.toList_eq s
   have e2 : u.toList = u.data.toList := ByteArray.toList_eq u
   have e3 : ∀ a b, AM.bytesLess a b = Op.bytesLess a b := fun a b => by
     induction a generalizing b with
     | nil => cases b <;> rfl
     | cons x a ih => cases b with | nil => rfl | cons y b => simp only [AM.bytesLess, Op.bytesLess, ih]
   have e4 : ∀ a b : List UInt8, decide (a = b) = (a == b) := fun a b => by rw [Bool.eq_iff_iff]; simp
   cases op <;> simp only [binStr] at h <;> (try cases h) <;> (try (split at h)) <;> (try cases h) <;> (try (simp only [Option.some.injEq] at h; subst h)) <;>
     first
       | (rw [e3, e4, ← e1, ← e2]; exact ⟨_, rfl, .imm _ _ (.bool _)⟩)
       | (rw [e4, ← e1, ← e2]; exact ⟨_, rfl, .imm _ _ (.bool _)⟩)
       | (rw [e3, ← e1, ← e2]; exact ⟨_, rfl, .imm _ _ (.bool _)⟩)
       | fail
       | (have hlen : ¬ (((s.size + u.size : Nat) : Int) > IntKind.i64.max) := (by
            have h1 : s.data.toList.length = s.size := (by simp)
            have h2 : u.data.toList.length = u.size := (by simp)
            have h3 : s.data.toList.length + u.data.toList.length ≤ 4294967296 := (by assumption)
            have h4 : IntKind.i64.max = 9223372036854775807 := rfl
            rw [h4]; omega)
          refine ⟨.string (s ++ u), ?_, .imm _ _ ?_⟩
          · show (Op.stringOp .add s u).run P w = _
            simp only [Op.stringOp, if_neg hlen]; rfl
          · have : s.data.toList ++ u.data.toList = (s ++ u).data.toList := (by simp)
            rw [this]; exact .str _)
 · cases h
end
end AM
end Go.Proofs.YtjngkfdclcgfhaaGreatDoor
end
section
namespace Go.Proofs.YtjngkfdclcgfhaaGreatDoor
namespace AM
def absV : Value → AVal
 | .bool b => .bool b
 | .int k n => .int k n
 | .string s => .str s.data.toList
 | _ => .undef
theorem cellsEq_length : ∀ {ks : List CK} {xs ys : List AVal} {r : Bool}, cellsEq ks xs ys = some r → xs.length = ks.length ∧ ys.length = ks.length
 | [], [], [], _, _ => ⟨rfl, rfl⟩
 | k :: ks, x :: xs, y :: ys, r, h => by
   simp only [cellsEq] at h
   split at h
   · split at h
     · rename_i hb; obtain ⟨h1, h2⟩ := cellsEq_length hb; simp [h1, h2]
     · cases h
   · cases h
 | [], _ :: _, _, _, h => by simp [cellsEq] at h
 | [], [], _ :: _, _, h => by simp [cellsEq] at h
 | _ :: _, [], _, _, h => by simp [cellsEq] at h
 | _ :: _, _ :: _, [], _, h => by simp [cellsEq] at h
theorem cellsEq_append : ∀ {ks ls : List CK} {xs ys : List AVal} {r : Bool}, cellsEq (ks ++ ls) xs ys = some r → ∃ a b, cellsEq ks (xs.take ks.length) (ys.take ks.length) = some a ∧ cellsEq ls (xs.drop ks.length) (ys.drop ks.length) = some b ∧ r = (a && b)
 | [], ls, xs, ys, r, h => ⟨true, r, rfl, by simpa using h, by simp⟩
 | k :: ks, ls, x :: xs, y :: ys, r, h => by
   simp only [List.cons_append, cellsEq] at h
   split at h
   · rename_i a ha
     split at h
     · rename_i b hb
       cases h
       obtain ⟨c, d, h1, h2, rfl⟩ := cellsEq_append hb
       refine ⟨a && c, d, ?_, by simpa using h2, by simp [Bool.and_assoc]⟩
       simp only [List.length_cons, List.take_succ_cons, cellsEq, ha, h1]
     · cases h
   · cases h
 | _ :: _, _, [], _, _, h => by simp [cellsEq] at h
 | _ :: _, _, _ :: _, [], _, h => by simp [cellsEq] at h
section
variable {P : Program} (w : World)
def rowT (P : Program) (t : TypeId) : Bool := match P.underlying t with
 | some (.struct _) | some (.array _ _) => true
 | _ => false
def CellsOf (P : Program) (t : TypeId) (a : Value) (xs : List Value) : Prop := if rowT P t then a = .agg xs.toArray else xs = [a]
theorem run_part_cells {t : TypeId} {i : TypeInfo} {cs : Array Value} {off : Nat} {ks : List CK} {d : Nat} (hi : P.info? t = some i) (hk : eqKs P d t = some ks) (hs : i.size = ks.length) (hl : off + ks.length ≤ cs.size) :
   ∃ a, (part t cs off).run P w = .ok a w ∧ CellsOf P t a ((cs.toList.drop off).take ks.length) := by
 cases d with
 | zero => simp [eqKs] at hk
 | succ d =>
   have hcs : P.cellsOf t = i.size := by simp [Program.cellsOf, hi]
   have hex : (cs.extract off (off + i.size)) = ((cs.toList.drop off).take ks.length).toArray := by
     rw [hs]
     apply Array.ext'
     simp [List.extract]
   unfold eqKs at hk
   cases hu : P.underlying t with
   | none => simp [hu] at hk
   | some kd =>
     have one : ks.length = 1 → rowT P t = false → isAggD kd = false → ∃ a, (part t cs off).run P w = .ok a w ∧ CellsOf P t a ((cs.toList.drop off).take ks.length) := fun h1 h2 h3 => by
       have hlt : off < cs.size := by omega
       refine ⟨cs[off], ?_, ?_⟩
       · cases kd <;> simp [isAggD] at h3 <;> simp [part, isAgg, run_underlying hu, Array.getElem?_eq_getElem hlt]
       · unfold CellsOf
         rw [h2, h1]
         simp only [Bool.false_eq_true, if_false]
         rw [List.drop_eq_getElem_cons (by simpa using hlt)]
         simp
     cases kd
     case bool => simp only [hu] at hk; cases hk; exact one rfl (by simp [rowT, hu]) rfl
     case int k => simp only [hu] at hk; cases hk; exact one rfl (by simp [rowT, hu]) rfl
     case string => simp only [hu] at hk; cases hk; exact one rfl (by simp [rowT, hu]) rfl
     case struct fs => exact ⟨.agg (cs.extract off (off + i.size)), by simp [part, isAgg, run_underlying hu, run_sizeOf w hi, hcs], by unfold CellsOf; rw [show rowT P t = true from by simp [rowT, hu]]; simp only [if_true]; rw [hex]⟩
     case array n e => exact ⟨.agg (cs.extract off (off + i.size)), by simp [part, isAgg, run_underlying hu, run_sizeOf w hi, hcs], by unfold CellsOf; rw [show rowT P t = true from by simp [rowT, hu]]; simp only [if_true]; rw [hex]⟩
     all_goals (simp [hu] at hk; done)
def EqOk (P : Program) (d : Nat) : Prop := ∀ (t : TypeId) (ks : List CK), eqKs P d t = some ks → ∀ (w : World) (D : Nat) (a b : Value) (xs ys : List Value) (r : Bool), CellsOf P t a xs → CellsOf P t b ys → cellsEq ks (xs.map absV) (ys.map absV) = some r → (Op.equalIn (D + d) t a b).run P w = .ok r w
theorem map_take_drop {α β : Type} (f : α → β) (l : List α) (o n : Nat) : ((l.drop o).take n).map f = ((l.map f).drop o).take n := by simp [List.map_take, List.map_drop]
theorem eqFields_ok {d : Nat} (ih : EqOk P d) (D : Nat) (xs ys : Array Value) : ∀ (fs : List Field) (o : Nat) (ks : List CK) (r : Bool), eqKs.eqFs P (eqKs P d) o fs = some ks → o ≤ xs.size → o ≤ ys.size → cellsEq ks ((xs.toList.map absV).drop o) ((ys.toList.map absV).drop o) = some r → (Op.eqFields (D + d) xs ys fs).run P w = .ok r w
 | [], o, ks, r, h, _, _, hc => by
   simp only [eqKs.eqFs, Option.some.injEq] at h
   subst h
   have hc' := hc
   obtain ⟨h1, h2⟩ := cellsEq_length hc
   have e1 : (xs.toList.map absV).drop o = [] := List.eq_nil_of_length_eq_zero h1
   have e2 : (ys.toList.map absV).drop o = [] := List.eq_nil_of_length_eq_zero h2
   rw [e1, e2] at hc
   simp only [cellsEq, Option.some.injEq] at hc
   subst hc
   simp [Op.eqFields]
 | f :: fs, o, ks, r, h, hx, hy, hc => by
   simp only [eqKs.eqFs] at h
   split at h
   · rename_i i k1 hi hk
     split at h
     · cases h
     · rename_i hn
       have hn1 : f.name ≠ "_" := fun e => hn (.inl e)
       have hn2 : f.offset = o := Decidable.byContradiction fun e => hn (.inr (.inl e))
       have hn3 : i.size = k1.length := Decidable.byContradiction fun e => hn (.inr (.inr e))
       split at h
       · rename_i l hl
         cases h
         obtain ⟨p, q, c1, c2, rfl⟩ := cellsEq_append hc
         obtain ⟨l1, l2⟩ := cellsEq_length c1
         simp only [List.length_take, List.length_drop, List.length_map, Array.length_toList] at l1 l2
         have lx : o + k1.length ≤ xs.size := by omega
         have ly : o + k1.length ≤ ys.size := by omega
         obtain ⟨a, pa, ca⟩ := run_part_cells w hi hk hn3 lx
         obtain ⟨b, pb, cb⟩ := run_part_cells w hi hk hn3 ly
         have he := ih f.type k1 hk w D a b _ _ p ca cb (by rw [map_take_drop, map_take_drop]; exact c1)
         simp only [Op.eqFields, hn1, ne_eq, not_false_eq_true, if_true, Sem.run_bind, hn2, pa, pb, he, Result.andThen_ok]
         cases p with
         | false => simp
         | true =>
           simp only [Bool.not_true, Bool.false_eq_true, if_false, Bool.true_and]
           exact eqFields_ok ih D xs ys fs (o + k1.length) l q hl lx ly (by simpa [List.drop_drop, Nat.add_comm] using c2)
       · cases h
   · cases h
theorem eqItems_ok {d : Nat} (ih : EqOk P d) (D : Nat) {e : TypeId} {i : TypeInfo} {ks : List CK} (hi : P.info? e = some i) (hk : eqKs P d e = some ks) (hs : i.size = ks.length) (xs ys : Array Value) : ∀ (m o : Nat) (r : Bool), o * ks.length ≤ xs.size → o * ks.length ≤ ys.size → cellsEq (List.replicate m ks).flatten ((xs.toList.map absV).drop (o * ks.length)) ((ys.toList.map absV).drop (o * ks.length)) = some r →
   (Op.eqItems (D + d) e i.size xs ys (List.range' o m)).run P w = .ok r w
 | 0, o, r, _, _, hc => by
   obtain ⟨h1, h2⟩ := cellsEq_length hc
   have e1 : (xs.toList.map absV).drop (o * ks.length) = [] := List.eq_nil_of_length_eq_zero (by simpa using h1)
   have e2 : (ys.toList.map absV).drop (o * ks.length) = [] := List.eq_nil_of_length_eq_zero (by simpa using h2)
   rw [e1, e2] at hc
   simp [cellsEq] at hc
   subst hc
   simp [Op.eqItems]
 | m + 1, o, r, hx, hy, hc => by
   rw [List.replicate_succ, List.flatten_cons] at hc
   obtain ⟨p, q, c1, c2, rfl⟩ := cellsEq_append hc
   obtain ⟨l1, l2⟩ := cellsEq_length c1
   simp only [List.length_take, List.length_drop, List.length_map, Array.length_toList] at l1 l2
   have lx : o * ks.length + ks.length ≤ xs.size := by omega
   have ly : o * ks.length + ks.length ≤ ys.size := by omega
   obtain ⟨a, pa, ca⟩ := run_part_cells w hi hk hs lx
   obtain ⟨b, pb, cb⟩ := run_part_cells w hi hk hs ly
   have he := ih e ks hk w D a b _ _ p ca cb (by rw [map_take_drop, map_take_drop]; exact c1)
   rw [List.range'_succ]
   simp only [Op.eqItems, Sem.run_bind, hs, pa, pb, he, Result.andThen_ok]
   cases p with
   | false => simp
   | true =>
     simp only [Bool.not_true, Bool.false_eq_true, if_false, Bool.true_and]
     have hsucc : (o + 1) * ks.length = o * ks.length + ks.length := by rw [Nat.add_mul, Nat.one_mul]
     have := eqItems_ok ih D hi hk hs xs ys m (o + 1) q (by omega) (by omega) (by rw [hsucc]; simpa [List.drop_drop, Nat.add_comm] using c2)
     rw [hs] at this
     exact this
theorem eq_ok : ∀ d, EqOk P d
 | 0 => fun t ks h => by simp [eqKs] at h
 | d + 1 => by
   intro t ks hk w D a b xs ys r ha hb hc
   have ih := eq_ok d
   have hk0 := hk
   unfold eqKs at hk
   cases hu : P.underlying t with
   | none => simp [hu] at hk
   | some kd =>
     have cell : rowT P t = false → ks.length = 1 → ∃ k, ks = [k] ∧ xs = [a] ∧ ys = [b] ∧ cellEq k (absV a) (absV b) = some r := fun h1 h2 => by
       unfold CellsOf at ha hb
       rw [h1] at ha hb
       simp only [Bool.false_eq_true, if_false] at ha hb
       obtain ⟨k, rfl⟩ := List.length_eq_one_iff.1 h2
       subst ha
       subst hb
       refine ⟨k, rfl, rfl, rfl, ?_⟩
       simp only [List.map_cons, List.map_nil, cellsEq] at hc
       split at hc
       · rename_i q hq; simp at hc; subst hc; exact hq
       · cases hc
     have row : rowT P t = true → a = .agg xs.toArray ∧ b = .agg ys.toArray := fun h1 => by
       unfold CellsOf at ha hb
       rw [h1] at ha hb
       exact ⟨ha, hb⟩
     cases kd
     case bool =>
       simp only [hu] at hk
       cases hk
       obtain ⟨k, hk, rfl, rfl, he⟩ := cell (by simp [rowT, hu]) rfl
       cases hk
       cases a <;> cases b <;> simp [absV, cellEq] at he
       subst he
       exact run_equalIn_bool w (D + d) t _ _ hu
     case int q =>
       simp only [hu] at hk
       cases hk
       obtain ⟨k, hk, rfl, rfl, he⟩ := cell (by simp [rowT, hu]) rfl
       cases hk
       cases a <;> cases b <;> simp [absV, cellEq] at he
       rename_i k1 n1 k2 n2
       obtain ⟨⟨rfl, rfl⟩, rfl⟩ := he
       exact (run_equalIn_int w (D + d) t _ _ n1 n2 hu).trans (by congr 1)
     case string =>
       simp only [hu] at hk
       cases hk
       obtain ⟨k, hk, rfl, rfl, he⟩ := cell (by simp [rowT, hu]) rfl
       cases hk
       cases a <;> cases b <;> simp [absV, cellEq] at he
       rename_i s1 s2
       subst he
       have := run_equalIn_string w (D + d) t s1 s2 hu
       rw [show D + (d + 1) = (D + d) + 1 from rfl, this]
       congr 1
       rw [ByteArray.toList_eq, ByteArray.toList_eq, Bool.eq_iff_iff]
       simp
     case struct fs =>
       simp only [hu] at hk
       split at hk
       · cases hk
       · rename_i hst
         obtain ⟨rfl, rfl⟩ := row (by simp [rowT, hu])
         have hf : P.fieldsOf t = fs := by simp [Program.fieldsOf, hu]
         rw [show D + (d + 1) = (D + d) + 1 from rfl, run_equalIn_struct w (D + d) t _ _ (by rw [hf]; exact hu) (by simpa using hst), hf]
         exact eqFields_ok w ih D _ _ fs.toList 0 ks r hk (Nat.zero_le _) (Nat.zero_le _) (by simpa using hc)
     case array n e =>
       simp only [hu] at hk
       split at hk
       · rename_i i k1 hi hk1
         split at hk
         · rename_i hs
           cases hk
           obtain ⟨rfl, rfl⟩ := row (by simp [rowT, hu])
           rw [show D + (d + 1) = (D + d) + 1 from rfl, run_equalIn_array w (D + d) _ _ hu hi]
           have := eqItems_ok w ih D hi hk1 hs xs.toArray ys.toArray n 0 r (by simp) (by simp) (by simpa using hc)
           rw [List.range_eq_range', show P.cellsOf e = i.size from by simp [Program.cellsOf, hi]]
           exact this
         · cases hk
       · cases hk
     all_goals (simp [hu] at hk; done)
end
def scalarB : AVal → Bool
 | .int _ _ | .bool _ | .str _ => true
 | _ => false
theorem cellsEq_scalar : ∀ {ks : List CK} {xs ys : List AVal} {r : Bool}, cellsEq ks xs ys = some r → xs.all scalarB = true ∧ ys.all scalarB = true
 | [], [], [], _, _ => ⟨rfl, rfl⟩
 | k :: ks, x :: xs, y :: ys, r, h => by
   simp only [cellsEq] at h
   split at h
   · rename_i a ha
     split at h
     · rename_i hb
       obtain ⟨h1, h2⟩ := cellsEq_scalar hb
       have : scalarB x = true ∧ scalarB y = true := by
         unfold cellEq at ha
         split at ha <;> first | exact ⟨rfl, rfl⟩ | cases ha
       simp [h1, h2, this]
     · cases h
   · cases h
 | [], _ :: _, _, _, h => by simp [cellsEq] at h
 | [], [], _ :: _, _, h => by simp [cellsEq] at h
 | _ :: _, [], _, _, h => by simp [cellsEq] at h
 | _ :: _, _ :: _, [], _, h => by simp [cellsEq] at h
theorem abs_of {μ : Nat → Loc} {w : World} {S : Nat → Prop} {cs : List AVal} {a : Array Value} (hs : cs.all scalarB = true) (hl : cs.length = a.size) (h : ∀ (j : Nat) (c : AVal) (u : Value), cs[j]? = some c → a[j]? = some u → VR μ w S c u) : a.toList.map absV = cs := by
 apply List.ext_getElem?
 intro j
 rw [List.getElem?_map]
 rcases Nat.lt_or_ge j cs.length with hj | hj
 · have hj2 : j < a.size := by omega
   have e1 : a.toList[j]? = some a[j] := by simp [hj2]
   rw [e1, List.getElem?_eq_getElem hj]
   have hv := h j cs[j] a[j] (List.getElem?_eq_getElem hj) (Array.getElem?_eq_getElem hj2)
   rw [List.all_eq_true] at hs
   have hsc := hs _ (List.getElem_mem hj)
   generalize cs[j] = c at hv hsc
   cases c <;> simp [scalarB] at hsc
   · rw [hv.bool_inv]; rfl
   · rw [hv.int_inv]; rfl
   · obtain ⟨s, e, rfl⟩ := hv.str_inv; rw [e]; rfl
 · rw [List.getElem?_eq_none hj, List.getElem?_eq_none (by simp; omega)]
   rfl
end AM
end Go.Proofs.YtjngkfdclcgfhaaGreatDoor
end
