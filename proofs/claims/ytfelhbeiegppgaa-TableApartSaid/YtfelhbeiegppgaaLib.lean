/-
  Words for memory that all proofs of this seat share: how Go values of a Lean type lie in cells, slices that read as lists, blocks that are known whole, what stays below a block.
-/
import Derived.Test.YtfelhbeiegppgaaProg
import Derived.WalkKit
import Derived.LoopTactic
import Derived.Below
import Derived.Laws.OwnMore
import Derived.Laws.Rows
import Derived.Deep.Draws
import Derived.Deep.AppendLies
import Derived.Deep.QuietTactic
import Derived.Deep.OwnRows
import Derived.BigQuiet
import Derived.Lib.Hide
import Derived.Outline
import Derived.OpenShut
import Derived.ProofKit
import Derived.Deep.Slices
import Derived.ChangeOld
import Derived.Carry
import Derived.ScopeJumps
import Derived.Maps.AppendAt
import Derived.RegionTactic
import Derived.OwnWalk
import Derived.Lib.SliceRun
import Derived.WalkSpells
import Derived.WalkLawsBesides
set_option linter.unusedVariables false
namespace Go.Proofs.Ytfelhbeiegppgaa
open Go.RowKit

theorem add_block (a : Addr) (n : Nat) : (a.add n).block = a.block := by unfold Addr.add; split <;> rfl
theorem add_add (a : Addr) (i j : Nat) : (a.add i).add j = a.add (i + j) := by
  unfold Addr.add
  by_cases hi : i = 0 <;> by_cases hj : j = 0 <;> simp [hi, hj, Nat.add_assoc]

/-- the blocks below B -/
def Lt (B : Nat) (b : Nat) : Prop := b < B
theorem Lt.le {B B' : Nat} (h : B ≤ B') : ∀ b, Lt B b → Lt B' b := fun _ hb => Nat.lt_of_lt_of_le hb h

/-- all cells of the blocks S read in w' as they read in w -/
def Same (S : Nat → Prop) (w w' : World) : Prop := ∀ p : Addr, S p.block → w'.cell? p = w.cell? p

theorem Same.refl (S : Nat → Prop) (w : World) : Same S w w := fun _ _ => rfl
theorem Same.trans {S : Nat → Prop} {a b c : World} (h : Same S a b) (k : Same S b c) : Same S a c := fun p hp => (k p hp).trans (h p hp)
theorem Same.mono {S S' : Nat → Prop} {a b : World} (h : Same S a b) (hS : ∀ x, S' x → S x) : Same S' a b := fun p hp => h p (hS _ hp)
theorem Same.below {B : Nat} {a b : World} (h : Below B a b) : Same (Lt B) a b := fun _ hp => h.cell hp
theorem _root_.Go.RowKit.Below.size' {B : Nat} {a b : World} (h : Below B a b) (hB : B ≤ a.heap.size := by omega) : B ≤ b.heap.size := Nat.le_trans hB h.size
theorem below_drewN {B : Nat} {a w : World} (h : Below B a w) (n : Nat) : Below B a (w.drewN n) := ⟨h.os, h.tape, h.output, h.size, h.block⟩

/-- how the values of a Lean type lie in cells: 'R w B x cs': in world w the cells cs are those of x, and what they lead to lies in blocks of B -/
class Lay (α : Type) where
  n : Nat
  agg : Bool
  pos : 0 < n
  R : World → (Nat → Prop) → α → List Value → Prop
  size : ∀ {w : World} {B : Nat → Prop} {x : α} {cs : List Value}, R w B x cs → cs.length = n
  one : ∀ {w : World} {B : Nat → Prop} {x : α} {cs : List Value}, R w B x cs → ∀ u ∈ cs, u.oneCell' = true
  keep : ∀ {w w' : World} {B : Nat → Prop} {x : α} {cs : List Value}, Same B w w' → R w B x cs → R w' B x cs
  mono : ∀ {w : World} {B B' : Nat → Prop} {x : α} {cs : List Value}, (∀ b, B b → B' b) → R w B x cs → R w B' x cs

/-- int fits -/
def I64 (n : Int) : Prop := -9223372036854775808 ≤ n ∧ n ≤ 9223372036854775807

instance : Lay Int where
  n := 1
  agg := false
  pos := Nat.one_pos
  R _ _ x cs := cs = [.int .i64 x] ∧ I64 x
  size h := by rw [h.1]; rfl
  one h u hu := by rw [h.1] at hu; simp at hu; subst hu; rfl
  keep _ h := h
  mono _ h := h

instance : Lay Bool where
  n := 1
  agg := false
  pos := Nat.one_pos
  R _ _ x cs := cs = [.bool x]
  size h := by rw [h]; rfl
  one h u hu := by rw [h] at hu; simp at hu; subst hu; rfl
  keep _ h := h
  mono _ h := h

instance : Lay UInt8 where
  n := 1
  agg := false
  pos := Nat.one_pos
  R _ _ x cs := cs = [.int .u8 (x.toNat : Int)]
  size h := by rw [h]; rfl
  one h u hu := by rw [h] at hu; simp at hu; subst hu; rfl
  keep _ h := h
  mono _ h := h

instance : Lay ByteArray where
  n := 1
  agg := false
  pos := Nat.one_pos
  R _ _ x cs := cs = [.string x] ∧ x.size ≤ maxLen
  size h := by rw [h.1]; rfl
  one h u hu := by rw [h.1] at hu; simp at hu; subst hu; rfl
  keep _ h := h
  mono _ h := h

/-- the slice at address A reads as the list xs -/
def Sl {α : Type} [Lay α] (w : World) (B : Nat → Prop) (A : Option Addr) (xs : List α) : Prop :=
  ∀ (k : Nat) (x : α), xs[k]? = some x → ∃ ad cs, A = some ad ∧ B ad.block ∧ Lay.R w B x cs ∧ ∀ j u, cs[j]? = some u → w.cell? (ad.add (k * Lay.n α + j)) = some u

section
variable {α : Type} [Lay α] {w w' : World} {B B' : Nat → Prop} {A : Option Addr} {xs : List α}
theorem Sl.nil : Sl w B A ([] : List α) := fun k x h => by simp at h
theorem Sl.keep (h : Sl w B A xs) (hs : Same B w w') : Sl w' B A xs := fun k x hk => by
  obtain ⟨ad, cs, rfl, hb, hr, hc⟩ := h k x hk
  exact ⟨ad, cs, rfl, hb, Lay.keep hs hr, fun j u hu => (hs _ (by rw [add_block]; exact hb)).trans (hc j u hu)⟩
theorem Sl.mono (h : Sl w B A xs) (hB : ∀ b, B b → B' b) : Sl w B' A xs := fun k x hk => by
  obtain ⟨ad, cs, rfl, hb, hr, hc⟩ := h k x hk
  exact ⟨ad, cs, rfl, hB _ hb, Lay.mono hB hr, hc⟩
theorem Sl.below {N : Nat} (h : Sl w (Lt N) A xs) (hb : Below N w w') : Sl w' (Lt N) A xs := h.keep (Same.below hb)
theorem Sl.later (h : Sl w (Lt w.heap.size) A xs) (hb : Below w.heap.size w w') : Sl w' (Lt w'.heap.size) A xs := (h.below hb).mono (Lt.le hb.size)
end

theorem Sl.cut {α : Type} [Lay α] {w : World} {B : Nat → Prop} {A : Option Addr} {xs : List α} (h : Sl w B A xs) {k c : Nat} (hc : xs.length ≤ c) :
    Sl w B (if c = k then A else A.map (·.add (k * Lay.n α))) (xs.drop k) := fun i x hi => by
  rw [List.getElem?_drop] at hi
  have hlt := (List.getElem?_eq_some_iff.1 hi).1
  obtain ⟨ad, cs, rfl, hb, hr, hcell⟩ := h (k + i) x hi
  rw [if_neg (by omega)]
  refine ⟨ad.add (k * Lay.n α), cs, rfl, by rw [add_block]; exact hb, hr, fun j u hu => ?_⟩
  rw [add_add, show k * Lay.n α + (i * Lay.n α + j) = (k + i) * Lay.n α + j by rw [Nat.add_mul]; omega]
  exact hcell j u hu
theorem Sl.take {α : Type} [Lay α] {w : World} {B : Nat → Prop} {A : Option Addr} {xs : List α} (h : Sl w B A xs) (k : Nat) : Sl w B A (xs.take k) := fun i x hi => by
  rw [List.getElem?_take] at hi
  split at hi
  · exact h i x hi
  · cases hi
theorem Sl.isSome {α : Type} [Lay α] {w : World} {B : Nat → Prop} {A : Option Addr} {xs : List α} (h : Sl w B A xs) (hx : 0 < xs.length) : ∃ ad, A = some ad := by
  obtain ⟨ad, _, e, _⟩ := h 0 _ (List.getElem?_eq_getElem hx)
  exact ⟨ad, e⟩
/-- a byte of a slice -/
theorem Sl.byte {w : World} {B : Nat → Prop} {A : Option Addr} {zs : List UInt8} (h : Sl w B A zs) {k : Nat} (hk : k < zs.length) :
    ∃ ad x, A = some ad ∧ zs[k]? = some x ∧ w.cell? (ad.add k) = some (.int .u8 (x.toNat : Int)) ∧ x.toNat < 256 := by
  obtain ⟨ad, cs, rfl, hb, h1, hc⟩ := h k _ (List.getElem?_eq_getElem hk)
  have h1 : cs = _ := h1
  subst h1
  exact ⟨ad, zs[k], rfl, List.getElem?_eq_getElem hk, by simpa [Lay.n] using hc 0 _ rfl, UInt8.toNat_lt _⟩

theorem wp_scope_once {P : Program} {a : Act} {w : World} {Q : Exit → Act → World → Prop} {c rest : Code} (l : Nat) (J : Act → World → Prop) (μ : Act → World → Nat) (hf : findLabel c l = some (Code.skip.seq rest))
    (pass : ∀ a w, J a w → rest.wp P (Exit.jump l (fun a' w' => J a' w' ∧ μ a' w' < μ a w) Q) a w)
    (first : (∀ a w, J a w → rest.wp P (Exit.jump l J Q) a w) → c.wp P (Exit.jump l J Q) a w) : (Code.scope c).wp P Q a w :=
  wp_scope_jumps l J μ hf (first fun a w h => Code.wp_mono (fun e a' w' hq => by
    cases e <;> first | exact hq | exact ⟨hq.1, hq.2.1⟩) (pass a w h)) (fun a w h => wp_seq (wp_skip (pass a w h)))

/-- a slice is one cell -/
instance {α : Type} [Lay α] : Lay (List α) where
  n := 1
  agg := false
  pos := Nat.one_pos
  R w B xs cs := ∃ A c, cs = [.slice A xs.length c] ∧ xs.length ≤ c ∧ c ≤ maxLen ∧ (A = none → c = 0) ∧ Sl w B A xs
  size h := by obtain ⟨A, c, rfl, _⟩ := h; rfl
  one h u hu := by obtain ⟨A, c, rfl, _⟩ := h; simp at hu; subst hu; rfl
  keep hs h := by obtain ⟨A, c, rfl, hc, hm, hn, h⟩ := h; exact ⟨A, c, rfl, hc, hm, hn, h.keep hs⟩
  mono hB h := by obtain ⟨A, c, rfl, hc, hm, hn, h⟩ := h; exact ⟨A, c, rfl, hc, hm, hn, h.mono hB⟩

/-- two, behind one another -/
instance {α β : Type} [Lay α] [Lay β] : Lay (α × β) where
  n := Lay.n α + Lay.n β
  agg := true
  pos := by have : 0 < Lay.n α := Lay.pos; omega
  R w B x cs := ∃ c d, cs = c ++ d ∧ Lay.R w B x.1 c ∧ Lay.R w B x.2 d
  size h := by obtain ⟨c, d, rfl, h1, h2⟩ := h; rw [List.length_append, Lay.size h1, Lay.size h2]
  one h u hu := by
    obtain ⟨c, d, rfl, h1, h2⟩ := h
    rcases List.mem_append.1 hu with hu | hu
    · exact Lay.one h1 u hu
    · exact Lay.one h2 u hu
  keep hs h := by obtain ⟨c, d, rfl, h1, h2⟩ := h; exact ⟨c, d, rfl, Lay.keep hs h1, Lay.keep hs h2⟩
  mono hB h := by obtain ⟨c, d, rfl, h1, h2⟩ := h; exact ⟨c, d, rfl, Lay.mono hB h1, Lay.mono hB h2⟩

/-- a struct lies as its fields do -/
@[reducible] def Lay.iso {α β : Type} [Lay β] (f : α → β) : Lay α where
  n := Lay.n β
  agg := true
  pos := Lay.pos
  R w B x cs := Lay.R w B (f x) cs
  size h := Lay.size h
  one h := Lay.one h
  keep hs h := Lay.keep hs h
  mono hB h := Lay.mono hB h

def isAgg : Value → Bool | .agg _ => true | _ => false

/-- the value of x -/
def V {α : Type} [Lay α] (w : World) (B : Nat → Prop) (x : α) (v : Value) : Prop := Lay.R w B x v.cells.toList ∧ isAgg v = Lay.agg α

section
variable {α : Type} [Lay α] {w w' : World} {B B' : Nat → Prop} {x : α} {v : Value}
theorem V.keep (h : V w B x v) (hs : Same B w w') : V w' B x v := ⟨Lay.keep hs h.1, h.2⟩
theorem V.mono (h : V w B x v) (hB : ∀ b, B b → B' b) : V w B' x v := ⟨Lay.mono hB h.1, h.2⟩
theorem V.below {N : Nat} (h : V w (Lt N) x v) (hb : Below N w w') : V w' (Lt N) x v := h.keep (Same.below hb)
theorem V.later (h : V w (Lt w.heap.size) x v) (hb : Below w.heap.size w w') : V w' (Lt w'.heap.size) x v := (h.below hb).mono (Lt.le hb.size)
theorem V.cells_eq (h : Lay.agg α = false) (k : V w B x v) : v.cells.toList = [v] := by
  have h2 := k.2
  rw [h] at h2
  cases v <;> simp_all [isAgg, Value.cells]
theorem V.agg_eq (h : Lay.agg α = true) (k : V w B x v) : ∃ cs, v = .agg cs ∧ Lay.R w B x cs.toList := by
  have h2 := k.2
  rw [h] at h2
  cases v <;> simp [isAgg] at h2
  exact ⟨_, rfl, k.1⟩
theorem V.agg_mk (h : Lay.agg α = true) {cs : Array Value} (k : Lay.R w B x cs.toList) : V w B x (.agg cs) := ⟨k, by rw [h]; rfl⟩
end
theorem V.int {w : World} {B : Nat → Prop} {x : Int} {v : Value} (h : V w B x v) : v = .int .i64 x ∧ I64 x := by
  have h1 := h.1
  rw [h.cells_eq rfl] at h1
  obtain ⟨h1, h2⟩ := h1
  exact ⟨by simpa using h1, h2⟩
theorem V.bool {w : World} {B : Nat → Prop} {x : Bool} {v : Value} (h : V w B x v) : v = .bool x := by
  have h1 : v.cells.toList = [.bool x] := h.1
  rw [h.cells_eq rfl] at h1
  simpa using h1
theorem V.string {w : World} {B : Nat → Prop} {x : ByteArray} {v : Value} (h : V w B x v) : v = .string x ∧ x.size ≤ maxLen := by
  have h1 : v.cells.toList = [.string x] ∧ x.size ≤ maxLen := h.1
  rw [h.cells_eq rfl] at h1
  exact ⟨by simpa using h1.1, h1.2⟩
theorem V.slice {α : Type} [Lay α] {w : World} {B : Nat → Prop} {xs : List α} {v : Value} (h : V w B xs v) : ∃ A c, v = .slice A xs.length c ∧ xs.length ≤ c ∧ c ≤ maxLen ∧ (A = none → c = 0) ∧ Sl w B A xs := by
  obtain ⟨A, c, h1, h2⟩ := h.1
  rw [h.cells_eq rfl] at h1
  exact ⟨A, c, by simpa using h1, h2⟩
theorem V.slice_mk {α : Type} [Lay α] {w : World} {B : Nat → Prop} {xs : List α} {A : Option Addr} {n c : Nat} (hn : n = xs.length) (h1 : xs.length ≤ c) (h2 : c ≤ maxLen) (h3 : A = none → c = 0) (h : Sl w B A xs) : V w B xs (.slice A n c) :=
  ⟨⟨A, c, by rw [hn]; rfl, h1, h2, h3, h⟩, rfl⟩

/-- what a reading of type t gives -/
def Rd (P : Program) (t : TypeId) (α : Type) [Lay α] : Prop :=
  ∀ {H : Type} {enc : TypeId × Value → H} {w : World} {base : Nat} {spare : Nat → Bool} {held : Bool} {fuel : Nat} {cs : List Value} {y : DataW H × List MemPlace},
    DataW.trod enc P w base spare held fuel t cs = some y → ∃ x : α, Lay.R w (Lt w.heap.size) x cs

theorem rd_int {P : Program} {t : TypeId} (ht : P.underlying t = some (.int .i64)) : Rd P t Int := fun h => by
  obtain ⟨n, rfl, _, hw⟩ := DataW.trod_int ht h
  refine ⟨n, rfl, ?_⟩
  simpa [I64, Lit.wf, IntKind.min, IntKind.max, IntKind.signed, IntKind.bits] using hw
theorem rd_u8 {P : Program} {t : TypeId} (ht : P.underlying t = some (.int .u8)) : Rd P t UInt8 := fun h => by
  obtain ⟨n, rfl, _, hw⟩ := DataW.trod_int ht h
  have hb : 0 ≤ n ∧ n ≤ 255 := by simpa [Lit.wf, IntKind.min, IntKind.max, IntKind.signed, IntKind.bits] using hw
  refine ⟨UInt8.ofNat n.toNat, ?_⟩
  show _ = [Value.int .u8 ((UInt8.ofNat n.toNat).toNat : Int)]
  rw [UInt8.toNat_ofNat']
  congr 2
  omega
theorem rd_bool {P : Program} {t : TypeId} (ht : P.underlying t = some .bool) : Rd P t Bool := fun h => by
  obtain ⟨b, rfl, _⟩ := DataW.trod_bool ht h
  exact ⟨b, rfl⟩
theorem rd_string {P : Program} {t : TypeId} (ht : P.underlying t = some .string) : Rd P t ByteArray := fun h => by
  obtain ⟨s, rfl, _, hs⟩ := DataW.trod_string ht h
  exact ⟨s, rfl, hs⟩

theorem cell_lt {w : World} {p : Addr} {u : Value} (h : w.cell? p = some u) : p.block < w.heap.size := by
  rcases Nat.lt_or_ge p.block w.heap.size with hlt | hge
  · exact hlt
  · unfold World.cell? at h
    rw [Array.getElem?_eq_none hge] at h
    simp at h

theorem choose_list {α : Type} {Q : Nat → α → Prop} : ∀ (n : Nat), (∀ i, i < n → ∃ x, Q i x) → ∃ xs : List α, xs.length = n ∧ ∀ i x, xs[i]? = some x → Q i x
  | 0, _ => ⟨[], rfl, by simp⟩
  | n + 1, h => by
    obtain ⟨xs, hl, hx⟩ := choose_list n (fun i hi => h i (by omega))
    obtain ⟨y, hy⟩ := h n (by omega)
    refine ⟨xs ++ [y], by simp [hl], fun i x hi => ?_⟩
    rcases Nat.lt_trichotomy i n with h1 | h1 | h1
    · rw [List.getElem?_append_left (by omega)] at hi; exact hx i x hi
    · subst h1; rw [List.getElem?_append_right (by omega)] at hi; simp [hl] at hi; subst hi; exact hy
    · rw [List.getElem?_eq_none (by simp; omega)] at hi; cases hi

theorem rd_slice {P : Program} {t e : TypeId} {α : Type} [Lay α] (ht : P.underlying t = some (.slice e)) (hc : P.cellsOf e = Lay.n α) (he : Rd P e α) : Rd P t (List α) := fun {H enc w base spare held fuel cs y} h => by
  rcases Deep.open_slice ht h with ⟨rfl, _⟩ | ⟨a, len, cap, m, n, D, Pl, rfl, _, hl, hm, hmm, _, hi⟩
  · exact ⟨[], none, 0, rfl, Nat.le_refl _, Nat.zero_le _, fun _ => rfl, Sl.nil⟩
  · have hlm : len ≤ m := by rw [hmm]; split <;> omega
    obtain ⟨xs, hxl, hx⟩ := choose_list (Q := fun i (x : α) => Lt w.heap.size a.block ∧ ∃ cs, Lay.R w (Lt w.heap.size) x cs ∧ ∀ j u, cs[j]? = some u → w.cell? (a.add (i * Lay.n α + j)) = some u) len (fun i hi' => by
      obtain ⟨cs', hcs, htr⟩ := hi i (by omega)
      obtain ⟨x, hx⟩ := he htr
      rw [hc] at hcs
      obtain ⟨_, hcl, hat⟩ := World.cells?_some hcs
      have hcell : ∀ j u, cs'[j]? = some u → w.cell? (a.add (i * Lay.n α + j)) = some u := fun j u hu => by
        have hj : j < Lay.n α := by rw [← Lay.size hx]; exact (List.getElem?_eq_some_iff.1 hu).1
        have := hat j hj
        rw [add_add] at this
        rw [this, hu]
      have h0 : 0 < cs'.length := by rw [Lay.size hx]; exact Lay.pos
      have := cell_lt (hcell 0 _ (List.getElem?_eq_getElem h0))
      rw [add_block] at this
      exact ⟨x, this, cs', hx, hcell⟩)
    refine ⟨xs, some a, cap, by rw [hxl], by omega, hm, (fun h => (by cases h)), fun k x hk => ?_⟩
    obtain ⟨hb, cs, h1, h2⟩ := hx k x hk
    exact ⟨a, cs, rfl, hb, h1, h2⟩

/-- what readings of a struct's fields from the place 'off' on give -/
def RdF (P : Program) (fs : List Field) (off : Nat) (α : Type) [Lay α] : Prop :=
  ∀ {H : Type} {enc : TypeId × Value → H} {w : World} {base : Nat} {spare : Nat → Bool} {held : Bool} {fuel : Nat} {cs : List Value},
    (∀ f ∈ fs, ∃ y, DataW.trod enc P w base spare held fuel f.type ((cs.drop f.offset).take (P.cellsOf f.type)) = some y) → cs.length = off + Lay.n α → ∃ x : α, Lay.R w (Lt w.heap.size) x (cs.drop off)

theorem RdF.last {P : Program} {f : Field} {off : Nat} {α : Type} [Lay α] (h : Rd P f.type α) (ho : f.offset = off) (hc : P.cellsOf f.type = Lay.n α) : RdF P [f] off α := fun hf hl => by
  obtain ⟨y, hy⟩ := hf f (by simp)
  rw [ho, hc, List.take_of_length_le (by rw [List.length_drop, hl]; omega)] at hy
  exact h hy
theorem RdF.cons {P : Program} {f : Field} {fs : List Field} {off off' : Nat} {α β : Type} [Lay α] [Lay β] (h : Rd P f.type α) (ho : f.offset = off) (hc : P.cellsOf f.type = Lay.n α) (he : off' = off + Lay.n α) (k : RdF P fs off' β) : RdF P (f :: fs) off (α × β) := fun {H enc w base spare held fuel cs} hf hl => by
  obtain ⟨y, hy⟩ := hf f (by simp)
  rw [ho, hc] at hy
  obtain ⟨x, hx⟩ := h hy
  have hl' : cs.length = off + (Lay.n α + Lay.n β) := hl
  obtain ⟨z, hz⟩ := k (enc := enc) (w := w) (base := base) (spare := spare) (held := held) (fuel := fuel) (cs := cs) (fun g hg => hf g (by simp [hg])) (by rw [hl', he]; omega)
  refine ⟨(x, z), (cs.drop off).take (Lay.n α), cs.drop off', ?_, hx, hz⟩
  rw [he, ← List.drop_drop, List.take_append_drop]
theorem rd_struct {P : Program} {t : TypeId} {fs : Array Field} {α : Type} [Lay α] (ht : P.underlying t = some (.struct fs)) (hc : P.cellsOf t = Lay.n α) (h : RdF P fs.toList 0 α) : Rd P t α := fun {H enc w base spare held fuel cs y} hr => by
  obtain ⟨xs, n, _, _, hl, hxl, hf⟩ := DataW.trod_struct ht hr
  obtain ⟨x, hx⟩ := h (enc := enc) (w := w) (base := base) (spare := spare) (held := held) (fuel := n) (cs := cs) (fun f hfm => by
    obtain ⟨i, hi⟩ := List.getElem?_of_mem hfm
    have hi' : fs[i]? = some f := by simpa using hi
    have hlt : i < fs.size := (Array.getElem?_eq_some_iff.1 hi').1
    exact ⟨xs[i]'(by omega), by rw [hf i f hi']; exact List.getElem?_eq_getElem (by omega)⟩) (by rw [hl, hc]; omega)
  exact ⟨x, by simpa using hx⟩
theorem rd_iso {P : Program} {t : TypeId} {α β : Type} [Lay β] (f : α → β) (g : β → α) (hfg : ∀ y, f (g y) = y) (h : Rd P t β) : @Rd P t α (Lay.iso f) := fun hr => by
  obtain ⟨y, hy⟩ := h hr
  exact ⟨g y, by show Lay.R _ _ (f (g y)) _; rw [hfg]; exact hy⟩
/-- an array, as so many fields -/
def fieldAt (e c i : Nat) : Field := { (default : Field) with type := e, offset := i * c }
theorem rd_array {P : Program} {t e : TypeId} {n : Nat} (c : Nat) (fs : List Field) {α : Type} [Lay α] (ht : P.underlying t = some (.array n e)) (hc : P.cellsOf e = c) (hct : P.cellsOf t = Lay.n α) (hfs : (List.range n).map (fieldAt e c) = fs) (h : RdF P fs 0 α) : Rd P t α := fun {H enc w base spare held fuel cs y} hr => by
  subst hfs
  obtain ⟨xs, m, _, _, hl, hxl, hf⟩ := DataW.trod_array ht hr
  obtain ⟨x, hx⟩ := h (enc := enc) (w := w) (base := base) (spare := spare) (held := held) (fuel := m) (cs := cs) (fun f hfm => by
    obtain ⟨i, hi, rfl⟩ := List.mem_map.1 hfm
    have hlt : i < n := by simpa using hi
    have := hf i hlt
    rw [hc] at this
    exact ⟨xs[i]'(by omega), by show DataW.trod enc P w base spare held m e ((cs.drop (i * c)).take (P.cellsOf e)) = _; rw [hc, this]; exact List.getElem?_eq_getElem (by omega)⟩) (by rw [hl, hct]; omega)
  exact ⟨x, by simpa using hx⟩

theorem arg_of {P : Program} {H : Type} {enc : TypeId × Value → H} {w : World} {base : Nat} {spare : Nat → Bool} {held : Bool} {t : TypeId} {v : Value} {d : DataW H} {ps : List MemPlace} {α : Type} [Lay α] (h : Rd P t α) (hd : DataW.Trod enc P w base spare held t v d ps)
    (ha : isAgg v = Lay.agg α) : ∃ x : α, V w (Lt w.heap.size) x v := by
  obtain ⟨fuel, hf⟩ := hd
  obtain ⟨x, hx⟩ := h hf
  exact ⟨x, hx, ha⟩
theorem agg_int {P : Program} {w : World} {r : Reach} {b : Nat} {t : TypeId} {v : Value} {k : IntKind} (ht : P.underlying t = some (.int k)) (h : Value.okWide P w r b t v) : isAgg v = false := by
  obtain ⟨n, rfl⟩ := WideShapes.okWide_int ht h; rfl
theorem agg_bool {P : Program} {w : World} {r : Reach} {b : Nat} {t : TypeId} {v : Value} (ht : P.underlying t = some .bool) (h : Value.okWide P w r b t v) : isAgg v = false := by
  obtain ⟨n, rfl⟩ := WideShapes.okWide_bool ht h; rfl
theorem agg_string {P : Program} {w : World} {r : Reach} {b : Nat} {t : TypeId} {v : Value} (ht : P.underlying t = some .string) (h : Value.okWide P w r b t v) : isAgg v = false := by
  obtain ⟨n, rfl⟩ := WideShapes.okWide_string ht h; rfl
theorem agg_slice {P : Program} {w : World} {r : Reach} {b : Nat} {t e : TypeId} {v : Value} (ht : P.underlying t = some (.slice e)) (h : Value.okWide P w r b t v) : isAgg v = false := by
  obtain ⟨a, n, c, rfl⟩ := WideShapes.okWide_slice ht h; rfl
theorem agg_struct {P : Program} {w : World} {r : Reach} {b : Nat} {t : TypeId} {v : Value} {fs : Array Field} (ht : P.underlying t = some (.struct fs)) (h : Value.okWide P w r b t v) : isAgg v = true := by
  obtain ⟨cs, rfl, _⟩ := WideShapes.okWide_struct ht h; rfl
theorem agg_array {P : Program} {w : World} {r : Reach} {b : Nat} {t e : TypeId} {n : Nat} {v : Value} (ht : P.underlying t = some (.array n e)) (h : Value.okWide P w r b t v) : isAgg v = true := by
  simp only [Value.okWide, ht] at h
  obtain ⟨cs, rfl, _⟩ := h
  rfl

/-- the cells of a list of values, behind one another -/
def Rs {α : Type} [Lay α] (w : World) (B : Nat → Prop) : List α → List Value → Prop
  | [], cs => cs = []
  | x :: xs, cs => ∃ c r, cs = c ++ r ∧ Lay.R w B x c ∧ Rs w B xs r

section
variable {α : Type} [Lay α] {w w' : World} {B B' : Nat → Prop}
theorem Rs.length : ∀ {xs : List α} {cs : List Value}, Rs w B xs cs → cs.length = xs.length * Lay.n α
  | [], cs, h => by simp [Rs] at h; simp [h]
  | x :: xs, cs, h => by
    obtain ⟨c, r, rfl, h1, h2⟩ := h
    rw [List.length_append, Lay.size h1, Rs.length h2, List.length_cons, Nat.add_mul, Nat.one_mul, Nat.add_comm]
theorem Rs.one : ∀ {xs : List α} {cs : List Value}, Rs w B xs cs → ∀ u ∈ cs, u.oneCell' = true
  | [], cs, h => by simp [Rs] at h; subst h; simp
  | x :: xs, cs, h => by
    obtain ⟨c, r, rfl, h1, h2⟩ := h
    intro u hu
    rcases List.mem_append.1 hu with hu | hu
    · exact Lay.one h1 u hu
    · exact Rs.one h2 u hu
theorem Rs.keep (hs : Same B w w') : ∀ {xs : List α} {cs : List Value}, Rs w B xs cs → Rs w' B xs cs
  | [], _, h => h
  | x :: xs, _, h => by
    obtain ⟨c, r, rfl, h1, h2⟩ := h
    exact ⟨c, r, rfl, Lay.keep hs h1, Rs.keep hs h2⟩
theorem Rs.mono (hB : ∀ b, B b → B' b) : ∀ {xs : List α} {cs : List Value}, Rs w B xs cs → Rs w B' xs cs
  | [], _, h => h
  | x :: xs, _, h => by
    obtain ⟨c, r, rfl, h1, h2⟩ := h
    exact ⟨c, r, rfl, Lay.mono hB h1, Rs.mono hB h2⟩
theorem Rs.append : ∀ {xs ys : List α} {cs ds : List Value}, Rs w B xs cs → Rs w B ys ds → Rs w B (xs ++ ys) (cs ++ ds)
  | [], _, cs, _, h, k => by simp [Rs] at h; subst h; simpa using k
  | x :: xs, ys, _, ds, h, k => by
    obtain ⟨c, r, rfl, h1, h2⟩ := h
    exact ⟨c, r ++ ds, by rw [List.append_assoc], h1, Rs.append h2 k⟩
theorem Rs.single {x : α} {cs : List Value} (h : Lay.R w B x cs) : Rs w B [x] cs := ⟨cs, [], by simp, h, rfl⟩
/-- element k's cells -/
theorem Rs.get : ∀ {xs : List α} {cs : List Value} (_ : Rs w B xs cs) (k : Nat) (x : α) (_ : xs[k]? = some x),
    ∃ c, Lay.R w B x c ∧ ∀ j u, c[j]? = some u → cs[k * Lay.n α + j]? = some u
  | [], _, _, k, x, hk => by simp at hk
  | y :: xs, _, h, 0, x, hk => by
    obtain ⟨c, r, rfl, h1, h2⟩ := h
    simp at hk; subst hk
    refine ⟨c, h1, fun j u hu => ?_⟩
    have : j < c.length := (List.getElem?_eq_some_iff.1 hu).1
    rw [Nat.zero_mul, Nat.zero_add, List.getElem?_append_left this]
    exact hu
  | y :: xs, _, h, k + 1, x, hk => by
    obtain ⟨c, r, rfl, h1, h2⟩ := h
    simp at hk
    obtain ⟨c', hr, hc⟩ := Rs.get h2 k x hk
    refine ⟨c', hr, fun j u hu => ?_⟩
    have e : (k + 1) * Lay.n α + j = c.length + (k * Lay.n α + j) := by rw [Lay.size h1, Nat.add_mul]; omega
    rw [e, List.getElem?_append_right (by omega), Nat.add_sub_cancel_left]
    exact hc j u hu
end

/-- a slice of the call's own reads as a list -/
theorem Sl.own {α : Type} [Lay α] {w : World} {base n c : Nat} {B : Nat → Prop} {e : TypeId} {A : Option Addr} {xs : List α} {cells : List Value}
    (h : w.ownsRow base e (Lay.n α) (.slice A n c) n cells) (hB : ∀ g, base ≤ g → g < w.heap.size → B g) (hr : Rs w B xs cells) : Sl w B A xs := fun k x hk => by
  obtain ⟨cs, h1, h2⟩ := hr.get k x hk
  rcases h.2 with ⟨hv, rfl⟩ | ⟨g, cap, cur, hv, hg, hh, hrest⟩
  · have hl := hr.length
    have hc : cells = [] := List.eq_nil_of_length_eq_zero (by simpa using h.1)
    subst hc
    have h0 : 0 < Lay.n α := Lay.pos
    have hk' := (List.getElem?_eq_some_iff.1 hk).1
    have : 0 < xs.length * Lay.n α := Nat.mul_pos (by omega) h0
    simp only [List.length_nil] at hl
    omega
  · have hA : A = some ⟨g, 0, none⟩ := by injection hv
    subst hA
    have hlt : g < w.heap.size := (h.lt g rfl).2
    exact ⟨_, cs, rfl, hB g hg hlt, h1, fun j u hu => h.cells (g := g) rfl _ u (h2 j u hu)⟩

/-- block g is just the cells cs of element type t, none frozen -/
def Blk (w : World) (g : Nat) (t : TypeId) (cs : List Value) : Prop := w.heap[g]? = some (.cells cs.toArray t (0, 0))

section
variable {w w' : World} {g : Nat} {t : TypeId} {cs : List Value}
theorem Blk.lt (h : Blk w g t cs) : g < w.heap.size := by
  rcases Nat.lt_or_ge g w.heap.size with hlt | hge
  · exact hlt
  · unfold Blk at h; rw [Array.getElem?_eq_none hge] at h; cases h
theorem Blk.cell (h : Blk w g t cs) (i : Nat) : w.cell? ⟨g, i, none⟩ = cs[i]? := by
  rw [cell_of_row w g i cs.toArray t (0, 0) h]; simp
theorem Blk.frozen (h : Blk w g t cs) (i : Nat) : w.frozen? ⟨g, i, none⟩ = false := by
  unfold Blk at h
  simp [World.frozen?, h]
theorem Blk.new (w : World) (t : TypeId) (cs : List Value) : Blk (w.alloc (.cells cs.toArray t)) w.heap.size t cs := heap_alloc_new w _
theorem Blk.new' {w : World} {t : TypeId} {cs : List Value} {g : Nat} (h : g = w.heap.size) : Blk (w.alloc (.cells cs.toArray t)) g t cs := by subst h; exact Blk.new w t cs
theorem Blk.drew (h : Blk w g t cs) : Blk w.drew g t cs := h
theorem Blk.drewN (h : Blk w g t cs) (n : Nat) : Blk (w.drewN n) g t cs := h
theorem Blk.alloc (h : Blk w g t cs) (o : Obj) : Blk (w.alloc o) g t cs := (Below.heap_alloc w o g h.lt).trans h
theorem Blk.set_ (h : Blk w g t cs) (i : Nat) (u : Value) : Blk (w.setCell ⟨g, i, none⟩ u) g t (cs.set i u) := by
  unfold Blk at h ⊢
  simp [World.setCell, Array.getElem?_modify, h]
theorem Blk.far (h : Blk w g t cs) {p : Addr} (hp : g ≠ p.block) (u : Value) : Blk (w.setCell p u) g t cs := (Below.heap_setCell w p u g hp).trans h
theorem Blk.below {B : Nat} (h : Blk w g t cs) (hb : Below B w w') (hg : g < B) : Blk w' g t cs := (hb.block g hg).trans h
theorem Blk.grown {row : Option Nat} (h : Blk w g t cs) (hb : w.grownBy w' row) (hg : some g ≠ row) : Blk w' g t cs := (hb.block g h.lt hg).trans h
/-- a block that is known whole, as a slice of the call's own -/
theorem Blk.own {base size n : Nat} (h : Blk w g t cs) (hb : base ≤ g) (hn : cs.length = n * size) (hm : n ≤ maxLen) : w.ownsRow base t size (.slice (some ⟨g, 0, none⟩) n n) n cs :=
  ⟨hn, .inr ⟨g, n, cs.toArray, rfl, hb, h, Nat.le_refl _, hm, by simpa using hn, by simp [← hn]⟩⟩
end

/-- a block that is known whole reads as a list -/
theorem Sl.blk {α : Type} [Lay α] {w : World} {B : Nat → Prop} {g : Nat} {t : TypeId} {xs : List α} {cells : List Value} (h : Blk w g t cells) (hg : B g) (hr : Rs w B xs cells) : Sl w B (some ⟨g, 0, none⟩) xs := fun k x hk => by
  obtain ⟨cs, h1, h2⟩ := hr.get k x hk
  refine ⟨_, cs, rfl, hg, h1, fun j u hu => ?_⟩
  have : (⟨g, 0, none⟩ : Addr).add (k * Lay.n α + j) = ⟨g, k * Lay.n α + j, none⟩ := by unfold Addr.add; split <;> simp_all
  rw [this, h.cell]
  exact h2 j u hu
theorem rs_ints {w : World} {B : Nat → Prop} : ∀ (zs : List Int), (∀ z ∈ zs, I64 z) → Rs w B zs (zs.map (Value.int .i64))
  | [], _ => rfl
  | z :: zs, h => ⟨[.int .i64 z], zs.map (Value.int .i64), rfl, ⟨rfl, h z (by simp)⟩, rs_ints zs (fun y hy => h y (by simp [hy]))⟩
theorem rs_ints_inv {w : World} {B : Nat → Prop} : ∀ {zs : List Int} {cs : List Value}, Rs w B zs cs → cs = zs.map (Value.int .i64) ∧ ∀ z ∈ zs, I64 z
  | [], _, h => ⟨h, by simp⟩
  | z :: zs, _, h => by
    obtain ⟨c, r, rfl, ⟨rfl, h1⟩, h2⟩ := h
    obtain ⟨rfl, h3⟩ := rs_ints_inv h2
    exact ⟨rfl, by simpa using ⟨h1, h3⟩⟩

/-- an int of a slice -/
theorem Sl.int {w : World} {B : Nat → Prop} {A : Option Addr} {zs : List Int} (h : Sl w B A zs) {k : Nat} (hk : k < zs.length) :
    ∃ ad x, A = some ad ∧ zs[k]? = some x ∧ w.cell? (ad.add k) = some (.int .i64 x) ∧ -9223372036854775808 ≤ x ∧ x ≤ 9223372036854775807 := by
  obtain ⟨ad, cs, rfl, hb, ⟨rfl, h1⟩, hc⟩ := h k _ (List.getElem?_eq_getElem hk)
  exact ⟨ad, zs[k], rfl, List.getElem?_eq_getElem hk, by simpa [Lay.n] using hc 0 _ rfl, h1.1, h1.2⟩

/-- types whose values lead nowhere -/
class Flat (α : Type) [Lay α] : Prop where
  flat : ∀ {w w' : World} {B B' : Nat → Prop} {x : α} {cs : List Value}, Lay.R w B x cs → Lay.R w' B' x cs
instance : Flat Int := ⟨fun h => h⟩
instance : Flat Bool := ⟨fun h => h⟩
instance : Flat UInt8 := ⟨fun h => h⟩
instance : Flat ByteArray := ⟨fun h => h⟩
instance {α β : Type} [Lay α] [Lay β] [Flat α] [Flat β] : Flat (α × β) := ⟨fun h => by obtain ⟨c, d, rfl, h1, h2⟩ := h; exact ⟨c, d, rfl, Flat.flat h1, Flat.flat h2⟩⟩
theorem Flat.iso {α β : Type} [Lay β] [Flat β] (f : α → β) : @Flat α (Lay.iso f) := @Flat.mk α (Lay.iso f) (fun h => Flat.flat (α := β) h)
theorem Rs.flat {α : Type} [Lay α] [Flat α] {w w' : World} {B B' : Nat → Prop} : ∀ {xs : List α} {cs : List Value}, Rs w B xs cs → Rs w' B' xs cs
  | [], _, h => h
  | x :: xs, _, h => by
    obtain ⟨c, r, rfl, h1, h2⟩ := h
    exact ⟨c, r, rfl, Flat.flat h1, Rs.flat h2⟩

/-- no block -/
def No (_ : Nat) : Prop := False

/-- what an append takes: the cells of ys at A -/
def Src {α : Type} [Lay α] (w : World) (B : Nat → Prop) (A : Option Addr) (ys : List α) : Prop :=
  ∃ news, Rs w B ys news ∧ (ys ≠ [] → A ≠ none) ∧ ∀ ad, A = some ad → ∀ j u, news[j]? = some u → w.cell? (ad.add j) = some u

theorem Sl.take_src {α : Type} [Lay α] {w : World} {B : Nat → Prop} {A : Option Addr} {ys : List α} (h : Sl w B A ys) : ∀ n, n ≤ ys.length →
    ∃ news, Rs w B (ys.take n) news ∧ ∀ ad, A = some ad → ∀ j u, news[j]? = some u → w.cell? (ad.add j) = some u
  | 0, _ => ⟨[], by simp [Rs], by simp⟩
  | n + 1, hn => by
    obtain ⟨news, hr, hc⟩ := Sl.take_src h n (by omega)
    obtain ⟨ad, cs, rfl, hb, hR, hcell⟩ := h n _ (List.getElem?_eq_getElem (by omega))
    refine ⟨news ++ cs, by rw [List.take_succ_eq_append_getElem (by omega)]; exact hr.append (Rs.single hR), fun ad' e j u hu => ?_⟩
    injection e with e
    subst e
    have hl : news.length = n * Lay.n α := by rw [hr.length, List.length_take]; congr 1; omega
    rcases Nat.lt_or_ge j news.length with hj | hj
    · rw [List.getElem?_append_left hj] at hu; exact hc _ rfl j u hu
    · rw [List.getElem?_append_right hj] at hu
      have := hcell _ u hu
      rwa [hl, show n * Lay.n α + (j - n * Lay.n α) = j by omega] at this
theorem Sl.src {α : Type} [Lay α] {w : World} {B B' : Nat → Prop} {A : Option Addr} {ys : List α} (h : Sl w B A ys) (hB : ∀ b, B b → B' b) : Src w B' A ys := by
  obtain ⟨news, hr, hc⟩ := h.take_src ys.length (Nat.le_refl _)
  rw [List.take_length] at hr
  refine ⟨news, hr.mono hB, fun hne hA => ?_, hc⟩
  cases ys with
  | nil => exact hne rfl
  | cons y ys =>
    obtain ⟨ad, _, e, _⟩ := h 0 y rfl
    rw [hA] at e; cases e
theorem Sl.srcF {α : Type} [Lay α] [Flat α] {w : World} {B B' : Nat → Prop} {A : Option Addr} {ys : List α} (h : Sl w B A ys) : Src w B' A ys := by
  obtain ⟨news, hr, h2, hc⟩ := h.src (B' := B) (fun _ hb => hb)
  exact ⟨news, hr.flat, h2, hc⟩
theorem Src.keep {α : Type} [Lay α] {w w' : World} {B : Nat → Prop} {A : Option Addr} {ys : List α} (h : Src w B A ys) (hs : Same B w w') (hA : ∀ ad : Addr, A = some ad → ∀ (p : Addr) u, p.block = ad.block → w.cell? p = some u → w'.cell? p = some u) : Src w' B A ys := by
  obtain ⟨news, hr, h2, hc⟩ := h
  exact ⟨news, hr.keep hs, h2, fun ad e j u hu => hA ad e _ u (add_block _ _) (hc ad e j u hu)⟩
theorem Src.alloc {α : Type} [Lay α] {w : World} {B : Nat → Prop} {A : Option Addr} {ys : List α} (h : Src w B A ys) (hB : ∀ b, B b → b < w.heap.size) (o : Obj) : Src (w.alloc o) B A ys :=
  h.keep (fun p hp => World.cell?_alloc_lt w o p (hB _ hp)) (fun ad _ p u _ hc => (World.cell?_alloc_lt w o p (cell_lt hc)).trans hc)
theorem Src.blk {α : Type} [Lay α] {w : World} {B : Nat → Prop} {g : Nat} {t : TypeId} {ys : List α} {cells : List Value} (h : Blk w g t cells) (hr : Rs w B ys cells) : Src w B (some ⟨g, 0, none⟩) ys :=
  ⟨cells, hr, fun _ h => (by cases h), fun ad e j u hu => by
    injection e with e
    subst e
    have : (⟨g, 0, none⟩ : Addr).add j = ⟨g, j, none⟩ := by unfold Addr.add; split <;> simp_all
    rw [this, h.cell]
    exact hu⟩

/-- t: a slice type, e: its element type, whose values are those of α -/
structure Elem (P : Program) (t e : TypeId) (bytes : Nat) (α : Type) [Lay α] : Prop where
  ty : P.underlying t = some (.slice e)
  small : bytes ≤ 4096
  info : ∃ i z, P.info? e = some i ∧ i.zero = some z ∧ i.size = Lay.n α ∧ i.bytes = bytes ∧ z.cells.size = Lay.n α
theorem Elem.of {P : Program} {t e : TypeId} {bytes : Nat} {α : Type} [Lay α] (z : Value) (ty : P.underlying t = some (.slice e)) (h : (P.info? e).map (fun i => (i.zero, i.size, i.bytes)) = some (some z, Lay.n α, bytes)) (hz : z.cells.size = Lay.n α) (hb : bytes ≤ 4096 := by decide) : Elem P t e bytes α := by
  obtain ⟨i, hi, h⟩ := Option.map_eq_some_iff.1 h
  simp only [Prod.mk.injEq] at h
  exact ⟨ty, hb, i, z, hi, h.1, h.2.1, h.2.2, hz⟩

/-- where 's[k:]' begins -/
def cutAt (A : Option Addr) (c k s : Nat) : Option Addr := if c = k then A else A.map (·.add (k * s))
theorem Sl.cutAt {α : Type} [Lay α] {w : World} {B : Nat → Prop} {A : Option Addr} {xs : List α} (h : Sl w B A xs) {k c : Nat} (hc : xs.length ≤ c) : Sl w B (cutAt A c k (Lay.n α)) (xs.drop k) := h.cut hc
theorem run_cut {P : Program} {t e : TypeId} {bytes : Nat} {α : Type} [Lay α] (el : Elem P t e bytes α) (A : Option Addr) (n c k : Nat) (hk : k ≤ n) (hn : n ≤ c) (u : World) :
    (Instr.slice t (.slice A n c) (some (.int .i64 (k : Int))) none none).run P u = .ok (.slice (cutAt A c k (Lay.n α)) (n - k) (c - k)) u := by
  obtain ⟨i, z, hi, _, hs, _, _⟩ := el.info
  simp [Instr.slice, run_underlying el.ty, Instr.sliceBounds, Instr.sliceBound, asIntOf, sizeOf, typeInfo, hi, hs, hk, cutAt]

/-- the slice v, of the call's own from block 'base' on, holds xs -/
def Own {α : Type} [Lay α] (base : Nat) (e : TypeId) (w : World) (B : Nat → Prop) (v : Value) (xs : List α) : Prop :=
  ∃ cells, w.ownsRow base e (Lay.n α) v xs.length cells ∧ Rs w B xs cells

section
variable {α : Type} [Lay α] {base : Nat} {e : TypeId} {w w' : World} {B : Nat → Prop} {v : Value} {xs : List α}
theorem Own.nil : Own base e w B (.slice none 0 0) ([] : List α) := ⟨[], World.ownsRow_nil _ _ _ _, rfl⟩
theorem Own.form (h : Own base e w B v xs) : ∃ A c, v = .slice A xs.length c ∧ xs.length ≤ c ∧ c ≤ maxLen ∧ (A = none → c = 0) ∧ (∀ ad, A = some ad → ∃ g, ad = ⟨g, 0, none⟩ ∧ base ≤ g ∧ g < w.heap.size) := by
  obtain ⟨cells, h, _⟩ := h
  rcases h.2 with ⟨rfl, h0⟩ | ⟨g, cap, cur, rfl, hg, hh, hn, hm, _⟩
  · exact ⟨none, 0, by rw [h0], by omega, Nat.zero_le _, fun _ => rfl, fun _ h => (by cases h)⟩
  · have hlt : g < w.heap.size := by
      rcases Nat.lt_or_ge g w.heap.size with hlt | hge
      · exact hlt
      · rw [Array.getElem?_eq_none hge] at hh; cases hh
    exact ⟨_, cap, rfl, hn, hm, fun h => (by cases h), fun ad h => (by injection h with h; exact ⟨g, h.symm, hg, hlt⟩)⟩
theorem Own.val (h : Own base e w B v xs) {B' : Nat → Prop} (hB : ∀ b, B b → B' b) (hB' : ∀ g, base ≤ g → g < w.heap.size → B' g) : V w B' xs v := by
  obtain ⟨A, c, rfl, h1, h2, h3, _⟩ := h.form
  obtain ⟨cells, ho, hr⟩ := h
  exact V.slice_mk rfl h1 h2 h3 (Sl.own ho hB' (hr.mono hB))
theorem Own.val' (h : Own base e w B v xs) (hB : ∀ b, B b → b < w.heap.size) : V w (Lt w.heap.size) xs v := h.val hB (fun _ _ h => h)
theorem Own.kept {row : Option Nat} (h : Own base e w B v xs) (hg : w.grownBy w' row) (hne : v.ownBlock = none ∨ v.ownBlock ≠ row) (hB : ∀ b, B b → b < w.heap.size ∧ row ≠ some b) : Own base e w' B v xs := by
  obtain ⟨cells, ho, hr⟩ := h
  exact ⟨cells, ho.kept hg hne, hr.keep (fun p hp => World.cell?_of_block (hg.block _ (hB _ hp).1 (fun h => (hB _ hp).2 h.symm)))⟩
theorem Own.below {N : Nat} (h : Own base e w B v xs) (hb : Below N w w') (hN : w.heap.size ≤ N) (hB : ∀ b, B b → b < w.heap.size) : Own base e w' B v xs :=
  h.kept (row := none) ⟨hb.os, hb.tape, hb.output, hb.size, fun i hi _ => hb.block i (by omega)⟩ (by cases h : v.ownBlock <;> simp) (fun b hb => ⟨hB b hb, by simp⟩)
theorem Own.alloc (h : Own base e w B v xs) (o : Obj) (hB : ∀ b, B b → b < w.heap.size) : Own base e (w.alloc o) B v xs :=
  h.kept (World.grownBy_alloc w o none) (by cases h : v.ownBlock <;> simp) (fun b hb => ⟨hB b hb, by simp⟩)
theorem Own.drew (h : Own base e w B v xs) : Own base e w.drew B v xs := by
  obtain ⟨cells, ho, hr⟩ := h
  exact ⟨cells, ho, Rs.keep (w := w) (w' := w.drew) (fun _ _ => rfl) hr⟩
theorem Own.drewN (h : Own base e w B v xs) (n : Nat) : Own base e (w.drewN n) B v xs := by
  obtain ⟨cells, ho, hr⟩ := h
  exact ⟨cells, ho, Rs.keep (w := w) (w' := w.drewN n) (fun _ _ => rfl) hr⟩
theorem Own.blk {g n : Nat} {cells : List Value} (h : Blk w g e cells) (hr : Rs w B xs cells) (hb : base ≤ g) (hm : xs.length ≤ maxLen) (hn : n = xs.length) : Own base e w B (.slice (some ⟨g, 0, none⟩) n n) xs := by
  subst hn
  exact ⟨cells, h.own hb hr.length hm, hr⟩
theorem Own.base_le {base' : Nat} (h : Own base e w B v xs) (hb : base' ≤ base) : Own base' e w B v xs := by
  obtain ⟨cells, ⟨h1, h2⟩, hr⟩ := h
  refine ⟨cells, ⟨h1, ?_⟩, hr⟩
  rcases h2 with h2 | ⟨g, cap, cur, hv, hg, r⟩
  · exact .inl h2
  · exact .inr ⟨g, cap, cur, hv, by omega, r⟩
end

theorem no_lt {w : World} : ∀ b, No b → b < w.heap.size := fun _ h => h.elim

section
variable {P : Program} (w : World)
theorem run_app {t ty e : TypeId} {bytes : Nat} {α : Type} [Lay α] (el : Elem P t e bytes α) {base : Nat} {B : Nat → Prop} {v : Value} {xs : List α} (hown : Own base e w B v xs)
    {A : Option Addr} {m c : Nat} {ys : List α} (hm : m = ys.length) (hr : Src w B A ys) (hB : ∀ b, B b → b < w.heap.size ∧ v.ownBlock ≠ some b) (hl : xs.length + ys.length ≤ 1073741824) (hbase : base ≤ w.heap.size) :
    ∃ v' w', (Builtin.append_ #[t, t] ty #[v, .slice A m c]).run P w = .ok v' w' ∧ Own base e w' B v' (xs ++ ys) ∧ w.grownBy w' v.ownBlock ∧ (v'.ownBlock = v.ownBlock ∨ v'.ownBlock = some w.heap.size) := by
  subst hm
  obtain ⟨cells, ho, hrs⟩ := hown
  obtain ⟨news, hn, hA, hc⟩ := hr
  obtain ⟨i, z, hi, hz, hs, hby, hzs⟩ := el.info
  have hsame : ∀ {w' : World}, w.grownBy w' v.ownBlock → Same B w w' := fun hg p hp => World.cell?_of_block (hg.block _ (hB _ hp).1 (fun h => (hB _ hp).2 h.symm))
  cases A with
  | none =>
    have : ys = [] := by
      cases ys with
      | nil => rfl
      | cons y ys => exact absurd rfl (hA (by simp))
    subst this
    refine ⟨v, w, ?_, ⟨cells, by simpa using ho, by simpa using hrs⟩, World.grownBy.refl w _, .inl rfl⟩
    rcases ho.2 with ⟨rfl, h0⟩ | ⟨g, cap, cur, rfl, _, _, hnc, _⟩
    · simp [Builtin.append_, run_underlying el.ty, sizeOf, typeInfo, hi, Builtin.lenOf, Builtin.firstCells]
    · simp [Builtin.append_, run_underlying el.ty, sizeOf, typeInfo, hi, Builtin.lenOf, Builtin.firstCells, hnc, storeCells]
  | some ad =>
    have hbb : (xs.length + ys.length) * bytes ≤ 140737488355328 := by
      have : (xs.length + ys.length) * bytes ≤ 1073741824 * 4096 := Nat.mul_le_mul hl el.small
      omega
    obtain ⟨v', w', hrun, h2, h3, _, h5⟩ := run_append_own_at (P := P) w base t ty e i z (Lay.n α) bytes el.ty hi hz hs hby hzs Lay.pos v xs.length cells ho ad ys.length c news hn.length (hc ad rfl) hn.one (by simp only [maxLen]; omega) hbb hbase
    refine ⟨v', w', hrun, ⟨cells ++ news, by simpa using h2, ?_⟩, h3, h5⟩
    exact (hrs.append hn).keep (hsame h3)

theorem wp_app {o : Oper} {a : Act} {K : Act → World → Prop} {Q : Exit → Act → World → Prop} (s x : Operand) (t : TypeId)
    (ho : o.op = .call { callee := .builtin .append, args := #[s, x], argTypes := #[t, t] })
    {e : TypeId} {bytes : Nat} {α : Type} [Lay α] (el : Elem P t e bytes α) {base : Nat} {B : Nat → Prop} {v : Value} {xs : List α} (hs : a.eval s = v) (hown : Own base e w B v xs)
    {A : Option Addr} {m c : Nat} {ys : List α} (hx : a.eval x = .slice A m c) (hm : m = ys.length) (hr : Src w B A ys) (hB : ∀ b, B b → b < w.heap.size ∧ v.ownBlock ≠ some b) (hl : xs.length + ys.length ≤ 1073741824) (hbase : base ≤ w.heap.size)
    (h : ∀ v' w', Own base e w' B v' (xs ++ ys) → w.grownBy w' v.ownBlock → (v'.ownBlock = v.ownBlock ∨ v'.ownBlock = some w.heap.size) → K (a.put o.dst v') w') : o.wp P a w K Q := by
  obtain ⟨v', w', hrun, h2, h3, h4⟩ := run_app (P := P) w (ty := o.type) (c := c) el hown hm hr hB hl hbase
  unfold Oper.wp execOp
  simp only [ho, resolve, invoke, builtin, Sem.run_bind, Sem.run_pure, Result.andThen_ok, List.map_toArray, List.map_cons, List.map_nil, hs, hx, hrun]
  exact h v' w' h2 h3 h4

theorem wpList_app {ops : Array Oper} {rest : List Oper} {o : Oper} {a : Act} {Q : Exit → Act → World → Prop} (hgd : o.guard = none) (s x : Operand) (t : TypeId)
    (ho : o.op = .call { callee := .builtin .append, args := #[s, x], argTypes := #[t, t] })
    {e : TypeId} {bytes : Nat} {α : Type} [Lay α] (el : Elem P t e bytes α) {base : Nat} {B : Nat → Prop} {v : Value} {xs : List α} (hs : a.eval s = v) (hown : Own base e w B v xs)
    {A : Option Addr} {m c : Nat} {ys : List α} (hx : a.eval x = .slice A m c) (hm : m = ys.length) (hr : Src w B A ys) (hB : ∀ b, B b → b < w.heap.size ∧ v.ownBlock ≠ some b) (hl : xs.length + ys.length ≤ 1073741824) (hbase : base ≤ w.heap.size)
    (h : ∀ v' w', Own base e w' B v' (xs ++ ys) → w.grownBy w' v.ownBlock → (v'.ownBlock = v.ownBlock ∨ v'.ownBlock = some w.heap.size) → wpList P ops Q rest (a.put o.dst v') w') : wpList P ops Q (o :: rest) a w :=
  wpList_plain hgd fun _ hK => wp_app w s x t ho el hs hown hx hm hr hB hl hbase fun v' w' h2 h3 h4 => hK _ _ (h v' w' h2 h3 h4)

theorem step_app {ops : Array Oper} {o : Oper} {a : Act} {K : Act → World → Prop} {Q : Exit → Act → World → Prop} {E : Prop} (hgd : o.guard = none) (s x : Operand) (t : TypeId)
    (ho : o.op = .call { callee := .builtin .append, args := #[s, x], argTypes := #[t, t] })
    {e : TypeId} {bytes : Nat} {α : Type} [Lay α] (el : Elem P t e bytes α) {base : Nat} {B : Nat → Prop} {v : Value} {xs : List α} (hs : a.eval s = v) (hown : Own base e w B v xs)
    {A : Option Addr} {m c : Nat} {ys : List α} (hx : a.eval x = .slice A m c) (hm : m = ys.length) (hr : Src w B A ys) (hB : ∀ b, B b → b < w.heap.size ∧ v.ownBlock ≠ some b) (hl : xs.length + ys.length ≤ 1073741824) (hbase : base ≤ w.heap.size)
    (h : ∀ v' w', Own base e w' B v' (xs ++ ys) → w.grownBy w' v.ownBlock → (v'.ownBlock = v.ownBlock ∨ v'.ownBlock = some w.heap.size) → K (a.put o.dst v') w') :
    if Region.wanted o (yielded ops a.tmps) = true then Oper.wp P o a w K Q else E := by
  have hw : Region.wanted o (yielded ops a.tmps) = true := by simp [Region.wanted, hgd]
  rw [if_pos hw]
  exact wp_app w s x t ho el hs hown hx hm hr hB hl hbase h
end
/-- a step onto the call's own memory, told by 'Below' -/
theorem below_app {base : Nat} {w0 w w' : World} {v : Value} (h : Below base w0 w) (hg : w.grownBy w' v.ownBlock) (hv : ∀ g, v.ownBlock = some g → base ≤ g) (hb : base ≤ w0.heap.size) : Below base w0 w' :=
  h.grown hg (Nat.le_trans hb h.size) hv
theorem Own.at_ {α : Type} [Lay α] {base : Nat} {e : TypeId} {w : World} {B : Nat → Prop} {v : Value} {xs : List α} (h : Own base e w B v xs) : ∀ g, v.ownBlock = some g → base ≤ g := by
  obtain ⟨cells, ho, _⟩ := h
  exact fun g hg => (ho.lt g hg).1

/-- a call returns a new slice that holds xs, and leaves what was there as it was -/
def Fresh {α : Type} [Lay α] (e : TypeId) (w : World) (B : Nat → Prop) (xs : List α) (en : Ending) (w' : World) : Prop :=
  ∃ v, en = .returned v ∧ Own w.heap.size e w' B v xs ∧ Below w.heap.size w w'

theorem bcell {W w1 : World} (hb : Below W.heap.size W w1) : ∀ b o, b < W.heap.size → w1.cell? ⟨b, o, none⟩ = W.cell? ⟨b, o, none⟩ := fun b o h => hb.cell (p := ⟨b, o, none⟩) h
theorem bfrozen {W w1 : World} (hb : Below W.heap.size W w1) : ∀ b o, b < W.heap.size → w1.frozen? ⟨b, o, none⟩ = W.frozen? ⟨b, o, none⟩ := fun b o h => hb.frozen (p := ⟨b, o, none⟩) h

/-- a later world: what was there when w stood is as it was -/
structure Late (w : World) where
  val : World
  below : Below w.heap.size w val
instance {w : World} : Nonempty (Late w) := ⟨⟨w, Below.refl _ _⟩⟩
theorem Late.cell {w : World} (x : Late w) (p : Addr) (h : p.block < w.heap.size) : x.val.cell? p = w.cell? p := x.below.cell h
theorem Late.frozen {w : World} (x : Late w) (p : Addr) (h : p.block < w.heap.size) : x.val.frozen? p = w.frozen? p := x.below.frozen h
attribute [go_sem] Late.cell Late.frozen

/-- a region that draws its order, whose operations only read and whose callees make at most new memory, walked once, in the order of the text -/
theorem wp_region_late {P : Program} {id : Nat} {Q : Exit → Act → World → Prop} {a : Act} {w : World} {l : List Oper} (hm : P.follows .mixedOrders = true) (hB : Region.lexB .any l.toArray = true)
    (h : wpQuiet P l.toArray (fun w' => ∃ x : Late w, w' = x.val) (fun a' => ∀ w1, Below w.heap.size w w1 → Q .normal a' w1) l a) : (Code.region id l.toArray true).wp P Q a w :=
  wp_region_quiet (C := fun w' => ∃ x : Late w, w' = x.val) hm hB ⟨⟨w.drew, (Below.refl _ _).drew⟩, rfl⟩ (by
    have e : (fun a' => ∀ w1, Below w.heap.size w w1 → Q .normal a' w1) = (fun a' => ∀ w', (∃ x : Late w, w' = x.val) → Q .normal a' w') := by
      funext a'
      exact propext ⟨fun h w' ⟨x, hx⟩ => hx ▸ h x.val x.below, fun h w1 hb => h w1 ⟨⟨w1, hb⟩, rfl⟩⟩
    rw [e] at h
    simpa using h)
theorem late_of {P : Program} {f : FuncId} {args : Array Value} {w : World} {x : Late w} {v : Value} (h : Calls P f args x.val fun e w' => e = .returned v ∧ Below x.val.heap.size x.val w') :
    Calls P f args x.val fun e w'' => e = .returned v ∧ ∃ y : Late w, w'' = y.val :=
  h.mono fun _ w' ⟨he, hb⟩ => ⟨he, ⟨w', x.below.trans (hb.mono x.below.size)⟩, rfl⟩
theorem late_same {P : Program} {f : FuncId} {args : Array Value} {w : World} {x : Late w} {v : Value} (h : Calls P f args x.val fun e w' => e = .returned v ∧ x.val = w') :
    Calls P f args x.val fun e w'' => e = .returned v ∧ ∃ y : Late w, w'' = y.val :=
  h.mono fun _ w' ⟨he, hb⟩ => ⟨he, x, hb.symm⟩
theorem late_drew {P : Program} {f : FuncId} {args : Array Value} {w : World} {x : Late w} {v : Value} (h : Calls P f args x.val fun e w' => e = .returned v ∧ ∃ q, w' = x.val.drewN q) :
    Calls P f args x.val fun e w'' => e = .returned v ∧ ∃ y : Late w, w'' = y.val :=
  h.mono fun _ w' ⟨he, q, hq⟩ => ⟨he, ⟨w', by rw [hq]; exact below_drewN x.below q⟩, rfl⟩

/-- type ty is a struct or an array of k cells -/
def AggT (P : Program) (ty : TypeId) (k : Nat) : Prop := ∃ d, P.underlying ty = some d ∧ (match d with | .struct _ | .array _ _ => true | _ => false) = true ∧ (P.info? ty).map (·.size) = some k

/-- the cells cs lie at a -/
def Row (w : World) (a : Addr) (cs : Array Value) : Prop := ∀ j v, cs[j]? = some v → w.cell? (a.add j) = some v

theorem run_loadVar_at {P : Program} {w : World} {ty : TypeId} {a : Addr} {cs : Array Value} (hr : Row w a cs) (hT : AggT P ty cs.size) : (loadVar ty a).run P w = .ok (.agg cs) w := by
  obtain ⟨d, hu, hd, hi⟩ := hT
  have hl : (loadCells a cs.toList.length).run P w = .ok cs.toList.toArray w :=
    run_loadCells_list (P := P) w a cs.toList (fun j v hv => hr j v (by simpa using hv))
  cases hq : P.info? ty with
  | none => simp [hq] at hi
  | some i =>
    have hs : i.size = cs.size := by simpa [hq] using hi
    have hagg : (Go.isAgg ty).run P w = .ok true w := by
      unfold Go.isAgg
      rw [Sem.run_bind, run_underlying hu w]
      cases d <;> simp_all
    simp only [Array.length_toList, Array.toArray_toList] at hl
    simp [loadVar, Sem.run_bind, hagg, sizeOf, typeInfo, hq, hs, hl]
theorem row_new {w : World} {cs : Array Value} {t : TypeId} {n : Nat} (hn : n = w.heap.size) : Row (w.alloc (.cells cs t)) ⟨n, 0, none⟩ cs := fun j v hv => by
  subst hn
  have hadd : (⟨w.heap.size, 0, none⟩ : Addr).add j = ⟨w.heap.size, j, none⟩ := by unfold Addr.add; split <;> simp_all
  rw [hadd, cell_of_row _ _ j cs t (0, 0) (heap_alloc_new w _)]
  exact hv
theorem Blk.row {w : World} {g : Nat} {t : TypeId} {cs : List Value} (h : Blk w g t cs) : Row w ⟨g, 0, none⟩ cs.toArray := fun j v hv => by
  have hadd : (⟨g, 0, none⟩ : Addr).add j = ⟨g, j, none⟩ := by unfold Addr.add; split <;> simp_all
  rw [hadd, h.cell]
  simpa using hv
/-- a struct that has just been laid is read whole -/
theorem run_loadVar_new {P : Program} {w : World} {ty t : TypeId} {cs : Array Value} {n : Nat} (hn : n = w.heap.size) (hT : AggT P ty cs.size) : (loadVar ty ⟨n, 0, none⟩).run P (w.alloc (.cells cs t)) = .ok (.agg cs) (w.alloc (.cells cs t)) :=
  run_loadVar_at (row_new hn) hT
attribute [go_sem ↓] run_loadVar_new
def RowOk (w : World) (a : Addr) (k : Nat) : Prop := ∃ cs, cs.size = k ∧ Row w a cs
def rowAt (w : World) (a : Addr) (k : Nat) : Array Value := ((List.range k).map fun j => (w.cell? (a.add j)).getD undef).toArray
theorem Row.eq {w : World} {a : Addr} {cs : Array Value} (h : Row w a cs) : rowAt w a cs.size = cs := by
  unfold rowAt
  apply Array.ext
  · simp
  · intro i h1 h2
    have := h i cs[i] (Array.getElem?_eq_getElem h2)
    simp [this]
theorem Row.eq' {w : World} {a : Addr} {cs : Array Value} {k : Nat} (h : Row w a cs) (hk : cs.size = k) : rowAt w a k = cs := by subst hk; exact h.eq
theorem Row.ok {w : World} {a : Addr} {cs : Array Value} {k : Nat} (h : Row w a cs) (hk : cs.size = k) : RowOk w a k := ⟨cs, hk, h⟩
theorem run_load_row {P : Program} {w : World} {ty : TypeId} {a : Addr} {k : Nat} (hr : RowOk w a k) (hT : AggT P ty k) : (loadVar ty a).run P w = .ok (.agg (rowAt w a k)) w := by
  obtain ⟨cs, rfl, h⟩ := hr
  rw [h.eq]
  exact run_loadVar_at h hT

theorem quiet_left {P : Program} {f : FuncId} {args : Array Value} {w : World} {n : Nat} {v : Value}
    (h : Calls P f args (w.drewN n) fun e w' => e = .returned v ∧ w.drewN n = w') : Calls P f args (w.drewN n) fun e w'' => e = .returned v ∧ ∃ m, w'' = w.drewN m :=
  h.mono fun _ _ ⟨he, hm⟩ => ⟨he, n, hm.symm⟩
theorem quiet_add {P : Program} {f : FuncId} {args : Array Value} {w : World} {a n : Nat} {v : Value}
    (h : Calls P f args (w.drewN (a + n)) fun e w' => e = .returned v ∧ w.drewN (a + n) = w') :
    Calls P f args (w.drewN (a + n)) fun e w'' => e = .returned v ∧ ∃ m, w'' = w.drewN (a + m) :=
  h.mono fun _ _ ⟨he, hm⟩ => ⟨he, n, hm.symm⟩
theorem ret_int {a b : Int} {k : IntKind} (h : a = b) : Ending.returned (.int k a) = .returned (.int k b) := by rw [h]
theorem ret_bool {a b : Bool} (h : a = b) : Ending.returned (.bool a) = .returned (.bool b) := by rw [h]

end Go.Proofs.Ytfelhbeiegppgaa
