/-
  Go data as Lean data, and as values of the abstract machine.
-/
import Derived.Test.YtfelhbeiegppgaaTypes
import Derived.Test.YtfelhbeiegppgaaAmR
set_option linter.unusedVariables false
namespace Go.Proofs.Ytfelhbeiegppgaa
open AM

/-- the abstract cells of a Lean value -/
class Enc (α : Type) [Lay α] where
  cells : α → List AVal
  ok : ∀ {w : World} {B S : Nat → Prop} {x : α} {cs : List Value}, Lay.R w B x cs → (∀ b, B b → S b) → cs.length = (cells x).length ∧ ∀ (j : Nat) (c : AVal) (v : Value), (cells x)[j]? = some c → cs[j]? = some v → IR w S c v

theorem one_cell {w : World} {S : Nat → Prop} {c : AVal} {v : Value} (h : IR w S c v) : [v].length = [c].length ∧ ∀ (j : Nat) (c' : AVal) (v' : Value), [c][j]? = some c' → [v][j]? = some v' → IR w S c' v' := by
  refine ⟨rfl, fun j c' v' hj hv => ?_⟩
  cases j with
  | zero => simp at hj hv; subst hj; subst hv; exact h
  | succ j => simp at hj

instance : Enc Int where
  cells x := [.int .i64 x]
  ok h _ := by rw [h.1]; exact one_cell (.int _ _)
instance : Enc Bool where
  cells x := [.bool x]
  ok h _ := by
    have h : _ = _ := h
    rw [h]; exact one_cell (.bool _)
instance : Enc UInt8 where
  cells x := [.int .u8 (x.toNat : Int)]
  ok h _ := by
    have h : _ = _ := h
    rw [h]; exact one_cell (.int _ _)
instance : Enc ByteArray where
  cells x := [.str x.data.toList]
  ok h _ := by rw [h.1]; exact one_cell (.str _)

instance {α : Type} [Lay α] [Enc α] : Enc (List α) where
  cells xs := [.imm (Lay.n α) (xs.map Enc.cells)]
  ok {w B S xs cs} h hS := by
    obtain ⟨A, c, rfl, hlc, hcm, hn, hsl⟩ := h
    have key : IR w S (.imm (Lay.n α) (xs.map Enc.cells)) (.slice A (xs.map (Enc.cells (α := α))).length c) := by
      refine .imm _ _ A c (fun i j => (match A with | some ad => (w.cell? (ad.add (i * Lay.n α + j))).getD undef | none => undef)) (by simpa using hlc) hn (fun i x hi => ?_) (fun i x j cc hi hj => ?_) (fun i x j cc hi hj => ?_)
      · rw [List.getElem?_map] at hi
        simp only [Option.map_eq_some_iff] at hi
        obtain ⟨y, hy, rfl⟩ := hi
        obtain ⟨ad, cs, _, _, hr, _⟩ := hsl i y hy
        rw [← (Enc.ok hr hS).1, Lay.size hr]
      · rw [List.getElem?_map] at hi
        simp only [Option.map_eq_some_iff] at hi
        obtain ⟨y, hy, rfl⟩ := hi
        obtain ⟨ad, cs, rfl, hb, hr, hcell⟩ := hsl i y hy
        have hl := (Enc.ok hr hS).1
        have hjl := (List.getElem?_eq_some_iff.1 hj).1
        have hlen := (List.getElem?_eq_some_iff.1 hy).1
        -- the first element shows that the address is plain
        obtain ⟨ad', cs', had, _, hr', hcell'⟩ := hsl 0 xs[0] (List.getElem?_eq_getElem (by omega))
        cases had
        have h0 : 0 < cs'.length := by rw [Lay.size hr']; exact Lay.pos
        have hplain := hcell' 0 cs'[0] (List.getElem?_eq_getElem h0)
        have hspot : ad.spot = none := by
          cases hsp : ad.spot with
          | none => rfl
          | some q =>
            exfalso
            simp only [Nat.zero_mul, Nat.add_zero, Addr.add, if_true, World.cell?] at hplain
            split at hplain
            · rw [hsp] at hplain; simp at hplain
            · cases hplain
        have hadd : ∀ n, ad.add n = ⟨ad.block, ad.off + n, none⟩ := fun n => by
          obtain ⟨b, o, s⟩ := ad
          simp only at hspot
          subst hspot
          exact add_mk b o n
        have hu := hcell j (cs[j]'(by omega)) (List.getElem?_eq_getElem _)
        refine ⟨ad.block, ad.off, by obtain ⟨b, o, s⟩ := ad; simp only at hspot; subst hspot; rfl, hS _ hb, ?_⟩
        simp only
        rw [← hadd, hu]
        rfl
      · rw [List.getElem?_map] at hi
        simp only [Option.map_eq_some_iff] at hi
        obtain ⟨y, hy, rfl⟩ := hi
        obtain ⟨ad, cs, rfl, hb, hr, hcell⟩ := hsl i y hy
        obtain ⟨hl, hir⟩ := Enc.ok hr hS
        have hjl := (List.getElem?_eq_some_iff.1 hj).1
        have hcs : cs[j]? = some (cs[j]'(by omega)) := List.getElem?_eq_getElem _
        simp only
        rw [hcell j _ hcs]
        exact hir j cc _ hj hcs
    rw [List.length_map] at key
    exact one_cell key

instance {α β : Type} [Lay α] [Lay β] [Enc α] [Enc β] : Enc (α × β) where
  cells x := Enc.cells x.1 ++ Enc.cells x.2
  ok h hS := by
    obtain ⟨c, d, rfl, h1, h2⟩ := h
    obtain ⟨l1, r1⟩ := Enc.ok h1 hS
    obtain ⟨l2, r2⟩ := Enc.ok h2 hS
    refine ⟨by simp [l1, l2], fun j a v hj hv => ?_⟩
    rw [List.getElem?_append] at hj hv
    rw [l1] at hv
    split at hj
    · rename_i hlt; rw [if_pos hlt] at hv; exact r1 j a v hj hv
    · rename_i hlt; rw [if_neg hlt] at hv; exact r2 _ a v hj hv

@[reducible] def Enc.iso {α β : Type} [Lay β] [Enc β] (f : α → β) : @Enc α (Lay.iso f) :=
  @Enc.mk α (Lay.iso f) (fun x => Enc.cells (f x)) (fun h hS => Enc.ok (α := β) h hS)

instance : Enc Res := Enc.iso Res.pr
instance : Enc Dep := Enc.iso Dep.pr
instance : Enc Queue := Enc.iso Queue.pr
instance : Enc Weights := Enc.iso Weights.pr
instance : Enc Spec := Enc.iso Spec.pr
instance : Enc Job := Enc.iso Job.pr
instance : Enc Share := Enc.iso Share.pr
instance : Enc Alloc := Enc.iso Alloc.pr
instance : Enc Run := Enc.iso Run.pr
instance : Enc Booking := Enc.iso Booking.pr
instance : Enc Step := Enc.iso Step.pr
instance : Enc Request := Enc.iso Request.pr
instance : Enc Reply := Enc.iso Reply.pr
instance : Enc Call := Enc.iso Call.pr
instance : Enc Entry := Enc.iso Entry.pr
instance : Enc Event := Enc.iso Event.pr

/-- the value itself -/
def encV {α : Type} [Lay α] [Enc α] (x : α) : AVal := if Lay.agg α then .agg (Enc.cells x) else (Enc.cells x).headD .undef

theorem V.vr {α : Type} [Lay α] [Enc α] {w : World} {B S : Nat → Prop} {x : α} {v : Value} (h : V w B x v) (hS : ∀ b, B b → S b) (μ : Nat → AM.Loc) : VR μ w S (encV x) v := by
  obtain ⟨hl, hr⟩ := Enc.ok h.1 hS
  unfold encV
  split
  · rename_i ha
    obtain ⟨cs, rfl, hR⟩ := h.agg_eq ha
    exact .agg _ cs (by simpa [Value.cells] using hl.symm) fun j c u hj hu => .imm _ _ (hr j c u hj (by simpa [Value.cells] using hu))
  · rename_i ha
    have hc := h.cells_eq (by simpa using ha)
    rw [hc] at hl hr
    match hx : Enc.cells x, hl, hr with
    | [c], _, hr => exact .imm _ _ (hr 0 c v rfl rfl)

/-- a law's call -/
theorem law_walk {P : Program} {f : Nat} {g : List AVal → Heap → Option (AVal × Heap)} (h : Ok P f g) {args : List AVal} {cargs : Array Value} {w : World} {hp' : Heap} (hg : g args [] = some (.bool true, hp')) (hl : args.length = cargs.size)
    (ha : ∀ (j : Nat) (a : AVal) (v : Value), args[j]? = some a → cargs[j]? = some v → VR (fun _ => .free) w (Lt w.heap.size) a v) (hgl : GlobR w (Lt w.heap.size) := by exact GlobR.nil rfl) :
    Calls P f cargs w fun e w' => e = .returned (.bool true) ∧ Go.RowKit.Below w.heap.size w w' :=
  (h.calls hg hl ha hgl).mono fun e w' ⟨v, μ', S', he, hv, hb⟩ => ⟨by rw [he, hv.bool_inv], hb⟩

end Go.Proofs.Ytfelhbeiegppgaa
