/-
  stat.Text at its chapter's example, as a function of the machine of plain data.
-/
import Derived.Test.YtfelhbeiegppgaaDoorNStatB
set_option linter.unusedVariables false
set_option linter.unusedSimpArgs false
namespace Go.Proofs.YtfelhbeiegppgaaDoor
namespace NM
open AM Go.RowKit Go.Lib
@[reducible] def t19 : Ty := .pair (.int .i64) (.pair (.int .i64) (.pair (.int .i64) (.pair (.int .i64) (.pair (.int .i64) (.pair (.int .i64) (.pair (.int .i64) (.pair (.int .i64) (.pair (.int .i64) (.pair (.int .i64) (.pair (.int .i64) (.pair (.int .i64) (.pair (.int .i64) (.pair (.int .i64) (.pair (.int .i64) (.pair (.int .i64) (.pair (.int .i64) (.pair (.int .i64) (.int .i64))))))))))))))))))
@[reducible] def sigText : Sig := ⟨.cons (.v t19) .nil, [], (.tup (.cons (.v .str) (.cons (.v (.int .i64)) .nil)), []), []⟩
abbrev T19 := Int × (Int × (Int × (Int × (Int × (Int × (Int × (Int × (Int × (Int × (Int × (Int × (Int × (Int × (Int × (Int × (Int × (Int × (Int))))))))))))))))))
def tzP : T19 := (1, (0, (0, (1, (0, (0, (0, (1, (0, (0, (0, (0, (0, (0, (0, (0, (0, (0, 0))))))))))))))))))
def tzL (x : T19) : List Int := [x.1, x.2.1, x.2.2.1, x.2.2.2.1, x.2.2.2.2.1, x.2.2.2.2.2.1, x.2.2.2.2.2.2.1, x.2.2.2.2.2.2.2.1, x.2.2.2.2.2.2.2.2.1, x.2.2.2.2.2.2.2.2.2.1, x.2.2.2.2.2.2.2.2.2.2.1, x.2.2.2.2.2.2.2.2.2.2.2.1, x.2.2.2.2.2.2.2.2.2.2.2.2.1, x.2.2.2.2.2.2.2.2.2.2.2.2.2.1, x.2.2.2.2.2.2.2.2.2.2.2.2.2.2.1, x.2.2.2.2.2.2.2.2.2.2.2.2.2.2.2.1, x.2.2.2.2.2.2.2.2.2.2.2.2.2.2.2.2.1, x.2.2.2.2.2.2.2.2.2.2.2.2.2.2.2.2.2.1, x.2.2.2.2.2.2.2.2.2.2.2.2.2.2.2.2.2.2]
/-- of the example alone -/
def textF (x : T19) : Option (List UInt8 × (Int × Unit)) := cond (decide (tzL x = Stat.tz)) (some (Stat.textTo 19, (0, ()))) none
theorem textF_inv {x : T19} {r : List UInt8 × (Int × Unit)} (h : textF x = some r) : x = tzP ∧ r = (Stat.textTo 19, (0, ())) := by
  unfold textF at h
  by_cases hp : tzL x = Stat.tz
  · rw [decide_eq_true hp] at h
    obtain ⟨a0, a1, a2, a3, a4, a5, a6, a7, a8, a9, a10, a11, a12, a13, a14, a15, a16, a17, a18⟩ := x
    simp only [tzL, Stat.tz, List.cons.injEq] at hp
    obtain ⟨rfl, rfl, rfl, rfl, rfl, rfl, rfl, rfl, rfl, rfl, rfl, rfl, rfl, rfl, rfl, rfl, rfl, rfl, rfl, _⟩ := hp
    cases h
    exact ⟨rfl, rfl⟩
  · rw [decide_eq_false hp] at h; cases h
theorem cells_tz : (ops t19).cells tzP = Stat.tz.map (.int .i64) := by kernel_rfl
theorem ints_ri : ∀ (l : List Int) {ds : List AVal}, A2 (RC []) (l.map (NVal.int .i64)) ds → ds = l.map (.int .i64)
  | [], ds, h => h.nil_inv
  | n :: l, ds, h => by
    obtain ⟨a, bs, rfl, h1, h2⟩ := h.cons_inv
    rw [ints_ri l h2]
    have h1 : RC [] (.int .i64 n) a := h1
    rw [(RT.v (RV.c h1)).int_inv]
    rfl
theorem str_ir {w : World} {S : Nat → Prop} (l : List UInt8) : IR w S (.str l) (.string ⟨l.toArray⟩) := by
  have h := IR.str (w := w) (S := S) ⟨l.toArray⟩
  simpa using h
theorem ya_int (k : IntKind) (n : Int) : yA (.v (.int k), []) [] n = .int k n := by
  obtain ⟨c, d, h1, h2, h3, h4⟩ := one_cells (t := .int k) rfl n
  simp only [yA, outA, can, Ty.isAgg, h2]
  have : c = .int k n := by cases h1; rfl
  subst this
  cases h3
  rfl
theorem ya_str (s : List UInt8) : yA (.v .str, []) [] s = .str s := by
  obtain ⟨c, d, h1, h2, h3, h4⟩ := one_cells (t := .str) rfl s
  simp only [yA, outA, can, Ty.isAgg, h2]
  have : c = .str s := by cases h1; rfl
  subst this
  cases h3
  rfl
theorem ya_text (s : List UInt8) (n : Int) : yA (.tup (.cons (.v .str) (.cons (.v (.int .i64)) .nil)), []) [] (s, (n, ())) = .tup [.str s, .int .i64 n] := by
  have h1 := ya_str s
  have h2 := ya_int .i64 n
  simp only [yA, outA, can, cans, Ty.isAgg] at h1 h2 ⊢
  rw [h1, h2]
theorem ext8 : NOk Tryd.prog ⟨8, sigText, fun x _ => textF x.1⟩ := by
  refine ⟨⟨_, Tryd.func8, rfl, rfl⟩, rfl, fun x hh y hy args ahp ha hb => ?_⟩
  obtain ⟨x, u⟩ := x
  have e0 : ahp = [] := A2.nil_inv hb
  subst e0
  have hy : textF x = some y := hy
  obtain ⟨rfl, rfl⟩ := textF_inv hy
  simp only [puts, put, putV, Ty.isAgg] at ha
  obtain ⟨a1, as', rfl, h1, ha⟩ := ha.cons_inv
  rw [ha.nil_inv]
  have h1 : RT [] (.agg ((ops t19).cells tzP)) a1 := RT.v h1
  obtain ⟨ds, rfl, hds⟩ := h1.agg_inv
  rw [cells_tz] at hds
  have hds : ds = Stat.tzA := ints_ri Stat.tz hds
  subst hds
  intro μ w S cargs r0 hl hv
  have hsz : cargs.size = 1 := by simpa using hl.symm
  obtain ⟨v0, rfl⟩ : ∃ v, cargs = #[v] := by
    refine ⟨cargs[0], ?_⟩
    apply Array.ext
    · simp [hsz]
    · intro i h1 h2
      have : i = 0 := by omega
      subst this
      rfl
  have hv0 : v0 = .agg Stat.tzV.toArray := by
    obtain ⟨a, rfl, hla, hva⟩ := (hv 0 _ v0 rfl rfl).agg_inv
    congr 1
    apply Array.ext
    · rw [← hla]; rfl
    · intro i h1 h2
      have hi : i < Stat.tz.length := by simpa [Stat.tzV] using h2
      have hc : Stat.tzA[i]? = some (.int .i64 Stat.tz[i]) := by rw [Stat.tzA, List.getElem?_map, List.getElem?_eq_getElem hi]; rfl
      have := (hva i _ a[i] hc (Array.getElem?_eq_getElem _)).int_inv
      rw [this]
      simp [Stat.tzV]
  subst hv0
  refine (Stat.text (w := w) r0.inS r0.gl).mono fun e w' ⟨he, hbel⟩ => ?_
  have hfree : ∀ b, μ b = .free := fun b => r0.free b (.inr (Nat.zero_le _))
  have hgl := r0.gl.mono (w' := w') (S' := S) (fun m hm => hbel.block m (r0.inS m hm)) (fun _ h => h)
  refine ⟨_, μ, S, he, ?_, ⟨hbel.os, hbel.tape, hbel.output, hbel.size, fun m hm _ => hbel.block m hm, fun _ h => h, fun m hm => .inl hm, fun m ho => .inl ho⟩, ?_, Nat.le_refl _, fun b hb => absurd hb (Nat.not_lt_zero _)⟩
  · show HRep μ w' _ []
    refine ⟨fun b k hbk => ?_, fun b _ => .inl (hfree b), fun b _ => hfree b, r0.inj, fun m ho => ?_, fun m hm => Nat.lt_of_lt_of_le (r0.inS m hm) hbel.size, hgl⟩
    · unfold Heap.get at hbk
      simp at hbk
    · obtain ⟨b, n, e, hb⟩ := ho
      rw [hfree b] at hb
      cases hb
  · show VR μ w' _ (yA (.tup (.cons (.v .str) (.cons (.v (.int .i64)) .nil)), []) [] (Stat.textTo 19, (0, ()))) _
    rw [ya_text]
    refine .tup _ _ rfl fun j c u hj hu => ?_
    match j with
    | 0 => cases hj; cases hu; exact .imm _ _ (str_ir _)
    | 1 => cases hj; cases hu; exact .imm _ _ (.int _ _)
    | j + 2 => simp at hj
end NM
end Go.Proofs.YtfelhbeiegppgaaDoor
