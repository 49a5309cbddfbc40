/-
  Structs and arrays of numbers, truth values and texts, held against each other.
-/
import Derived.Test.YtfelhbeiegppgaaAmC
import Derived.ChangeKeysEq
import Derived.Laws.StructEq
import Derived.Laws.Cover3
set_option linter.unusedVariables false
set_option linter.unusedSimpArgs false
namespace Go.Proofs.Ytfelhbeiegppgaa
namespace AM

/-- the abstract value of a plain cell -/
def absV : Value → AVal
  | .bool b => .bool b
  | .int k n => .int k n
  | .string s => .str s.data.toList
  | _ => .undef

theorem cellsEq_length : ∀ {ks : List CK} {xs ys : List AVal} {r : Bool}, cellsEq ks xs ys = some r → xs.length = ks.length ∧ ys.length = ks.length
  | [], [], [], _, _ => ⟨rfl, rfl⟩
  | k :: ks, x :: xs, y :: ys, r, h => by
    simp only [cellsEq] at h
    split at h
    · split at h
      · rename_i hb; obtain ⟨h1, h2⟩ := cellsEq_length hb; simp [h1, h2]
      · cases h
    · cases h
  | [], _ :: _, _, _, h => by simp [cellsEq] at h
  | [], [], _ :: _, _, h => by simp [cellsEq] at h
  | _ :: _, [], _, _, h => by simp [cellsEq] at h
  | _ :: _, _ :: _, [], _, h => by simp [cellsEq] at h
theorem cellsEq_append : ∀ {ks ls : List CK} {xs ys : List AVal} {r : Bool}, cellsEq (ks ++ ls) xs ys = some r → ∃ a b, cellsEq ks (xs.take ks.length) (ys.take ks.length) = some a ∧ cellsEq ls (xs.drop ks.length) (ys.drop ks.length) = some b ∧ r = (a && b)
  | [], ls, xs, ys, r, h => ⟨true, r, rfl, by simpa using h, by simp⟩
  | k :: ks, ls, x :: xs, y :: ys, r, h => by
    simp only [List.cons_append, cellsEq] at h
    split at h
    · rename_i a ha
      split at h
      · rename_i b hb
        cases h
        obtain ⟨c, d, h1, h2, rfl⟩ := cellsEq_append hb
        refine ⟨a && c, d, ?_, by simpa using h2, by simp [Bool.and_assoc]⟩
        simp only [List.length_cons, List.take_succ_cons, cellsEq, ha, h1]
      · cases h
    · cases h
  | _ :: _, _, [], _, _, h => by simp [cellsEq] at h
  | _ :: _, _, _ :: _, [], _, h => by simp [cellsEq] at h

section
variable {P : Program} (w : World)

/-- is the type one of cells in a row? -/
def rowT (P : Program) (t : TypeId) : Bool := match P.underlying t with
  | some (.struct _) | some (.array _ _) => true
  | _ => false
/-- a value and its cells -/
def CellsOf (P : Program) (t : TypeId) (a : Value) (xs : List Value) : Prop := if rowT P t then a = .agg xs.toArray else xs = [a]

theorem run_part_cells {t : TypeId} {i : TypeInfo} {cs : Array Value} {off : Nat} {ks : List CK} {d : Nat} (hi : P.info? t = some i) (hk : eqKs P d t = some ks) (hs : i.size = ks.length) (hl : off + ks.length ≤ cs.size) :
    ∃ a, (part t cs off).run P w = .ok a w ∧ CellsOf P t a ((cs.toList.drop off).take ks.length) := by
  cases d with
  | zero => simp [eqKs] at hk
  | succ d =>
    have hcs : P.cellsOf t = i.size := by simp [Program.cellsOf, hi]
    have hex : (cs.extract off (off + i.size)) = ((cs.toList.drop off).take ks.length).toArray := by
      rw [hs]
      apply Array.ext'
      simp [List.extract]
    unfold eqKs at hk
    cases hu : P.underlying t with
    | none => simp [hu] at hk
    | some kd =>
      have one : ks.length = 1 → rowT P t = false → isAggD kd = false → ∃ a, (part t cs off).run P w = .ok a w ∧ CellsOf P t a ((cs.toList.drop off).take ks.length) := fun h1 h2 h3 => by
        have hlt : off < cs.size := by omega
        refine ⟨cs[off], ?_, ?_⟩
        · cases kd <;> simp [isAggD] at h3 <;> simp [part, isAgg, run_underlying hu, Array.getElem?_eq_getElem hlt]
        · unfold CellsOf
          rw [h2, h1]
          simp only [Bool.false_eq_true, if_false]
          rw [List.drop_eq_getElem_cons (by simpa using hlt)]
          simp
      cases kd
      case bool => simp only [hu] at hk; cases hk; exact one rfl (by simp [rowT, hu]) rfl
      case int k => simp only [hu] at hk; cases hk; exact one rfl (by simp [rowT, hu]) rfl
      case string => simp only [hu] at hk; cases hk; exact one rfl (by simp [rowT, hu]) rfl
      case struct fs => exact ⟨.agg (cs.extract off (off + i.size)), by simp [part, isAgg, run_underlying hu, run_sizeOf w hi, hcs], by unfold CellsOf; rw [show rowT P t = true from by simp [rowT, hu]]; simp only [if_true]; rw [hex]⟩
      case array n e => exact ⟨.agg (cs.extract off (off + i.size)), by simp [part, isAgg, run_underlying hu, run_sizeOf w hi, hcs], by unfold CellsOf; rw [show rowT P t = true from by simp [rowT, hu]]; simp only [if_true]; rw [hex]⟩
      all_goals (simp [hu] at hk; done)

def EqOk (P : Program) (d : Nat) : Prop := ∀ (t : TypeId) (ks : List CK), eqKs P d t = some ks → ∀ (w : World) (D : Nat) (a b : Value) (xs ys : List Value) (r : Bool), CellsOf P t a xs → CellsOf P t b ys → cellsEq ks (xs.map absV) (ys.map absV) = some r → (Op.equalIn (D + d) t a b).run P w = .ok r w

theorem map_take_drop {α β : Type} (f : α → β) (l : List α) (o n : Nat) : ((l.drop o).take n).map f = ((l.map f).drop o).take n := by simp [List.map_take, List.map_drop]

theorem eqFields_ok {d : Nat} (ih : EqOk P d) (D : Nat) (xs ys : Array Value) : ∀ (fs : List Field) (o : Nat) (ks : List CK) (r : Bool), eqKs.eqFs P (eqKs P d) o fs = some ks → o ≤ xs.size → o ≤ ys.size → cellsEq ks ((xs.toList.map absV).drop o) ((ys.toList.map absV).drop o) = some r → (Op.eqFields (D + d) xs ys fs).run P w = .ok r w
  | [], o, ks, r, h, _, _, hc => by
    simp only [eqKs.eqFs, Option.some.injEq] at h
    subst h
    have hc' := hc
    obtain ⟨h1, h2⟩ := cellsEq_length hc
    have e1 : (xs.toList.map absV).drop o = [] := List.eq_nil_of_length_eq_zero h1
    have e2 : (ys.toList.map absV).drop o = [] := List.eq_nil_of_length_eq_zero h2
    rw [e1, e2] at hc
    simp only [cellsEq, Option.some.injEq] at hc
    subst hc
    simp [Op.eqFields]
  | f :: fs, o, ks, r, h, hx, hy, hc => by
    simp only [eqKs.eqFs] at h
    split at h
    · rename_i i k1 hi hk
      split at h
      · cases h
      · rename_i hn
        have hn1 : f.name ≠ "_" := fun e => hn (.inl e)
        have hn2 : f.offset = o := Decidable.byContradiction fun e => hn (.inr (.inl e))
        have hn3 : i.size = k1.length := Decidable.byContradiction fun e => hn (.inr (.inr e))
        split at h
        · rename_i l hl
          cases h
          obtain ⟨p, q, c1, c2, rfl⟩ := cellsEq_append hc
          obtain ⟨l1, l2⟩ := cellsEq_length c1
          simp only [List.length_take, List.length_drop, List.length_map, Array.length_toList] at l1 l2
          have lx : o + k1.length ≤ xs.size := by omega
          have ly : o + k1.length ≤ ys.size := by omega
          obtain ⟨a, pa, ca⟩ := run_part_cells w hi hk hn3 lx
          obtain ⟨b, pb, cb⟩ := run_part_cells w hi hk hn3 ly
          have he := ih f.type k1 hk w D a b _ _ p ca cb (by rw [map_take_drop, map_take_drop]; exact c1)
          simp only [Op.eqFields, hn1, ne_eq, not_false_eq_true, if_true, Sem.run_bind, hn2, pa, pb, he, Result.andThen_ok]
          cases p with
          | false => simp
          | true =>
            simp only [Bool.not_true, Bool.false_eq_true, if_false, Bool.true_and]
            exact eqFields_ok ih D xs ys fs (o + k1.length) l q hl lx ly (by simpa [List.drop_drop, Nat.add_comm] using c2)
        · cases h
    · cases h

theorem eqItems_ok {d : Nat} (ih : EqOk P d) (D : Nat) {e : TypeId} {i : TypeInfo} {ks : List CK} (hi : P.info? e = some i) (hk : eqKs P d e = some ks) (hs : i.size = ks.length) (xs ys : Array Value) : ∀ (m o : Nat) (r : Bool), o * ks.length ≤ xs.size → o * ks.length ≤ ys.size → cellsEq (List.replicate m ks).flatten ((xs.toList.map absV).drop (o * ks.length)) ((ys.toList.map absV).drop (o * ks.length)) = some r →
    (Op.eqItems (D + d) e i.size xs ys (List.range' o m)).run P w = .ok r w
  | 0, o, r, _, _, hc => by
    obtain ⟨h1, h2⟩ := cellsEq_length hc
    have e1 : (xs.toList.map absV).drop (o * ks.length) = [] := List.eq_nil_of_length_eq_zero (by simpa using h1)
    have e2 : (ys.toList.map absV).drop (o * ks.length) = [] := List.eq_nil_of_length_eq_zero (by simpa using h2)
    rw [e1, e2] at hc
    simp [cellsEq] at hc
    subst hc
    simp [Op.eqItems]
  | m + 1, o, r, hx, hy, hc => by
    rw [List.replicate_succ, List.flatten_cons] at hc
    obtain ⟨p, q, c1, c2, rfl⟩ := cellsEq_append hc
    obtain ⟨l1, l2⟩ := cellsEq_length c1
    simp only [List.length_take, List.length_drop, List.length_map, Array.length_toList] at l1 l2
    have lx : o * ks.length + ks.length ≤ xs.size := by omega
    have ly : o * ks.length + ks.length ≤ ys.size := by omega
    obtain ⟨a, pa, ca⟩ := run_part_cells w hi hk hs lx
    obtain ⟨b, pb, cb⟩ := run_part_cells w hi hk hs ly
    have he := ih e ks hk w D a b _ _ p ca cb (by rw [map_take_drop, map_take_drop]; exact c1)
    rw [List.range'_succ]
    simp only [Op.eqItems, Sem.run_bind, hs, pa, pb, he, Result.andThen_ok]
    cases p with
    | false => simp
    | true =>
      simp only [Bool.not_true, Bool.false_eq_true, if_false, Bool.true_and]
      have hsucc : (o + 1) * ks.length = o * ks.length + ks.length := by rw [Nat.add_mul, Nat.one_mul]
      have := eqItems_ok ih D hi hk hs xs ys m (o + 1) q (by omega) (by omega) (by rw [hsucc]; simpa [List.drop_drop, Nat.add_comm] using c2)
      rw [hs] at this
      exact this

theorem eq_ok : ∀ d, EqOk P d
  | 0 => fun t ks h => by simp [eqKs] at h
  | d + 1 => by
    intro t ks hk w D a b xs ys r ha hb hc
    have ih := eq_ok d
    have hk0 := hk
    unfold eqKs at hk
    cases hu : P.underlying t with
    | none => simp [hu] at hk
    | some kd =>
      have cell : rowT P t = false → ks.length = 1 → ∃ k, ks = [k] ∧ xs = [a] ∧ ys = [b] ∧ cellEq k (absV a) (absV b) = some r := fun h1 h2 => by
        unfold CellsOf at ha hb
        rw [h1] at ha hb
        simp only [Bool.false_eq_true, if_false] at ha hb
        obtain ⟨k, rfl⟩ := List.length_eq_one_iff.1 h2
        subst ha
        subst hb
        refine ⟨k, rfl, rfl, rfl, ?_⟩
        simp only [List.map_cons, List.map_nil, cellsEq] at hc
        split at hc
        · rename_i q hq; simp at hc; subst hc; exact hq
        · cases hc
      have row : rowT P t = true → a = .agg xs.toArray ∧ b = .agg ys.toArray := fun h1 => by
        unfold CellsOf at ha hb
        rw [h1] at ha hb
        exact ⟨ha, hb⟩
      cases kd
      case bool =>
        simp only [hu] at hk
        cases hk
        obtain ⟨k, hk, rfl, rfl, he⟩ := cell (by simp [rowT, hu]) rfl
        cases hk
        cases a <;> cases b <;> simp [absV, cellEq] at he
        subst he
        exact run_equalIn_bool w (D + d) t _ _ hu
      case int q =>
        simp only [hu] at hk
        cases hk
        obtain ⟨k, hk, rfl, rfl, he⟩ := cell (by simp [rowT, hu]) rfl
        cases hk
        cases a <;> cases b <;> simp [absV, cellEq] at he
        rename_i k1 n1 k2 n2
        obtain ⟨⟨rfl, rfl⟩, rfl⟩ := he
        exact (run_equalIn_int w (D + d) t _ _ n1 n2 hu).trans (by congr 1)
      case string =>
        simp only [hu] at hk
        cases hk
        obtain ⟨k, hk, rfl, rfl, he⟩ := cell (by simp [rowT, hu]) rfl
        cases hk
        cases a <;> cases b <;> simp [absV, cellEq] at he
        rename_i s1 s2
        subst he
        have := run_equalIn_string w (D + d) t s1 s2 hu
        rw [show D + (d + 1) = (D + d) + 1 from rfl, this]
        congr 1
        rw [ByteArray.toList_eq, ByteArray.toList_eq, Bool.eq_iff_iff]
        simp
      case struct fs =>
        simp only [hu] at hk
        split at hk
        · cases hk
        · rename_i hst
          obtain ⟨rfl, rfl⟩ := row (by simp [rowT, hu])
          have hf : P.fieldsOf t = fs := by simp [Program.fieldsOf, hu]
          rw [show D + (d + 1) = (D + d) + 1 from rfl, run_equalIn_struct w (D + d) t _ _ (by rw [hf]; exact hu) (by simpa using hst), hf]
          exact eqFields_ok w ih D _ _ fs.toList 0 ks r hk (Nat.zero_le _) (Nat.zero_le _) (by simpa using hc)
      case array n e =>
        simp only [hu] at hk
        split at hk
        · rename_i i k1 hi hk1
          split at hk
          · rename_i hs
            cases hk
            obtain ⟨rfl, rfl⟩ := row (by simp [rowT, hu])
            rw [show D + (d + 1) = (D + d) + 1 from rfl, run_equalIn_array w (D + d) _ _ hu hi]
            have := eqItems_ok w ih D hi hk1 hs xs.toArray ys.toArray n 0 r (by simp) (by simp) (by simpa using hc)
            rw [List.range_eq_range', show P.cellsOf e = i.size from by simp [Program.cellsOf, hi]]
            exact this
          · cases hk
        · cases hk
      all_goals (simp [hu] at hk; done)
end

def scalarB : AVal → Bool
  | .int _ _ | .bool _ | .str _ => true
  | _ => false
theorem cellsEq_scalar : ∀ {ks : List CK} {xs ys : List AVal} {r : Bool}, cellsEq ks xs ys = some r → xs.all scalarB = true ∧ ys.all scalarB = true
  | [], [], [], _, _ => ⟨rfl, rfl⟩
  | k :: ks, x :: xs, y :: ys, r, h => by
    simp only [cellsEq] at h
    split at h
    · rename_i a ha
      split at h
      · rename_i hb
        obtain ⟨h1, h2⟩ := cellsEq_scalar hb
        have : scalarB x = true ∧ scalarB y = true := by
          unfold cellEq at ha
          split at ha <;> first | exact ⟨rfl, rfl⟩ | cases ha
        simp [h1, h2, this]
      · cases h
    · cases h
  | [], _ :: _, _, _, h => by simp [cellsEq] at h
  | [], [], _ :: _, _, h => by simp [cellsEq] at h
  | _ :: _, [], _, _, h => by simp [cellsEq] at h
  | _ :: _, _ :: _, [], _, h => by simp [cellsEq] at h
theorem abs_of {μ : Nat → Loc} {w : World} {S : Nat → Prop} {cs : List AVal} {a : Array Value} (hs : cs.all scalarB = true) (hl : cs.length = a.size) (h : ∀ (j : Nat) (c : AVal) (u : Value), cs[j]? = some c → a[j]? = some u → VR μ w S c u) : a.toList.map absV = cs := by
  apply List.ext_getElem?
  intro j
  rw [List.getElem?_map]
  rcases Nat.lt_or_ge j cs.length with hj | hj
  · have hj2 : j < a.size := by omega
    have e1 : a.toList[j]? = some a[j] := by simp [hj2]
    rw [e1, List.getElem?_eq_getElem hj]
    have hv := h j cs[j] a[j] (List.getElem?_eq_getElem hj) (Array.getElem?_eq_getElem hj2)
    rw [List.all_eq_true] at hs
    have hsc := hs _ (List.getElem_mem hj)
    generalize cs[j] = c at hv hsc
    cases c <;> simp [scalarB] at hsc
    · rw [hv.bool_inv]; rfl
    · rw [hv.int_inv]; rfl
    · obtain ⟨s, e, rfl⟩ := hv.str_inv; rw [e]; rfl
  · rw [List.getElem?_eq_none hj, List.getElem?_eq_none (by simp; omega)]
    rfl

end AM
end Go.Proofs.Ytfelhbeiegppgaa
