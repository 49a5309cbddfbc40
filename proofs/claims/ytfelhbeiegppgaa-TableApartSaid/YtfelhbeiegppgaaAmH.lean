/-
  Blocks of the call's own: written, made of literals and zeros; new numbers.
-/
import Derived.Test.YtfelhbeiegppgaaAmG
import Derived.Great.BuildSlice
set_option linter.unusedVariables false
set_option linter.unusedSimpArgs false
namespace Go.Proofs.Ytfelhbeiegppgaa
namespace AM

section
variable {P : Program} {μ μ' : Nat → Loc} {w w' : World} {S S' : Nat → Prop} {hp : Heap}

theorem one_eq (v : Value) : v.oneCell' = oneV v := by cases v <;> rfl

theorem row_lt {e i i' j : Nat} (hj : j < e) (h : i < i') : i * e + j < i' * e := by
  have : (i + 1) * e ≤ i' * e := Nat.mul_le_mul_right e h
  rw [Nat.add_mul] at this
  omega
theorem row_inj {e i i' j j' : Nat} (hj : j < e) (hj' : j' < e) (h : i * e + j = i' * e + j') : i = i' ∧ j = j' := by
  rcases Nat.lt_trichotomy i i' with h1 | h1 | h1
  · have := row_lt hj h1; omega
  · subst h1; exact ⟨rfl, by omega⟩
  · have := row_lt hj' h1; omega

/-- cells in a row of cells, written -/
theorem splice_get {α : Type} {l vs : List α} {p : Nat} (h : p + vs.length ≤ l.length) (q : Nat) :
    (l.take p ++ vs ++ l.drop (p + vs.length))[q]? = if p ≤ q ∧ q < p + vs.length then vs[q - p]? else l[q]? := by
  by_cases h1 : q < p
  · rw [List.append_assoc, List.getElem?_append_left (by simp; omega), List.getElem?_take, if_pos h1, if_neg (by omega)]
  · by_cases h2 : q < p + vs.length
    · rw [if_pos (by omega), List.append_assoc, List.getElem?_append_right (by simp; omega), List.getElem?_append_left (by simp; omega)]
      congr 1; simp; omega
    · rw [if_neg (by omega), List.getElem?_append_right (by simp; omega), List.getElem?_drop]
      congr 1; simp; omega

theorem put_rep (r : HRep μ w S hp) {b i f m n : Nat} {k : Blk} {y us : List AVal} {cells : Array Value} {t : TypeId} {vs : List Value} (hk : hp.get b = some k) (hμ : μ b = .here m n k.e) (hh : w.heap[m]? = some (.cells cells t (0, 0)))
    (hy : k.elems[i]? = some y) (hf : f + us.length ≤ y.length) (hl : vs.length = us.length) (hv : ∀ (j : Nat) (c : AVal) (u : Value), us[j]? = some c → vs[j]? = some u → Blk.R μ w S k.flat c u) :
    i * k.e + f + vs.length ≤ cells.size ∧
    HRep μ (w.setRow m (cells.toList.take (i * k.e + f) ++ vs ++ cells.toList.drop (i * k.e + f + vs.length)).toArray) S (hp.set b (.live ⟨k.e, k.flat, k.elems.set i (putAt y f us)⟩)) ∧
    Ext μ S w μ S (w.setRow m (cells.toList.take (i * k.e + f) ++ vs ++ cells.toList.drop (i * k.e + f + vs.length)).toArray) := by
  have hb := r.live b k hk
  rw [hμ] at hb
  obtain ⟨_, hn, hx, cells', t', hh', hs, hc⟩ := hb
  rw [hh] at hh'
  cases hh'
  have hil := (List.getElem?_eq_some_iff.1 hy).1
  have hye := hx i y hy
  have hfit : i * k.e + f + vs.length ≤ cells.size := by
    rw [hs, hl]
    have : (i + 1) * k.e ≤ n * k.e := Nat.mul_le_mul_right _ (by omega)
    rw [Nat.add_mul] at this
    omega
  have hown : Owned μ m := ⟨b, n, k.e, hμ⟩
  have hS : ∀ q, S q → (w.setRow m (cells.toList.take (i * k.e + f) ++ vs ++ cells.toList.drop (i * k.e + f + vs.length)).toArray).heap[q]? = w.heap[q]? := fun q hq =>
    setRow_other w m q _ (fun e => r.apart m hown (by rw [← e]; exact hq))
  have hblt : b < hp.length := Heap.get_lt hk
  refine ⟨hfit, ?_, ?_⟩
  · constructor
    · intro b' k' hb'
      rw [Heap.get_set] at hb'
      split at hb'
      · rename_i h
        obtain ⟨rfl, _⟩ := h
        cases hb'
        rw [hμ]
        refine ⟨rfl, by simpa using hn, fun i' x hi' => ?_, _, t, setRow_heap w m cells _ t (0, 0) hh, by simp; omega, fun i' x j c hi' hj => ?_⟩
        · simp only [List.getElem?_set] at hi'
          split at hi'
          · simp only [hil, if_true, Option.some.injEq] at hi'
            subst hi'
            rw [putAt_length hf]
            exact hye
          · exact hx i' x hi'
        · simp only [List.getElem?_set] at hi'
          show ∃ v, (List.toArray _)[i' * k.e + j]? = some v ∧ _
          rw [List.getElem?_toArray, splice_get (by simp; omega)]
          split at hi'
          · rename_i hii
            subst hii
            simp only [hil, if_true, Option.some.injEq] at hi'
            subst hi'
            have hj' := hj
            rw [putAt_get hf] at hj'
            split at hj'
            · rename_i hcond
              rw [if_pos (by omega)]
              have h3 : (vs[i * k.e + j - (i * k.e + f)]?) = some (vs[j - f]'(by omega)) := by
                rw [show i * k.e + j - (i * k.e + f) = j - f by omega, List.getElem?_eq_getElem]
              rw [h3]
              exact ⟨_, rfl, (hv (j - f) c _ hj' (List.getElem?_eq_getElem _)).mono (Up.refl _) hS (fun _ h => h)⟩
            · rename_i hcond
              rw [if_neg (by omega)]
              obtain ⟨v, hv', hr⟩ := hc i y j c hy hj'
              exact ⟨v, by simpa using hv', hr.mono (Up.refl _) hS (fun _ h => h)⟩
          · rename_i hii
            have hjl := (List.getElem?_eq_some_iff.1 hj).1
            rw [hx i' x hi'] at hjl
            have hne : ¬ (i * k.e + f ≤ i' * k.e + j ∧ i' * k.e + j < i * k.e + f + vs.length) := by
              intro hcond
              rcases Nat.lt_or_gt_of_ne hii with h4 | h4
              · have := row_lt (e := k.e) (i := i) (i' := i') (j := f + us.length - 1) (by omega) h4
                omega
              · have := row_lt hjl h4
                omega
            rw [if_neg hne]
            obtain ⟨v, hv', hr⟩ := hc i' x j c hi' hj
            exact ⟨v, by simpa using hv', hr.mono (Up.refl _) hS (fun _ h => h)⟩
      · rename_i h
        have hne : b' ≠ b := fun e => h ⟨e.symm, hblt⟩
        exact (r.live b' k' hb').mono (Up.refl _) hS (fun _ h => h) (fun m' n' e' he => setRow_other w m m' _ (fun e => hne (r.inj b' b m n' n e' k.e (by rw [← e]; exact he) hμ)))
    · intro b' hb'
      rw [Heap.get_set] at hb'
      split at hb'
      · cases hb'
      · exact r.gone b' hb'
    · intro b' hb'
      refine r.free b' ?_
      rw [Heap.isFree_set] at hb'
      rcases hb' with hb' | hb'
      · split at hb'
        · cases hb'
        · exact .inl hb'
      · exact .inr (by simpa using hb')
    · exact r.inj
    · exact r.apart
    · intro q hq; simpa using r.inS q hq
    · exact r.gl.mono hS (fun _ h => h)
  · exact ⟨rfl, rfl, rfl, by simp, fun q hq ho => setRow_other w m q _ (fun e => ho (by rw [e]; exact hown)), fun _ h => h, fun _ h => .inl h, fun _ h => .inl h⟩

/-- what settling leaves -/
theorem settle_sound (r : HRep μ w S hp) {flat : Bool} {cs us : List AVal} {hp1 : Heap} {vs : Array Value} (hc : Cells μ w S cs vs) (hb : cs.all AVal.cellB = true) (h : settle hp flat cs = some (us, hp1)) :
    ∃ μ1 S1, HRep μ1 w S1 hp1 ∧ Ext μ S w μ1 S1 w ∧ Up μ μ1 ∧ us.length = cs.length ∧ (∀ b, hp1.get b ≠ none → μ1 b = μ b ∧ hp1.get b = hp.get b) ∧
      ∀ (j : Nat) (c : AVal) (u : Value), us[j]? = some c → vs[j]? = some u → Blk.R μ1 w S1 flat c u := by
  unfold settle at h
  split at h
  · rename_i hf
    split at h
    · rename_i us' l hall
      simp only [Option.some.injEq, Prod.mk.injEq] at h
      obtain ⟨rfl, rfl⟩ := h
      obtain ⟨h1, h2⟩ := kill_rep r l
      obtain ⟨hl, hg⟩ := allOn_get hall
      refine ⟨die μ l, With S μ l, h1, h2, die_up l, hl, fun b hb => ?_, fun j c u hj hu => ?_⟩
      · rw [kill_get] at hb ⊢
        split at hb
        · exact absurd rfl hb
        · rename_i hbl; rw [if_neg hbl]; exact ⟨die_out hbl, rfl⟩
      · obtain ⟨c0, li, h3, h4, h5⟩ := hg j c hj
        have hir := (viewP_sound r DEEP c0 c li u (hc.2 j c0 u h3 hu) h4).later (With.mono h5)
        exact ⟨by rw [if_pos hf]; exact hir, hir.one⟩
    · cases h
  · rename_i hf
    simp only [Option.some.injEq, Prod.mk.injEq] at h
    obtain ⟨rfl, rfl⟩ := h
    refine ⟨μ, S, r, Ext.refl _ _ _, Up.refl _, rfl, fun b hb => ⟨rfl, rfl⟩, fun j c u hj hu => ?_⟩
    have hcb : c.cellB = true := List.all_eq_true.1 hb c (List.mem_of_getElem? hj)
    exact ⟨by rw [if_neg hf]; exact hc.2 j c u hj hu, (hc.2 j c u hj hu).one hcb⟩

theorem store_sound (r : HRep μ w S hp) {t : TypeId} {n : Nat} {a x : AVal} {ca cx : Value} {hp' : Heap} (hs : szB P t n = true) (ha : VR μ w S a ca) (hx : VR μ w S x cx) (h : storeVal hp n a x = some hp') :
    ∃ w' μ1 S1, (Instr.storeAt t ca cx).run P w = .ok () w' ∧ HRep μ1 w' S1 hp' ∧ Ext μ S w μ1 S1 w' ∧ Up μ μ1 := by
  unfold storeVal at h
  split at h
  · rename_i b i f
    split at h
    · rename_i k hk
      split at h
      · rename_i hcond
        have hcells := Cells.of hx hcond.2
        split at h
        · rename_i us hp1 hset
          obtain ⟨μ1, S1, r1, x1, u1, hul, hget, hR⟩ := settle_sound r hcells hcond.2 hset
          split at h
          · rename_i k1 hk1
            obtain ⟨hμ1, hk1'⟩ := hget b (by rw [hk1]; simp)
            rw [hk1, hk] at hk1'
            cases hk1'
            split at h
            · rename_i y hy
              split at h
              · rename_i hf
                simp only [Option.some.injEq] at h
                subst h
                have hb1 := r1.live b k hk1
                have hp := ha.ptr_inv
                cases hμ : μ b with
                | free => rw [hμ1, hμ] at hb1; exact hb1.elim
                | dead => rw [hμ1, hμ] at hb1; exact hb1.elim
                | void => rw [hμ1, hμ] at hb1; have hb1 : k.elems = [] := hb1; rw [hb1] at hy; simp at hy
                | here m nn e =>
                  rw [hμ] at hp
                  have hp : ca = _ := hp
                  subst hp
                  rw [hμ1, hμ] at hb1
                  obtain ⟨rfl, hn, hxl, cells, tt, hh, hsz, hcc⟩ := hb1
                  have hlen : cx.cells.toList.length = us.length := by rw [hul, ← hcells.1.symm]; simp
                  obtain ⟨hfit, r2, x2⟩ := put_rep r1 (vs := cx.cells.toList) (us := us) (f := f) hk1 (by rw [hμ1, hμ]) hh hy (by rw [hul, hcond.1]; exact hf) hlen (fun j c u hj hu => hR j c u hj (by simpa using hu))
                  refine ⟨_, μ1, S1, ?_, r2, x1.trans x2, u1⟩
                  have hrun := run_storeCells_at P m (i * k.e + f) tt cx.cells.toList 0 cells w hh (by simpa using hfit) (fun v hv => by
                    obtain ⟨j, hj⟩ := List.getElem?_of_mem hv
                    have hjl := (List.getElem?_eq_some_iff.1 hj).1
                    rw [one_eq]
                    exact (hR j _ v (List.getElem?_eq_getElem (by omega)) (by simpa using hj)).2)
                  simp only [Nat.add_zero] at hrun
                  have hsize : cx.cells.size = n := by rw [← hcells.1]; exact hcond.1
                  have e1 : (Instr.storeAt t (.pointer (some ⟨m, i * k.e + f, none⟩)) cx).run P w = (storeCells ⟨m, i * k.e + f, none⟩ cx.cells.toList).run P w := by
                    simp [Instr.storeAt, Instr.sureAddr, storeVar, run_sizeOf hs, hsize]
                  rw [e1]
                  exact hrun
              · cases h
            · cases h
          · cases h
        · cases h
      · cases h
    · cases h
  · cases h

end

end AM
end Go.Proofs.Ytfelhbeiegppgaa
