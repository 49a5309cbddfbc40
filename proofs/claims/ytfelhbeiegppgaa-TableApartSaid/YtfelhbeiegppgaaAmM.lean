/-
  One operation, whichever it is; regions in the order of the text.
-/
import Derived.Test.YtfelhbeiegppgaaAmL
set_option linter.unusedVariables false
set_option linter.unusedSimpArgs false
namespace Go.Proofs.Ytfelhbeiegppgaa
namespace AM

section
variable {P : Program} {μ μ' : Nat → Loc} {w w' : World} {S S' : Nat → Prop} {hp : Heap} {K : Oracle}

def chkLoad (P : Program) (op : Op) (ao : AOp) : Bool :=
  match op, ao with
  | .load t x, .load agg n x' => szB P t n && aggB P t agg && (agg || n == 1) && chkOpd x x'
  | .convert s d x, .load agg n x' => (match P.underlying s with | some (.slice e) => (match P.underlying e with | some (.int .u8) => true | _ => false) | _ => false) && (match P.underlying d with | some .string => true | _ => false) && !agg && n == 0 && chkOpd x x'
  | _, _ => false
def chkStore (P : Program) (op : Op) (ao : AOp) : Bool :=
  match op, ao with
  | .store t x y, .store n x' y' => szB P t n && chkOpd x x' && chkOpd y y'
  | _, _ => false
def chkSliceArr (P : Program) (op : Op) (ao : AOp) : Bool :=
  match op, ao with
  | .slice t x none none none, .sliceArr n e x' => (match P.underlying t with | some (.array m el) => m == n && szB P el e | _ => false) && chkOpd x x' && e != 0
  | _, _ => false

/-- an operation that never gives anything: it may stand for any operation -/
def isStop : AOp → Bool
  | .un .not (.const .undef) => true
  | _ => false
theorem stop_pure {r : Opd → AVal} (hk : ∀ c, r (.const c) = c) {ao : AOp} (h : isStop ao = true) : isPure ao = true ∧ pureOp ao r = none := by
  unfold isStop at h
  split at h
  · exact ⟨rfl, by simp [pureOp, hk, unop]⟩
  · cases h
def chkOp (P : Program) (op : Op) (ao : AOp) : Bool :=
  if isStop ao then true
  else if isPure ao then chkPure P op ao
  else if isNew ao then chkNew P op ao
  else match ao with
    | .load .. => chkLoad P op ao
    | .store .. => chkStore P op ao
    | .append .. => chkAppend P op ao
    | .sliceArr .. => chkSliceArr P op ao
    | .call .. => chkCall op ao
    | _ => false

def chkGuard (ops : Array Oper) (g : Option (Nat × Bool)) (g' : Option (Nat × Bool)) : Bool :=
  match g, g' with
  | none, none => true
  | some (j, want), some (t, want') => ((ops[j]?).bind (·.dst)) == some t && want == want'
  | _, _ => false

def chkOper (P : Program) (ops : Array Oper) (o : Oper) (ao : AOper) : Bool := o.dst == ao.dst && chkGuard ops o.guard ao.guard && chkOp P o.op ao.op

theorem chunks_get : ∀ (n e : Nat) (cs : List AVal), n * e ≤ cs.length → (chunks e n cs).length = n ∧ ∀ (i : Nat) (x : List AVal), (chunks e n cs)[i]? = some x → x.length = e ∧ ∀ (j : Nat) (c : AVal), x[j]? = some c → cs[i * e + j]? = some c
  | 0, e, cs, _ => ⟨rfl, by simp [chunks]⟩
  | n + 1, e, cs, h => by
    have h' : e + n * e ≤ cs.length := by rw [Nat.add_mul] at h; omega
    obtain ⟨h1, h2⟩ := chunks_get n e (cs.drop e) (by simp; omega)
    refine ⟨by simp [chunks, h1], fun i x hi => ?_⟩
    cases i with
    | zero =>
      simp [chunks] at hi
      subst hi
      refine ⟨by simp; omega, fun j c hj => ?_⟩
      rw [List.getElem?_take] at hj
      split at hj
      · rw [Nat.zero_mul, Nat.zero_add]; exact hj
      · cases hj
    | succ i =>
      simp [chunks] at hi
      obtain ⟨h3, h4⟩ := h2 i x hi
      refine ⟨h3, fun j c hj => ?_⟩
      have := h4 j c hj
      rw [List.getElem?_drop] at this
      rw [← this]
      congr 1
      rw [Nat.add_mul]
      omega

theorem sliceArr_sound (r : HRep μ w S hp) {ρ : Operand → Value} {rr : Opd → AVal} (hρ : ∀ x y, chkOpd x y = true → VR μ w S (rr y) (ρ x)) {o : Oper} {n e : Nat} {x' : Opd} {v : AVal} {hp' : Heap} (hc : chkSliceArr P o.op (.sliceArr n e x') = true)
    (h : sliceArrVal hp n e (rr x') = some (v, hp')) : Makes P μ w S (execOp ρ o) v hp' := by
  obtain ⟨dst, op, ty, pos, aft, guard⟩ := o
  simp only at hc
  unfold chkSliceArr at hc
  split at hc
  case h_2 => cases hc
  rename_i t x n0 e0 x0 heq
  cases heq
  simp only [Bool.and_eq_true, bne_iff_ne] at hc
  obtain ⟨⟨h1, h2⟩, h3⟩ := hc
  split at h1
  case h_2 => cases h1
  rename_i m el hu
  simp only [Bool.and_eq_true, beq_iff_eq] at h1
  obtain ⟨rfl, h1⟩ := h1
  unfold sliceArrVal at h
  split at h
  case h_2 => cases h
  rename_i cs off l hv
  split at h
  case isFalse => cases h
  rename_i hl
  simp only [Option.some.injEq, Prod.mk.injEq] at h
  obtain ⟨rfl, rfl⟩ := h
  have hir := viewP_sound r DEEP _ _ l _ (hρ _ _ h2) hv
  obtain ⟨r1, x1⟩ := kill_rep r l
  generalize hcx : ρ x = cx at hir
  cases hir with
  | iptr cs off mm oo g hm hcell hsub =>
  obtain ⟨hlen, hget⟩ := chunks_get m e (cs.drop off) (by simp; omega)
  refine ⟨.slice (some ⟨mm, oo + off, none⟩) m m, w, die μ l, With S μ l, ?_, r1, x1, die_up l, .imm _ _ ?_⟩
  · have hb : (Instr.sliceBounds false m m none none none).run P w = .ok (0, m, m) w := run_bounds (.inl ⟨rfl, rfl⟩) (.inl ⟨rfl, rfl, rfl⟩) (.inl ⟨rfl, rfl⟩) (Nat.zero_le _) (Nat.le_refl _) (Nat.le_refl _)
    simp [execOp, hcx, Instr.sliceAt, run_underlying hu, Instr.sureAddr, hb, run_sizeOf h1, add_mk]
  · have key := IR.imm (w := w) (S := With S μ l) e (chunks e m (cs.drop off)) (some ⟨mm, oo + off, none⟩) m (fun i j => g (off + (i * e + j))) (by omega) (fun hh => by cases hh) (fun i x hi => (hget i x hi).1) (fun i x j c hi hj => by
      have := (hget i x hi).2 j c hj
      rw [List.getElem?_drop] at this
      refine ⟨mm, oo + off, rfl, hm, ?_⟩
      rw [Nat.add_assoc]
      exact hcell _ _ this) (fun i x j c hi hj => by
      have := (hget i x hi).2 j c hj
      rw [List.getElem?_drop] at this
      exact hsub _ _ this)
    rw [hlen] at key
    exact key

/-- the state stands for the frame and the memory -/
structure Rep (μ : Nat → Loc) (w : World) (S : Nat → Prop) (st : St) (a : Act) : Prop where
  tmps : Tmps μ w S st.tmps a
  heap : HRep μ w S st.heap

theorem eff_sound (hK : Valid P K) {a : Act} {tmps : List AVal} (ht : Tmps μ w S tmps a) (r : HRep μ w S hp) {o : Oper} {ao : AOper} {base : Nat} {v : AVal} {hp' : Heap} (hc : chkOp P o.op ao.op = true)
    (h : effOp K base ao (look tmps) hp = some (v, hp')) (next : Act → World → Prop) (Q : Exit → Act → World → Prop)
    (hnext : ∀ cv w' μ1 S1, HRep μ1 w' S1 hp' → Ext μ S w μ1 S1 w' → Up μ μ1 → VR μ1 w' S1 v cv → next (a.put o.dst cv) w') : o.wp P a w next Q := by
  have hρ : ∀ x y, chkOpd x y = true → VR μ w S (look tmps y) (a.eval x) := fun x y hxy => ht.look r.gl hxy
  have made : Makes P μ w S (execOp a.eval o) v hp' → o.wp P a w next Q := fun ⟨cv, w', μ1, S1, hr, h1, h2, h3, h4⟩ => by
    unfold Oper.wp
    rw [hr]
    exact hnext cv w' μ1 S1 h1 h2 h3 h4
  unfold effOp at h
  split at h
  case isFalse => cases h
  unfold eff0 at h
  unfold chkOp at hc
  by_cases hst : isStop ao.op = true
  · obtain ⟨s1, s2⟩ := stop_pure (r := look tmps) (fun c => rfl) hst
    rw [if_pos s1, s2] at h
    cases h
  rw [if_neg hst] at hc
  split at h
  · rename_i hp
    rw [if_pos hp] at hc
    simp only [Option.map_eq_some_iff] at h
    obtain ⟨v0, hv0, heq⟩ := h
    simp only [Prod.mk.injEq] at heq
    obtain ⟨rfl, rfl⟩ := heq
    obtain ⟨cv, hr, hcv⟩ := pure_sound hρ (fun c => rfl) (fun c => rfl) hc hv0
    exact made ⟨cv, w, μ, S, hr, r, Ext.refl _ _ _, Up.refl _, hcv⟩
  · rename_i hp
    rw [if_neg hp] at hc
    split at h
    · rename_i hn
      rw [if_pos hn] at hc
      split at h
      · rename_i hf
        simp only [Option.map_eq_some_iff] at h
        obtain ⟨⟨v0, k⟩, hv0, heq⟩ := h
        simp only [Prod.mk.injEq] at heq
        obtain ⟨rfl, rfl⟩ := heq
        exact made (new_sound r hρ hc hf hv0)
      · cases h
    · rename_i hn
      rw [if_neg hn] at hc
      split at h
      · -- load
        rename_i agg n x' hop
        split at h
        · simp only [Option.map_eq_some_iff] at h
          obtain ⟨v0, hv0, heq⟩ := h
          simp only [Prod.mk.injEq] at heq
          obtain ⟨rfl, rfl⟩ := heq
          rw [hop] at hc
          simp only at hc
          obtain ⟨dst, op, ty, pos, aft, guard⟩ := o
          simp only at hc
          unfold chkLoad at hc
          split at hc
          · rename_i t x agg1 n1 x1 heq
            cases heq
            simp only [Bool.and_eq_true, Bool.or_eq_true, beq_iff_eq] at hc
            obtain ⟨⟨⟨h1, h2⟩, h3⟩, h4⟩ := hc
            obtain ⟨cv, hr, hcv⟩ := load_sound (P := P) r h1 h2 (hρ _ _ h4) hv0 h3
            exact made ⟨cv, w, μ, S, by simp [execOp, hr], r, Ext.refl _ _ _, Up.refl _, hcv⟩
          · rename_i s d x agg1 n1 x1 heq
            cases heq
            simp only [Bool.and_eq_true, beq_iff_eq, Bool.not_eq_true'] at hc
            obtain ⟨⟨⟨⟨h1, h2⟩, rfl⟩, rfl⟩, h4⟩ := hc
            split at h1
            · rename_i el hs
              split at h1
              · rename_i he
                split at h2
                · rename_i hd
                  obtain ⟨cv, hr, hcv⟩ := str_sound (P := P) r hs he hd (hρ _ _ h4) hv0
                  exact made ⟨cv, w, μ, S, by simp [execOp, hr], r, Ext.refl _ _ _, Up.refl _, hcv⟩
                · cases h2
              · cases h1
            · cases h1
          · cases hc
        · cases h
      · -- store
        rename_i n x' y' hop
        split at h
        · simp only [Option.map_eq_some_iff] at h
          obtain ⟨h0, hv0, heq⟩ := h
          simp only [Prod.mk.injEq] at heq
          obtain ⟨rfl, rfl⟩ := heq
          rw [hop] at hc
          simp only at hc
          obtain ⟨dst, op, ty, pos, aft, guard⟩ := o
          simp only at hc hnext made
          unfold chkStore at hc
          split at hc
          · rename_i t x y n1 x1 y1 heq
            cases heq
            simp only [Bool.and_eq_true] at hc
            obtain ⟨⟨h1, h2⟩, h3⟩ := hc
            obtain ⟨w', μ1, S1, hr, r1, x1, u1⟩ := store_sound (P := P) r h1 (hρ _ _ h2) (hρ _ _ h3) hv0
            have hrun : (execOp a.eval ⟨dst, .store t x y, ty, pos, aft, guard⟩).run P w = .ok .skip w' := by simp [execOp, hr]
            unfold Oper.wp
            rw [hrun]
            exact hnext undef w' μ1 S1 r1 x1 u1 (.undef _)
          · cases hc
        · cases h
      · -- append
        rename_i e bytes flat s' x' hop
        split at h
        · rw [hop] at hc
          simp only at hc
          exact made (append_sound r hρ hc h)
        · cases h
      · -- a slice of an array
        rename_i n e x' hop
        split at h
        · rw [hop] at hc
          simp only at hc
          exact made (sliceArr_sound r hρ hc h)
        · cases h
      · -- a call
        rename_i f' args' quiet room hop
        split at h
        · rw [hop] at hc
          simp only at hc
          exact call_sound hK r hρ hc h next Q hnext
        · cases h
      · cases h

theorem Tmps.put {a : Act} {tmps : List AVal} (ht : Tmps μ w S tmps a) (r : HRep μ w S hp) {d : Option Nat} {v : AVal} {cv : Value} (x : Ext μ S w μ' S' w') (u : Up μ μ') (hv : VR μ' w' S' v cv) : Tmps μ' w' S' (setTmp tmps d v) (a.put d cv) := by
  cases d with
  | none => exact ⟨ht.size, fun t c hc => (ht.vr t c hc).ext r x u, ht.defers⟩
  | some d =>
    refine ⟨by simp [setTmp, Act.put, ht.size], fun t c hc => ?_, ht.defers⟩
    simp only [setTmp, List.getElem?_set] at hc
    simp only [Act.put, Array.getD_eq_getD_getElem?, Array.getElem?_setIfInBounds]
    split at hc
    · rename_i hd
      subst hd
      split at hc
      · rename_i hl
        simp only [Option.some.injEq] at hc
        subst hc
        rw [if_pos rfl, if_pos (by rw [← ht.size]; exact hl)]
        exact hv
      · cases hc
    · rename_i hd
      rw [if_neg hd]
      have := (ht.vr t c hc).ext r x u
      simpa [Array.getD_eq_getD_getElem?] using this

/-- one operation with its guard -/
theorem runOp_sound (hK : Valid P K) {ops : Array Oper} {a : Act} {st st' : St} (rep : Rep μ w S st a) {o : Oper} {ao : AOper} {base : Nat} (hc : chkOper P ops o ao = true) (h : runOp K base ao st = some st') (next : Act → World → Prop) (Q : Exit → Act → World → Prop)
    (hnext : ∀ a' w' μ1 S1, Rep μ1 w' S1 st' a' → Ext μ S w μ1 S1 w' → Up μ μ1 → st'.k = st.k → next a' w') : if Region.wanted o (yielded ops a.tmps) then o.wp P a w next Q else next (a.put o.dst undef) w := by
  unfold chkOper at hc
  simp only [Bool.and_eq_true, beq_iff_eq] at hc
  obtain ⟨⟨hd, hg⟩, hop⟩ := hc
  have go : (effOp K base ao (look st.tmps) st.heap).map (fun (x : AVal × Heap) => (⟨setTmp st.tmps ao.dst x.1, x.2, st.k⟩ : St)) = some st' → o.wp P a w next Q := fun he => by
    simp only [Option.map_eq_some_iff] at he
    obtain ⟨⟨v, hp'⟩, hev, rfl⟩ := he
    refine eff_sound hK rep.tmps rep.heap hop hev next Q fun cv w' μ1 S1 r1 x1 u1 hv => ?_
    refine hnext _ w' μ1 S1 ⟨?_, r1⟩ x1 u1 rfl
    rw [hd]
    exact rep.tmps.put rep.heap x1 u1 hv
  unfold runOp at h
  split at h
  · rename_i hag
    rw [hag] at hg
    have hog : o.guard = none := by unfold chkGuard at hg; split at hg <;> simp_all
    rw [if_pos (by simp [Region.wanted, hog])]
    exact go h
  · rename_i t want hag
    rw [hag] at hg
    unfold chkGuard at hg
    split at hg
    · cases ‹some _ = none›
    · rename_i j want1 t1 want2 hog heq
      cases heq
      simp only [Bool.and_eq_true, beq_iff_eq] at hg
      obtain ⟨hj, rfl⟩ := hg
      have atT : ∀ {c : AVal}, st.tmps.getD t .undef = c → c ≠ .undef → ∃ u, a.tmps[t]? = some u ∧ VR μ w S c u := fun {c} hc hne => by
        have hlt : t < st.tmps.length := by
          rcases Nat.lt_or_ge t st.tmps.length with h1 | h1
          · exact h1
          · rw [List.getD_eq_getElem?_getD, List.getElem?_eq_none h1] at hc; exact absurd hc.symm hne
        have hl2 : t < a.tmps.size := by rw [← rep.tmps.size]; exact hlt
        have hv := rep.tmps.vr t c (by rw [List.getD_eq_getElem?_getD, List.getElem?_eq_getElem hlt] at hc; rw [List.getElem?_eq_getElem hlt]; simpa using hc)
        rw [Array.getD_eq_getD_getElem?, Array.getElem?_eq_getElem hl2] at hv
        exact ⟨a.tmps[t], Array.getElem?_eq_getElem hl2, hv⟩
      have skip_ : some (⟨setTmp st.tmps ao.dst (.tup []), st.heap, st.k⟩ : St) = some st' → next (a.put o.dst undef) w := fun h => by
        simp only [Option.some.injEq] at h
        subst h
        refine hnext _ w μ S ⟨?_, rep.heap⟩ (Ext.refl _ _ _) (Up.refl _) rfl
        rw [hd]
        exact rep.tmps.put rep.heap (Ext.refl _ _ _) (Up.refl _) (.tup [] #[] rfl (by simp))
      split at h
      · rename_i b hb
        obtain ⟨u, hat, hv⟩ := atT hb (by simp)
        have hv := hv.bool_inv
        subst hv
        have hw : Region.wanted o (yielded ops a.tmps) = (b == want1) := by
          simp only [Region.wanted, hog, yielded, hj, Option.bind_some, hat]
          cases b <;> cases want1 <;> rfl
        rw [hw]
        split at h
        · rename_i hbw
          rw [if_pos (by simp [hbw])]
          exact go h
        · rename_i hbw
          rw [if_neg (by simpa using hbw)]
          exact skip_ h
      · rename_i hb
        obtain ⟨u, hat, hv⟩ := atT hb (by simp)
        obtain ⟨ar, rfl, hl, _⟩ := hv.tup_inv
        have hw : Region.wanted o (yielded ops a.tmps) = false := by
          simp only [Region.wanted, hog, yielded, hj, Option.bind_some, hat]
          rfl
        rw [hw, if_neg (by simp)]
        exact skip_ h
      · cases h
    · cases hg

/-- a region in the order of the text -/
theorem runOps_sound (hK : Valid P K) {ops : Array Oper} {base : Nat} {Q : Exit → Act → World → Prop} : ∀ (l : List Oper) (al : List AOper) (st st' : St) (a : Act) (w : World) (μ : Nat → Loc) (S : Nat → Prop), all2 (chkOper P ops) l al = true → Rep μ w S st a → runOps K base al st = some st' →
    (∀ a' w' μ1 S1, Rep μ1 w' S1 st' a' → Ext μ S w μ1 S1 w' → Up μ μ1 → st'.k = st.k → Q .normal a' w') → wpList P ops Q l a w
  | [], [], st, st', a, w, μ, S, _, rep, h, hq => by
    simp [runOps] at h
    subst h
    exact hq a w μ S rep (Ext.refl _ _ _) (Up.refl _) rfl
  | o :: l, ao :: al, st, st', a, w, μ, S, hc, rep, h, hq => by
    simp only [all2, Bool.and_eq_true] at hc
    simp only [runOps, Option.bind_eq_some_iff] at h
    obtain ⟨s1, h1, h2⟩ := h
    unfold wpList
    have := runOp_sound hK (ops := ops) rep hc.1 h1 (wpList P ops Q l) Q (fun a1 w1 μ1 S1 r1 x1 u1 hk1 =>
      runOps_sound hK l al s1 st' a1 w1 μ1 S1 hc.2 r1 h2 (fun a2 w2 μ2 S2 r2 x2 u2 hk2 => hq a2 w2 μ2 S2 r2 (x1.trans x2) (u1.trans u2) (hk2.trans hk1)))
    split
    · rename_i hw; rw [if_pos hw] at this; exact .inl this
    · rename_i hw; rw [if_neg hw] at this; exact this
  | [], ao :: al, _, _, _, _, _, _, hc, _, _, _ => by simp [all2] at hc
  | o :: l, [], _, _, _, _, _, _, hc, _, _, _ => by simp [all2] at hc

end

end AM
end Go.Proofs.Ytfelhbeiegppgaa
