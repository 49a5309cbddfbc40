/-
  Code of the machine of plain data, against the program's code.
-/
import Derived.Test.YtfelhbeiegppgaaNmM
set_option linter.unusedVariables false
set_option linter.unusedSimpArgs false
namespace Go.Proofs.Ytfelhbeiegppgaa
namespace NM
open AM

/-- temporary t keeps its value over the code -/
def keepsT (t : Nat) : NCode → Bool
  | .skip | .exit _ | .ret | .label | .goto _ => true
  | .region _ ops _ => ops.all fun o => !(o.dst == some t)
  | .seq a b => keepsT t a && keepsT t b
  | .cond _ a b => keepsT t a && keepsT t b
  | .block _ c => keepsT t c
  | .loop keep sh c => keep.contains t && sh.same.contains t && !(sh.tmps.any fun p => p.1 == t) && keepsT t c
  | .loopU keep _ c => keep.contains t && keepsT t c
  | .scope _ keep sh rest body => keep.contains t && sh.same.contains t && !(sh.tmps.any fun p => p.1 == t) && keepsT t rest && keepsT t body
  | .pre keep own c => keep.contains t && !(own.any (Adj.on t)) && keepsT t c
  | .join keep own sh c => sh.same.contains t && !(sh.tmps.any fun p => p.1 == t) && keepsT t c
  | .meet keep own sh c => sh.same.contains t && !(sh.tmps.any fun p => p.1 == t) && keepsT t c
  | .post keep own c => keep.contains t && !(own.any (Adj.on t)) && keepsT t c
  | .split _ _ _ c => keepsT t c

def chkSame (keep : List Nat) (sh : LSh) (c : NCode) : Bool := sh.same.all fun t => keep.contains t && !(sh.tmps.any fun p => p.1 == t) && keepsT t c

def chkN (P : Program) : NCode → Code → Bool
  | .skip, .skip => true
  | .region _ al _, .region _ ops d => if d then chkDraw P ops al else all2 (chkOper P ops) ops.toList al
  | .seq a b, .seq a' b' => chkN P a a' && chkN P b b'
  | .cond c a b, .cond c' a' b' => chkOpd c' c && chkN P a a' && chkN P b b'
  | .block id c, .block id' c' => id == id' && chkN P c c'
  | .loop keep sh c, .loop c' => chkSame keep sh c && chkN P c c'
  | .loopU _ _ c, .loop c' => chkN P c c'
  | .exit id, .exit id' => id == id'
  | .ret, .ret => true
  | .label, .label _ => true
  | .goto l, .goto l' => l == l'
  | .scope l keep sh rest body, .scope c => chkSame keep sh rest && chkN P body c && (match findLabel c l with | some r => chkN P rest r | none => false)
  | .pre _ _ c, c' => chkN P c c'
  | .post _ _ c, c' => chkN P c c'
  | .split _ _ _ c, c' => chkN P c c'
  | .join keep own sh c, c' => chkSame keep sh c && sh.same.all (fun t => !(own.any (Adj.on t))) && chkN P c c'
  | .meet keep own sh c, c' => chkSame keep sh c && sh.same.all (fun t => !(own.any (Adj.on t))) && chkN P c c'
  | _, _ => false

/-- rounds up to a number -/
def LN (N : Nat) : Lp := fun f s => loopN f N s

section
variable {P : Program} {K : Oracle} {N : Nat} {T : List Ent}

structure Fr (nc : NCode) (st st' : NSt) : Prop where
  len : st'.tmps.length = st.tmps.length
  same : ∀ t, keepsT t nc = true → nplain (st.tmps.getD t .undef) = true → st'.tmps.getD t .undef = st.tmps.getD t .undef

def NEnds (μ : Nat → AM.Loc) (w : World) (S : Nat → Prop) (k : Nat) (st' : NSt) (Q : Act → World → Prop) : Prop :=
  ∀ a' w' μ1 S1, NRep μ1 w' S1 st' a' → Ext μ S w μ1 S1 w' → KeepsK k μ μ1 → st'.k = k → Q a' w'

def NSound (P : Program) (T : List Ent) (N : Nat) (c : Code) (nc : NCode) : Prop :=
  ∀ (ω : Type) (st : NSt) (k : AExit → NSt → Option ω) (r : ω) (a : Act) (w : World) (μ : Nat → AM.Loc) (S : Nat → Prop) (Q : Exit → Act → World → Prop), NRep μ w S st a → nexec T (LN N) nc st k = some r →
    (∀ e st', k e st' = some r → Fr nc st st' → NEnds μ w S st.k st' (Q (exitOf e))) → c.wp P Q a w

theorem NRep.k_of {μ : Nat → AM.Loc} {w : World} {S : Nat → Prop} {st : NSt} {a : Act} (h : NRep μ w S st a) : True := trivial

theorem nregion_sound (hK : Valid P K) (hT : ∀ e ∈ T, EntOk K e) (hmix : P.follows .mixedOrders = true) {id ids : Nat} {ops : Array Oper} {al : List AOper} {hints : List Hint} {d : Bool} (hc : (if d then chkDraw P ops al else all2 (chkOper P ops) ops.toList al) = true) : NSound P T N (.region id ops d) (.region ids al hints) := by
  intro ω st k r a w μ S Q rep h hq
  obtain ⟨ast, hs, hg, rep⟩ := rep
  simp only [nexec] at h
  have hev : Evo st.heap (st.heap ++ List.replicate ids .free) := evo_append _
  have hs' : SR ⟨st.tmps, st.heap ++ List.replicate ids .free, st.k⟩ ⟨ast.tmps, ast.heap ++ List.replicate ids .free, ast.k⟩ :=
    ⟨hs.tmps.mono fun _ _ h => h.mono hev, (A2.mono (fun _ _ h => h.mono hev) hs.heap).append (A2.replicate ids .free), hs.k⟩
  obtain ⟨st1, ast1, h1, h2, h3, h4, h5, h6⟩ := nops_sound hT hs' h
  have rep' : Rep μ w S ⟨ast.tmps, ast.heap ++ List.replicate ids .free, ast.k⟩ a := ⟨rep.tmps, rep.heap.more ids⟩
  have fin : ∀ a' w' μ1 S1, Rep μ1 w' S1 ast1 a' → Ext μ S w μ1 S1 w' → Up μ μ1 → ast1.k = ast.k → Q .normal a' w' := fun a' w' μ1 S1 r1 x u hk => by
    obtain ⟨μ2, S2, rep2, x2, u2⟩ := nshut_rep h2 r1
    refine hq .normal ⟨st1.tmps, nshut st1.heap, st1.k⟩ h3 ⟨h6, fun t ht hp => h4 t fun o ho => ?_⟩ a' w' μ2 S2 rep2 (x.trans x2) (.of_up (u.trans u2)) h5
    simp only [keepsT, List.all_eq_true] at ht
    have := ht o ho
    simpa using this
  rw [hs.heap.1] at h1
  cases d with
  | true => exact draw_sound hK hmix hc rep' h1 fin
  | false => exact wp_region_list (runOps_sound hK ops.toList al _ ast1 a w μ S hc rep' h1 fin)

theorem nseq_sound {x y : Code} {x' y' : NCode} (hx : NSound P T N x x') (hy : NSound P T N y y') : NSound P T N (.seq x y) (.seq x' y') := by
  intro ω st k r a w μ S Q rep h hq
  simp only [nexec] at h
  refine wp_seq (hx ω st _ r a w μ S _ rep h fun e st1 hk fr a1 w1 μ1 S1 r1 x1 k1 hk1 => ?_)
  cases e with
  | normal =>
    simp only at hk
    refine hy ω st1 k r a1 w1 μ1 S1 Q r1 hk fun e2 st2 hk2 fr2 a2 w2 μ2 S2 r2 x2 k2 hk3 => ?_
    rw [hk1] at k2 hk3
    refine hq e2 st2 hk2 ⟨fr2.len.trans fr.len, fun t ht hp => ?_⟩ a2 w2 μ2 S2 r2 (x1.trans x2) (k1.trans k2) hk3
    simp only [keepsT, Bool.and_eq_true] at ht
    have e1 := fr.same t ht.1 hp
    exact (fr2.same t ht.2 (by rw [e1]; exact hp)).trans e1
  | exit i => exact hq _ st1 hk ⟨fr.len, fun t ht hp => fr.same t (by simp only [keepsT, Bool.and_eq_true] at ht; exact ht.1) hp⟩ a1 w1 μ1 S1 r1 x1 k1 hk1
  | ret => exact hq _ st1 hk ⟨fr.len, fun t ht hp => fr.same t (by simp only [keepsT, Bool.and_eq_true] at ht; exact ht.1) hp⟩ a1 w1 μ1 S1 r1 x1 k1 hk1
  | goto l => exact hq _ st1 hk ⟨fr.len, fun t ht hp => fr.same t (by simp only [keepsT, Bool.and_eq_true] at ht; exact ht.1) hp⟩ a1 w1 μ1 S1 r1 x1 k1 hk1

theorem nlit_same {tmps : List NVal} {c : Opd} {b : Bool} (h : nlook tmps c = .bool b) : nlit tmps c b = tmps := by
  cases c with
  | tmp t => exact set_same h (by simp)
  | _ => rfl
theorem ncond_sound {c : Operand} {c' : Opd} {x y : Code} {x' y' : NCode} (hc : chkOpd c c' = true) (hx : NSound P T N x x') (hy : NSound P T N y y') : NSound P T N (.cond c x y) (.cond c' x' y') := by
  intro ω st k r a w μ S Q rep h hq
  simp only [nexec] at h
  split at h
  · rename_i t ht
    have hv : VR μ w S (.bool t) (a.eval c) := by
      obtain ⟨ast, hs, hg, rep⟩ := rep
      have h1 := nlook_rel hs.tmps c'
      rw [ht] at h1
      rw [← h1.bool_inv]
      exact rep.tmps.look rep.heap.gl hc
    refine wp_cond (t := t) hv.bool_inv ?_
    cases t with
    | true =>
      simp only [cond_true] at h
      rw [nlit_same ht] at h
      exact hx ω st k r a w μ S Q rep h fun e st1 hk fr => hq e st1 hk ⟨fr.len, fun t ht hp => fr.same t (by simp only [keepsT, Bool.and_eq_true] at ht; exact ht.1) hp⟩
    | false =>
      simp only [cond_false] at h
      rw [nlit_same ht] at h
      exact hy ω st k r a w μ S Q rep h fun e st1 hk fr => hq e st1 hk ⟨fr.len, fun t ht hp => fr.same t (by simp only [keepsT, Bool.and_eq_true] at ht; exact ht.2) hp⟩
  · cases h

theorem nblock_sound {id : Nat} {c : Code} {c' : NCode} (hc : NSound P T N c c') : NSound P T N (.block id c) (.block id c') := by
  intro ω st k r a w μ S Q rep h hq
  simp only [nexec] at h
  refine wp_block (hc ω st _ r a w μ S _ rep h fun e st1 hk fr a1 w1 μ1 S1 r1 x1 k1 hk1 => ?_)
  have fr' : Fr (.block id c') st st1 := ⟨fr.len, fun t ht hp => fr.same t ht hp⟩
  cases e with
  | exit i =>
    simp only at hk
    simp only [exitOf, Exit.inBlock]
    split at hk
    · rename_i hi
      rw [if_pos hi]
      exact hq .normal st1 hk fr' a1 w1 μ1 S1 r1 x1 k1 hk1
    · rename_i hi
      rw [if_neg hi]
      exact hq (.exit i) st1 hk fr' a1 w1 μ1 S1 r1 x1 k1 hk1
  | normal => exact hq .normal st1 hk fr' a1 w1 μ1 S1 r1 x1 k1 hk1
  | ret => exact hq .ret st1 hk fr' a1 w1 μ1 S1 r1 x1 k1 hk1
  | goto l => exact hq (.goto l) st1 hk fr' a1 w1 μ1 S1 r1 x1 k1 hk1

theorem getL0_some {sh : LSh} {st : NSt} {x : sh.den} (h : getL0 sh st = some x) : getL sh st = some x ∧ ∀ t, sh.same.contains t = true → nplain (st.tmps.getD t .undef) = true := by
  unfold getL0 at h
  split at h
  · rename_i hs
    refine ⟨h, fun t ht => ?_⟩
    simp only [samesB, List.all_eq_true] at hs
    exact hs t (by simpa using ht)
  · cases h

theorem chkSame_get {keep : List Nat} {sh : LSh} {c : NCode} (h : chkSame keep sh c = true) {t : Nat} (ht : sh.same.contains t = true) : keep.contains t = true ∧ sh.tmps.any (fun p => p.1 == t) = false ∧ keepsT t c = true := by
  simp only [chkSame, List.all_eq_true] at h
  have := h t (by simpa using ht)
  simp only [Bool.and_eq_true, Bool.not_eq_true'] at this
  exact ⟨this.1.1, this.1.2, this.2⟩

/-- one more time to the head -/
theorem head_again {keep : List Nat} {sh : LSh} {c : NCode} (hch : chkSame keep sh c = true) {s0 s s' : NSt} {x x' : sh.den} {a : Act} {w : World} {μ : Nat → AM.Loc} {S : Nat → Prop} (hp0 : ∀ t, sh.same.contains t = true → nplain (s0.tmps.getD t .undef) = true)
    (fr : Fr c (putL sh s0 x) s) (hk : s.k = s0.k) (rep : NRep μ w S s a) (hn : nnorm keep s = some s') (hg : getL sh s' = some x') :
    ∃ μ1, NRep μ1 w S (putL sh s0 x') a ∧ Ext μ S w μ1 S w ∧ KeepsK s0.k μ μ1 := by
  obtain ⟨μ1, r1, x1, k1, e1, e2, e3⟩ := nnorm_rep rep hn
  rw [hk] at k1 e1
  refine ⟨μ1, putL_rep r1 hg e1 (e2.trans (fr.len.trans putL_length)) fun t ht => ?_, x1, k1⟩
  obtain ⟨c1, c2, c3⟩ := chkSame_get hch ht
  have f0 := putL_frame (st0 := s0) (x := x) ht c2
  have f1 := fr.same t c3 (by rw [f0]; exact hp0 t ht)
  rw [f0] at f1
  rw [e3 t c1 (by rw [f1]; exact hp0 t ht), f1]

theorem nloop_sound {keep : List Nat} {sh : LSh} {c : Code} {c' : NCode} (hch : chkSame keep sh c' = true) (hc : NSound P T N c c') : NSound P T N (.loop c) (.loop keep sh c') := by
  intro ω st k r a w μ S Q rep h hq
  simp only [nexec] at h
  split at h
  · rename_i s0 hn
    split at h
    · rename_i x hx
      obtain ⟨hx, hp0⟩ := getL0_some hx
      obtain ⟨μ0, r0, x0, k0, e1, e2, e3⟩ := nnorm_rep rep hn
      have hk0 : s0.k = st.k := e1
      have r0' : NRep μ0 w S (putL sh s0 x) a := putL_rep r0 hx rfl rfl fun _ _ => rfl
      have h : loopN (fun x next => nexec T (LN N) c' (putL sh s0 x) (headK keep sh next k)) N x = some r := h
      have key : ∀ (n : Nat) (x : sh.den) (a : Act) (w' : World) (μ1 : Nat → AM.Loc) (S1 : Nat → Prop), NRep μ1 w' S1 (putL sh s0 x) a → Ext μ S w μ1 S1 w' → KeepsK st.k μ μ1 →
          loopN (fun x next => nexec T (LN N) c' (putL sh s0 x) (headK keep sh next k)) n x = some r → Code.rounds P c Q n a w' := by
        intro n
        induction n with
        | zero => intro x a w' μ1 S1 _ _ _ h; simp [loopN] at h
        | succ n ih =>
          intro x a w1 μ1 S1 r1 x1 k1 h
          simp only [loopN] at h
          rw [rounds_succ]
          refine hc ω _ _ r a w1 μ1 S1 _ r1 h fun e s hk fr a2 w2 μ2 S2 r2 x2 k2 hk2 => ?_
          have hk2' : s.k = s0.k := hk2
          have k2' : KeepsK st.k μ1 μ2 := by rw [← hk0]; exact k2
          have fr' : Fr (.loop keep sh c') st s := ⟨fr.len.trans (putL_length.trans e2), fun t ht hp => by
            simp only [keepsT, Bool.and_eq_true, Bool.not_eq_true'] at ht
            obtain ⟨⟨⟨c1, c2⟩, c3⟩, c4⟩ := ht
            have f0 := e3 t c1 hp
            have f1 := putL_frame (st0 := s0) (x := x) c2 c3
            rw [f0] at f1
            rw [fr.same t c4 (by rw [f1]; exact hp), f1]⟩
          cases e with
          | normal =>
            simp only [headK] at hk
            split at hk
            · rename_i s' hs'
              rw [Option.bind_eq_some_iff] at hk
              obtain ⟨x', hx', hk⟩ := hk
              obtain ⟨μ3, r3, x3, k3⟩ := head_again hch hp0 fr hk2' r2 hs' hx'
              exact ih x' a2 w2 μ3 S2 r3 ((x1.trans x2).trans x3) ((k1.trans k2').trans (by rw [← hk0]; exact k3)) hk
            · cases hk
          | exit i => exact hq (.exit i) s hk fr' a2 w2 μ2 S2 r2 (x1.trans x2) (k1.trans k2') (hk2'.trans hk0)
          | ret => exact hq .ret s hk fr' a2 w2 μ2 S2 r2 (x1.trans x2) (k1.trans k2') (hk2'.trans hk0)
          | goto l => exact hq (.goto l) s hk fr' a2 w2 μ2 S2 r2 (x1.trans x2) (k1.trans k2') (hk2'.trans hk0)
      exact wp_loop_rounds N (key N x a w μ0 S r0' x0 k0 h)
    · cases h
  · cases h

theorem nloopU_sound {keep : List Nat} {n : Nat} {c : Code} {c' : NCode} (hc : NSound P T N c c') : NSound P T N (.loop c) (.loopU keep n c') := by
  intro ω st k r a w μ S Q rep h hq
  simp only [nexec] at h
  have key : ∀ (n : Nat) (s : NSt) (a : Act) (w' : World) (μ1 : Nat → AM.Loc) (S1 : Nat → Prop), NRep μ1 w' S1 s a → Ext μ S w μ1 S1 w' → KeepsK st.k μ μ1 → s.k = st.k → Fr (.loopU keep 0 c') st s →
      unroll keep (nexec T (LN N) c') n s k = some r → Code.rounds P c Q n a w' := by
    intro n
    induction n with
    | zero => intro s a w' μ1 S1 _ _ _ _ _ h; simp [unroll] at h
    | succ n ih =>
      intro s a w1 μ1 S1 r1 x1 k1 hk1 fr1 h
      simp only [unroll] at h
      split at h
      · rename_i s1 hn
        obtain ⟨μ0, r0, x0, k0, e1, e2, e3⟩ := nnorm_rep r1 hn
        rw [hk1] at k0 e1
        rw [rounds_succ]
        refine hc ω _ _ r a w1 μ0 S1 _ r0 h fun e s2 hk fr a2 w2 μ2 S2 r2 x2 k2 hk2 => ?_
        rw [e1] at k2 hk2
        have fr2 : ∀ nn, Fr (.loopU keep nn c') st s2 := fun nn => ⟨fr.len.trans (e2.trans fr1.len), fun t ht hp => by
          have f1 := fr1.same t ht hp
          simp only [keepsT, Bool.and_eq_true] at ht
          have f2 := e3 t ht.1 (by rw [f1]; exact hp)
          rw [f1] at f2
          rw [fr.same t ht.2 (by rw [f2]; exact hp), f2]⟩
        have x3 := (x1.trans x0).trans x2
        have k3 := (k1.trans k0).trans k2
        cases e with
        | normal => exact ih s2 a2 w2 μ2 S2 r2 x3 k3 hk2 (fr2 0) hk
        | exit i => exact hq (.exit i) s2 hk ⟨(fr2 0).len, (fr2 0).same⟩ a2 w2 μ2 S2 r2 x3 k3 hk2
        | ret => exact hq .ret s2 hk ⟨(fr2 0).len, (fr2 0).same⟩ a2 w2 μ2 S2 r2 x3 k3 hk2
        | goto l => exact hq (.goto l) s2 hk ⟨(fr2 0).len, (fr2 0).same⟩ a2 w2 μ2 S2 r2 x3 k3 hk2
      · cases h
  exact wp_loop_rounds n (key n st a w μ S rep (.refl _ _ _) (.refl _ _) rfl ⟨rfl, fun _ _ _ => rfl⟩ h)

theorem nscope_sound {l : Nat} {keep : List Nat} {sh : LSh} {c r : Code} {rest body : NCode} (hf : findLabel c l = some r) (hch : chkSame keep sh rest = true) (hr : NSound P T N r rest) (hb : NSound P T N c body) : NSound P T N (.scope c) (.scope l keep sh rest body) := by
  intro ω st k res a w μ S Q rep h hq
  simp only [nexec] at h
  refine wp_scope_passes l N hf (hb ω st _ res a w μ S _ rep h fun e s hk fr a1 w1 μ1 S1 r1 x1 k1 hk1 => ?_)
  have fr' : Fr (.scope l keep sh rest body) st s := ⟨fr.len, fun t ht hp => fr.same t (by simp only [keepsT, Bool.and_eq_true] at ht; exact ht.2) hp⟩
  cases e with
  | goto l' =>
    simp only [scopeK] at hk
    split at hk
    · rename_i hl
      refine ⟨hl, ?_⟩
      split at hk
      · rename_i s0 hn
        split at hk
        · rename_i x hx
          obtain ⟨hx, hp0⟩ := getL0_some hx
          obtain ⟨μ0, r0, x0, k0, e1, e2, e3⟩ := nnorm_rep r1 hn
          rw [hk1] at e1 k0
          have r0' : NRep μ0 w1 S1 (putL sh s0 x) a1 := putL_rep r0 hx rfl rfl fun _ _ => rfl
          have hk : loopN (fun x next => nexec T (LN N) rest (putL sh s0 x) (goK l keep sh next k)) N x = some res := hk
          have key : ∀ (n : Nat) (x : sh.den) (a : Act) (w' : World) (μ1 : Nat → AM.Loc) (S1 : Nat → Prop), NRep μ1 w' S1 (putL sh s0 x) a → Ext μ S w μ1 S1 w' → KeepsK st.k μ μ1 →
              loopN (fun x next => nexec T (LN N) rest (putL sh s0 x) (goK l keep sh next k)) n x = some res → passes P l r Q n a w' := by
            intro n
            induction n with
            | zero => intro x a w' μ1 S1 _ _ _ h; simp [loopN] at h
            | succ n ih =>
              intro x a w1 μ1 S1 r1 x1 k1 h
              simp only [loopN] at h
              show r.wp P _ a w1
              refine hr ω _ _ res a w1 μ1 S1 _ r1 h fun e s2 hk fr2 a2 w2 μ2 S2 r2 x2 k2 hk2 => ?_
              have hk2' : s2.k = s0.k := hk2
              have k2' : KeepsK st.k μ1 μ2 := by rw [← e1]; exact k2
              have fr3 : Fr (.scope l keep sh rest body) st s2 := ⟨fr2.len.trans (putL_length.trans (e2.trans fr.len)), fun t ht hp => by
                have g1 := fr'.same t ht hp
                simp only [keepsT, Bool.and_eq_true, Bool.not_eq_true'] at ht
                obtain ⟨⟨⟨⟨c1, c2⟩, c3⟩, c4⟩, c5⟩ := ht
                have f0 := e3 t c1 (by rw [g1]; exact hp)
                rw [g1] at f0
                have f1 := putL_frame (st0 := s0) (x := x) c2 c3
                rw [f0] at f1
                rw [fr2.same t c4 (by rw [f1]; exact hp), f1]⟩
              cases e with
              | goto l2 =>
                simp only [goK] at hk
                split at hk
                · rename_i hl2
                  split at hk
                  · rename_i s' hs'
                    rw [Option.bind_eq_some_iff] at hk
                    obtain ⟨x', hx', hk⟩ := hk
                    obtain ⟨μ3, r3, x3, k3⟩ := head_again hch hp0 fr2 hk2' r2 hs' hx'
                    exact ⟨hl2, ih x' a2 w2 μ3 S2 r3 ((x1.trans x2).trans x3) ((k1.trans k2').trans (by rw [← e1]; exact k3)) hk⟩
                  · cases hk
                · cases hk
              | exit i => exact hq (.exit i) s2 hk fr3 a2 w2 μ2 S2 r2 (x1.trans x2) (k1.trans k2') (hk2'.trans e1)
              | ret => exact hq .ret s2 hk fr3 a2 w2 μ2 S2 r2 (x1.trans x2) (k1.trans k2') (hk2'.trans e1)
              | normal => exact hq .normal s2 hk fr3 a2 w2 μ2 S2 r2 (x1.trans x2) (k1.trans k2') (hk2'.trans e1)
          exact key N x a1 w1 μ0 S1 r0' (x1.trans x0) (k1.trans k0) hk
        · cases hk
      · cases hk
    · cases hk
  | exit i => exact hq (.exit i) s hk fr' a1 w1 μ1 S1 r1 x1 k1 hk1
  | ret => exact hq .ret s hk fr' a1 w1 μ1 S1 r1 x1 k1 hk1
  | normal => exact hq .normal s hk fr' a1 w1 μ1 S1 r1 x1 k1 hk1

/-- empty slices get blocks, and the blocks new numbers -/
theorem tidy {keep : List Nat} {own : List Adj} {st s : NSt} {a : Act} {w : World} {μ : Nat → AM.Loc} {S : Nat → Prop} (rep : NRep μ w S st a) (h : nnorm keep (nadj own st) = some s) :
    ∃ μ1 S1, NRep μ1 w S1 s a ∧ Ext μ S w μ1 S1 w ∧ KeepsK st.k μ μ1 ∧ s.k = st.k ∧ s.tmps.length = st.tmps.length ∧
      ∀ t, keep.contains t = true → own.any (Adj.on t) = false → nplain (st.tmps.getD t .undef) = true → s.tmps.getD t .undef = st.tmps.getD t .undef := by
  obtain ⟨μ1, S1, r1, x1, k1, e1, e2, e3⟩ := nadj_rep (own := own) rep
  obtain ⟨μ2, r2, x2, k2, f1, f2, f3⟩ := nnorm_rep r1 h
  rw [e1] at k2 f1
  refine ⟨μ2, S1, r2, x1.trans x2, k1.trans k2, f1, f2.trans e2, fun t h1 h2 h3 => ?_⟩
  have g := e3 t h2
  rw [f3 t h1 (by rw [g]; exact h3), g]

theorem npre_sound {keep : List Nat} {own : List Adj} {c : Code} {c' : NCode} (hc : NSound P T N c c') : NSound P T N c (.pre keep own c') := by
  intro ω st k r a w μ S Q rep h hq
  simp only [nexec] at h
  split at h
  · rename_i s hs
    obtain ⟨μ1, S0, r1, x1, k1, e1, e2, e3⟩ := tidy rep hs
    refine hc ω s k r a w μ1 S0 Q r1 h fun e st1 hk fr a1 w1 μ2 S1 r2 x2 k2 hk1 => ?_
    rw [e1] at k2 hk1
    refine hq e st1 hk ⟨fr.len.trans e2, fun t ht hp => ?_⟩ a1 w1 μ2 S1 r2 (x1.trans x2) (k1.trans k2) hk1
    simp only [keepsT, Bool.and_eq_true, Bool.not_eq_true'] at ht
    have f := e3 t ht.1.1 ht.1.2 hp
    rw [fr.same t ht.2 (by rw [f]; exact hp), f]
  · cases h

theorem set_self {α : Type} {l : List α} {i : Nat} {x : α} (h : l[i]? = some x) : l.set i x = l := by
  apply List.ext_getElem?
  intro j
  rw [List.getElem?_set]
  split
  · rename_i e
    subst e
    split
    · exact h.symm
    · rename_i hl
      rw [List.getElem?_eq_none (by omega)] at h
      cases h
  · rfl
theorem nsplit_sound' {t f n : Nat} {c : Code} {c' : NCode} (hc : NSound P T N c c') : NSound P T N c (.split t f n c') := by
  intro ω st k r a w μ S Q rep h hq
  simp only [nexec] at h
  split at h
  · split at h
    · rename_i b _ _ _ e row hg
      split at h
      · rename_i kd i hr
        obtain ⟨j, hj, h⟩ := oneOf_inv h
        rw [← hj, set_self hr, set_self (nget_iff.1 hg)] at h
        exact hc ω st k r a w μ S Q rep h fun e st' hk fr => hq e st' hk ⟨fr.len, fr.same⟩
      · cases h
    · cases h
  · cases h

theorem npost_sound {keep : List Nat} {own : List Adj} {c : Code} {c' : NCode} (hc : NSound P T N c c') : NSound P T N c (.post keep own c') := by
  intro ω st k r a w μ S Q rep h hq
  simp only [nexec] at h
  refine hc ω st _ r a w μ S Q rep h fun e st1 hk fr a1 w1 μ1 S1 r1 x1 k1 hk1 => ?_
  have fr' : Fr (.post keep own c') st st1 := ⟨fr.len, fun t ht hp => fr.same t (by simp only [keepsT, Bool.and_eq_true] at ht; exact ht.2) hp⟩
  cases e with
  | normal =>
    simp only at hk
    split at hk
    · rename_i s hs
      obtain ⟨μ2, S2, r2, x2, k2, e1, e2, e3⟩ := tidy r1 hs
      rw [hk1] at k2 e1
      refine hq .normal s hk ⟨e2.trans fr.len, fun t ht hp => ?_⟩ a1 w1 μ2 S2 r2 (x1.trans x2) (k1.trans k2) e1
      have f := fr'.same t ht hp
      simp only [keepsT, Bool.and_eq_true, Bool.not_eq_true'] at ht
      rw [e3 t ht.1.1 ht.1.2 (by rw [f]; exact hp), f]
    · cases hk
  | exit i => exact hq (.exit i) st1 hk fr' a1 w1 μ1 S1 r1 x1 k1 hk1
  | ret => exact hq .ret st1 hk fr' a1 w1 μ1 S1 r1 x1 k1 hk1
  | goto l => exact hq (.goto l) st1 hk fr' a1 w1 μ1 S1 r1 x1 k1 hk1

theorem njoin_sound {keep : List Nat} {own : List Adj} {sh : LSh} {c : Code} {c' : NCode} (hch : chkSame keep sh c' = true) (hown : sh.same.all (fun t => !(own.any (Adj.on t))) = true) (hc : NSound P T N c c') : NSound P T N c (.join keep own sh c') := by
  intro ω st k r a w μ S Q rep h hq
  simp only [nexec] at h
  split at h
  · rename_i hsame
    rw [Option.bind_eq_some_iff] at h
    obtain ⟨r', h, hg⟩ := h
    have hp0 : ∀ t, sh.same.contains t = true → nplain (st.tmps.getD t .undef) = true := fun t ht => by
      simp only [samesB, List.all_eq_true] at hsame
      exact hsame t (by simpa using ht)
    refine hc _ st _ r' a w μ S Q rep h fun e st1 hk fr a1 w1 μ1 S1 r1 x1 k1 hk1 => ?_
    have fr' : Fr (.join keep own sh c') st st1 := ⟨fr.len, fun t ht hp => fr.same t (by simp only [keepsT, Bool.and_eq_true] at ht; exact ht.2) hp⟩
    have other : ∀ e, (k e st1).map Sum.inr = some r' → k e st1 = some r := fun e he => by
      rw [Option.map_eq_some_iff] at he
      obtain ⟨y, hy, rfl⟩ := he
      simp only [Sum.elim_inr, Option.some.injEq] at hg
      rw [hy, hg]
    cases e with
    | normal =>
      simp only at hk
      split at hk
      · rename_i s hs
        rw [Option.bind_eq_some_iff] at hk
        obtain ⟨x, hx, hk⟩ := hk
        cases hk
        simp only [Sum.elim_inl] at hg
        obtain ⟨μ2, S2, r2, x2, k2, e1, e2, e3⟩ := tidy r1 hs
        rw [hk1] at k2 e1
        have r3 : NRep μ2 w1 S2 (putL sh st x) a1 := putL_rep r2 hx e1 (e2.trans fr.len) fun t ht => by
          obtain ⟨c1, c2, c3⟩ := chkSame_get hch ht
          have c4 : own.any (Adj.on t) = false := by
            rw [List.all_eq_true] at hown
            have := hown t (by simpa using ht)
            simpa only [Bool.not_eq_true'] using this
          have f := fr.same t c3 (hp0 t ht)
          rw [e3 t c1 c4 (by rw [f]; exact hp0 t ht), f]
        refine hq .normal _ hg ⟨putL_length, fun t ht hp => ?_⟩ a1 w1 μ2 S2 r3 (x1.trans x2) (k1.trans k2) rfl
        simp only [keepsT, Bool.and_eq_true, Bool.not_eq_true'] at ht
        exact putL_frame ht.1.1 ht.1.2
      · cases hk
    | exit i => exact hq (.exit i) st1 (other _ hk) fr' a1 w1 μ1 S1 r1 x1 k1 hk1
    | ret => exact hq .ret st1 (other _ hk) fr' a1 w1 μ1 S1 r1 x1 k1 hk1
    | goto l => exact hq (.goto l) st1 (other _ hk) fr' a1 w1 μ1 S1 r1 x1 k1 hk1
  · cases h

theorem nmeet_sound {keep : List Nat} {own : List Adj} {sh : LSh} {c : Code} {c' : NCode} (hch : chkSame keep sh c' = true) (hown : sh.same.all (fun t => !(own.any (Adj.on t))) = true) (hc : NSound P T N c c') : NSound P T N c (.meet keep own sh c') := by
  intro ω st k r a w μ S Q rep h hq
  simp only [nexec] at h
  split at h
  · rename_i hsame
    rw [Option.bind_eq_some_iff] at h
    obtain ⟨x, h, hg⟩ := h
    have hp0 : ∀ t, sh.same.contains t = true → nplain (st.tmps.getD t .undef) = true := fun t ht => by
      simp only [samesB, List.all_eq_true] at hsame
      exact hsame t (by simpa using ht)
    refine hc _ st _ x a w μ S Q rep h fun e st1 hk fr a1 w1 μ1 S1 r1 x1 k1 hk1 => ?_
    have fr' : Fr (.meet keep own sh c') st st1 := ⟨fr.len, fun t ht hp => fr.same t (by simp only [keepsT, Bool.and_eq_true] at ht; exact ht.2) hp⟩
    cases e with
    | normal =>
      simp only at hk
      split at hk
      · rename_i s hs
        have hx := hk
        obtain ⟨μ2, S2, r2, x2, k2, e1, e2, e3⟩ := tidy r1 hs
        rw [hk1] at k2 e1
        have r3 : NRep μ2 w1 S2 (putL sh st x) a1 := putL_rep r2 hx e1 (e2.trans fr.len) fun t ht => by
          obtain ⟨c1, c2, c3⟩ := chkSame_get hch ht
          have c4 : own.any (Adj.on t) = false := by
            rw [List.all_eq_true] at hown
            have := hown t (by simpa using ht)
            simpa only [Bool.not_eq_true'] using this
          have f := fr.same t c3 (hp0 t ht)
          rw [e3 t c1 c4 (by rw [f]; exact hp0 t ht), f]
        refine hq .normal _ hg ⟨putL_length, fun t ht hp => ?_⟩ a1 w1 μ2 S2 r3 (x1.trans x2) (k1.trans k2) rfl
        simp only [keepsT, Bool.and_eq_true, Bool.not_eq_true'] at ht
        exact putL_frame ht.1.1 ht.1.2
      · cases hk
    | exit i => cases hk
    | ret => cases hk
    | goto l => cases hk
  · cases h

theorem nleaf_sound {c : Code} {c' : NCode} {e : AExit} (hx : ∀ {ω : Type} (st : NSt) (k : AExit → NSt → Option ω), nexec T (LN N) c' st k = k e st) (hw : ∀ (Q : Exit → Act → World → Prop) (a : Act) (w : World), Q (exitOf e) a w → c.wp P Q a w) : NSound P T N c c' := by
  intro ω st k r a w μ S Q rep h hq
  rw [hx] at h
  exact hw Q a w (hq e st h ⟨rfl, fun _ _ _ => rfl⟩ a w μ S rep (.refl _ _ _) (.refl _ _) rfl)

theorem ncode_sound (hK : Valid P K) (hT : ∀ e ∈ T, EntOk K e) (hmix : P.follows .mixedOrders = true) : ∀ (nc : NCode) (c : Code), chkN P nc c = true → NSound P T N c nc := by
  intro nc
  induction nc with
  | skip => intro c h; cases c <;> simp [chkN] at h; exact nleaf_sound (e := .normal) (fun _ _ => by simp only [nexec]) (fun _ _ _ h => wp_skip h)
  | region ids al hints => intro c h; cases c <;> first | (exact nregion_sound hK hT hmix h) | (simp [chkN] at h)
  | seq a b iha ihb => intro c h; cases c <;> simp [chkN] at h; exact nseq_sound (iha _ h.1) (ihb _ h.2)
  | cond c a b iha ihb => intro c h; cases c <;> simp [chkN] at h; exact ncond_sound h.1.1 (iha _ h.1.2) (ihb _ h.2)
  | block id b ih => intro c h; cases c <;> simp [chkN] at h; obtain ⟨rfl, h⟩ := h; exact nblock_sound (ih _ h)
  | loop keep sh b ih => intro c h; cases c <;> simp [chkN] at h; exact nloop_sound h.1 (ih _ h.2)
  | loopU keep n b ih => intro c h; cases c <;> simp [chkN] at h; exact nloopU_sound (ih _ h)
  | exit id => intro c h; cases c <;> simp [chkN] at h; subst h; exact nleaf_sound (e := .exit id) (fun _ _ => by simp only [nexec]) (fun _ _ _ h => wp_exit h)
  | ret => intro c h; cases c <;> simp [chkN] at h; exact nleaf_sound (e := .ret) (fun _ _ => by simp only [nexec]) (fun _ _ _ h => wp_ret h)
  | label => intro c h; cases c <;> simp [chkN] at h; exact nleaf_sound (e := .normal) (fun _ _ => by simp only [nexec]) (fun _ _ _ h => wp_label h)
  | goto l => intro c h; cases c <;> simp [chkN] at h; subst h; exact nleaf_sound (e := .goto l) (fun _ _ => by simp only [nexec]) (fun _ _ _ h => wp_goto h)
  | scope l keep sh rest body ihr ihb =>
    intro c h
    cases c <;> try (simp [chkN] at h; done)
    rename_i c0
    simp only [chkN, Bool.and_eq_true] at h
    obtain ⟨⟨h1, h2⟩, h3⟩ := h
    split at h3
    · rename_i r hf
      exact nscope_sound hf h1 (ihr _ h3) (ihb _ h2)
    · cases h3
  | pre keep own b ih => intro c h; simp only [chkN] at h; exact npre_sound (ih _ h)
  | join keep own sh b ih => intro c h; simp only [chkN, Bool.and_eq_true] at h; exact njoin_sound h.1.1 h.1.2 (ih _ h.2)
  | meet keep own sh b ih => intro c h; simp only [chkN, Bool.and_eq_true] at h; exact nmeet_sound h.1.1 h.1.2 (ih _ h.2)
  | post keep own b ih => intro c h; simp only [chkN] at h; exact npost_sound (ih _ h)
  | split t f n b ih => intro c h; simp only [chkN] at h; exact nsplit_sound' (ih _ h)
end

end NM
end Go.Proofs.Ytfelhbeiegppgaa
