/-
  Bodies: what the abstract machine computes of a function's body is what its calls in the model give.
-/
import Derived.Test.YtfelhbeiegppgaaAmP
set_option linter.unusedVariables false
set_option linter.unusedSimpArgs false
set_option linter.unnecessarySimpa false
namespace Go.Proofs.Ytfelhbeiegppgaa
namespace AM
open Go.RowKit

def chkRes (P : Program) : ResultVar → RVar → Bool
  | .tmp t, .tmp t' => t == t'
  | .cell a t, .cell agg n a' => a == a' && szB P t n && aggB P t agg && (agg || n == 1)
  | _, _ => false

/-- function f's body is the abstract one -/
def chkFunc (P : Program) (fn : Func) (af : AFunc) : Bool :=
  fn.ntmps == af.ntmps && all2 (chkRes P) fn.results.toList af.results && !(fn.name == "runtime.NumGoroutine") && (match fn.body with | some c => chkCode P c af.code | none => false)

section
variable {P : Program} {K : Oracle} {μ : Nat → Loc} {w : World} {S : Nat → Prop}

def resSem (tmps : Array Value) : ResultVar → Sem Value
  | .tmp t => pure (tmps.getD t undef)
  | .cell ad t => do loadVar t (← asAddr (tmps.getD ad undef))

theorem results_eq (fn : Func) (tmps : Array Value) : results fn tmps = (do let vs ← fn.results.mapM (resSem tmps); pure (if h : vs.size = 1 then vs[0] else .tuple vs)) := by
  unfold results
  congr 1

theorem res_sound {st : St} {a : Act} (rep : Rep μ w S st a) {x : ResultVar} {y : RVar} {r : AVal} (hc : chkRes P x y = true) (h : resOf st.heap st.tmps y = some r) :
    ∃ cv, (resSem a.tmps x).run P w = .ok cv w ∧ VR μ w S r cv := by
  unfold chkRes at hc
  split at hc
  · rename_i t t'
    simp only [beq_iff_eq] at hc
    subst hc
    simp only [resOf, Option.some.injEq] at h
    subst h
    refine ⟨_, rfl, ?_⟩
    have := rep.tmps.look rep.heap.gl (x := .tmp t) (y := .tmp t) (by simp [chkOpd])
    exact this
  · rename_i ad t agg n ad'
    simp only [Bool.and_eq_true, beq_iff_eq, Bool.or_eq_true] at hc
    obtain ⟨⟨⟨rfl, h1⟩, h2⟩, h3⟩ := hc
    simp only [resOf] at h
    have hv : VR μ w S (st.tmps.getD ad .undef) (a.tmps.getD ad undef) := rep.tmps.look rep.heap.gl (x := .tmp ad) (y := .tmp ad) (by simp [chkOpd])
    obtain ⟨cv, hr, hcv⟩ := load_sound (P := P) rep.heap h1 h2 hv h h3
    have hp : ∃ p, a.tmps.getD ad undef = .pointer (some p) := by
      unfold loadVal at h
      rw [if_neg (fun e => by rcases h3 with h3 | h3 <;> simp [h3] at e)] at h
      split at h
      · rename_i cs hcs
        obtain ⟨p, _, hp, _⟩ := load_cells rep.heap hv hcs
        exact ⟨p, hp⟩
      · cases h
    obtain ⟨p, hp⟩ := hp
    refine ⟨cv, ?_, hcv⟩
    simp only [resSem]
    rw [hp] at hr ⊢
    simpa [Instr.loadAt, Instr.sureAddr, asAddr] using hr
  · cases hc

theorem results_sound {st : St} {a : Act} {fn : Func} {rs : List RVar} {r : AVal} (rep : Rep μ w S st a) (hc : all2 (chkRes P) fn.results.toList rs = true) (h : resultsOf st.heap st.tmps rs = some r) :
    ∃ cv, (results fn a.tmps).run P w = .ok cv w ∧ VR μ w S r cv := by
  have key : ∀ (xs : List ResultVar) (ys : List RVar) (vs : List AVal), all2 (chkRes P) xs ys = true → allOf (resOf st.heap st.tmps) ys = some vs →
      ∃ cvs : List Value, (xs.mapM (resSem a.tmps)).run P w = .ok cvs w ∧ vs.length = cvs.length ∧ vs.length = ys.length ∧ ∀ (j : Nat) (c : AVal) (u : Value), vs[j]? = some c → cvs[j]? = some u → VR μ w S c u := by
    intro xs
    induction xs with
    | nil =>
      intro ys vs hc h
      cases ys with
      | nil => simp [allOf] at h; subst h; exact ⟨[], by simp, rfl, rfl, by simp⟩
      | cons y ys => simp [all2] at hc
    | cons x xs ih =>
      intro ys vs hc h
      cases ys with
      | nil => simp [all2] at hc
      | cons y ys =>
        simp only [all2, Bool.and_eq_true] at hc
        simp only [allOf] at h
        split at h
        · rename_i v hv
          split at h
          · rename_i vs' hvs
            simp only [Option.some.injEq] at h
            subst h
            obtain ⟨cv, h1, h2⟩ := res_sound rep hc.1 hv
            obtain ⟨cvs, h3, h4, h6, h5⟩ := ih ys vs' hc.2 hvs
            refine ⟨cv :: cvs, ?_, by simp [h4], by simp [h6], fun j c u hj hu => ?_⟩
            · rw [List.mapM_cons]
              simp only [Sem.run_bind, h1, Result.andThen_ok, h3, Sem.run_pure]
            · cases j with
              | zero => simp at hj hu; subst hj; subst hu; exact h2
              | succ j => simp at hj hu; exact h5 j c u hj hu
          · cases h
        · cases h
  have hrun : ∀ cvs : List Value, (fn.results.toList.mapM (resSem a.tmps)).run P w = .ok cvs w →
      (results fn a.tmps).run P w = .ok (if h : cvs.toArray.size = 1 then cvs.toArray[0] else .tuple cvs.toArray) w := fun cvs hr => by
    rw [results_eq, Array.mapM_eq_mapM_toList]
    simp only [Sem.run_bind, Sem.run_map, hr]
    rfl
  have hlen := all2_length hc
  unfold resultsOf at h
  split at h
  · rename_i y
    obtain ⟨cvs, h1, h2, h4, h3⟩ := key fn.results.toList [y] [r] hc (by simp [allOf, h])
    cases cvs with
    | nil => simp at h2
    | cons cv cvs =>
      cases cvs with
      | cons _ _ => simp at h2
      | nil => exact ⟨cv, by rw [hrun _ h1]; rfl, h3 0 r cv rfl rfl⟩
  · rename_i hne
    simp only [Option.map_eq_some_iff] at h
    obtain ⟨vs, hvs, rfl⟩ := h
    obtain ⟨cvs, h1, h2, h4, h3⟩ := key fn.results.toList rs vs hc hvs
    refine ⟨.tuple cvs.toArray, ?_, .tup vs cvs.toArray (by simpa using h2) (fun j c u hj hu => h3 j c u hj (by simpa using hu))⟩
    rw [hrun _ h1, dif_neg]
    intro h5
    have : rs.length = 1 := by simp at h5; omega
    match rs, this with
    | [y], _ => exact hne y rfl

theorem body_ok (hK : Valid P K) (hmix : P.follows .mixedOrders = true) {f : Nat} {fn : Func} {af : AFunc} (hf : P.funcs[f]? = some fn) (hc : chkFunc P fn af = true) {args : List AVal} {hp : Heap} {r : AVal} {hp' : Heap}
    (h : runBody K af args hp = some (r, hp')) : CallOk P f args hp r hp' := by
  unfold chkFunc at hc
  simp only [Bool.and_eq_true, beq_iff_eq] at hc
  obtain ⟨⟨⟨hnt, hres⟩, hname⟩, hcode⟩ := hc
  split at hcode
  case h_2 => cases hcode
  rename_i c hb
  intro μ0 w0 S0 cargs r0 hl hargs
  refine calls_of_wp hf hb ?_
  unfold runBody at h
  -- the start
  have rep0 : Rep μ0 w0 S0 ⟨args ++ List.replicate (af.ntmps - args.length) .undef, hp, hp.length⟩ { tmps := cargs ++ Array.replicate (fn.ntmps - cargs.size) undef, defers := [] } := by
    refine ⟨⟨by simp [hl, hnt], fun t v hv => ?_, rfl⟩, r0⟩
    rw [List.getElem?_append] at hv
    split at hv
    · rename_i ht
      have ht2 : t < cargs.size := by omega
      have hcv : (cargs ++ Array.replicate (fn.ntmps - cargs.size) undef).getD t undef = cargs[t] := by
        rw [Array.getD_eq_getD_getElem?, Array.getElem?_append_left ht2, Array.getElem?_eq_getElem ht2]
        rfl
      rw [hcv]
      exact hargs t v _ hv (Array.getElem?_eq_getElem ht2)
    · rw [List.getElem?_replicate] at hv
      split at hv
      · simp only [Option.some.injEq] at hv; subst hv; exact .undef _
      · cases hv
  have fin : ∀ (st : St), leave af st = some (r, hp') → ∀ a' w' μ1 S1, Rep μ1 w' S1 st a' → Ext μ0 S0 w0 μ1 S1 w' → KeepsK hp.length μ0 μ1 → st.k = hp.length →
      a'.defers = [] ∧ ∃ v, (results fn a'.tmps).run P w' = .ok v w' ∧ ∃ v' μ' S', Ending.returned v = .returned v' ∧ HRep μ' w' S' hp' ∧ Ext μ0 S0 w0 μ' S' w' ∧ VR μ' w' S' r v' ∧ hp.length ≤ hp'.length ∧ ∀ b, b < hp.length → μ0 b ≠ .free → μ' b = μ0 b ∨ μ' b = .dead := by
    intro st hl a' w' μ1 S1 rep x1 k1 hk
    refine ⟨rep.tmps.defers, ?_⟩
    unfold leave at hl
    split at hl
    case h_1 => cases hl
    rename_i r1 hr1
    obtain ⟨cv, hrun, hcv⟩ := results_sound rep hres hr1
    refine ⟨cv, hrun, cv, ?_⟩
    split at hl
    case h_1 => cases hl
    rename_i r2 shown hr2
    simp only at hl
    generalize hids : reach st.heap (List.range st.k) r2.ownT = ids at hl
    split at hl
    case isFalse => cases hl
    rename_i hcond
    obtain ⟨hn, htake, hshown⟩ := hcond
    simp only [Option.some.injEq, Prod.mk.injEq] at hl
    obtain ⟨rfl, rfl⟩ := hl
    have hshown : ∀ b, b ∈ shown → b ∉ ids := fun b hb => by have := List.all_eq_true.1 hshown b hb; simpa using this
    have hvr : VR μ1 w' (With S1 μ1 shown) r2 cv := by
      split at hr2
      · exact viewT_sound rep.heap hcv hr2 μ1
      · simp only [Option.some.injEq, Prod.mk.injEq] at hr2
        obtain ⟨rfl, rfl⟩ := hr2
        exact hcv.mono (Up.refl _) (fun _ _ => rfl) (fun m hm => .inl hm)
    refine ⟨pick μ1 ids, With S1 μ1 shown, rfl, ?_, x1.trans ?_, hvr.renT (pick_follows ids), ?_, fun b hb hf => ?_⟩
    · refine pack_rep rep.heap hn (fun m hm => .inl hm) (fun m ho hS => ?_) (fun m hS => ?_)
      · obtain ⟨c, hc', n, e, hh⟩ := pick_owned ho
        rcases hS with hS | ⟨b, hb, n', e', hb'⟩
        · exact rep.heap.apart m ⟨c, n, e, hh⟩ hS
        · exact hshown b hb (by rw [rep.heap.inj b c m n' n e' e hb' hh]; exact hc')
      · rcases hS with hS | ⟨b, hb, n', e', hb'⟩
        · exact rep.heap.inS m hS
        · exact rep.heap.lt ⟨b, n', e', hb'⟩
    · refine ⟨rfl, rfl, rfl, Nat.le_refl _, fun _ _ _ => rfl, fun _ h => .inl h, fun m hm => ?_, fun m ho => ?_⟩
      · rcases hm with hm | ⟨b, hb, n', e', hb'⟩
        · exact .inl hm
        · exact .inr (.inl ⟨b, n', e', hb'⟩)
      · obtain ⟨c, hc', n, e, hh⟩ := pick_owned ho
        exact .inl ⟨c, n, e, hh⟩
    · have : (ids.take st.k).length = st.k := by rw [htake]; simp
      simp only [List.length_take] at this
      simp only [packHeap, List.length_map]
      omega
    · have hb' : ids[b]? = some b := by
        have h1 : (ids.take st.k)[b]? = some b := by rw [htake, List.getElem?_range (by omega)]
        rw [List.getElem?_take, if_pos (by omega)] at h1
        exact h1
      have : pick μ1 ids b = μ1 b := by unfold pick; rw [hb']
      rw [this]
      exact k1 b hb hf
  split at h
  · rename_i st hex
    exact code_sound hK hmix af.code c hcode _ st .normal _ w0 μ0 S0 _ rep0 hex (fun a' w' μ1 S1 rep x1 k1 hk => fin st h a' w' μ1 S1 rep x1 k1 hk)
  · rename_i st hex
    exact code_sound hK hmix af.code c hcode _ st .ret _ w0 μ0 S0 _ rep0 hex (fun a' w' μ1 S1 rep x1 k1 hk => fin st h a' w' μ1 S1 rep x1 k1 hk)
  · cases h

/-- a function and what it computes -/
def Ok (P : Program) (f : Nat) (g : List AVal → Heap → Option (AVal × Heap)) : Prop := Enters P f ∧ ∀ args hp r hp', g args hp = some (r, hp') → CallOk P f args hp r hp'

/-- callees, by their numbers -/
def tab : List (Nat × (List AVal → Heap → Option (AVal × Heap))) → Oracle
  | [], _, _, _ => none
  | (f, g) :: l, f', args, hp => if f' = f then g args hp else tab l f' args hp

theorem tab_nil : Valid P (tab []) := fun f args hp r hp' h => by simp [tab] at h
theorem tab_cons {f : Nat} {g : List AVal → Heap → Option (AVal × Heap)} {l : List (Nat × (List AVal → Heap → Option (AVal × Heap)))} (h : Ok P f g) (hl : Valid P (tab l)) : Valid P (tab ((f, g) :: l)) := fun f' args hp r hp' hk => by
  simp only [tab] at hk
  split at hk
  · rename_i he; subst he; exact ⟨h.1, h.2 args hp r hp' hk⟩
  · exact hl f' args hp r hp' hk

theorem Ok.body (hmix : P.follows .mixedOrders = true) {l : List (Nat × (List AVal → Heap → Option (AVal × Heap)))} (hK : Valid P (tab l)) {f : Nat} {fn : Func} {af : AFunc} (hf : P.funcs[f]? = some fn) (hc : chkFunc P fn af = true) : Ok P f (runBody (tab l) af) := by
  refine ⟨⟨fn, hf, ?_, ?_⟩, fun args hp r hp' h => body_ok hK hmix hf hc h⟩
  · unfold chkFunc at hc
    simp only [Bool.and_eq_true, Bool.not_eq_true'] at hc
    exact hc.1.2
  · unfold chkFunc at hc
    simp only [Bool.and_eq_true] at hc
    cases hb : fn.body with
    | none => rw [hb] at hc; cases hc.2
    | some c => rfl

/-- a call at the start, with arguments that are only read -/
theorem Ok.calls {f : Nat} {g : List AVal → Heap → Option (AVal × Heap)} (h : Ok P f g) {args : List AVal} {cargs : Array Value} {w : World} {r : AVal} {hp' : Heap} (hg : g args [] = some (r, hp')) (hl : args.length = cargs.size)
    (ha : ∀ (j : Nat) (a : AVal) (v : Value), args[j]? = some a → cargs[j]? = some v → VR (fun _ => .free) w (fun m => m < w.heap.size) a v) (hgl : GlobR w (fun m => m < w.heap.size) := by exact GlobR.nil rfl) :
    Calls P f cargs w fun e w' => ∃ v μ' S', e = .returned v ∧ VR μ' w' S' r v ∧ Below w.heap.size w w' := by
  have r0 : HRep (fun _ => .free) w (fun m => m < w.heap.size) [] := by
    refine ⟨fun b k hb => ?_, fun _ _ => .inl rfl, fun _ _ => rfl, fun b b' m n n' e e' h => ?_, fun m ho => ?_, fun m hm => hm, hgl⟩
    · simp [Heap.get] at hb
    · cases h
    · obtain ⟨b, n, e, hb⟩ := ho; cases hb
  refine (h.2 args [] r hp' hg (fun _ => .free) w (fun m => m < w.heap.size) cargs r0 hl ha).mono fun e w' ⟨v, μ', S', he, _, x, hv, _⟩ => ⟨v, μ', S', he, hv, ?_⟩
  exact ⟨x.os, x.tape, x.output, x.size, fun m hm => x.same m hm (fun ho => by obtain ⟨b, n, e, hb⟩ := ho; cases hb)⟩

end

end AM
end Go.Proofs.Ytfelhbeiegppgaa
