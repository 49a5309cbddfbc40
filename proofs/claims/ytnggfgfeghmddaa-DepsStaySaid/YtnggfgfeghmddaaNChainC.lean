/-
  deps.Chain at its chapter's example, as a function of the machine of plain data.
-/
import Derived.Test.YtnggfgfeghmddaaNChainB
import Derived.Test.YtnggfgfeghmddaaNmX
set_option linter.unusedVariables false
set_option linter.unusedSimpArgs false
namespace Go.Proofs.Ytnggfgfeghmddaa
namespace NM
open AM Go.RowKit Go.Lib

theorem arrTwo {cargs : Array Value} (h : cargs.size = 2) : ∃ a b, cargs = #[a, b] := by
  refine ⟨cargs[0], cargs[1], ?_⟩
  apply Array.ext
  · simp [h]
  · intro i h1 h2
    have : i = 0 ∨ i = 1 := by omega
    rcases this with rfl | rfl <;> simp
@[reducible] def sigChain : Sig := ⟨.cons (.v (.int .i64)) (.cons (.v (.list .job)) .nil), [], (.v (.list (.int .i64)), []), []⟩
/-- of the example alone: of the third job, which waits for the second, which waits for the first -/
def chainF (id : Int) (all : List Job) : Option (List Int) := match all with
  | [a, b, c] => match a.after, b.after, c.after with
    | [], [x], [y] => cond (decide (id = 3 ∧ a.id = 1 ∧ b.id = 2 ∧ c.id = 3 ∧ x.job = 1 ∧ y.job = 2 ∧ x.ok = false ∧ y.ok = false)) (some [1, 2]) none
    | _, _, _ => none
  | _ => none
theorem chainF_inv {id : Int} {all : List Job} {r : List Int} (h : chainF id all = some r) : ∃ a b c x y, all = [a, b, c] ∧ a.after = [] ∧ b.after = [x] ∧ c.after = [y] ∧ id = 3 ∧ a.id = 1 ∧ b.id = 2 ∧ c.id = 3 ∧ x.job = 1 ∧ y.job = 2 ∧ x.ok = false ∧ y.ok = false ∧ r = [1, 2] := by
  unfold chainF at h
  split at h
  · rename_i a b c
    split at h
    · rename_i x y h1 h2 h3
      by_cases hp : id = 3 ∧ a.id = 1 ∧ b.id = 2 ∧ c.id = 3 ∧ x.job = 1 ∧ y.job = 2 ∧ x.ok = false ∧ y.ok = false
      · rw [decide_eq_true hp] at h
        obtain ⟨p1, p2, p3, p4, p5, p6, p7, p8⟩ := hp
        cases h
        exact ⟨a, b, c, x, y, rfl, h1, h2, h3, p1, p2, p3, p4, p5, p6, p7, p8, rfl⟩
      · rw [decide_eq_false hp] at h; cases h
    · cases h
  · cases h
section
variable {w : World} {S : Nat → Prop}
/-- a list of dependencies, of none or one -/
theorem deps_none {a : AVal} {v : Value} (h : RI (.lst .dep []) a) (hv : IR w S a v) : ∃ A0 c0, v = .slice A0 0 c0 := by
  rcases h.lst_inv with ⟨ys, rfl, hys⟩ | ⟨rfl, _⟩
  · have : ys = [] := List.eq_nil_of_length_eq_zero hys.1.symm
    subst this
    cases hv with
    | imm _ _ A cap g => exact ⟨A, cap, rfl⟩
  · cases hv with
    | zsl A => exact ⟨A, 0, rfl⟩
theorem deps_one {x : Dep} {a : AVal} {v : Value} (h : RI (.lst .dep [x]) a) (hv : IR w S a v) : ∃ m o c, v = .slice (some ⟨m, o, none⟩) 1 c ∧ S m ∧ w.cell? ⟨m, o, none⟩ = some (.int .i64 x.job) ∧ w.cell? ⟨m, o + 1, none⟩ = some (.bool x.ok) := by
  rcases h.lst_inv with ⟨ys, rfl, hys⟩ | ⟨_, h⟩
  · have hlen : ys.length = 1 := hys.1.symm
    obtain ⟨y, rfl⟩ : ∃ y, ys = [y] := by
      match ys, hlen with
      | [y], _ => exact ⟨y, rfl⟩
    have hrow : A2 RI [.int .i64 x.job, .bool x.ok] y := hys.2 0 x y rfl rfl
    have hl2 : y.length = 2 := hrow.1.symm
    obtain ⟨p, q, rfl⟩ : ∃ p q, y = [p, q] := by
      match y, hl2 with
      | [p, q], _ => exact ⟨p, q, rfl⟩
    have hp := hrow.2 0 _ p rfl rfl
    have hq := hrow.2 1 _ q rfl rfl
    cases hv with
    | imm _ _ A cap g i1 i2 i3 i4 i5 =>
      obtain ⟨m, o, rfl, hm, hc⟩ := i4 0 _ 0 p rfl rfl
      obtain ⟨m', o', hA, hm', hc'⟩ := i4 0 _ 1 q rfl rfl
      cases hA
      have r0 := i5 0 _ 0 p rfl rfl
      have r1 := i5 0 _ 1 q rfl rfl
      generalize g 0 0 = u0 at hc r0
      generalize g 0 1 = u1 at hc' r1
      cases hp
      cases hq
      cases r0
      cases r1
      refine ⟨m, o, cap, rfl, hm, by simpa using hc, ?_⟩
      simpa using hc'
  · cases h
end
theorem one_eq' (v : Value) : v.oneCell' = oneV v := by cases v <;> rfl
theorem rows_at {w : World} {S : Nat → Prop} {xs : List Job} {ys : List (List AVal)} {m o : Nat} {g : Nat → Nat → Value} (hys : A2 (RX .job) xs ys)
    (hc : ∀ (i : Nat) (x : List AVal) (j : Nat) (c : AVal), ys[i]? = some x → x[j]? = some c → S m ∧ w.cell? ⟨m, o + (i * 18 + j), none⟩ = some (g i j))
    (hr : ∀ (i : Nat) (x : List AVal) (j : Nat) (c : AVal), ys[i]? = some x → x[j]? = some c → IR w S c (g i j)) (k : Nat) (x : Job) (hx : xs[k]? = some x) :
    Row w ⟨m, o + k * 18, none⟩ (((List.range 18).map (g k)).toArray) ∧ (((List.range 18).map (g k)).toArray)[0]? = some (.int .i64 x.id) ∧ (((List.range 18).map (g k)).toArray).all (·.oneCell') = true ∧
      ∃ a v, RI (.lst .dep x.after) a ∧ IR w S a v ∧ w.cell? ⟨m, o + k * 18 + 9, none⟩ = some v := by
  have hk := (List.getElem?_eq_some_iff.1 hx).1
  have hky : k < ys.length := by rw [← hys.1]; exact hk
  obtain ⟨y, hy⟩ : ∃ y, ys[k]? = some y := ⟨ys[k], List.getElem?_eq_getElem _⟩
  have hrow : A2 RI ((ops Ty.job).cells x) y := hys.2 k x y hx hy
  have hl : y.length = 18 := hrow.1.symm
  have hcell : ∀ j, j < 18 → w.cell? ⟨m, o + (k * 18 + j), none⟩ = some (g k j) := fun j hj => (hc k y j y[j] hy (List.getElem?_eq_getElem _)).2
  have hir : ∀ j (hj : j < 18), IR w S (y[j]'(by omega)) (g k j) := fun j hj => hr k y j _ hy (List.getElem?_eq_getElem _)
  refine ⟨fun j v hj => ?_, ?_, ?_, ?_⟩
  · have hj18 : j < 18 := by
      have := (Array.getElem?_eq_some_iff.1 hj).1
      simpa using this
    have : v = g k j := by
      simp [hj18] at hj
      exact hj.symm
    rw [this, Addr.add_lit, Nat.add_assoc]
    exact hcell j hj18
  · have h0 := hrow.2 0 (.int .i64 x.id) (y[0]'(by omega)) rfl (List.getElem?_eq_getElem _)
    have h1 := hir 0 (by omega)
    generalize (y[0]'(by omega)) = c at h0 h1
    cases h0
    have : g k 0 = .int .i64 x.id := by
      generalize g k 0 = u at h1
      cases h1; rfl
    simp [this]
  · rw [Array.all_eq_true_iff_forall_mem]
    intro v hv
    have hv' : v ∈ (List.range 18).map (g k) := by simpa using hv
    obtain ⟨j, hj, rfl⟩ := List.mem_map.1 hv'
    rw [one_eq']
    exact (hir j (List.mem_range.1 hj)).one
  · refine ⟨y[9]'(by omega), g k 9, hrow.2 9 (.lst .dep x.after) _ rfl (List.getElem?_eq_getElem _), hir 9 (by omega), ?_⟩
    rw [Nat.add_assoc]
    exact hcell 9 (by omega)
theorem ya_two : yA (.v (.list (.int .i64)), []) [] [1, 2] = .imm 1 [[.int .i64 1], [.int .i64 2]] := by
  obtain ⟨c, d, h1, h2, h3, h4⟩ := one_cells (t := .list (.int .i64)) rfl [1, 2]
  simp only [yA, outA, can, Ty.isAgg, h2]
  have : c = .lst (.int .i64) [1, 2] := by cases h1; rfl
  subst this
  show d = _
  cases h3 with
  | lst _ _ e ys he hl hr hc =>
    have he : e = 1 := he
    subst he
    have hl2 : ys.length = 2 := hl.symm
    obtain ⟨p, q, rfl⟩ : ∃ p q, ys = [p, q] := by
      match ys, hl2 with
      | [p, q], _ => exact ⟨p, q, rfl⟩
    have hp : p.length = 1 := (hr 0 1 p rfl rfl).symm
    have hq : q.length = 1 := (hr 1 2 q rfl rfl).symm
    obtain ⟨p0, rfl⟩ : ∃ p0, p = [p0] := by
      match p, hp with
      | [p0], _ => exact ⟨p0, rfl⟩
    obtain ⟨q0, rfl⟩ : ∃ q0, q = [q0] := by
      match q, hq with
      | [q0], _ => exact ⟨q0, rfl⟩
    have r0 : RIc (.int .i64 1) p0 := hc 0 1 [p0] 0 _ p0 rfl rfl rfl rfl
    have r1 : RIc (.int .i64 2) q0 := hc 1 2 [q0] 0 _ q0 rfl rfl rfl rfl
    cases r0
    cases r1
    rfl
theorem NOk.chain {P : Program} {f : Nat} (hent : AM.Enters P f)
    (h : ∀ {w : World} {n A o cap : Nat}, Hid (n = w.heap.size) → A < n → ∀ (V : Nat → Array Value), (∀ k, k < 3 → Row w ⟨A, o + k * 18, none⟩ (V k)) → (∀ k, k < 3 → (V k).size = 18) → (∀ k, k < 3 → (V k)[0]? = some (.int .i64 ((k : Int) + 1))) → (∀ k, k < 3 → (V k).all (·.oneCell') = true) →
      ∀ (A0 : Option Addr) (c0 : Nat), w.cell? ⟨A, o + 9, none⟩ = some (.slice A0 0 c0) →
      ∀ (m1 o1 c1 : Nat), m1 < n → w.cell? ⟨A, o + 27, none⟩ = some (.slice (some ⟨m1, o1, none⟩) 1 c1) → w.cell? ⟨m1, o1, none⟩ = some (.int .i64 1) → w.cell? ⟨m1, o1 + 1, none⟩ = some (.bool false) →
      ∀ (m2 o2 c2 : Nat), m2 < n → w.cell? ⟨A, o + 45, none⟩ = some (.slice (some ⟨m2, o2, none⟩) 1 c2) → w.cell? ⟨m2, o2, none⟩ = some (.int .i64 2) → w.cell? ⟨m2, o2 + 1, none⟩ = some (.bool false) →
      Calls P f #[.int .i64 3, .slice (some ⟨A, o, none⟩) 3 cap] w fun e w' => ∃ g cap', e = .returned (.slice (some ⟨g, 0, none⟩) 2 cap') ∧ 2 ≤ cap' ∧ n ≤ g ∧ g < w'.heap.size ∧ w'.cell? ⟨g, 0, none⟩ = some (.int .i64 1) ∧ w'.cell? ⟨g, 1, none⟩ = some (.int .i64 2) ∧ Below n w w') :
    NOk P ⟨f, sigChain, fun x _ => chainF x.1 x.2.1⟩ := by
  refine ⟨hent, rfl, fun x hh y hy args ahp ha hb => ?_⟩
  obtain ⟨id, all, u⟩ := x
  have e0 : ahp = [] := A2.nil_inv hb
  subst e0
  simp only [puts, put, putV, Ty.isAgg] at ha
  obtain ⟨a1, as', rfl, h1, ha⟩ := ha.cons_inv
  obtain ⟨a2, bs', rfl, h2, ha⟩ := ha.cons_inv
  rw [ha.nil_inv]
  have hb1 : a1 = .int .i64 id := (RT.v h1).int_inv
  subst hb1
  have hy : chainF id all = some y := hy
  obtain ⟨a, b, c, d1, d2, rfl, q1, q2, q3, rfl, q4, q5, q6, q7, q8, q9, q10, rfl⟩ := chainF_inv hy
  intro μ w S cargs r0 hl hv
  obtain ⟨v0, v1, rfl⟩ := arrTwo (by simpa using hl.symm)
  have hv0 : v0 = .int .i64 3 := by
    have := hv 0 _ v0 rfl rfl
    cases this with
    | imm _ _ h => cases h; rfl
  subst hv0
  have hv1 := hv 1 _ v1 rfl rfl
  have h2' : RI (.lst .job [a, b, c]) a2 := (RT.v h2).lst_inv
  rcases h2'.lst_inv with ⟨ys, rfl, hys⟩ | ⟨_, e0⟩
  · have hlen : ys.length = 3 := hys.1.symm
    cases hv1 with
    | imm _ _ h3 =>
      cases h3 with
      | imm _ _ A cap g i1 i2 i3 i4 i5 =>
        obtain ⟨y0, hy0⟩ : ∃ y, ys[0]? = some y := ⟨ys[0], List.getElem?_eq_getElem _⟩
        have hl0 : y0.length = 18 := (hys.2 0 a y0 rfl hy0).1.symm
        obtain ⟨m, o, rfl, hm, _⟩ := i4 0 y0 0 y0[0] hy0 (List.getElem?_eq_getElem _)
        have hc : ∀ (i : Nat) (x : List AVal) (j : Nat) (c : AVal), ys[i]? = some x → x[j]? = some c → S m ∧ w.cell? ⟨m, o + (i * 18 + j), none⟩ = some (g i j) := fun i x j c hi hj => by
          obtain ⟨m', o', hA, hm', hc'⟩ := i4 i x j c hi hj
          cases hA
          exact ⟨hm', hc'⟩
        obtain ⟨ra, ra0, ra1, a9, va, ia, ja, ca⟩ := rows_at hys hc i5 0 a rfl
        obtain ⟨rb, rb0, rb1, b9, vb, ib, jb, cb⟩ := rows_at hys hc i5 1 b rfl
        obtain ⟨rc, rc0, rc1, c9, vc, ic, jc, cc⟩ := rows_at hys hc i5 2 c rfl
        rw [q1] at ia
        rw [q2] at ib
        rw [q3] at ic
        obtain ⟨A0, c0, rfl⟩ := deps_none ia ja
        obtain ⟨m1, o1, c1, rfl, s1, k1, k1'⟩ := deps_one ib jb
        obtain ⟨m2, o2, c2, rfl, s2, k2, k2'⟩ := deps_one ic jc
        rw [hlen]
        refine (h (w := w) rfl (r0.inS m hm) (fun k => ((List.range 18).map (g k)).toArray)
          (fun k hk => by match k, hk with
            | 0, _ => exact ra
            | 1, _ => exact rb
            | 2, _ => exact rc)
          (fun k hk => by simp)
          (fun k hk => by match k, hk with
            | 0, _ => rw [ra0, q4]; rfl
            | 1, _ => rw [rb0, q5]; rfl
            | 2, _ => rw [rc0, q6]; rfl)
          (fun k hk => by match k, hk with
            | 0, _ => exact ra1
            | 1, _ => exact rb1
            | 2, _ => exact rc1) A0 c0 ca m1 o1 c1 (r0.inS m1 s1) cb (by rw [k1, q7]) (by rw [k1', q9]) m2 o2 c2 (r0.inS m2 s2) cc (by rw [k2, q8]) (by rw [k2', q10])).mono fun e w' ⟨G, cap', he, hcap, hG, hGw, z0, z1, hbel⟩ => ?_
        have hfree : ∀ b, μ b = .free := fun b => r0.free b (.inr (Nat.zero_le _))
        have hgl := r0.gl.mono (w' := w') (S' := fun j => S j ∨ j = G) (fun m hm => hbel.block m (r0.inS m hm)) (fun _ h => .inl h)
        refine ⟨_, μ, fun j => S j ∨ j = G, he, ?_, ⟨hbel.os, hbel.tape, hbel.output, hbel.size, fun m hm _ => hbel.block m hm, fun _ h => .inl h, fun m hm => ?_, fun m ho => .inl ho⟩, ?_, Nat.le_refl _, fun b hb => absurd hb (Nat.not_lt_zero _)⟩
        · show HRep μ w' _ []
          refine ⟨fun b k hbk => ?_, fun b _ => .inl (hfree b), fun b _ => hfree b, r0.inj, fun m ho => ?_, fun m hm => ?_, hgl⟩
          · unfold Heap.get at hbk
            simp at hbk
          · obtain ⟨b, n, e, hb⟩ := ho
            rw [hfree b] at hb
            cases hb
          · rcases hm with hm | rfl
            · exact Nat.lt_of_lt_of_le (r0.inS m hm) hbel.size
            · exact hGw
        · rcases hm with hm | rfl
          · exact .inl hm
          · exact .inr (.inr hG)
        · show VR μ w' _ (yA (.v (.list (.int .i64)), []) [] [1, 2]) _
          rw [ya_two]
          refine .imm _ _ (.imm 1 [[.int .i64 1], [.int .i64 2]] (some ⟨G, 0, none⟩) cap' (fun i _ => .int .i64 ((i : Int) + 1)) hcap (fun h => by cases h) (fun i x hi => ?_) (fun i x j c hi hj => ?_) (fun i x j c hi hj => ?_))
          · match i, hi with
            | 0, hi => cases hi; rfl
            | 1, hi => cases hi; rfl
          · match i, hi with
            | 0, hi =>
              cases hi
              match j, hj with
              | 0, hj => exact ⟨G, 0, rfl, .inr rfl, z0⟩
            | 1, hi =>
              cases hi
              match j, hj with
              | 0, hj => exact ⟨G, 0, rfl, .inr rfl, z1⟩
          · match i, hi with
            | 0, hi =>
              cases hi
              match j, hj with
              | 0, hj => cases hj; exact .int _ _
            | 1, hi =>
              cases hi
              match j, hj with
              | 0, hj => cases hj; exact .int _ _
  · cases e0
theorem ext66 : NOk Try.prog ⟨66, sigChain, fun x _ => chainF x.1 x.2.1⟩ :=
  NOk.chain ⟨_, Try.func66, rfl, rfl⟩ Chain.walk
end NM
end Go.Proofs.Ytnggfgfeghmddaa
