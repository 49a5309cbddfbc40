/-
  The statement JobSteps about plain data.
-/
import Derived.Test.YtgpehdiancphnaaPJob
import Derived.KernelRfl
set_option linter.unusedVariables false
set_option linter.unusedSimpArgs false
namespace Go.Proofs.Ytgpehdiancphnaa
namespace NM
open AM
theorem awake16 : f21 = some true := by kernel_rfl
def nextI (s w : Int) : Int :=
  if w = 1 then (if s = 1 then 2 else 0) else if w = 2 then (if s = 2 then 1 else 0) else if w = 3 then (if s = 1 then 3 else 0) else if w = 4 then (if s = 3 then 1 else 0) else if w = 5 then (if s = 3 then 4 else 0)
  else if w = 6 then (if s = 3 then 4 else if s = 1 then 6 else if s = 2 then 6 else 0) else if w = 7 then (if s = 3 then 5 else if s = 4 then 5 else 0) else if w = 8 then (if s = 4 then 6 else 0) else 0
theorem r_Next (s w : Int) : f27 s w = some (nextI s w) := by
  unfold f27 F27 nextI
  simp only [cond_dec]
  repeat' split
  all_goals rfl
theorem next_cases {s w : Int} (h : nextI s w ≠ 0) : (w = 1 ∧ s = 1) ∨ (w = 2 ∧ s = 2) ∨ (w = 3 ∧ s = 1) ∨ (w = 4 ∧ s = 3) ∨ (w = 5 ∧ s = 3) ∨ (w = 6 ∧ s = 3) ∨ (w = 6 ∧ s = 1) ∨ (w = 6 ∧ s = 2) ∨ (w = 7 ∧ s = 3) ∨ (w = 7 ∧ s = 4) ∨ (w = 8 ∧ s = 4) := by
  by_cases w1 : w = 1
  · subst w1; by_cases a : s = 1 <;> simp [nextI, a] at h ⊢
  by_cases w2 : w = 2
  · subst w2; by_cases a : s = 2 <;> simp [nextI, a] at h ⊢
  by_cases w3 : w = 3
  · subst w3; by_cases a : s = 1 <;> simp [nextI, a] at h ⊢
  by_cases w4 : w = 4
  · subst w4; by_cases a : s = 3 <;> simp [nextI, a] at h ⊢
  by_cases w5 : w = 5
  · subst w5; by_cases a : s = 3 <;> simp [nextI, a] at h ⊢
  by_cases w6 : w = 6
  · subst w6; by_cases a : s = 3
    · simp [a]
    · by_cases b : s = 1
      · simp [b]
      · by_cases c : s = 2 <;> simp [nextI, a, b, c] at h ⊢
  by_cases w7 : w = 7
  · subst w7; by_cases a : s = 3
    · simp [a]
    · by_cases b : s = 4 <;> simp [nextI, a, b] at h ⊢
  by_cases w8 : w = 8
  · subst w8; by_cases a : s = 4 <;> simp [nextI, a] at h ⊢
  simp [nextI, w1, w2, w3, w4, w5, w6, w7, w8] at h
theorem p_Next (s w : Int) : f85 s w = some (nextI s w, !decide (nextI s w = 0), ()) := by
  by_cases h : nextI s w = 0
  · have h0 := h
    unfold nextI at h
    unfold f85 F85
    rw [h0]
    simp only [p_Waits, p_Has, Option.bind_some, cond_somes, cond_mk]
    repeat' split at h
    all_goals first | (simp [*]; done) | omega | skip
  · rcases next_cases h with ⟨rfl, rfl⟩ | ⟨rfl, rfl⟩ | ⟨rfl, rfl⟩ | ⟨rfl, rfl⟩ | ⟨rfl, rfl⟩ | ⟨rfl, rfl⟩ | ⟨rfl, rfl⟩ | ⟨rfl, rfl⟩ | ⟨rfl, rfl⟩ | ⟨rfl, rfl⟩ | ⟨rfl, rfl⟩ <;> rfl
def stepJ (j : Job) (w now : Int) (ok : Bool) : Job :=
  ⟨j.id, j.user, j.queue, j.many, j.need, j.wall, j.after, nextI j.state w, if w = 5 then ok else if w = 6 ∨ w = 8 ∨ (w = 7 ∧ j.state = 3) then false else j.ok, if w = 6 then true else if w = 7 then false else j.kill, IntKind.wrap .i64 (j.version + 1), j.born, if w = 3 then now else if w = 4 then 0 else j.start, if 5 ≤ nextI j.state w then now else j.fin, j.array⟩
theorem r_Step (j : Job) (w now : Int) (ok : Bool) : f28 j w now ok = some (stepJ j w now ok) := by
  unfold f28 F28
  simp only [r_Next, Option.bind_some]
  unfold stepJ
  by_cases h3 : w = 3
  · subst h3
    simp only [Int.reduceEq, decide_true, decide_false, cond_true, cond_false, Option.bind_some]
    by_cases h5 : 5 ≤ nextI j.state 3 <;> simp [h5]
  · by_cases h4 : w = 4
    · subst h4
      simp only [Int.reduceEq, decide_true, decide_false, cond_true, cond_false, Option.bind_some]
      by_cases h5 : 5 ≤ nextI j.state 4 <;> simp [h5]
    · by_cases h5 : w = 5
      · subst h5
        simp only [Int.reduceEq, decide_true, decide_false, cond_true, cond_false, Option.bind_some]
        by_cases h5 : 5 ≤ nextI j.state 5 <;> simp [h5]
      · by_cases h6 : w = 6
        · subst h6
          simp only [Int.reduceEq, decide_true, decide_false, cond_true, cond_false, Option.bind_some]
          by_cases h5 : 5 ≤ nextI j.state 6 <;> simp [h5]
        · by_cases h7 : w = 7
          · subst h7
            simp only [Int.reduceEq, decide_true, decide_false, cond_true, cond_false, Option.bind_some]
            by_cases hs : j.state = 3
            · rw [hs]; rfl
            · by_cases h5 : 5 ≤ nextI j.state 7 <;> simp [h5, hs]
          · by_cases h8 : w = 8
            · subst h8
              simp only [Int.reduceEq, decide_true, decide_false, cond_true, cond_false, Option.bind_some]
              by_cases h5 : 5 ≤ nextI j.state 8 <;> simp [h5]
            · simp only [h3, h4, h5, h6, h7, h8, decide_true, decide_false, cond_true, cond_false, Option.bind_some]
              by_cases h5 : 5 ≤ nextI j.state w <;> simp [h5]
def zeroJ : Job := ⟨0, 0, 0, 0, ⟨0, 0, 0, 0⟩, 0, [], 0, false, false, 0, 0, 0, 0, 0⟩
theorem p_Step (j : Job) (w now : Int) (ok : Bool) (hl : j.after.length ≤ 30) : f26 j w now ok = some (if jobOk j = false ∨ inB now 0 1099511627776 = false then (zeroJ, 2, ()) else if nextI j.state w = 0 then (zeroJ, 31, ()) else if j.version = 281474976710656 then (zeroJ, 41, ()) else (stepJ j w now ok, 0, ())) := by
  have hml : maxLen = 9223372036854775807 := rfl
  unfold f26 F26
  simp only [p_jobRight j (by omega), p_in, p_Next, p_Clone _ (show j.after.length ≤ 4294967296 by omega), p_Over, Option.bind_some]
  cases hj : jobOk j with
  | false => simp [zeroJ]
  | true =>
    cases hn : inB now 0 1099511627776 with
    | false => simp [zeroJ]
    | true =>
      by_cases h0 : nextI j.state w = 0
      · simp [h0, zeroJ]
      · by_cases hv : j.version = 281474976710656
        · simp [h0, hv, zeroJ]
        · simp only [h0, hv, decide_false, Bool.not_false, Bool.not_true, cond_false, if_false, Bool.true_eq_false, or_self]
          unfold stepJ
          rcases next_cases h0 with ⟨rfl, hs⟩ | ⟨rfl, hs⟩ | ⟨rfl, hs⟩ | ⟨rfl, hs⟩ | ⟨rfl, hs⟩ | ⟨rfl, hs⟩ | ⟨rfl, hs⟩ | ⟨rfl, hs⟩ | ⟨rfl, hs⟩ | ⟨rfl, hs⟩ | ⟨rfl, hs⟩ <;> simp [hs, nextI]
theorem stepJ_ok (j : Job) (w now : Int) (ok : Bool) (hj : jobOk j = true) (hn : inB now 0 1099511627776 = true) (h0 : nextI j.state w ≠ 0) (hv : j.version ≠ 281474976710656) : jobOk (stepJ j w now ok) = true := by
  have hver : IntKind.wrap .i64 (j.version + 1) = j.version + 1 := by
    simp only [jobOk, inB, Bool.and_eq_true, decide_eq_true_eq] at hj
    exact wi (by omega) (by omega)
  have ha : afterB (stepJ j w now ok) = afterB j := rfl
  unfold jobOk at hj ⊢
  rw [ha]
  simp only [Bool.and_eq_true] at hj ⊢
  obtain ⟨c1, c2, c3, c4, c5, c6, c7, c8, c9, c10, c11, c12, c13, c14⟩ := hj
  have z : inB 0 0 1099511627776 = true := by decide
  refine ⟨c1, c2, c3, c4, c5, c6, c7, c8, ?_, c10, ?_, ?_, c13, ?_⟩
  · simp only [stepJ, hver]
    simp only [inB, Bool.and_eq_true, decide_eq_true_eq] at c9 ⊢
    omega
  · simp only [stepJ]
    repeat' split
    all_goals assumption
  · simp only [stepJ]
    repeat' split
    all_goals assumption
  · simp only [stB, decide_eq_true_eq] at c14 ⊢
    rcases next_cases h0 with ⟨rfl, hs⟩ | ⟨rfl, hs⟩ | ⟨rfl, hs⟩ | ⟨rfl, hs⟩ | ⟨rfl, hs⟩ | ⟨rfl, hs⟩ | ⟨rfl, hs⟩ | ⟨rfl, hs⟩ | ⟨rfl, hs⟩ | ⟨rfl, hs⟩ | ⟨rfl, hs⟩ <;> rw [hs] at c14 <;> simp [stepJ, nextI, hs] at c14 ⊢ <;> simp_all
theorem _root_.Go.Proofs.Ytgpehdiancphnaa.jobSteps.plain (j : Job) (hj : Rng.P j) (l : List Int) (hl : Rng.P l) (x : Int × Int) (hx : Rng.P x) : f5 j l x = some true := by
  have hml : maxLen = 9223372036854775807 := rfl
  unfold f5 F5
  simp only [awake16, Option.bind_some, Bool.not_true, cond_false]
  by_cases h30 : 30 < (j.after.length : Int)
  · simp only [h30, decide_true, cond_true]
  · by_cases h60 : 60 < (l.length : Int)
    · simp only [h30, h60, decide_true, decide_false, cond_true, cond_false]
    · simp only [h30, h60, decide_false, cond_false]
      let now := x.1
      let ok := decide ((Int.tmod x.2 2) = 0)
      rw [list_loopI l (fun b z => (((), (), z, ()), (b, x, ()))) (fun b _ => b.after.length ≤ 30)
        (fun b w => if jobOk b = false ∨ inB x.1 0 1099511627776 = false then .inr (some true) else if nextI b.state w = 0 then .inl b else if b.version = 281474976710656 then .inr (some true) else .inl (stepJ b w x.1 (decide ((Int.tmod x.2 2) = 0)))) (fun _ => some true) hl.1 ?_ ?_ j (by omega)]
      · clear h60 h30 hl hj
        induction l generalizing j with
        | nil => rfl
        | cons w l ih =>
          simp only [runL]
          split
          · rename_i b' hb; exact ih b'
          · rename_i r hr
            repeat' split at hr
            all_goals first | (cases hr; rfl) | cases hr
      · intro b next _
        simp [l5_0]
      · intro b z w next hI h0 h1 h2 h3
        have hz : zeroJ = Job.mk 0 0 0 0 (Res.mk 0 0 0 0) 0 [] 0 false false 0 0 0 0 0 := rfl
        have hzs : f25 zeroJ (Job.mk 0 0 0 0 (Res.mk 0 0 0 0) 0 [] 0 false false 0 0 0 0 0) = some true := by
          rw [← hz, r_Same _ _ (by simp [zeroJ]), sameB_refl]
        have hnow : (decide (x.1 < 0) = false ∧ decide (1099511627776 < x.1) = false) ↔ inB x.1 0 1099511627776 = true := by
          simp [inB]
        simp only [l5_0, h0, h1, h2, h3, decide_true, cond_true, Option.bind_some, p_Step b w x.1 _ hI, r_jobRight b (by omega)]
        cases hb : jobOk b with
        | false => simp [hzs]
        | true =>
          cases hn : inB x.1 0 1099511627776 with
          | false =>
            simp only [inB, Bool.and_eq_false_iff, decide_eq_false_iff_not] at hn
            by_cases g1 : x.1 < 0
            · simp [g1, hzs]
            · have g2 : 1099511627776 < x.1 := by omega
              simp [g1, g2, hzs]
          | true =>
            have hn' := hn
            obtain ⟨g1, g2⟩ := hnow.2 hn
            simp only [decide_eq_false_iff_not] at g1 g2
            by_cases e0 : nextI b.state w = 0
            · simp [g1, g2, r_Next, e0, hzs, hI]
            · by_cases ev : b.version = 281474976710656
              · simp [g1, g2, r_Next, e0, ev, hzs]
              · have hst := stepJ_ok b w x.1 (decide ((Int.tmod x.2 2) = 0)) hb hn' e0 ev
                have hla : (stepJ b w x.1 (decide ((Int.tmod x.2 2) = 0))).after.length ≤ 30 := hI
                have hsv : (stepJ b w x.1 (decide ((Int.tmod x.2 2) = 0))).version = IntKind.wrap .i64 (b.version + 1) := rfl
                simp [g1, g2, r_Next, e0, ev, r_Step, r_Same _ _ (show (stepJ b w x.1 (decide ((Int.tmod x.2 2) = 0))).after.length ≤ maxLen by omega), sameB_refl, p_jobRight _ (show (stepJ b w x.1 (decide ((Int.tmod x.2 2) = 0))).after.length ≤ maxLen by omega), hst, hsv, hla]
end NM
namespace jobSteps
open NM AM
theorem ints_self (l : List Int) : (NEnc.f l : List Int) = l := List.map_id' l
theorem walk (x0 : Job) (x1 : List Int) (x2 : Int × Int) (v0 v1 v2 : Value) (W : World) (h0 : V W (Lt W.heap.size) x0 v0) (h1 : V W (Lt W.heap.size) x1 v1) (h2 : V W (Lt W.heap.size) x2 v2) :
    Calls Try.prog 5 #[v0, v1, v2] W fun e w' => e = .returned (.bool true) ∧ Go.RowKit.Below W.heap.size W w' :=
  nlaw_walk NM.ok5 (x := (NEnc.f x0, NEnc.f x1, NEnc.f x2, ())) (by rw [ints_self x1]; exact plain x0 (Rng.ok h0.1) x1 (Rng.ok h1.1) x2 (Rng.ok h2.1)) (arg_cons x0 (arg_cons x1 (arg_cons x2 arg_nil))) rfl fun j a v ha hv => by
    match j with
    | 0 => simp at ha hv; subst ha; subst hv; exact h0.vr (fun _ h => h) _
    | 1 => simp at ha hv; subst ha; subst hv; exact h1.vr (fun _ h => h) _
    | 2 => simp at ha hv; subst ha; subst hv; exact h2.vr (fun _ h => h) _
end jobSteps
end Go.Proofs.Ytgpehdiancphnaa
