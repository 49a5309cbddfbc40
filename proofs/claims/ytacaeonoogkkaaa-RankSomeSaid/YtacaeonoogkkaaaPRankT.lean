/-
  Jobs in their order: sorted, each once.
-/
import Derived.Test.YtacaeonoogkkaaaPRank
set_option linter.unusedVariables false
set_option linter.unusedSimpArgs false
set_option maxHeartbeats 4000000
namespace Go.Proofs.Ytacaeonoogkkaaa
namespace NM
open AM
theorem sorted_eq {α : Type} {R : α → α → Prop} (irr : ∀ a, ¬ R a a) (tr : ∀ a b c, R a b → R b c → R a c) : ∀ {l m : List α}, l.Pairwise R → m.Pairwise R → l.Perm m → l = m
  | [], m, _, _, h => h.nil_eq
  | x :: l, [], _, _, h => by have := h.length_eq; simp at this
  | x :: l, y :: m, hl, hm, h => by
    rw [List.pairwise_cons] at hl hm
    have hxy : x = y := by
      apply Classical.byContradiction
      intro hne
      have h1 : x ∈ y :: m := h.mem_iff.1 (by simp)
      have h2 : y ∈ x :: l := h.mem_iff.2 (by simp)
      rcases List.mem_cons.1 h1 with e | h1
      · exact hne e
      · rcases List.mem_cons.1 h2 with e | h2
        · exact hne e.symm
        · exact irr _ (tr _ _ _ (hl.1 y h2) (hm.1 x h1))
    subst hxy
    rw [sorted_eq irr tr hl.2 hm.2 h.cons_inv]
theorem keyAt_map {s : Spec} {x : Int × List Int} {all : List Job} {i : Int} (h : i ∈ iota all.length) : keyAt (all.map (keyOf s x)) i = keyOf s x (jobAt all i) := by
  have hi := iota_mem.1 h
  have hlt : i.toNat < all.length := by omega
  unfold keyAt jobAt
  rw [List.getElem?_map, List.getElem?_eq_getElem hlt]
  rfl
theorem iota_jobs (all : List Job) : (iota all.length).map (jobAt all) = all := by
  refine List.ext_getElem (by simp [iota]) fun i h1 h2 => ?_
  simp only [iota, List.map_map, List.getElem_map, List.getElem_range, Function.comp, jobAt, Int.toNat_natCast, List.getElem?_eq_getElem h2, Option.getD_some]
def Apart (l : List Job) : Prop := l.Pairwise fun a b => a.id ≠ b.id
theorem apart_ne {l : List Job} (h : Apart l) {i j : Int} (hi : i ∈ iota l.length) (hj : j ∈ iota l.length) (hij : i ≠ j) : (jobAt l i).id ≠ (jobAt l j).id := by
  have h1 := iota_mem.1 hi
  have h2 := iota_mem.1 hj
  have l1 : i.toNat < l.length := by omega
  have l2 : j.toNat < l.length := by omega
  have e1 : jobAt l i = l[i.toNat] := by unfold jobAt; rw [List.getElem?_eq_getElem l1]; rfl
  have e2 : jobAt l j = l[j.toNat] := by unfold jobAt; rw [List.getElem?_eq_getElem l2]; rfl
  rw [e1, e2]
  have hp := List.pairwise_iff_getElem.1 h
  rcases Int.lt_or_gt_of_ne hij with h3 | h3
  · exact hp i.toNat j.toNat l1 l2 (by omega)
  · exact fun e => hp j.toNat i.toNat l2 l1 (by omega) e.symm
/-- jobs of unlike ids, in their order -/
theorem sorted_jobs {s : Spec} {x : Int × List Int} {all : List Job} (D : Apart all) {M : List Int} (h1 : M.Pairwise (ltK (all.map (keyOf s x)))) (h2 : M.Perm (iota all.length)) :
    (M.map (jobAt all)).Pairwise (fun a b => klt (keyOf s x a) (keyOf s x b) = true) ∧ (M.map (jobAt all)).Perm all := by
  constructor
  · rw [List.pairwise_map]
    rw [List.pairwise_iff_forall_sublist] at h1 ⊢
    intro i j hij
    have h3 := h1 hij
    have hi := h2.mem_iff.1 (hij.subset (by simp : i ∈ [i, j]))
    have hj := h2.mem_iff.1 (hij.subset (by simp : j ∈ [i, j]))
    unfold ltK at h3
    rw [keyAt_map hi, keyAt_map hj] at h3
    rcases h3 with h3 | ⟨h3, h4⟩
    · exact h3
    · exact absurd (congrArg (fun k : Key => k.2.2) h3) (apart_ne D hi hj (by omega))
  · have := h2.map (jobAt all)
    rwa [iota_jobs] at this
def fewJ (all : List Job) : Bool := decide (all.length ≤ 30) && all.all (fun j => decide (j.after.length ≤ 10))
theorem r_FewJ (all : List Job) (ha : all.length ≤ maxLen) : f15 all = some (fewJ all) := by
  unfold f15 F15 fewJ
  by_cases h : 30 < (all.length : Int)
  · simp [h, show ¬ all.length ≤ 30 by omega]
  · simp only [h, decide_false, cond_false, show all.length ≤ 30 by omega, decide_true, Bool.true_and]
    rw [all_loop all (fun z => ((z, ()), ())) (fun j => decide (j.after.length ≤ 10)) true ha]
    · simp
    · intro next
      simp [l15_0]
    · intro z j next h0 h1 h2 h3
      simp only [l15_0, h0, h1, h2, h3, decide_true, cond_true, Option.bind_some]
      by_cases c : j.after.length ≤ 10
      · simp [c, show ¬ 10 < (j.after.length : Int) by omega]
      · simp [c, show 10 < (j.after.length : Int) by omega]
theorem p_SameL (l : List Job) (hl : l.length ≤ 1000) (h : ∀ j, j ∈ l → j.after.length ≤ 10) : f18 l l = some true := by
  have hml : maxLen = 9223372036854775807 := rfl
  unfold f18 F18
  simp only [decide_true, Bool.not_true, cond_false]
  rw [all_loop l (fun z => ((z, ()), ())) (fun j => true) true (by omega)]
  · simp
  · intro next
    simp [l18_0]
  · intro z j next h0 h1 h2 h3
    simp only [l18_0, h0, h1, h2, h3, decide_true, cond_true, Option.bind_some, r_Same j j (by have := h j (List.mem_of_getElem? h2); omega), sameB_refl, Bool.not_true, cond_false]
end NM
end Go.Proofs.Ytacaeonoogkkaaa
