/-
  The statement PlanSooner is proved here: whatever its arguments, the call gives true; under the conditions that the given statement itself names. (Many texts laid together by program.)
-/
import Derived.Test.YtmnhkpekmgobbaaPkSz
import Derived.KernelRfl
import Derived.Test.YtmnhkpekmgobbaaRows
import Derived.WalkKit
import Derived.ProofKit
import Derived.OpenShut
import Derived.ChangeOld
import Derived.Below
import Derived.Carry
set_option linter.unnecessarySimpa false
set_option linter.unusedSimpArgs false
set_option linter.unusedVariables false
section
namespace Go.Proofs.Ytmnhkpekmgobbaa
namespace NM
open AM
def insI (x : Int) : List Int → List Int
 | [] => [x]
 | y :: l => if x ≤ y then x :: y :: l else y :: insI x l
def insSort : List Int → List Int
 | [] => []
 | x :: l => insI x (insSort l)
theorem insI_perm (x : Int) : ∀ l, (insI x l).Perm (x :: l)
 | [] => List.Perm.refl _
 | y :: l => by
   simp only [insI]
   split
   · exact List.Perm.refl _
   · exact ((insI_perm x l).cons y).trans (List.Perm.swap x y l)
theorem insSort_perm : ∀ l, (insSort l).Perm l
 | [] => List.Perm.refl _
 | x :: l => (insI_perm x _).trans ((insSort_perm l).cons x)
theorem insI_sorted (x : Int) : ∀ {l : List Int}, l.Pairwise (· ≤ ·) → (insI x l).Pairwise (· ≤ ·)
 | [], _ => by simp [insI]
 | y :: l, h => by
   simp only [insI]
   have h' := List.pairwise_cons.1 h
   split
   · rename_i hxy
     refine List.pairwise_cons.2 ⟨fun z hz => ?_, h⟩
     rcases List.mem_cons.1 hz with rfl | hz
     · exact hxy
     · have := h'.1 z hz; omega
   · rename_i hxy
     refine List.pairwise_cons.2 ⟨fun z hz => ?_, insI_sorted x h'.2⟩
     rcases List.mem_cons.1 ((insI_perm x l).mem_iff.1 hz) with rfl | hz
     · omega
     · exact h'.1 z hz
theorem insSort_sorted : ∀ l : List Int, (insSort l).Pairwise (· ≤ ·)
 | [] => List.Pairwise.nil
 | x :: l => insI_sorted x (insSort_sorted l)
theorem sortL_ins (l : List Int) : sortL l = insSort l := by
 refine List.Perm.eq_of_pairwise (le := fun a b : Int => a ≤ b) (fun a b _ _ h1 h2 => by omega) (sortL_sorted l) (insSort_sorted l) ?_
 exact (List.mergeSort_perm l _).trans (insSort_perm l).symm
theorem sort_ins : f151 = fun xs => cond (decide (0 < xs.length ∧ xs.length ≤ 4294967296)) (some ((), (insSort xs, ()))) none := by
 funext xs
 unfold f151 sortG
 rw [sortL_ins]
theorem early_ins : f63_1 = F63_1 (@LN LOOPS) (F127_1 (@LN LOOPS) (fun xs => cond (decide (0 < xs.length ∧ xs.length ≤ 4294967296)) (some ((), (insSort xs, ()))) none) f171) f64_1 := by
 rw [← sort_ins]
 rfl
theorem awake_of (g : Int → Int → Res → Int → Int → (List (List Int)) → (List (List Step)) → Option PlanT) (h : f63_1 = g) : f60 = F60 (@LN LOOPS) f101 f62 f63 g := by
 rw [← h]
 rfl
theorem awake13 : f60 = some true := (awake_of _ early_ins).trans (by kernel_rfl)
abbrev WorldT := (Spec × (Int × ((List Run) × (List Booking))))
def FewP (w : WorldT) : Prop := fewB w.1 = true ∧ w.2.2.1.length ≤ 12 ∧ w.2.2.2.length ≤ 20 ∧ ∀ r ∈ w.2.2.1, r.shares.length ≤ 40
theorem p_Few13 (w : WorldT) (hs : Rng.P w.1) : ∃ b : Bool, f61 w = some b ∧ (b = true → FewP w) := by
 have hml : maxLen = 9223372036854775807 := rfl
 unfold f61 F61
 rw [r_Few w.1 hs]
 simp only [Option.bind_some]
 cases h1 : fewB w.1 with
 | false => exact ⟨false, rfl, fun h => by cases h⟩
 | true =>
   by_cases h2 : 12 < (w.2.2.1.length : Int)
   · rw [decide_eq_true h2]; exact ⟨false, rfl, fun h => by cases h⟩
   by_cases h3 : 20 < (w.2.2.2.length : Int)
   · rw [decide_eq_false h2, decide_eq_true h3]; exact ⟨false, rfl, fun h => by cases h⟩
   rw [decide_eq_false h2, decide_eq_false h3]
   refine ⟨w.2.2.1.all (fun r => decide (r.shares.length ≤ 40)), ?_, fun h => ⟨h1, by omega, by omega, fun r hr => by simpa using List.all_eq_true.1 h r hr⟩⟩
   simp only [Bool.not_true, cond_false]
   rw [all_loop w.2.2.1 (fun z => ((z, ()), ())) (fun r => decide (r.shares.length ≤ 40)) true (by omega)]
   · simp
   · intro next
     simp [l61_0]
   · intro z r next g0 g1 g2 g3
     simp only [l61_0, g0, g1, g2, g3, decide_true, cond_true, Option.bind_some]
     by_cases h : r.shares.length ≤ 40
     · rw [decide_eq_true h, decide_eq_false (show ¬ 40 < (r.shares.length : Int) by omega)]; rfl
     · rw [decide_eq_false h, decide_eq_true (show 40 < (r.shares.length : Int) by omega)]; rfl
theorem p_Earliest_no {now : Int} {parts : List (List Int)} {nodes : List (List Step)} (p0 many : Int) (need : Res) (wall : Int) (h : p0 < 0 ∨ (parts.length : Int) ≤ p0) :
   f63_1 p0 many need wall now parts nodes = some (((0, (0, [])), (false, ())), prof now parts nodes) := by
 have ht : f127_1 p0 now parts nodes = some ([], prof now parts nodes) := by
   unfold f127_1 F127_1
   by_cases h1 : p0 < 0
   · rw [decide_eq_true h1]; rfl
   · rw [decide_eq_false h1, decide_eq_true (show (parts.length : Int) ≤ p0 by omega)]; rfl
 unfold f63_1 F63_1
 rw [ht]
 simp only [Option.bind_some, prof, decide_true, Bool.and_self, cond_true]
 rfl
theorem part_ok {s : Spec} (h : specOk s = true) {p0 : Int} (h1 : ¬ p0 < 0) (h2 : ¬ (s.parts.length : Int) ≤ p0) : ∃ part, s.parts[p0.toNat]? = some part ∧ PartOk s.nodes.length part ∧ 1 ≤ part.length ∧ part.length ≤ 16 := by
 obtain ⟨f1, f2, f3, f4⟩ := specOk_facts h
 have hp : s.parts[p0.toNat]? = some (s.parts[p0.toNat]'(by omega)) := List.getElem?_eq_getElem (by omega)
 obtain ⟨g1, g2, g3⟩ := f4 (s.parts[p0.toNat]'(by omega)) (List.getElem_mem _)
 refine ⟨_, hp, ⟨by omega, fun k hk => ?_⟩, g1, g3⟩
 have := asc_mem g2 k hk
 omega
theorem erase_step {α : Type} (l : List α) (k i : Nat) (hi : i < l.length) (x : α) (hx : l[i]? = some x) : (l.take (i + 1)).eraseIdx k = if i = k then (l.take i).eraseIdx k else (l.take i).eraseIdx k ++ [x] := by
 have hl : (l.take i).length = i := by rw [List.length_take]; omega
 rw [List.take_add_one, hx, Option.toList_some]
 rcases Nat.lt_or_ge k i with h | h
 · rw [if_neg (by omega), List.eraseIdx_append_of_lt_length (by omega)]
 · rw [List.eraseIdx_append_of_length_le (by omega), hl]
   have he : (l.take i).eraseIdx k = l.take i := List.eraseIdx_of_length_le (by omega)
   rw [he]
   by_cases e : i = k
   · rw [if_pos e, show k - i = 0 by omega]
     simp
   · rw [if_neg e]
     have : ∃ m, k - i = m + 1 := ⟨k - i - 1, by omega⟩
     obtain ⟨m, hm⟩ := this
     rw [hm]
     rfl
theorem sooner_core {s : Spec} {now : Int} {runs runs' : List Run} {books books' : List Booking} (hs : Rng.P s) (hr : runs.length ≤ 12) (hrs : ∀ r ∈ runs, r.shares.length ≤ 40) (hb : books.length ≤ 20) (hr' : runs'.Sublist runs) (hb' : books'.Sublist books) {nodes : List (List Step)}
   (hin : InP s now runs books) (hok : OkV now s.nodes.length (apV (V0 s) (runs.map (runD now) ++ books.map (bookD now s.nodes)))) (hN : nodes.length = s.nodes.length) (hV : PRep now 100 nodes (apV (V0 s) (runs.map (runD now) ++ books.map (bookD now s.nodes)))) (p0 many : Int) (need : Res) (wall : Int) :
   ∃ nodes', f62 s now runs' books' = some (.inr (((), 0, ()), prof now s.parts nodes')) ∧ ∃ a ok a' ok', f63_1 p0 many need wall now s.parts nodes = some ((a, (ok, ())), prof now s.parts nodes) ∧
     f63_1 p0 many need wall now s.parts nodes' = some ((a', (ok', ())), prof now s.parts nodes') ∧ (ok = true → ok' = true ∧ a'.2.1 ≤ a.2.1 ∧ ∃ l, f64_1 p0 many need wall a.2.1 now s.parts nodes' = some ((l, (true, ())), prof now s.parts nodes')) := by
 obtain ⟨i1, i2, i3, i4, i5⟩ := hin
 obtain ⟨f1, f2, f3, f4⟩ := specOk_facts i1
 have hin' : InP s now runs' books' := ⟨i1, i2, i3, i4.sub hb', fun r hr => i5 r (hr'.subset hr)⟩
 have hsub : (runs'.map (runD now) ++ books'.map (bookD now s.nodes)).Sublist (runs.map (runD now) ++ books.map (bookD now s.nodes)) := (hr'.map _).append (hb'.map _)
 have hpos : ∀ D ∈ runs.map (runD now) ++ books.map (bookD now s.nodes), posD s.nodes.length now D := fun D hD => by
   rcases List.mem_append.1 hD with hD | hD
   · obtain ⟨u, hu, rfl⟩ := List.mem_map.1 hD
     exact runD_pos (i5 u hu)
   · obtain ⟨u, _, rfl⟩ := List.mem_map.1 hD
     exact bookD_pos f2 u
 have hle := apV_sub hsub (V0 s) (V0 s) (fun k hk t ht => leR.refl _) hpos
 have hok' := hok.mono hle
 have hlr := hr'.length_le
 have hlb := hb'.length_le
 rcases p_New s hs now runs' books' (by omega) (fun r hr => hrs r (hr'.subset hr)) (by omega) with ⟨_, hG⟩ | ⟨hno, _⟩
 · rcases hG with ⟨_, nodes', hnew, hN', hV'⟩ | ⟨hno, _⟩
   · refine ⟨nodes', hnew, ?_⟩
     by_cases hp : p0 < 0 ∨ (s.parts.length : Int) ≤ p0
     · exact ⟨_, _, _, _, p_Earliest_no p0 many need wall hp, p_Earliest_no p0 many need wall hp, fun h => by cases h⟩
     · obtain ⟨part, hpart, hpok, hne, hp16⟩ := part_ok i1 (p0 := p0) (by omega) (by omega)
       have hpokN := hpok
       rw [← hN] at hpokN
       have hpokN' := hpok
       rw [← hN'] at hpokN'
       have E := p_Earliest hV (by omega) (by omega) p0 many need wall (by omega) hpart hpokN hne hp16 i2
       have E' := p_Earliest hV' (by omega) (by omega) p0 many need wall (by omega) hpart hpokN' hne hp16 i2
       have hmono : ∀ t, OkAt (apV (V0 s) (runs.map (runD now) ++ books.map (bookD now s.nodes))) part many need now wall t → ∀ fit', FitsV (apV (V0 s) (runs'.map (runD now) ++ books'.map (bookD now s.nodes))) part need t (t + wall) fit' → 1 ≤ many ∧ many ≤ sumF fit' part := by
         rintro t ⟨hc, fit, hf, h1, h2⟩ fit' hf'
         have := sumF_mono part (fits_mono hf hf' fun k hk t' g1 g2 => ⟨t', g1, g2, hle k.toNat (by have := hpok.2 k hk; omega) t' (by have := hc.2.2.1; omega)⟩)
         exact ⟨h1, by omega⟩
       rcases E with ⟨t, fit, e1, e2, e3, e4, e5, e6⟩ | ⟨e1, e2⟩
       · have hokt : OkAt _ part many need now wall t := ⟨e2, fit, e3, e4, e5⟩
         obtain ⟨fit', w2, w3⟩ : ∃ fit', FitsV (apV (V0 s) (runs'.map (runD now) ++ books'.map (bookD now s.nodes))) part need t (t + wall) fit' ∧ f64_1 p0 many need wall t now s.parts nodes' = some (placeF fit' part many, prof now s.parts nodes') := by
           rcases p_When hV' (by omega) (by omega) p0 many need wall t (by omega) hpart hpokN' i2 with ⟨w1, _⟩ | ⟨_, w⟩
           · exact absurd e2 w1
           · exact w
         have hm := hmono t hokt fit' w2
         have hokt' : OkAt (apV (V0 s) (runs'.map (runD now) ++ books'.map (bookD now s.nodes))) part many need now wall t := ⟨e2, fit', w2, hm.1, hm.2⟩
         rcases E' with ⟨t', fit2, q1, q2, q3, q4, q5, q6⟩ | ⟨q1, q2⟩
         · refine ⟨_, _, _, _, e1, q1, fun _ => ⟨rfl, ?_, ?_⟩⟩
           · show t' ≤ t
             rcases (show t' ≤ t ∨ t < t' by omega) with h | h
             · exact h
             · exact absurd hokt' (q6 t e2.2.2.1 h)
           · refine ⟨greedy fit' part many, w3.trans ?_⟩
             unfold placeF
             rw [if_neg (by omega)]
         · exact absurd hokt' (q2 t)
       · rcases E' with ⟨t', fit2, q1, _⟩ | ⟨q1, _⟩
         · exact ⟨_, _, _, _, e1, q1, fun h => by cases h⟩
         · exact ⟨_, _, _, _, e1, q1, fun h => by cases h⟩
   · exact absurd hok' hno
 · exact absurd hin' hno
abbrev LessT := ((List Res) × ((List (List Int)) × ((List Queue) × (Int × (Int × (Int × (Int × (Int × (Int × (Int × (Int × (Int × (Int × (Int × (Int × (Int × (Int × (Int × (Int × (Unit × (Unit × Unit)))))))))))))))))))))
def lessT (s : Spec) (now : Int) : LessT := (s.nodes, s.parts, s.queues, s.users, s.weights.age, s.weights.size, s.weights.qos, s.weights.share, s.decay, s.mode, s.jobs, s.ids, s.versions, s.linger, s.keep, s.inn, s.out, s.cache, now, (), (), ())
abbrev St1 := ((Unit × (Unit × (Unit × (Unit × (Int × Unit))))) × (WorldT × ((Int × (Int × (Res × Int))) × ((Int × (Unit × (Unit × Unit))) × (LessT × ((List (List Int)) × ((List (List Step)) × ((List Run) × Unit))))))))
abbrev St2 := ((Unit × (Unit × (Unit × (Unit × (Int × Unit))))) × (WorldT × ((Int × (Int × (Res × Int))) × ((Int × (Unit × (Unit × Unit))) × (LessT × ((List (List Int)) × ((List (List Step)) × ((List Run) × ((List Booking) × Unit)))))))))
abbrev NewF := Spec → Int → (List Run) → (List Booking) → Option NewR
abbrev EarlyF := Int → Int → Res → Int → Int → (List (List Int)) → (List (List Step)) → Option PlanT
abbrev EarlyN := Int → Int → Res → Int → Option ((Int × (Int × (List Share))) × (Bool × Unit))
abbrev WhenN := Int → Int → Res → Int → Int → Option ((List Share) × (Bool × Unit))
abbrev WhenF := Int → Int → Res → Int → Int → Int → (List (List Int)) → (List (List Step)) → Option WhenT
def round2 (g62 : NewF) (g63_1 : EarlyF) (g63 : EarlyN) (g64 : WhenN) (g64_1 : WhenF) (at2 v77 : Int) (z81 : WorldT) : St2 → (St2 → Option Bool) → Option Bool := fun s107 nx108 => l9_2 g62 g63_1 g63 g64 g64_1 at2 v77 z81 nx108 s107.1.2.2.2.2.1 s107.2.1 s107.2.2.1 s107.2.2.2.1.1 s107.2.2.2.2.1.1 s107.2.2.2.2.1.2.1 s107.2.2.2.2.1.2.2.1 s107.2.2.2.2.1.2.2.2.1 s107.2.2.2.2.1.2.2.2.2.1 s107.2.2.2.2.1.2.2.2.2.2.1 s107.2.2.2.2.1.2.2.2.2.2.2.1 s107.2.2.2.2.1.2.2.2.2.2.2.2.1 s107.2.2.2.2.1.2.2.2.2.2.2.2.2.1 s107.2.2.2.2.1.2.2.2.2.2.2.2.2.2.1 s107.2.2.2.2.1.2.2.2.2.2.2.2.2.2.2.1 s107.2.2.2.2.1.2.2.2.2.2.2.2.2.2.2.2.1 s107.2.2.2.2.1.2.2.2.2.2.2.2.2.2.2.2.2.1 s107.2.2.2.2.1.2.2.2.2.2.2.2.2.2.2.2.2.2.1 s107.2.2.2.2.1.2.2.2.2.2.2.2.2.2.2.2.2.2.2.1 s107.2.2.2.2.1.2.2.2.2.2.2.2.2.2.2.2.2.2.2.2.1 s107.2.2.2.2.1.2.2.2.2.2.2.2.2.2.2.2.2.2.2.2.2.1 s107.2.2.2.2.1.2.2.2.2.2.2.2.2.2.2.2.2.2.2.2.2.2.1 s107.2.2.2.2.1.2.2.2.2.2.2.2.2.2.2.2.2.2.2.2.2.2.2.1 s107.2.2.2.2.2.1 s107.2.2.2.2.2.2.1 s107.2.2.2.2.2.2.2.1 s107.2.2.2.2.2.2.2.2.1
def round1 (L : Lp) (g62 : NewF) (g63_1 : EarlyF) (g63 : EarlyN) (g64 : WhenN) (g64_1 : WhenF) (at2 : Int) (x76 : ((Unit × (Unit × (Unit × Unit))) × (WorldT × ((Int × (Int × (Res × Int))) × Prof)))) (v77 : Int) : St1 → (St1 → Option Bool) → Option Bool := fun s78 nx79 => l9_3 L g62 g63_1 g63 g64 g64_1 at2 x76 v77 nx79 s78.1.2.2.2.2.1 s78.2.1 s78.2.2.1 s78.2.2.2.1.1 s78.2.2.2.2.1.1 s78.2.2.2.2.1.2.1 s78.2.2.2.2.1.2.2.1 s78.2.2.2.2.1.2.2.2.1 s78.2.2.2.2.1.2.2.2.2.1 s78.2.2.2.2.1.2.2.2.2.2.1 s78.2.2.2.2.1.2.2.2.2.2.2.1 s78.2.2.2.2.1.2.2.2.2.2.2.2.1 s78.2.2.2.2.1.2.2.2.2.2.2.2.2.1 s78.2.2.2.2.1.2.2.2.2.2.2.2.2.2.1 s78.2.2.2.2.1.2.2.2.2.2.2.2.2.2.2.1 s78.2.2.2.2.1.2.2.2.2.2.2.2.2.2.2.2.1 s78.2.2.2.2.1.2.2.2.2.2.2.2.2.2.2.2.2.1 s78.2.2.2.2.1.2.2.2.2.2.2.2.2.2.2.2.2.2.1 s78.2.2.2.2.1.2.2.2.2.2.2.2.2.2.2.2.2.2.2.1 s78.2.2.2.2.1.2.2.2.2.2.2.2.2.2.2.2.2.2.2.2.1 s78.2.2.2.2.1.2.2.2.2.2.2.2.2.2.2.2.2.2.2.2.2.1 s78.2.2.2.2.1.2.2.2.2.2.2.2.2.2.2.2.2.2.2.2.2.2.1 s78.2.2.2.2.1.2.2.2.2.2.2.2.2.2.2.2.2.2.2.2.2.2.2.1 s78.2.2.2.2.2.1 s78.2.2.2.2.2.2.1 s78.2.2.2.2.2.2.2.1
def st1 (w : WorldT) (x : Int × (Int × (Res × Int))) (nodes : List (List Step)) (i : Nat) (acc : List Run) : St1 := (((), (), (), (), (i : Int), ()), (w, x, (w.2.1, (), (), ()), lessT w.1 w.2.1, w.1.parts, nodes, acc, ()))
def st2 (w : WorldT) (x : Int × (Int × (Res × Int))) (nodes : List (List Step)) (i : Nat) (acc : List Run) (bk : List Booking) : St2 := (((), (), (), (), (i : Int), ()), (w, x, (w.2.1, (), (), ()), lessT w.1 w.2.1, w.1.parts, nodes, acc, bk, ()))
theorem round1_end (L : Lp) (g62 : NewF) (g63_1 : EarlyF) (g63 : EarlyN) (g64 : WhenN) (g64_1 : WhenF) (at2 v77 : Int) (u : (Unit × (Unit × (Unit × Unit)))) (w : WorldT) (x : Int × (Int × (Res × Int))) (P : Prof) (nodes : List (List Step)) (acc : List Run) (next) :
   round1 L g62 g63_1 g63 g64 g64_1 at2 (u, (w, x, P)) v77 (st1 w x nodes w.2.2.1.length acc) next = L (round2 g62 g63_1 g63 g64 g64_1 at2 v77 w) (st2 w x nodes 0 acc []) := by
 show l9_3 L g62 g63_1 g63 g64 g64_1 at2 (u, (w, x, P)) v77 next (w.2.2.1.length : Int) w x w.2.1 w.1.nodes w.1.parts w.1.queues w.1.users w.1.weights.age w.1.weights.size w.1.weights.qos w.1.weights.share w.1.decay w.1.mode w.1.jobs w.1.ids w.1.versions w.1.linger w.1.keep w.1.inn w.1.out w.1.cache w.2.1 w.1.parts nodes acc = _
 unfold l9_3
 rw [decide_eq_false (show ¬ ((w.2.2.1.length : Nat) : Int) < (w.2.2.1.length : Int) by omega)]
 rfl
theorem small64 {n : Nat} (h : n ≤ 1000) : smallB n 64 = true ∧ smallB n 32 = true := by
 unfold smallB
 simp only [Bool.and_eq_true, decide_eq_true_eq]
 omega
theorem round1_step (L : Lp) (g62 : NewF) (g63_1 : EarlyF) (g63 : EarlyN) (g64 : WhenN) (g64_1 : WhenF) (at2 v77 : Int) (u : (Unit × (Unit × (Unit × Unit)))) (w : WorldT) (x : Int × (Int × (Res × Int))) (P : Prof) (nodes : List (List Step)) (k i : Nat) (hk : Int.tmod (IntKind.wrap .i64 at2) v77 = (k : Int)) (hi : i < w.2.2.1.length) (hl : w.2.2.1.length ≤ 12) (next) :
   round1 L g62 g63_1 g63 g64 g64_1 at2 (u, (w, x, P)) v77 (st1 w x nodes i ((w.2.2.1.take i).eraseIdx k)) next = next (st1 w x nodes (i + 1) ((w.2.2.1.take (i + 1)).eraseIdx k)) := by
 have hbi : w.2.2.1[i]? = some w.2.2.1[i] := List.getElem?_eq_getElem hi
 have t0 : Int.toNat (i : Int) = i := by omega
 have hal : ((w.2.2.1.take i).eraseIdx k).length ≤ i := by
   have h1 := (List.eraseIdx_sublist (w.2.2.1.take i) k).length_le
   rw [List.length_take] at h1
   omega
 rw [erase_step _ k i hi _ hbi]
 generalize (w.2.2.1.take i).eraseIdx k = acc at hal
 show l9_3 L g62 g63_1 g63 g64 g64_1 at2 (u, (w, x, P)) v77 next (i : Int) w x w.2.1 w.1.nodes w.1.parts w.1.queues w.1.users w.1.weights.age w.1.weights.size w.1.weights.qos w.1.weights.share w.1.decay w.1.mode w.1.jobs w.1.ids w.1.versions w.1.linger w.1.keep w.1.inn w.1.out w.1.cache w.2.1 w.1.parts nodes acc = _
 unfold l9_3
 rw [decide_eq_true (show ((i : Nat) : Int) < (w.2.2.1.length : Int) by omega), decide_eq_true (show (0 : Int) ≤ (i : Int) by omega), t0]
 show Option.bind (w.2.2.1[i]?) _ = _
 rw [hbi, hk, (small64 (show acc.length + 1 ≤ 1000 by omega)).1, wi (show (-9223372036854775808 : Int) ≤ (i : Int) + 1 by omega) (by omega)]
 by_cases e : i = k
 · rw [if_pos e, decide_eq_true (show (i : Int) = (k : Int) by omega)]
   rfl
 · rw [if_neg e, decide_eq_false (show ¬ (i : Int) = (k : Int) by omega)]
   rfl
def bkOf (n k : Nat) (l : List Booking) : List Booking := if k < n then l else l.eraseIdx (k - n)
theorem round2_step (g62 : NewF) (g63_1 : EarlyF) (g63 : EarlyN) (g64 : WhenN) (g64_1 : WhenF) (at2 v77 : Int) (w : WorldT) (x : Int × (Int × (Res × Int))) (nodes : List (List Step)) (acc : List Run) (k i : Nat) (hk : Int.tmod (IntKind.wrap .i64 at2) v77 = (k : Int)) (hi : i < w.2.2.2.length) (hl : w.2.2.2.length ≤ 20) (hl1 : w.2.2.1.length ≤ 12) (next) :
   round2 g62 g63_1 g63 g64 g64_1 at2 v77 w (st2 w x nodes i acc (bkOf w.2.2.1.length k (w.2.2.2.take i))) next = next (st2 w x nodes (i + 1) acc (bkOf w.2.2.1.length k (w.2.2.2.take (i + 1)))) := by
 have hbi : w.2.2.2[i]? = some w.2.2.2[i] := List.getElem?_eq_getElem hi
 have t0 : Int.toNat (i : Int) = i := by omega
 have hti : (w.2.2.2.take i).length = i := by rw [List.length_take]; omega
 have hal : (bkOf w.2.2.1.length k (w.2.2.2.take i)).length ≤ i := by
   unfold bkOf
   split
   · omega
   · have h1 := (List.eraseIdx_sublist (w.2.2.2.take i) (k - w.2.2.1.length)).length_le
     omega
 have hst : bkOf w.2.2.1.length k (w.2.2.2.take (i + 1)) = if i + w.2.2.1.length = k then bkOf w.2.2.1.length k (w.2.2.2.take i) else bkOf w.2.2.1.length k (w.2.2.2.take i) ++ [w.2.2.2[i]] := by
   unfold bkOf
   by_cases hlt : k < w.2.2.1.length
   · rw [if_pos hlt, if_pos hlt, if_neg (by omega), List.take_add_one, hbi]
     rfl
   · rw [if_neg hlt, if_neg hlt, erase_step _ _ i hi _ hbi]
     by_cases e : i + w.2.2.1.length = k
     · rw [if_pos e, if_pos (by omega)]
     · rw [if_neg e, if_neg (by omega)]
 rw [hst]
 generalize bkOf w.2.2.1.length k (w.2.2.2.take i) = bk at hal
 show l9_2 g62 g63_1 g63 g64 g64_1 at2 v77 w next (i : Int) w x w.2.1 w.1.nodes w.1.parts w.1.queues w.1.users w.1.weights.age w.1.weights.size w.1.weights.qos w.1.weights.share w.1.decay w.1.mode w.1.jobs w.1.ids w.1.versions w.1.linger w.1.keep w.1.inn w.1.out w.1.cache w.2.1 w.1.parts nodes acc bk = _
 unfold l9_2
 rw [decide_eq_true (show ((i : Nat) : Int) < (w.2.2.2.length : Int) by omega), decide_eq_true (show (0 : Int) ≤ (i : Int) by omega), t0, hbi, hk, (small64 (show bk.length + 1 ≤ 1000 by omega)).2, wi (show (-9223372036854775808 : Int) ≤ (i : Int) + 1 by omega) (by omega), wi (show (-9223372036854775808 : Int) ≤ (i : Int) + (w.2.2.1.length : Int) by omega) (by omega)]
 by_cases e : i + w.2.2.1.length = k
 · rw [if_pos e, decide_eq_true (show (i : Int) + (w.2.2.1.length : Int) = (k : Int) by omega)]
   rfl
 · rw [if_neg e, decide_eq_false (show ¬ (i : Int) + (w.2.2.1.length : Int) = (k : Int) by omega)]
   rfl
theorem round2_end (g62 : NewF) (g63_1 : EarlyF) (g63 : EarlyN) (g64 : WhenN) (g64_1 : WhenF) (at2 v77 : Int) (w : WorldT) (x : Int × (Int × (Res × Int))) (nodes nodes' : List (List Step)) (acc : List Run) (bk : List Booking) {a a' : Int × (Int × (List Share))} {ok ok' : Bool}
   (h1 : g62 w.1 w.2.1 acc bk = some (.inr (((), 0, ()), prof w.2.1 w.1.parts nodes'))) (h2 : g63_1 x.1 x.2.1 x.2.2.1 x.2.2.2 w.2.1 w.1.parts nodes = some ((a, (ok, ())), prof w.2.1 w.1.parts nodes))
   (h3 : g63_1 x.1 x.2.1 x.2.2.1 x.2.2.2 w.2.1 w.1.parts nodes' = some ((a', (ok', ())), prof w.2.1 w.1.parts nodes')) (h4 : ok = true → ok' = true ∧ a'.2.1 ≤ a.2.1 ∧ ∃ l, g64_1 x.1 x.2.1 x.2.2.1 x.2.2.2 a.2.1 w.2.1 w.1.parts nodes' = some ((l, (true, ())), prof w.2.1 w.1.parts nodes')) (next) :
   round2 g62 g63_1 g63 g64 g64_1 at2 v77 w (st2 w x nodes w.2.2.2.length acc bk) next = some true := by
 show l9_2 g62 g63_1 g63 g64 g64_1 at2 v77 w next (w.2.2.2.length : Int) w x w.2.1 w.1.nodes w.1.parts w.1.queues w.1.users w.1.weights.age w.1.weights.size w.1.weights.qos w.1.weights.share w.1.decay w.1.mode w.1.jobs w.1.ids w.1.versions w.1.linger w.1.keep w.1.inn w.1.out w.1.cache w.2.1 w.1.parts nodes acc bk = _
 unfold l9_2
 rw [decide_eq_false (show ¬ ((w.2.2.2.length : Nat) : Int) < (w.2.2.2.length : Int) by omega)]
 show Option.bind (g62 w.1 w.2.1 acc bk) _ = _
 rw [h1]
 simp only [Option.bind_some, Sum.elim_inr, prof, decide_true, Bool.not_true, cond_false]
 rw [h2]
 simp only [Option.bind_some, prof, decide_true, Bool.and_self, cond_true]
 rw [h3]
 simp only [Option.bind_some, prof, decide_true, Bool.and_self, cond_true]
 cases ok with
 | false => rfl
 | true =>
   obtain ⟨g1, g2, l, g3⟩ := h4 rfl
   subst g1
   simp only [Bool.not_true, cond_false]
   rw [g3]
   simp only [Option.bind_some, prof, decide_true, Bool.and_self, cond_true, g2]
theorem law_loops (L : Lp) (g60 : Option Bool) (g61 : WorldT → Option Bool) (g62 : NewF) (g63_1 : EarlyF) (g63 : EarlyN) (g64 : WhenN) (g64_1 : WhenF) (w : WorldT) (x : Int × (Int × (Res × Int))) (at2 : Int) (nodes : List (List Step)) (h0 : g60 = some true) (h1 : g61 w = some true)
   (hz : ¬ IntKind.wrap .i64 ((w.2.2.1.length : Int) + (w.2.2.2.length : Int)) = 0) (h2 : g62 w.1 w.2.1 w.2.2.1 w.2.2.2 = some (.inr (((), 0, ()), prof w.2.1 w.1.parts nodes))) :
   F9 L g60 g61 g62 g63_1 g63 g64 g64_1 w x at2 = L (round1 L g62 g63_1 g63 g64 g64_1 at2 (((), (), (), ()), (w, x, prof w.2.1 w.1.parts nodes)) (IntKind.wrap .i64 ((w.2.2.1.length : Int) + (w.2.2.2.length : Int)))) (st1 w x nodes 0 []) := by
 unfold F9
 rw [h0, h1, h2, decide_eq_false hz]
 simp only [Option.bind_some, Bool.not_true, cond_false, Sum.elim_inr, decide_true, prof, Sum.elim_inl]
 rw [decide_eq_false hz]
 rfl
theorem law_PlanSooner (w : WorldT) (x : Int × (Int × (Res × Int))) (at_ : Int) (hs : Rng.P w.1) (ha : 0 ≤ at_) (ha2 : at_ ≤ 255) : f9 w x at_ = some true := by
 have e0 : f9 w x at_ = F9 (@LN LOOPS) f60 f61 f62 f63_1 f63 f64 f64_1 w x at_ := rfl
 rw [e0]
 obtain ⟨b, hb1, hb2⟩ := p_Few13 w hs
 cases b with
 | false =>
   unfold F9
   rw [awake13, hb1]
   rfl
 | true =>
   obtain ⟨g1, g2, g3, g4⟩ := hb2 rfl
   have hw : IntKind.wrap .i64 ((w.2.2.1.length : Int) + (w.2.2.2.length : Int)) = (w.2.2.1.length : Int) + (w.2.2.2.length : Int) := wi (by omega) (by omega)
   by_cases hz : IntKind.wrap .i64 ((w.2.2.1.length : Int) + (w.2.2.2.length : Int)) = 0
   · unfold F9
     rw [awake13, hb1, decide_eq_true hz]
     rfl
   · have hbad : ∀ e, e ≠ 0 → f62 w.1 w.2.1 w.2.2.1 w.2.2.2 = some (.inl ((), e, ())) → F9 (@LN LOOPS) f60 f61 f62 f63_1 f63 f64 f64_1 w x at_ = some true := by
       intro e he hn
       unfold F9
       rw [awake13, hb1, decide_eq_false hz]
       simp only [Option.bind_some, Bool.not_true, cond_false]
       rw [hn]
       simp only [Option.bind_some, Sum.elim_inl, decide_eq_false he, Bool.not_false, cond_true, Sum.elim_inr]
     rcases p_New w.1 hs w.2.1 w.2.2.1 w.2.2.2 g2 g4 g3 with ⟨hin, hG⟩ | ⟨_, hno⟩
     · rcases hG with ⟨hok, nodes, hnew, hN, hV⟩ | ⟨_, e, he, hno⟩
       · rw [law_loops (@LN LOOPS) _ _ _ _ _ _ _ w x at_ nodes awake13 hb1 hz hnew]
         have hwa : IntKind.wrap .i64 at_ = at_ := wi (by omega) (by omega)
         obtain ⟨k, hk⟩ : ∃ k : Nat, Int.tmod (IntKind.wrap .i64 at_) (IntKind.wrap .i64 ((w.2.2.1.length : Int) + (w.2.2.2.length : Int))) = (k : Int) := by
           rw [hwa, hw, Int.tmod_eq_emod_of_nonneg ha]
           have := Int.emod_nonneg at_ (b := (w.2.2.1.length : Int) + (w.2.2.2.length : Int)) (by rw [hw] at hz; exact hz)
           exact ⟨_, (Int.toNat_of_nonneg this).symm⟩
         generalize IntKind.wrap .i64 ((w.2.2.1.length : Int) + (w.2.2.2.length : Int)) = v77 at hk
         have hr' : (w.2.2.1.eraseIdx k).Sublist w.2.2.1 := List.eraseIdx_sublist _ _
         have hb' : (bkOf w.2.2.1.length k w.2.2.2).Sublist w.2.2.2 := by
           unfold bkOf
           split
           · exact List.Sublist.refl _
           · exact List.eraseIdx_sublist _ _
         obtain ⟨nodes', q1, a, ok, a', ok', q2, q3, q4⟩ := sooner_core hs g2 g4 g3 hr' hb' hin hok hN hV x.1 x.2.1 x.2.2.1 x.2.2.2
         have h2 : ∀ next : St1 → Option Bool, round1 (@LN LOOPS) f62 f63_1 f63 f64 f64_1 at_ (((), (), (), ()), (w, x, prof w.2.1 w.1.parts nodes)) v77 (st1 w x nodes w.2.2.1.length (w.2.2.1.eraseIdx k)) next = some true := fun next => by
           rw [round1_end]
           have h := loop_run (f := round2 f62 f63_1 f63 f64 f64_1 at_ v77 w) (r := some true) w.2.2.2.length (small_lt (by omega)) (fun i => st2 w x nodes i (w.2.2.1.eraseIdx k) (bkOf w.2.2.1.length k (w.2.2.2.take i)))
             (fun i hi next => round2_step _ _ _ _ _ _ _ w x nodes _ k i hk hi g3 g2 next)
             (fun next => by
               rw [List.take_length]
               exact round2_end _ _ _ _ _ _ _ w x nodes nodes' _ _ q1 q2 q3 q4 next)
           have e : bkOf w.2.2.1.length k (w.2.2.2.take 0) = [] := by
             unfold bkOf
             split <;> rfl
           rw [e] at h
           exact h
         have h := loop_run (f := round1 (@LN LOOPS) f62 f63_1 f63 f64 f64_1 at_ (((), (), (), ()), (w, x, prof w.2.1 w.1.parts nodes)) v77) (r := some true) w.2.2.1.length (small_lt (by omega)) (fun i => st1 w x nodes i ((w.2.2.1.take i).eraseIdx k))
           (fun i hi next => round1_step _ _ _ _ _ _ _ _ _ w x _ nodes k i hk hi g2 next)
           (fun next => by
             rw [List.take_length]
             exact h2 next)
         exact h
       · exact hbad e he hno
     · exact hbad 2 (by decide) hno
end NM
namespace planSooner
open NM AM
theorem walk (x0 : Spec × (Int × ((List Run) × (List Booking)))) (x1 : Int × (Int × (Res × Int))) (x2 : UInt8) (v0 v1 v2 : Value) (W : World) (h0 : V W (Lt W.heap.size) x0 v0) (h1 : V W (Lt W.heap.size) x1 v1) (h2 : V W (Lt W.heap.size) x2 v2) :
   Calls Try.prog 9 #[v0, v1, v2] W fun e w' => e = .returned (.bool true) ∧ Go.RowKit.Below W.heap.size W w' :=
 nlaw_walk NM.ok9 (x := (NEnc.f x0, NEnc.f x1, NEnc.f x2, ())) (law_PlanSooner _ _ _ (Rng.ok h0.1).1 (Int.natCast_nonneg _) (by have := UInt8.toNat_lt x2; show ((x2.toNat : Nat) : Int) ≤ 255; omega)) (arg_cons x0 (arg_cons x1 (arg_cons x2 arg_nil))) rfl fun j a v ha hv => by
   match j with
   | 0 => simp at ha hv; subst ha; subst hv; exact h0.vr (fun _ h => h) _
   | 1 => simp at ha hv; subst ha; subst hv; exact h1.vr (fun _ h => h) _
   | 2 => simp at ha hv; subst ha; subst hv; exact h2.vr (fun _ h => h) _
end planSooner
end Go.Proofs.Ytmnhkpekmgobbaa
end
section
namespace Go.Proofs.Ytmnhkpekmgobbaa.planSooner
open Go.ChangeShapes Go.WideShapes Go.ChangeAt Go.RowKit
theorem own : ownKnob Try.prog.godebug = none := by kernel_rfl
theorem laidOut : laidOutB Try.prog = true := by kernel_rfl
set_option maxRecDepth 100000 in
theorem lifted (os : Os) (started : os.Started) (H : Type) (enc : TypeId × Value → H) :
   ReturnsInHanded {} Try.checked os 9 .any (Rows.planSoonerSpec.pre6 enc Try.prog Try.f9 Rows.planSoonerRow.domain false) (Rows.planSoonerSpec.post enc Try.prog Try.f9 false true false false) := by
 refine returnsInHanded_of_change (C := Try.checked) own started (by kernel_rfl) Try.func9
   (ChangeSpec.witness6 (enc := enc) (C := Try.checked) false ⟨#[], #[.agg #[.slice none 0 0, .slice none 0 0, .slice none 0 0, .int .i64 0, .int .i64 0, .int .i64 0, .int .i64 0, .int .i64 0, .int .i64 0, .int .i64 0, .int .i64 0, .int .i64 0, .int .i64 0, .int .i64 0, .int .i64 0, .int .i64 0, .int .i64 0, .int .i64 0, .int .i64 0, .slice none 0 0, .slice none 0 0], .agg #[.int .i64 0, .int .i64 0, .int .i64 0, .int .i64 0, .int .i64 0, .int .i64 0, .int .i64 0], .int .u8 0], []⟩ 8 (by kernel_rfl) (by kernel_rfl) (by kernel_rfl) (by kernel_rfl)) ?_
 intro W base args ds gs before hval0 hW _ _
 have hval : ∀ (j : Nat) t v, Try.f9.params[j]? = some t → args[j]? = some v → Value.okWide Try.prog W .any base t v := hval0
 have hW' := hW
 obtain ⟨p, q, hA0, hV, rfl, hfz, hnd⟩ := hW
 have hA : DataW.TrodAll enc Try.prog W 0 (fun _ => true) true Try.f9.params.toList args.toList ds p := hA0
 rw [Try.params9] at hA hval
 obtain ⟨v0, vs0, d0, ds0, p0, q0, hargs, rfl, rfl, h0, r0⟩ := trodAll_cons hA
 obtain ⟨v1, vs1, d1, ds1, p1, q1, rfl, rfl, rfl, h1, r1⟩ := trodAll_cons r0
 obtain ⟨v2, vs2, d2, ds2, p2, q2, rfl, rfl, rfl, h2, r2⟩ := trodAll_cons r1
 obtain ⟨rfl, rfl, rfl⟩ := trodAll_nil r2
 obtain rfl : args = #[v0, v1, v2] := by cases args; simp_all
 obtain ⟨rfl, rfl⟩ := trodVars_none hV
 have lt0 : ∀ x ∈ p0, x.block < W.heap.size := by obtain ⟨m, hm⟩ := h0; exact DataW.trod_lt m _ _ _ hm
 obtain ⟨x0, a0⟩ : ∃ x : (Spec × (Int × (List Run) × (List Booking))), V W (Lt W.heap.size) x v0 := arg_of (rd_struct Try.underlying121 (by kernel_rfl) (RdF.cons rd_Spec rfl (by kernel_rfl) rfl (RdF.cons (rd_int Try.underlying3) rfl (by kernel_rfl) rfl (RdF.cons (rd_slice Try.underlying118 (by kernel_rfl) rd_Run) rfl (by kernel_rfl) rfl (RdF.last (rd_slice Try.underlying119 (by kernel_rfl) rd_Booking) rfl (by kernel_rfl)))))) h0 (agg_struct Try.underlying121 (hval 0 121 v0 rfl rfl))
 have lt1 : ∀ x ∈ p1, x.block < W.heap.size := by obtain ⟨m, hm⟩ := h1; exact DataW.trod_lt m _ _ _ hm
 obtain ⟨x1, a1⟩ : ∃ x : (Int × (Int × (Res × Int))), V W (Lt W.heap.size) x v1 := arg_of (rd_struct Try.underlying123 (by kernel_rfl) (RdF.cons (rd_int Try.underlying3) rfl (by kernel_rfl) rfl (RdF.cons (rd_int Try.underlying3) rfl (by kernel_rfl) rfl (RdF.cons rd_Res rfl (by kernel_rfl) rfl (RdF.last (rd_int Try.underlying3) rfl (by kernel_rfl)))))) h1 (agg_struct Try.underlying123 (hval 1 123 v1 rfl rfl))
 have lt2 : ∀ x ∈ p2, x.block < W.heap.size := by obtain ⟨m, hm⟩ := h2; exact DataW.trod_lt m _ _ _ hm
 obtain ⟨x2, a2⟩ : ∃ x : UInt8, V W (Lt W.heap.size) x v2 := arg_of (rd_u8 Try.underlying5) h2 (agg_int Try.underlying5 (hval 2 5 v2 rfl rfl))
 clear hA0 hval0
 refine (walk x0 x1 x2 v0 v1 v2 W a0 a1 a2).mono fun e W' ⟨he, bel⟩ => ?_
 subst he
 exact ⟨_, rfl, _, _, _, [], _, [], hW', trodAll_mk1 (shut_bool Try.underlying4 _), (trodAll_cons_mk (Below.trod laidOut (by kernel_rfl) (of_decide_eq_true (by kernel_rfl)) h0 bel lt0) (trodAll_cons_mk (Below.trod laidOut (by kernel_rfl) (of_decide_eq_true (by kernel_rfl)) h1 bel lt1) (trodAll_cons_mk (Below.trod laidOut (by kernel_rfl) (of_decide_eq_true (by kernel_rfl)) h2 bel lt2) trodAll_mk0))), rfl, bel.frame _, fun h => by cases h⟩
theorem over : Rows.planSoonerRow.holds Try.pinned (OpenSpec.ofChange Rows.planSoonerSpec) :=
 OpenClaim.holds_of_wide 9 Try.f9 rfl rfl rfl rfl rfl rfl rfl ⟨rfl, rfl, rfl, rfl, rfl⟩ rfl rfl rfl rfl rfl (by kernel_rfl) Try.func9 (by kernel_rfl)
   (of_decide_eq_true (by kernel_rfl)) (by unfold Func.isWrapper; first | (rw [if_pos (by decide +kernel)]; kernel_rfl) | (rw [if_neg (by decide +kernel)]; exact ⟨rfl, rfl⟩))
   (fun os started H enc _ => lifted os started H enc)
theorem proved : Rows.PlanSoonerSaid :=
 over
end Go.Proofs.Ytmnhkpekmgobbaa.planSooner
end
