/-
  Numbers as text, texts joined, the number that a text of digits is: functions of the library, and one that ranges over a string, as functions of the machine of plain data.
-/
import Derived.Test.YtbhnojlcbgkcbaaDoorNIndex
import Derived.WalkKit
import Derived.LoopTactic
import Derived.Lib.Hide
import Derived.Lib.LaidTab
import Derived.Laws.RangeAny
import Derived.Below
set_option linter.unusedVariables false
namespace Go.Proofs.YtbhnojlcbgkcbaaDoor
namespace NM
open AM Go.RowKit

/-- the table of the powers of ten -/
def pows : List Int := [1, 10, 100, 1000, 10000, 100000, 1000000, 10000000, 100000000, 1000000000, 10000000000, 100000000000, 1000000000000, 10000000000000, 100000000000000, 1000000000000000, 10000000000000000, 100000000000000000, 1000000000000000000, 10000000000000000000]
theorem tab_of {P : Program} {w : World} {S : Nat → Prop} {name : String} {g : Nat} {k : IntKind} {zs : List Int} (h : GlobR w S) (hg : P.globalNamed name = some g) (hz : globOf g globs = some (zs.map (AVal.int k))) : Lib.TabIs P w name k zs := by
  obtain ⟨h1, _, us, t, p, h3, h4⟩ := h g _ hz
  unfold Lib.TabIs World.var?
  rw [hg]
  simp only [Option.bind_some, h3, Option.some.injEq]
  apply Array.ext
  · simp [h4]
  · intro i hi hi'
    have hl : i < zs.length := by simpa using hi'
    have hc : (zs.map (AVal.int k))[i]? = some (.int k zs[i]) := by simp [hl]
    cases h1 with
    | iptr cs off m o gv hm hcell hir =>
      have e1 := hcell i _ hc
      have e2 := hir i _ hc
      generalize gv i = v at e1 e2
      cases e2
      rw [Nat.zero_add] at e1
      simp only [World.cell?, h3] at e1
      have : us[i]? = some (Value.int k zs[i]) := by simpa using e1
      have := (Array.getElem?_eq_some_iff.1 this).2
      rw [this]
      simp

@[reducible] def sigI2S : Sig := ⟨.cons (.v (.int .i64)) .nil, [], (.v .str, []), []⟩
def itoaF (n : Int) : Option (List UInt8) := cond (decide (-9223372036854775808 ≤ n) && decide (n ≤ 9223372036854775807)) (some (Lib.itoa n)) none
theorem NOk.itoa {P : Program} {f : Nat} (hent : AM.Enters P f) (htab : ∀ {w : World} {S : Nat → Prop}, GlobR w S → Lib.TabIs P w "internal/strconv.uint64pow10" .u64 Lib.pow10Tab) (h : ∀ (n : Int) (h0 : -9223372036854775808 ≤ n) (h1 : n ≤ 9223372036854775807) (w : World) (htab : Lib.TabIs P w "internal/strconv.uint64pow10" .u64 Lib.pow10Tab), Calls P f #[.int .i64 n] w fun e w' => e = .returned (.string ⟨(Lib.itoa n).toArray⟩) ∧ Below w.heap.size w w') :
    NOk P ⟨f, sigI2S, fun x _ => itoaF x.1⟩ := by
  refine ⟨hent, rfl, fun x hh y hy args ahp ha hb => ?_⟩
  obtain ⟨n, u⟩ := x
  have e0 : ahp = [] := A2.nil_inv hb
  subst e0
  simp only [puts, put, putV, Ty.isAgg] at ha
  obtain ⟨a, as', rfl, h1, ha⟩ := ha.cons_inv
  rw [ha.nil_inv]
  have ha1 : a = .int .i64 n := (RT.v h1).int_inv
  subst ha1
  have hy : itoaF n = some y := hy
  unfold itoaF at hy
  cases hc : (decide (-9223372036854775808 ≤ n) && decide (n ≤ 9223372036854775807)) with
  | false => rw [hc] at hy; cases hy
  | true =>
    rw [hc] at hy
    cases hy
    simp only [Bool.and_eq_true, decide_eq_true_eq] at hc
    intro μ w S cargs r0 hl hv
    obtain ⟨v0, rfl⟩ := arr1 (by simpa using hl.symm)
    have e1 := (hv 0 _ v0 rfl rfl).int_inv
    subst e1
    refine (h n hc.1 hc.2 w (htab r0.gl)).mono fun e w' ⟨he, hw⟩ => ?_
    obtain ⟨r1, x1⟩ := HRep.later r0 hw
    exact ⟨_, μ, S, he, r1, x1, (ya_str _).symm ▸ .imm _ _ (.str ⟨(Lib.itoa n).toArray⟩), Nat.le_refl _, fun b hb _ => .inl rfl⟩
theorem ext28 : NOk Tryd.prog ⟨28, sigI2S, fun x _ => itoaF x.1⟩ :=
  NOk.itoa (P := Tryd.prog) ⟨_, Tryd.func28, rfl, rfl⟩ (fun h => tab_of (g := 1) h (by kernel_rfl) rfl) fun n h0 h1 w htab => (Tryd.strconv_Itoa n h0 h1 w htab).mono fun e w' ⟨he, k, os, hw⟩ => ⟨he, by rw [hw]; exact ⟨rfl, rfl, rfl, by simp [Go.Sort.grow, World.drewN], fun m hm => by simp [Go.Sort.grow, World.drewN, Array.getElem?_append, hm]⟩⟩

@[reducible] def sigL2S : Sig := ⟨.cons (.v (.list .str)) (.cons (.v .str) .nil), [], (.v .str, []), []⟩
def joinF (xs : List (List UInt8)) (sep : List UInt8) : Option (List UInt8) := match xs with
  | [] => none
  | x :: l => cond (decide ((x :: l).length ≤ 4294967296) && decide ((Lib.join (x :: l) sep).length ≤ 4294967296)) (some (Lib.join (x :: l) sep)) none
theorem joinF_inv {xs : List (List UInt8)} {sep y : List UInt8} (h : joinF xs sep = some y) : 0 < xs.length ∧ xs.length ≤ 4294967296 ∧ (Lib.join xs sep).length ≤ 4294967296 ∧ y = Lib.join xs sep := by
  unfold joinF at h
  split at h
  · cases h
  · rename_i x l
    cases hc : (decide ((x :: l).length ≤ 4294967296) && decide ((Lib.join (x :: l) sep).length ≤ 4294967296)) with
    | false => rw [hc] at h; cases h
    | true =>
      rw [hc] at h
      simp only [Bool.and_eq_true, decide_eq_true_eq] at hc
      cases h
      exact ⟨by simp, hc.1, hc.2, rfl⟩
theorem NOk.join {P : Program} {f : Nat} (hent : AM.Enters P f)
    (h : ∀ (bk o c : Nat) (xs : List ByteArray) (sep : ByteArray) (w : World), (∀ (j : Nat) x, xs[j]? = some x → w.cell? ⟨bk, o + j, none⟩ = some (.string x)) → bk < w.heap.size → xs.length ≤ 140737488355328 → xs.length ≤ c → (Lib.join (xs.map (·.data.toList)) sep.data.toList).length ≤ 140737488355328 →
      Calls P f #[.slice (some ⟨bk, o, none⟩) xs.length c, .string sep] w fun e w' => e = .returned (.string ⟨(Lib.join (xs.map (·.data.toList)) sep.data.toList).toArray⟩) ∧ Below w.heap.size w w') :
    NOk P ⟨f, sigL2S, fun x _ => joinF x.1 x.2.1⟩ := by
  refine ⟨hent, rfl, fun x hh y hy args ahp ha hb => ?_⟩
  obtain ⟨xs, sep, u⟩ := x
  have e0 : ahp = [] := A2.nil_inv hb
  subst e0
  simp only [puts, put, putV, Ty.isAgg] at ha
  obtain ⟨a, as', rfl, h1, ha⟩ := ha.cons_inv
  obtain ⟨b, bs', rfl, h2, ha⟩ := ha.cons_inv
  rw [ha.nil_inv]
  have hb1 : b = .str sep := (RT.v h2).str_inv
  subst hb1
  have hy : joinF xs sep = some y := hy
  obtain ⟨c0, c1, c2, rfl⟩ := joinF_inv hy
  intro μ w S cargs r0 hl hv
  obtain ⟨v0, v1, rfl⟩ := arr2 (by simpa using hl.symm)
  obtain ⟨s2, rfl, rfl⟩ := (hv 1 _ v1 rfl rfl).str_inv
  have hv0 := hv 0 _ v0 rfl rfl
  have h1' : RI (.lst .str xs) a := (RT.v h1).lst_inv
  rcases h1'.lst_inv with ⟨ys, rfl, hys⟩ | ⟨_, e0⟩
  · cases hv0 with
    | imm _ _ h3 =>
      cases h3 with
      | imm _ _ A cap g i1 i2 i3 i4 i5 =>
        have hlen : ys.length = xs.length := hys.1.symm
        have hat : ∀ (j : Nat) (s : List UInt8), xs[j]? = some s → ∃ m o, A = some ⟨m, o, none⟩ ∧ S m ∧ w.cell? ⟨m, o + j, none⟩ = some (.string ⟨s.toArray⟩) := fun j s hs => by
          have hj : j < ys.length := by have := (List.getElem?_eq_some_iff.1 hs).1; omega
          have hyj : ys[j]? = some ys[j] := by simp [hj]
          have hrow := hys.2 j s ys[j] hs hyj
          have hrow : A2 RI [.str s] ys[j] := hrow
          obtain ⟨d, ds, e1, hd, hds⟩ := hrow.cons_inv
          have e2 := hds.nil_inv
          rw [e2] at e1
          cases hd
          rw [e1] at hyj
          obtain ⟨m, o, hA, hm, hc⟩ := i4 j _ 0 _ hyj rfl
          have hir := i5 j _ 0 _ hyj rfl
          generalize g j 0 = gv at hc hir
          have hgv : gv = .string ⟨s.toArray⟩ := by
            cases hir with
            | str s' => congr 1
          have hsz : (ops Ty.str).size = 1 := rfl
          rw [hsz, Nat.mul_one, Nat.add_zero, hgv] at hc
          exact ⟨m, o, hA, hm, hc⟩
        obtain ⟨x0, hx0⟩ : ∃ x0, xs[0]? = some x0 := ⟨xs[0], by simp [c0]⟩
        obtain ⟨m, o, rfl, hm, _⟩ := hat 0 x0 hx0
        have hmap : (xs.map fun s => (⟨s.toArray⟩ : ByteArray)).map (·.data.toList) = xs := by
          rw [List.map_map]
          have : ((fun s : ByteArray => s.data.toList) ∘ fun s : List UInt8 => (⟨s.toArray⟩ : ByteArray)) = id := by funext s; simp
          rw [this, List.map_id]
        have hcall := h m o cap (xs.map fun s => (⟨s.toArray⟩ : ByteArray)) s2 w (fun j x hx => by
          rw [List.getElem?_map] at hx
          obtain ⟨s, hs, rfl⟩ := Option.map_eq_some_iff.1 hx
          obtain ⟨m', o', hA, _, hc⟩ := hat j s hs
          cases hA
          exact hc) (r0.inS m hm) (by rw [List.length_map]; omega) (by rw [List.length_map]; omega) (by rw [hmap]; omega)
        rw [hmap, List.length_map, ← hlen] at hcall
        refine hcall.mono fun e w' ⟨he, hw⟩ => ?_
        obtain ⟨r1, x1⟩ := HRep.later r0 hw
        exact ⟨_, μ, S, he, r1, x1, (ya_str _).symm ▸ .imm _ _ (.str ⟨(Lib.join xs s2.data.toList).toArray⟩), Nat.le_refl _, fun b hb _ => .inl rfl⟩
  · subst e0
    simp at c0
theorem ext29 : NOk Tryd.prog ⟨29, sigL2S, fun x _ => joinF x.1 x.2.1⟩ :=
  NOk.join (P := Tryd.prog) ⟨_, Tryd.func29, rfl, rfl⟩ fun bk o c xs sep w h1 h2 h3 h4 h5 => Tryd.strings_Join bk o c xs sep w h1 h2 h3 h4 h5

/-- the number that a text of digits is, from 1 to 1048576; 0: none -/
def numGo : List UInt8 → Bool → Int → Int
  | [], _, n => n
  | c :: l, first, n => if c.toNat < 48 ∨ 57 < c.toNat then 0 else if first = true ∧ c.toNat = 48 then 0 else if 1048576 < 10 * n + ((c.toNat : Int) - 48) then 0 else numGo l false (10 * n + ((c.toNat : Int) - 48))
theorem digit_bad (c : Nat) (h : c < 48 ∨ 57 < c) (w : World) : Calls Tryd.prog 41 #[.int .i32 (c : Int)] w fun e w' => e = .returned (.int .i64 (-1)) ∧ w' = w := by
  go_enter Tryd.func41, Tryd.ntmps41
  go_wp2
  all_goals first
    | (go_ret; exact ⟨rfl, rfl⟩)
    | (exfalso; omega)
    | fail
theorem digit_good (d : Nat) (h : d < 10) (w : World) : Calls Tryd.prog 41 #[.int .i32 ((48 + d : Nat) : Int)] w fun e w' => e = .returned (.int .i64 (d : Int)) ∧ w' = w := by
  have h1 : ¬ ((48 + d : Nat) : Int) < 48 := by omega
  have h2 : ¬ ((48 + d : Nat) : Int) > 57 := by omega
  go_enter Tryd.func41, Tryd.ntmps41
  go_wp2
  go_ret
  refine ⟨?_, rfl⟩
  show Ending.returned (Value.int .i64 (48 + (d : Int) - 48)) = _
  rw [show (48 + (d : Int) - 48) = (d : Int) by omega]
theorem digit_zero (w : World) : Calls Tryd.prog 41 #[.int .i32 48] w fun e w' => e = .returned (.int .i64 0) ∧ w' = w := digit_good 0 (by omega) w
set_option maxHeartbeats 4000000 in
set_option maxRecDepth 1000000 in
theorem num_walk (s : ByteArray) (w : World) : Calls Tryd.prog 32 #[.string s] w fun e w' => e = .returned (.int .i64 (numGo s.data.toList true 0)) ∧ Below w.heap.size w w' := by
  have hB : ∀ pos, Below w.heap.size w (w.iter s pos) := fun pos => (Below.refl _ _).alloc (Nat.le_refl _) _
  go_enter Tryd.func32, Tryd.ntmps32
  go_wp2
  go_loopw [3] (fun n w' => ∃ (pos : Nat) (acc : Int), w' = w.iter s pos ∧ n = .int .i64 acc ∧ 0 ≤ acc ∧ acc ≤ 1048576 ∧ pos ≤ s.size ∧ Hid (numGo (s.data.toList.drop pos) (decide (pos = 0)) acc = numGo s.data.toList true 0)) (fun _ w' => s.size - w'.iterPos w.heap.size)
  case atStart => exact ⟨0, 0, rfl, rfl, by omega, by omega, by omega, rfl⟩
  case round =>
    obtain ⟨pos, acc, rfl, rfl, h0, h1, h2, hspec⟩ := hrel
    by_cases hp : pos < s.size
    · have hnx : ∀ ty, (Instr.next (.pointer (some ⟨w.heap.size, 0, none⟩)) true ty).run Tryd.prog (w.iter s pos) = _ := fun ty => run_next_any w s pos ty hp
      obtain ⟨c, wd, hdec⟩ : ∃ c wd, Utf8.decode s pos = (c, wd) := ⟨_, _, rfl⟩
      rw [hdec] at hnx
      simp only at hnx
      have hfact : ((s[pos]'hp).toNat < 128 ∧ c = (s[pos]'hp).toNat ∧ wd = 1) ∨ (128 ≤ (s[pos]'hp).toNat ∧ 128 ≤ c ∧ 1 ≤ wd ∧ c ≤ 2147483647) := by
        by_cases ha : (s[pos]'hp).toNat < 128
        · have := decode_ascii s pos hp ha
          rw [hdec] at this
          cases this
          exact .inl ⟨ha, rfl, rfl⟩
        · have h3 := decode_high s pos hp (by omega)
          have h4 := decode_le s pos
          rw [hdec] at h3 h4
          exact .inr ⟨by omega, h3.1, h3.2, h4⟩
      have hlist : s.data.toList.drop pos = s[pos]'hp :: s.data.toList.drop (pos + 1) := by
        have hl : pos < s.data.toList.length := by simpa using hp
        rw [List.drop_eq_getElem_cons hl]
        rfl
      generalize hbg : s[pos]'hp = b at hfact hlist
      have HL := Go.Lib.hid hlist
      clear hlist hdec
      by_cases hbad : c < 48 ∨ 57 < c
      · have hsp : numGo s.data.toList true 0 = 0 := by
          have h3 := HL.out
          have h4 := hspec.out
          rw [h3] at h4
          rw [← h4]
          unfold numGo
          rw [if_pos (by omega)]
        clear hspec HL
        go_wp2_with (go_at_call 41; refine (digit_bad c hbad _).mono ?_; rintro e w' ⟨rfl, rfl⟩)
        go_ret
        exact ⟨by rw [hsp]; rfl, hB _⟩
      · obtain ⟨d, rfl⟩ : ∃ d, c = 48 + d := ⟨c - 48, by omega⟩
        have hd : d < 10 := by omega
        have hb : b.toNat = 48 + d ∧ wd = 1 := by omega
        obtain ⟨hb, rfl⟩ := hb
        have hsp : numGo s.data.toList true 0 = if pos = 0 ∧ d = 0 then 0 else if 1048576 < 10 * acc + (d : Int) then 0 else numGo (s.data.toList.drop (pos + 1)) false (10 * acc + (d : Int)) := by
          have h3 := HL.out
          have h4 := hspec.out
          rw [h3] at h4
          rw [← h4]
          rw [numGo, if_neg (by omega)]
          have e1 : ((b.toNat : Int) - 48) = (d : Int) := by omega
          rw [e1]
          by_cases hz : pos = 0 ∧ d = 0
          · rw [if_pos hz, if_pos ⟨by simp [hz.1], by omega⟩]
          · rw [if_neg hz, if_neg (fun h => hz ⟨by simpa using h.1, by omega⟩)]
        have HS := Go.Lib.hid hsp
        clear hsp hspec HL hfact hbad
        by_cases hd0 : d = 0
        · subst hd0
          have hnx0 : ∀ ty, (Instr.next (.pointer (some ⟨w.heap.size, 0, none⟩)) true ty).run Tryd.prog (w.iter s pos) = .ok (.tuple #[.bool true, .int .i64 (pos : Int), .int .i32 48]) (w.iter s (pos + 1)) := hnx
          clear hnx
          go_wp2_with (go_at_call 41; refine (digit_zero _).mono ?_; rintro e w' ⟨rfl, rfl⟩)
          all_goals (have hsp := HS.out)
          all_goals (rw [show (10 * acc + ((0 : Nat) : Int)) = 10 * acc by omega] at hsp)
          all_goals first
            | (refine ⟨⟨pos + 1, _, rfl, rfl, by omega, by omega, by omega, ?_⟩, by simp; omega⟩; rw [if_neg (by first | omega | (intro h; have := h.1; omega) | exact ⟨by omega, trivial⟩), if_neg (by omega)] at hsp; refine Go.Lib.hid ?_; rw [hsp, decide_eq_false (by omega)])
            | (have hpz : pos = 0 := (by assumption); subst hpz; refine ⟨⟨1, _, rfl, rfl, by omega, by omega, by omega, ?_⟩, by simp; omega⟩; rw [if_neg (by first | omega | (intro h; have := h.1; omega) | exact ⟨by omega, trivial⟩), if_neg (by omega)] at hsp; refine Go.Lib.hid ?_; rw [hsp, decide_eq_false (by omega)])
            | (go_ret; rw [if_pos (by first | omega | (intro h; have := h.1; omega) | exact ⟨by omega, trivial⟩)] at hsp; exact ⟨by rw [hsp]; rfl, hB _⟩)
            | (go_ret; rw [if_neg (by first | omega | (intro h; have := h.1; omega) | exact ⟨by omega, trivial⟩), if_pos (by omega)] at hsp; exact ⟨by rw [hsp]; rfl, hB _⟩)
            | fail
        · have hz : ((d : Int) == 0) = false := by simp [hd0]
          go_wp2_with (go_at_call 41; refine (digit_good d hd _).mono ?_; rintro e w' ⟨rfl, rfl⟩)
          all_goals (have hsp := HS.out)
          all_goals first
            | (refine ⟨⟨pos + 1, _, rfl, rfl, by omega, by omega, by omega, ?_⟩, by simp; omega⟩; rw [if_neg (by first | omega | (intro h; have := h.1; omega) | exact ⟨by omega, trivial⟩), if_neg (by omega)] at hsp; refine Go.Lib.hid ?_; rw [hsp, decide_eq_false (by omega)])
            | (have hpz : pos = 0 := (by assumption); subst hpz; refine ⟨⟨1, _, rfl, rfl, by omega, by omega, by omega, ?_⟩, by simp; omega⟩; rw [if_neg (by first | omega | (intro h; have := h.1; omega) | exact ⟨by omega, trivial⟩), if_neg (by omega)] at hsp; refine Go.Lib.hid ?_; rw [hsp, decide_eq_false (by omega)])
            | (go_ret; rw [if_pos (by first | omega | (intro h; have := h.1; omega) | exact ⟨by omega, trivial⟩)] at hsp; exact ⟨by rw [hsp]; rfl, hB _⟩)
            | (go_ret; rw [if_neg (by first | omega | (intro h; have := h.1; omega) | exact ⟨by omega, trivial⟩), if_pos (by omega)] at hsp; exact ⟨by rw [hsp]; rfl, hB _⟩)
            | fail
    · have hnx : ∀ ty, (Instr.next (.pointer (some ⟨w.heap.size, 0, none⟩)) true ty).run Tryd.prog (w.iter s pos) = _ := fun ty => run_next_end w s pos ty hp
      have hsp : numGo s.data.toList true 0 = acc := by
        have h4 := hspec.out
        rw [List.drop_of_length_le (by simp; omega)] at h4
        rw [← h4]
        unfold numGo
        rfl
      clear hspec
      go_wp2
      go_ret
      exact ⟨by rw [hsp]; rfl, hB _⟩

@[reducible] def sigS2I1 : Sig := ⟨.cons (.v .str) .nil, [], (.v (.int .i64), []), []⟩
def unitsNum (s : List UInt8) : Option Int := some (numGo s true 0)
theorem NOk.num {P : Program} {f : Nat} (hent : AM.Enters P f) (h : ∀ (s : ByteArray) (w : World), Calls P f #[.string s] w fun e w' => e = .returned (.int .i64 (numGo s.data.toList true 0)) ∧ Below w.heap.size w w') :
    NOk P ⟨f, sigS2I1, fun x _ => unitsNum x.1⟩ := by
  refine ⟨hent, rfl, fun x hh y hy args ahp ha hb => ?_⟩
  obtain ⟨s, u⟩ := x
  have e0 : ahp = [] := A2.nil_inv hb
  subst e0
  simp only [puts, put, putV, Ty.isAgg] at ha
  obtain ⟨a, as', rfl, h1, ha⟩ := ha.cons_inv
  rw [ha.nil_inv]
  have ha1 : a = .str s := (RT.v h1).str_inv
  subst ha1
  cases hy
  intro μ w S cargs r0 hl hv
  obtain ⟨v0, rfl⟩ := arr1 (by simpa using hl.symm)
  obtain ⟨s0, rfl, rfl⟩ := (hv 0 _ v0 rfl rfl).str_inv
  refine (h s0 w).mono fun e w' ⟨he, hw⟩ => ?_
  obtain ⟨r1, x1⟩ := HRep.later r0 hw
  exact ⟨_, μ, S, he, r1, x1, (ya_int .i64 _).symm ▸ .imm _ _ (.int _ _), Nat.le_refl _, fun b hb _ => .inl rfl⟩
theorem ext32 : NOk Tryd.prog ⟨32, sigS2I1, fun x _ => unitsNum x.1⟩ :=
  NOk.num (P := Tryd.prog) ⟨_, Tryd.func32, rfl, rfl⟩ num_walk
end NM
end Go.Proofs.YtbhnojlcbgkcbaaDoor
