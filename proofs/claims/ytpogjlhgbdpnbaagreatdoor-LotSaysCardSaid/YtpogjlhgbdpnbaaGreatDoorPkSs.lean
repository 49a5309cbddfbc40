/-
  What the proof of LotSays leans on, part 19. (Many texts laid together by program.)
-/
import Derived.Test.YtpogjlhgbdpnbaaGreatDoorPkSr
import Derived.Lib.SplitLaws
set_option linter.unnecessarySimpa false
set_option linter.unusedSimpArgs false
set_option linter.unusedVariables false
section
namespace Go.Proofs.YtpogjlhgbdpnbaaGreatDoor
namespace NM
open AM Go.RowKit
@[reducible] def sigCS : Sig := ⟨.cons (.v .str) (.cons (.v .str) .nil), [], (.tup (.cons (.v .str) (.cons (.v .bool) .nil)), []), []⟩
def cutSufF (s p : List UInt8) : Option (List UInt8 × (Bool × Unit)) := cond (decide (s.length ≤ 9223372036854775807)) (some (Lib.trimSuffix s p, (Lib.hasSuffix s p, ()))) none
theorem ya_bool (b : Bool) : yA (.v .bool, []) [] b = .bool b := by
 obtain ⟨c, d, h1, h2, h3, h4⟩ := one_cells (t := .bool) rfl b
 simp only [yA, outA, can, Ty.isAgg, h2]
 have : c = .bool b := by cases h1; rfl
 subst this
 cases h3
 rfl
theorem ya_strb (s : List UInt8) (b : Bool) : yA (.tup (.cons (.v .str) (.cons (.v .bool) .nil)), []) [] (s, (b, ())) = .tup [.str s, .bool b] := by
 have h1 := ya_str s
 have h2 := ya_bool b
 simp only [yA, outA, can, cans, Ty.isAgg] at h1 h2 ⊢
 rw [h1, h2]
theorem NOk.cutSuf {P : Program} {f : Nat} (hent : AM.Enters P f) (h : ∀ (s p : ByteArray) (w : World), s.size ≤ 9223372036854775807 → Calls P f #[.string s, .string p] w fun e w' => e = .returned (.tuple #[.string ⟨(Lib.trimSuffix s.data.toList p.data.toList).toArray⟩, .bool (Lib.hasSuffix s.data.toList p.data.toList)]) ∧ w' = w) :
   NOk P ⟨f, sigCS, fun x _ => cutSufF x.1 x.2.1⟩ := by
 refine ⟨hent, rfl, fun x hh y hy args ahp ha hb => ?_⟩
 obtain ⟨s, p, u⟩ := x
 have e0 : ahp = [] := A2.nil_inv hb
 subst e0
 simp only [puts, put, putV, Ty.isAgg] at ha
 obtain ⟨a, as', rfl, h1, ha⟩ := ha.cons_inv
 obtain ⟨b, bs', rfl, h2, ha⟩ := ha.cons_inv
 rw [ha.nil_inv]
 have ha1 : a = .str s := (RT.v h1).str_inv
 have hb1 : b = .str p := (RT.v h2).str_inv
 subst ha1 hb1
 have hy : cutSufF s p = some y := hy
 unfold cutSufF at hy
 cases hc : decide (s.length ≤ 9223372036854775807) with
 | false => rw [hc] at hy; cases hy
 | true =>
   rw [hc] at hy
   cases hy
   have hc := of_decide_eq_true hc
   intro μ w S cargs r0 hl hv
   obtain ⟨v0, v1, rfl⟩ := arr2 (by simpa using hl.symm)
   obtain ⟨s1, rfl, rfl⟩ := (hv 0 _ v0 rfl rfl).str_inv
   obtain ⟨s2, rfl, rfl⟩ := (hv 1 _ v1 rfl rfl).str_inv
   refine (h s1 s2 w (by simpa using hc)).mono fun e w' ⟨he, hw⟩ => ?_
   subst hw
   refine ⟨_, μ, S, he, r0, Ext.refl _ _ _, ?_, Nat.le_refl _, fun b hb _ => .inl rfl⟩
   show VR μ w' S (yA (.tup (.cons (.v .str) (.cons (.v .bool) .nil)), []) [] (Lib.trimSuffix s1.data.toList s2.data.toList, (Lib.hasSuffix s1.data.toList s2.data.toList, ()))) _
   rw [ya_strb]
   refine .tup _ _ rfl fun j c v hc hv => ?_
   match j with
   | 0 => cases hc; cases hv; exact .imm _ _ (.str ⟨(Lib.trimSuffix s1.data.toList s2.data.toList).toArray⟩)
   | 1 => cases hc; cases hv; exact .imm _ _ (.bool _)
   | j + 2 => simp at hc
theorem ext136 : NOk Tryz.prog ⟨136, sigCS, fun x _ => cutSufF x.1 x.2.1⟩ :=
 NOk.cutSuf (P := Tryz.prog) ⟨_, Tryz.func136, rfl, rfl⟩ fun s p w h => Tryz.strings_CutSuffix s p w h
@[reducible] def sigIB : Sig := ⟨.cons (.v .str) (.cons (.v (.int .u8)) .nil), [], (.v (.int .i64), []), []⟩
def idxByteF (s : List UInt8) (c : Int) : Option Int := some (Lib.indexByte s c.toNat.toUInt8)
theorem NOk.idxByte {P : Program} {f : Nat} (hent : AM.Enters P f) (h : ∀ (s : ByteArray) (c : Int) (w : World), Calls P f #[.string s, .int .u8 c] w fun e w' => e = .returned (.int .i64 (Lib.indexByte s.data.toList c.toNat.toUInt8)) ∧ w' = w) :
   NOk P ⟨f, sigIB, fun x _ => idxByteF x.1 x.2.1⟩ := by
 refine ⟨hent, rfl, fun x hh y hy args ahp ha hb => ?_⟩
 obtain ⟨s, n, u⟩ := x
 have e0 : ahp = [] := A2.nil_inv hb
 subst e0
 simp only [puts, put, putV, Ty.isAgg] at ha
 obtain ⟨a, as', rfl, h1, ha⟩ := ha.cons_inv
 obtain ⟨b, bs', rfl, h2, ha⟩ := ha.cons_inv
 rw [ha.nil_inv]
 have ha1 : a = .str s := (RT.v h1).str_inv
 have hb1 : b = .int .u8 n := (RT.v h2).int_inv
 subst ha1 hb1
 cases hy
 intro μ w S cargs r0 hl hv
 obtain ⟨v0, v1, rfl⟩ := arr2 (by simpa using hl.symm)
 obtain ⟨s1, rfl, rfl⟩ := (hv 0 _ v0 rfl rfl).str_inv
 have hv1 : v1 = .int .u8 n := by
   have := hv 1 _ v1 rfl rfl
   cases this with
   | imm _ _ h => cases h; rfl
 subst hv1
 refine (h s1 n w).mono fun e w' ⟨he, hw⟩ => ?_
 subst hw
 exact ⟨_, μ, S, he, r0, Ext.refl _ _ _, (ya_int .i64 _).symm ▸ .imm _ _ (.int _ _), Nat.le_refl _, fun b hb _ => .inl rfl⟩
theorem ext109 : NOk Tryz.prog ⟨109, sigIB, fun x _ => idxByteF x.1 x.2.1⟩ :=
 NOk.idxByte (P := Tryz.prog) ⟨_, Tryz.func109, rfl, rfl⟩ fun s c w => Tryz.strings_IndexByte s c w
@[reducible] def sigSp : Sig := ⟨.cons (.v .str) (.cons (.v .str) .nil), [], (.v (.list .str), []), []⟩
def splitF (s sep : List UInt8) : Option (List (List UInt8)) := cond (decide (s.length < 4294967281) && decide (1 ≤ sep.length)) (some (Lib.splitK sep 0 (Lib.count s sep) s)) none
theorem ric_str {s : List UInt8} {p : AVal} (h : RIc (.str s) p) : p = .str s := by
 cases h
 rfl
theorem NOk.split {P : Program} {f g : Nat} (hent : AM.Enters P f) (hg : g ∈ anyInts)
   (h : ∀ (s sep : ByteArray) (m : Int) (w : World), s.size < 4294967281 → w.cell? ⟨g, 0, none⟩ = some (.int .i64 m) → 1 ≤ sep.size → Calls P f #[.string s, .string sep] w fun e w' =>
     e = .returned (.slice (some ⟨w.heap.size, 0, none⟩) (Lib.countB s sep + 1) (Lib.countB s sep + 1)) ∧ ∃ t, w' = w.alloc (.cells ((Lib.splitB sep 0 (Lib.countB s sep) s).map Value.string).toArray t)) :
   NOk P ⟨f, sigSp, fun x _ => splitF x.1 x.2.1⟩ := by
 refine ⟨hent, rfl, fun x hh y hy args ahp ha hb => ?_⟩
 obtain ⟨s, p, u⟩ := x
 have e0 : ahp = [] := A2.nil_inv hb
 subst e0
 simp only [puts, put, putV, Ty.isAgg] at ha
 obtain ⟨a, as', rfl, h1, ha⟩ := ha.cons_inv
 obtain ⟨b, bs', rfl, h2, ha⟩ := ha.cons_inv
 rw [ha.nil_inv]
 have ha1 : a = .str s := (RT.v h1).str_inv
 have hb1 : b = .str p := (RT.v h2).str_inv
 subst ha1 hb1
 have hy : splitF s p = some y := hy
 unfold splitF at hy
 cases hc : (decide (s.length < 4294967281) && decide (1 ≤ p.length)) with
 | false => rw [hc] at hy; cases hy
 | true =>
   rw [hc] at hy
   simp only [Bool.and_eq_true, decide_eq_true_eq] at hc
   intro μ w S cargs r0 hl hv
   obtain ⟨v0, v1, rfl⟩ := arr2 (by simpa using hl.symm)
   obtain ⟨s1, rfl, rfl⟩ := (hv 0 _ v0 rfl rfl).str_inv
   obtain ⟨s2, rfl, rfl⟩ := (hv 1 _ v1 rfl rfl).str_inv
   obtain ⟨_, m, tt, pp, hm⟩ := r0.gl.2 g hg
   have hcell : w.cell? ⟨g, 0, none⟩ = some (.int .i64 m) := by simp [World.cell?, hm]
   refine (h s1 s2 m w (by simpa using hc.1) hcell (by simpa using hc.2)).mono fun e w' ⟨he, tn, hw⟩ => ?_
   have hyv : y = (Lib.splitB s2 0 (Lib.countB s1 s2) s1).map (·.data.toList) := by
     rw [Lib.splitB_data]
     cases hy
     rfl
   have hlen : (Lib.splitB s2 0 (Lib.countB s1 s2) s1).length = Lib.countB s1 s2 + 1 := Lib.splitB_all s2 (by simpa using hc.2) 0 _ s1 rfl
   subst hw
   clear hy
   subst hyv
   have hbel : Below w.heap.size w (w.alloc (.cells ((Lib.splitB s2 0 (Lib.countB s1 s2) s1).map Value.string).toArray tn)) := (Below.refl _ w).alloc (Nat.le_refl _) _
   have hfree : ∀ b, μ b = .free := fun b => r0.free b (.inr (Nat.zero_le _))
   have hgl := r0.gl.mono (w' := w.alloc (.cells ((Lib.splitB s2 0 (Lib.countB s1 s2) s1).map Value.string).toArray tn)) (S' := fun j => S j ∨ j = w.heap.size) (fun m hm => hbel.block m (r0.inS m hm)) (fun _ h => .inl h)
   refine ⟨_, μ, fun j => S j ∨ j = w.heap.size, he, ?_, ⟨hbel.os, hbel.tape, hbel.output, hbel.size, fun m hm _ => hbel.block m hm, fun _ h => .inl h, fun m hm => ?_, fun m ho => .inl ho⟩, ?_, Nat.le_refl _, fun b hb => absurd hb (Nat.not_lt_zero _)⟩
   · show HRep μ _ _ []
     refine ⟨fun b k hbk => ?_, fun b _ => .inl (hfree b), fun b _ => hfree b, r0.inj, fun m ho => ?_, fun m hm => ?_, hgl⟩
     · unfold Heap.get at hbk
       simp at hbk
     · obtain ⟨b, n, e, hb⟩ := ho
       rw [hfree b] at hb
       cases hb
     · rcases hm with hm | rfl
       · exact Nat.lt_of_lt_of_le (r0.inS m hm) hbel.size
       · simp
   · rcases hm with hm | rfl
     · exact .inl hm
     · exact .inr (.inr (Nat.le_refl _))
   · obtain ⟨c, d, g1, g2, g3, g4⟩ := one_cells (t := .list .str) rfl ((Lib.splitB s2 0 (Lib.countB s1 s2) s1).map (·.data.toList))
     show VR μ _ _ (yA (.v (.list .str), []) [] ((Lib.splitB s2 0 (Lib.countB s1 s2) s1).map (·.data.toList))) _
     simp only [yA, outA, can, Ty.isAgg, g2]
     have hcl : c = .lst .str ((Lib.splitB s2 0 (Lib.countB s1 s2) s1).map (·.data.toList)) := by cases g1; rfl
     subst hcl
     show VR μ _ _ d _
     cases g3 with
     | lst _ _ e ys he2 hl2 hr hc2 =>
       have he2 : e = 1 := he2
       subst he2
       have hyl : ys.length = Lib.countB s1 s2 + 1 := by rw [← hl2, List.length_map, hlen]
       have row : ∀ (i : Nat) (x : List AVal), ys[i]? = some x → ∃ z : ByteArray, (Lib.splitB s2 0 (Lib.countB s1 s2) s1)[i]? = some z ∧ x = [.str z.data.toList] := fun i x hi => by
         have hil := (List.getElem?_eq_some_iff.1 hi).1
         have hz : (Lib.splitB s2 0 (Lib.countB s1 s2) s1)[i]? = some ((Lib.splitB s2 0 (Lib.countB s1 s2) s1)[i]'(by omega)) := List.getElem?_eq_getElem _
         refine ⟨_, hz, ?_⟩
         have hzm : ((Lib.splitB s2 0 (Lib.countB s1 s2) s1).map (·.data.toList))[i]? = some ((Lib.splitB s2 0 (Lib.countB s1 s2) s1)[i]'(by omega)).data.toList := by rw [List.getElem?_map, hz]; rfl
         have hx1 : x.length = 1 := (hr i _ x hzm hi).symm
         obtain ⟨p0, rfl⟩ : ∃ p0, x = [p0] := by
           match x, hx1 with
           | [p0], _ => exact ⟨p0, rfl⟩
         have r1 : RIc (.str ((Lib.splitB s2 0 (Lib.countB s1 s2) s1)[i]'(by omega)).data.toList) p0 := hc2 i _ [p0] 0 _ p0 hzm hi rfl rfl
         rw [ric_str r1]
       rw [← hyl]
       refine .imm _ _ (.imm 1 ys (some ⟨w.heap.size, 0, none⟩) ys.length (fun i _ => ((Lib.splitB s2 0 (Lib.countB s1 s2) s1).map Value.string).getD i (.bool true)) (Nat.le_refl _) (fun h => by cases h) (fun i x hi => ?_) (fun i x j c hi hj => ?_) (fun i x j c hi hj => ?_))
       · obtain ⟨z, _, rfl⟩ := row i x hi
         rfl
       · obtain ⟨z, hz, rfl⟩ := row i x hi
         have hj0 : j = 0 := by
           match j with
           | 0 => rfl
           | j + 1 => simp at hj
         subst hj0
         refine ⟨w.heap.size, 0, rfl, .inr rfl, ?_⟩
         have : (w.alloc (.cells ((Lib.splitB s2 0 (Lib.countB s1 s2) s1).map Value.string).toArray tn)).heap[w.heap.size]? = some (.cells ((Lib.splitB s2 0 (Lib.countB s1 s2) s1).map Value.string).toArray tn) := (alloc_heap w _).2.1
         simp only [World.cell?, this]
         simp [hz]
       · obtain ⟨z, hz, rfl⟩ := row i x hi
         match j with
         | j + 1 => simp at hj
         | 0 =>
           cases hj
           have : ((Lib.splitB s2 0 (Lib.countB s1 s2) s1).map Value.string).getD i (.bool true) = .string z := by simp [hz]
           simp only [this]
           exact .str z
theorem ext36 : NOk Tryz.prog ⟨36, sigSp, fun x _ => splitF x.1 x.2.1⟩ :=
 NOk.split (P := Tryz.prog) (g := 2) ⟨_, Tryz.func36, rfl, rfl⟩ (by decide) fun s sep m w h1 h2 h3 => (Tryz.strings_Split s sep m w h1 h2 h3).mono fun e w' h => ⟨h.1, _, h.2⟩
theorem bytes_arg {w : World} {S : Nat → Prop} {xs : List Int} {a : AVal} {v : Value} (h : RI (.lst (.int .u8) xs) a) (hv : IR w S a v) : ∃ p c, v = .slice p xs.length c ∧ Lib.BytesIn w p xs.length xs := by
 rcases h.lst_inv with ⟨ys, rfl, hys⟩ | ⟨rfl, e0⟩
 · cases hv with
   | imm _ _ A cap g i1 i2 i3 i4 i5 =>
     have hlen : ys.length = xs.length := hys.1.symm
     have hat : ∀ i, i < xs.length → ∃ m o, A = some ⟨m, o, none⟩ ∧ w.cell? ⟨m, o + i, none⟩ = some (.int .u8 (xs.getD i 0)) := fun i hi => by
       have hyj : ys[i]? = some (ys[i]'(by omega)) := List.getElem?_eq_getElem _
       have hxi : xs[i]? = some xs[i] := List.getElem?_eq_getElem hi
       have hrow : A2 RI [.int .u8 xs[i]] (ys[i]'(by omega)) := hys.2 i _ _ hxi hyj
       obtain ⟨d, ds, e1, hd, hds⟩ := hrow.cons_inv
       have e2 := hds.nil_inv
       rw [e2] at e1
       cases hd
       rw [e1] at hyj
       obtain ⟨m, o, hA, hm, hc⟩ := i4 i _ 0 _ hyj rfl
       have hir := i5 i _ 0 _ hyj rfl
       generalize g i 0 = gv at hc hir
       have hgv : gv = .int .u8 xs[i] := by cases hir; rfl
       have hsz : (ops (Ty.int .u8)).size = 1 := rfl
       rw [hsz, Nat.mul_one, Nat.add_zero, hgv] at hc
       refine ⟨m, o, hA, ?_⟩
       rw [hc]
       simp [List.getD, hxi]
     refine ⟨A, cap, by rw [hlen], fun hn => ?_⟩
     obtain ⟨m, o, rfl, _⟩ := hat 0 hn
     refine ⟨m, o, rfl, fun i hi => ?_⟩
     obtain ⟨m', o', hA, hc⟩ := hat i hi
     cases hA
     exact hc
 · subst e0
   cases hv with
   | zsl A => exact ⟨A, 0, rfl, Lib.BytesIn.nil _ _ _⟩
@[reducible] def sigEB : Sig := ⟨.cons (.v (.list (.int .u8))) (.cons (.v (.list (.int .u8))) .nil), [], (.v .bool, []), []⟩
def eqBytesF (xs ys : List Int) : Option Bool := some (Lib.bytesOf xs == Lib.bytesOf ys)
theorem NOk.eqBytes {P : Program} {f : Nat} (hent : AM.Enters P f) (h : ∀ (p1 p2 : Option Addr) (n c m d : Nat) (xs ys : List Int) (w : World), xs.length = n → ys.length = m → Lib.BytesIn w p1 n xs → Lib.BytesIn w p2 m ys →
     Calls P f #[.slice p1 n c, .slice p2 m d] w fun e w' => e = .returned (.bool (Lib.bytesOf xs == Lib.bytesOf ys)) ∧ w' = w) :
   NOk P ⟨f, sigEB, fun x _ => eqBytesF x.1 x.2.1⟩ := by
 refine ⟨hent, rfl, fun x hh y hy args ahp ha hb => ?_⟩
 obtain ⟨xs, ys, u⟩ := x
 have e0 : ahp = [] := A2.nil_inv hb
 subst e0
 simp only [puts, put, putV, Ty.isAgg] at ha
 obtain ⟨a, as', rfl, h1, ha⟩ := ha.cons_inv
 obtain ⟨b, bs', rfl, h2, ha⟩ := ha.cons_inv
 rw [ha.nil_inv]
 cases hy
 intro μ w S cargs r0 hl hv
 obtain ⟨v0, v1, rfl⟩ := arr2 (by simpa using hl.symm)
 have h1' : RI (.lst (.int .u8) xs) a := (RT.v h1).lst_inv
 have h2' : RI (.lst (.int .u8) ys) b := (RT.v h2).lst_inv
 have hv0 := hv 0 _ v0 rfl rfl
 have hv1 := hv 1 _ v1 rfl rfl
 have k0 : IR w S a v0 := by
   rcases h1'.lst_inv with ⟨zs, rfl, _⟩ | ⟨rfl, _⟩
   · cases hv0 with | imm _ _ h => exact h
   · cases hv0 with | imm _ _ h => exact h
 have k1 : IR w S b v1 := by
   rcases h2'.lst_inv with ⟨zs, rfl, _⟩ | ⟨rfl, _⟩
   · cases hv1 with | imm _ _ h => exact h
   · cases hv1 with | imm _ _ h => exact h
 obtain ⟨p1, c1, rfl, b1⟩ := bytes_arg h1' k0
 obtain ⟨p2, c2, rfl, b2⟩ := bytes_arg h2' k1
 refine (h p1 p2 _ c1 _ c2 xs ys w rfl rfl b1 b2).mono fun e w' ⟨he, hw⟩ => ?_
 subst hw
 exact ⟨_, μ, S, he, r0, Ext.refl _ _ _, (ya_bool _).symm ▸ .imm _ _ (.bool _), Nat.le_refl _, fun b hb _ => .inl rfl⟩
theorem ext28 : NOk Tryz.prog ⟨28, sigEB, fun x _ => eqBytesF x.1 x.2.1⟩ :=
 NOk.eqBytes (P := Tryz.prog) ⟨_, Tryz.func28, rfl, rfl⟩ fun p1 p2 n c m d xs ys w h1 h2 h3 h4 => Tryz.bytes_Equal_all p1 p2 n c m d xs ys w h1 h2 h3 h4
end NM
end Go.Proofs.YtpogjlhgbdpnbaaGreatDoor
end
