/-
  What the proof of SpecTexts leans on, part 4. (Many texts laid together by program.)
-/
import Derived.Test.YtjngkfdclcgfhaaGreatDoorPkTc
import Derived.Laws.FloatArith
import Derived.Laws.ComplexArith
set_option linter.unnecessarySimpa false
set_option linter.unusedSimpArgs false
set_option linter.unusedVariables false
section
namespace Go.Proofs.YtjngkfdclcgfhaaGreatDoor
namespace AM
section
variable {P : Program} {μ : Nat → Loc} {w : World} {S : Nat → Prop} {ρ : Operand → Value} {r : Opd → AVal}
theorem eqNe_inv {op : BinOp} {neg : Bool} (h : (eqNe op == some neg) = true) : (op = .eql ∧ neg = false) ∨ (op = .neq ∧ neg = true) := by
 cases op <;> simp [eqNe] at h <;> subst h <;> simp
theorem IR.index {e : Nat} {xs : List (List AVal)} {v : Value} {k : Nat} {c : List AVal} (h : IR w S (.imm e xs) v) (hk : xs[k]? = some c) (he : e ≠ 0) :
   ∃ m o cap, v = .slice (some ⟨m, o, none⟩) xs.length cap ∧ k < xs.length ∧ IR w S (.iptr c 0) (.pointer (some ⟨m, o + k * e, none⟩)) := by
 cases h with
 | imm e xs A cap g hl hn hel hcell hsub =>
   have hlen := hel k c hk
   obtain ⟨m, o, rfl, hm, _⟩ := hcell k c 0 (c[0]'(by omega)) hk (by simp)
   refine ⟨m, o, cap, rfl, (List.getElem?_eq_some_iff.1 hk).1, ?_⟩
   refine .iptr c 0 m (o + k * e) (fun j => g k j) hm (fun j x hj => ?_) (fun j x hj => hsub k c j x hk hj)
   obtain ⟨m', o', hA, hm', hc⟩ := hcell k c j x hk hj
   cases hA
   rw [Nat.add_assoc]
   exact hc
theorem IR.addOff {cs : List AVal} {off n : Nat} {v : Value} (h : IR w S (.iptr cs off) v) : ∃ m o, v = .pointer (some ⟨m, o, none⟩) ∧ IR w S (.iptr cs (off + n)) (.pointer (some ⟨m, o + n, none⟩)) := by
 cases h with
 | iptr cs off m o g hm hc hs => exact ⟨m, o + off, rfl, by rw [Nat.add_assoc]; exact .iptr cs (off + n) m o g hm hc hs⟩
theorem PtrAt.addOff {l : Loc} {i f n : Nat} {v : Value} (h : PtrAt l i f v) : ∃ a, v = .pointer (some a) ∧ PtrAt l i (f + n) (.pointer (some (a.add n))) := by
 cases l with
 | free => exact h.elim
 | dead => obtain ⟨a, rfl⟩ := h; exact ⟨a, rfl, _, rfl⟩
 | void => exact h.elim
 | here m k e =>
   have h : v = _ := h
   subst h
   refine ⟨_, rfl, ?_⟩
   show Value.pointer (some _) = _
   rw [add_mk, Nat.add_assoc]
theorem run_equal_bool {t : TypeId} {a b : Bool} (hu : P.underlying t = some .bool) : (Op.equal t (.bool a) (.bool b)).run P w = .ok (a == b) w := by
 have h : ∀ d, (Op.equalIn (d + 1) t (.bool a) (.bool b)).run P w = .ok (a == b) w := fun d => by
   rw [Op.equalIn]
   simp [run_underlying hu]
 exact h 9999
theorem run_equal_ptr {t el : TypeId} {a c : Option Addr} (hu : P.underlying t = some (.pointer el)) (h : a = none ∨ c = none) : (Op.equal t (.pointer a) (.pointer c)).run P w = .ok (a.isNone && c.isNone) w := by
 have h : ∀ d, (Op.equalIn (d + 1) t (.pointer a) (.pointer c)).run P w = .ok (a.isNone && c.isNone) w := fun d => by
   rw [Op.equalIn]
   rcases h with rfl | rfl
   · cases c <;> simp [run_underlying hu]
   · cases a <;> simp [run_underlying hu]
 exact h 9999
theorem fl_ofInt {s d : TypeId} {x : Value} {n : Int} (hs : (P.underlying s).isSome = true) (hd : P.underlying d = some (.float .f64)) (e1 : x = .int .i64 n) : (convert s d x).run P w = .ok (.float .f64 (Fl.bits n)) w := by
 obtain ⟨ds, hs⟩ := Option.isSome_iff_exists.1 hs
 subst e1
 have e : FloatKind.f64.nearest n = Fl.bits n := rfl
 cases ds <;> simp [convert, run_underlying hs, run_underlying hd, Conv.intToFloat, e]
theorem fl_toInt {s d : TypeId} {x : Value} {n : Int} (hs : (P.underlying s).isSome = true) (hd : P.underlying d = some (.int .i64)) (hn : wholeB n = true) (e1 : x = .float .f64 (Fl.bits n)) : (convert s d x).run P w = .ok (.int .i64 n) w := by
 subst e1
 refine run_convert_float_int w s d .f64 .i64 _ n hs hd ?_
 have hn' : -1125899906842624 ≤ n ∧ n ≤ 1125899906842624 := by simpa [wholeB] using hn
 have h1 : n.natAbs.log2 ≤ 52 := Fl.log_small (by omega)
 have h2 : -9223372036854775808 ≤ n ∧ n ≤ 9223372036854775807 := ⟨by omega, by omega⟩
 unfold floatToIntVal
 rw [Fl.to_int n h1]
 simp only [IntKind.min, IntKind.max, IntKind.signed, IntKind.bits]
 exact if_pos (by simpa using h2)
theorem partB_le {n : Int} (h : partB n = true) : 0 ≤ n ∧ n ≤ 1048576 := by simpa [partB] using h
theorem fl_add {a b c d : Int} {x y : Value} (h : (partB a && partB b && partB c && partB d) = true) (hx : x = .complex .f64 (Fl.bits a) (Fl.bits b)) (hy : y = .complex .f64 (Fl.bits c) (Fl.bits d)) (t : TypeId) :
   (binOp .add t x y).run P w = .ok (.complex .f64 (Fl.bits (a + c)) (Fl.bits (b + d))) w := by
 subst hx; subst hy
 simp only [Bool.and_eq_true] at h
 obtain ⟨⟨⟨ha, hb⟩, hc⟩, hd⟩ := h
 have e : ∀ x y : Int, partB x = true → partB y = true → floatBits .add .f64 (Fl.bits x) (Fl.bits y) = some (Fl.bits (x + y)) := fun x y hx hy => by
   have hx := partB_le hx
   have hy := partB_le hy
   have := Fl.add_bits x.toNat y.toNat (Fl.log_small (by omega)) (Fl.log_small (by omega)) (Fl.log_small (by omega))
   rw [Int.toNat_of_nonneg hx.1, Int.toNat_of_nonneg hy.1] at this
   exact this
 refine run_complex_sum w .add (.inl rfl) t .f64 _ _ _ _ _ _ ?_
 unfold cSumBits
 rw [e a c ha hc, e b d hb hd]
 rfl
theorem fl_sub {a b c d : Int} {x y : Value} (h : (partB a && partB b && partB c && partB d) = true) (hx : x = .complex .f64 (Fl.bits a) (Fl.bits b)) (hy : y = .complex .f64 (Fl.bits c) (Fl.bits d)) (t : TypeId) :
   (binOp .sub t x y).run P w = .ok (.complex .f64 (Fl.bits (a - c)) (Fl.bits (b - d))) w := by
 subst hx; subst hy
 simp only [Bool.and_eq_true] at h
 obtain ⟨⟨⟨ha, hb⟩, hc⟩, hd⟩ := h
 have e : ∀ x y : Int, partB x = true → partB y = true → floatBits .sub .f64 (Fl.bits x) (Fl.bits y) = some (Fl.bits (x - y)) := fun x y hx hy => by
   have hx := partB_le hx
   have hy := partB_le hy
   have := Fl.sub_bits x.toNat y.toNat (Fl.log_small (by omega)) (Fl.log_small (by omega)) (Fl.log_small (by omega))
   rw [Int.toNat_of_nonneg hx.1, Int.toNat_of_nonneg hy.1] at this
   exact this
 refine run_complex_sum w .sub (.inr rfl) t .f64 _ _ _ _ _ _ ?_
 unfold cSumBits
 rw [e a c ha hc, e b d hb hd]
 rfl
theorem fl_mul {a b c d : Int} {x y : Value} (h : (partB a && partB b && partB c && decide (d = 0)) = true) (hx : x = .complex .f64 (Fl.bits a) (Fl.bits b)) (hy : y = .complex .f64 (Fl.bits c) (Fl.bits d)) (t : TypeId) :
   (binOp .mul t x y).run P w = .ok (.complex .f64 (Fl.bits (a * c)) (Fl.bits (b * c))) w := by
 subst hx; subst hy
 simp only [Bool.and_eq_true, decide_eq_true_eq] at h
 obtain ⟨⟨⟨ha, hb⟩, hc⟩, rfl⟩ := h
 have ha := partB_le ha
 have hb := partB_le hb
 have hc := partB_le hc
 have bnd : ∀ x y : Int, 0 ≤ x → x ≤ 1048576 → 0 ≤ y → y ≤ 1048576 → 0 ≤ x * y ∧ x * y ≤ 1048576 * 1048576 := fun x y h1 h2 h3 h4 => ⟨Int.mul_nonneg h1 h3, Int.mul_le_mul h2 h4 h3 (by omega)⟩
 have e : ∀ x y : Int, 0 ≤ x → x ≤ 1048576 → 0 ≤ y → y ≤ 1048576 → floatBits .mul .f64 (Fl.bits x) (Fl.bits y) = some (Fl.bits (x * y)) := fun x y h1 h2 h3 h4 => by
   obtain ⟨X, rfl⟩ := Int.eq_ofNat_of_zero_le h1
   obtain ⟨Y, rfl⟩ := Int.eq_ofNat_of_zero_le h3
   have h5 := (bnd X Y h1 h2 h3 h4).2
   have h6 : X * Y < 9007199254740992 := by
     have : ((X * Y : Nat) : Int) ≤ 1048576 * 1048576 := by rw [Int.natCast_mul]; exact h5
     omega
   exact Fl.mul_bits X Y (Fl.log_small (by omega)) (Fl.log_small (by omega)) (Fl.log_small h6)
 have eac := e a c ha.1 ha.2 hc.1 hc.2
 have ebd := e b 0 hb.1 hb.2 (by omega) (by omega)
 have ead := e a 0 ha.1 ha.2 (by omega) (by omega)
 have ebc := e b c hb.1 hb.2 hc.1 hc.2
 have hac := bnd a c ha.1 ha.2 hc.1 hc.2
 have hbc := bnd b c hb.1 hb.2 hc.1 hc.2
 have es : floatBits .sub .f64 (Fl.bits (a * c)) (Fl.bits (b * 0)) = some (Fl.bits (a * c)) := by
   have h1 : a * c < 9007199254740992 := by omega
   have := Fl.sub_bits (a * c).toNat 0 (Fl.log_small (by omega)) (by decide) (Fl.log_small (by omega))
   rw [Int.toNat_of_nonneg hac.1] at this
   rw [Int.mul_zero]
   have h2 : a * c - ((0 : Nat) : Int) = a * c := by omega
   rw [h2] at this
   exact this
 have ea : floatBits .add .f64 (Fl.bits (a * 0)) (Fl.bits (b * c)) = some (Fl.bits (b * c)) := by
   have h1 : b * c < 9007199254740992 := by omega
   have := Fl.add_bits 0 (b * c).toNat (by decide) (Fl.log_small (by omega)) (Fl.log_small (by omega))
   rw [Int.toNat_of_nonneg hbc.1] at this
   rw [Int.mul_zero]
   have h2 : ((0 : Nat) : Int) + b * c = b * c := by omega
   rw [h2] at this
   exact this
 refine run_complex_mul w t _ _ _ _ _ _ ?_
 unfold cMulBits
 rw [eac, ebd, ead, ebc]
 simp only [Option.bind_some, es, ea]
theorem b_complex (a : Array TypeId) (t : TypeId) (x y : Nat) : Builtin.complex_ a t #[.float .f64 x, .float .f64 y] = pure (.complex .f64 x y) := rfl
theorem b_real (a : Array TypeId) (t : TypeId) (x y : Nat) : Builtin.real_ a t #[.complex .f64 x y] = pure (.float .f64 x) := rfl
theorem b_imag (a : Array TypeId) (t : TypeId) (x y : Nat) : Builtin.imag_ a t #[.complex .f64 x y] = pure (.float .f64 y) := rfl
theorem fop_ofInt {x y v : AVal} (h : fop .ofInt x y = some v) : ∃ n, x = .int .i64 n ∧ v = .fl n := by
 unfold fop at h
 split at h <;> first | (simp only [Option.some.injEq] at h; exact ⟨_, rfl, h.symm⟩) | (rename_i e; cases e; done) | (cases h; done) | (simp_all; done)
theorem fop_toInt {x y v : AVal} (h : fop .toInt x y = some v) : ∃ n, x = .fl n ∧ wholeB n = true ∧ v = .int .i64 n := by
 cases x <;> simp only [fop] at h <;> first | cases h | skip
 split at h
 · rename_i n hn; simp only [Option.some.injEq] at h; exact ⟨_, rfl, hn, h.symm⟩
 · cases h
theorem fop_mk {x y v : AVal} (h : fop .mk x y = some v) : ∃ a b, x = .fl a ∧ y = .fl b ∧ v = .cx a b := by
 cases x <;> simp only [fop] at h <;> first | cases h | skip
 cases y <;> simp only [fop] at h <;> first | cases h | skip
 all_goals exact ⟨_, _, rfl, rfl, rfl⟩
theorem fop_re {x y v : AVal} (h : fop .re x y = some v) : ∃ a b, x = .cx a b ∧ v = .fl a := by
 cases x <;> simp only [fop] at h <;> first | cases h | skip
 all_goals exact ⟨_, _, rfl, rfl⟩
theorem fop_im {x y v : AVal} (h : fop .im x y = some v) : ∃ a b, x = .cx a b ∧ v = .fl b := by
 cases x <;> simp only [fop] at h <;> first | cases h | skip
 all_goals exact ⟨_, _, rfl, rfl⟩
theorem fop_add {x y v : AVal} (h : fop .add x y = some v) : ∃ a b c d, x = .cx a b ∧ y = .cx c d ∧ (partB a && partB b && partB c && partB d) = true ∧ v = .cx (a + c) (b + d) := by
 cases x <;> simp only [fop] at h <;> first | cases h | skip
 cases y <;> simp only [fop] at h <;> first | cases h | skip
 split at h
 · rename_i hn; simp only [Option.some.injEq] at h; exact ⟨_, _, _, _, rfl, rfl, hn, h.symm⟩
 · cases h
theorem fop_sub {x y v : AVal} (h : fop .sub x y = some v) : ∃ a b c d, x = .cx a b ∧ y = .cx c d ∧ (partB a && partB b && partB c && partB d) = true ∧ v = .cx (a - c) (b - d) := by
 cases x <;> simp only [fop] at h <;> first | cases h | skip
 cases y <;> simp only [fop] at h <;> first | cases h | skip
 split at h
 · rename_i hn; simp only [Option.some.injEq] at h; exact ⟨_, _, _, _, rfl, rfl, hn, h.symm⟩
 · cases h
theorem fop_mul {x y v : AVal} (h : fop .mul x y = some v) : ∃ a b c d, x = .cx a b ∧ y = .cx c d ∧ (partB a && partB b && partB c && decide (d = 0)) = true ∧ v = .cx (a * c) (b * c) := by
 cases x <;> simp only [fop] at h <;> first | cases h | skip
 cases y <;> simp only [fop] at h <;> first | cases h | skip
 split at h
 · rename_i hn; simp only [Option.some.injEq] at h; exact ⟨_, _, _, _, rfl, rfl, hn, h.symm⟩
 · cases h
set_option maxHeartbeats 1000000 in
theorem pure_sound (hρ : ∀ x y, chkOpd x y = true → VR μ w S (r y) (ρ x)) (hk : ∀ c, r (.const c) = c) (hkv : ∀ v, ρ (.const v) = v) {o : Oper} {ao : AOp} {v : AVal} (hc : chkPure P o.op ao = true) (hv : pureOp ao r = some v) : Gives P μ w S (execOp ρ o) v := by
 obtain ⟨dst, op, ty, pos, aft, guard⟩ := o
 simp only at hc
 unfold chkPure at hc
 split at hc
 · -- move
   rename_i x y
   simp only [pureOp, Option.some.injEq] at hv
   subst hv
   exact ⟨_, rfl, hρ _ _ hc⟩
 · -- assign
   rename_i x y
   simp only [pureOp, Option.some.injEq] at hv
   subst hv
   exact ⟨_, rfl, hρ _ _ hc⟩
 · -- pick
   rename_i c a b c' a' b'
   simp only [Bool.and_eq_true] at hc
   obtain ⟨⟨h1, h2⟩, h3⟩ := hc
   simp only [pureOp] at hv
   split at hv
   · rename_i t ht
     have hb := hρ _ _ h1
     rw [ht] at hb
     have hb := hb.bool_inv
     simp only [Option.some.injEq] at hv
     subst hv
     refine ⟨_, by simp [execOp, hb, asBool, go_sem]; rfl, ?_⟩
     cases t
     · exact hρ _ _ h3
     · exact hρ _ _ h2
   · cases hv
 · -- build
   rename_i t parts zero ps
   simp only [Bool.and_eq_true] at hc
   obtain ⟨h1, h2⟩ := hc
   simp only [pureOp, Option.map_eq_some_iff] at hv
   obtain ⟨out, hf, rfl⟩ := hv
   obtain ⟨i, z, hi, hz, hs, hcells⟩ := zeroB_inv h1
   split at h2
   · rename_i fs hu
     simp only [Bool.and_eq_true] at h2
     obtain ⟨h3, h4⟩ := h2
     have hpl : ∃ places, fs.toList.mapM (fun f => (P.info? f.type).map fun i => (f.offset, i.size)) = some places ∧ ∀ (j : Nat) (f : Field), fs.toList[j]? = some f → ∃ i, P.info? f.type = some i ∧ places[j]? = some (f.offset, i.size) := by
       have h5 : ∀ f ∈ fs.toList, (P.info? f.type).isSome = true := fun f hf => by
         obtain ⟨i, hi, rfl⟩ := List.getElem_of_mem hf
         have := Array.all_eq_true.1 h3 i (by simpa using hi)
         simpa using this
       generalize fs.toList = l at h5
       clear h3 h4 hu
       induction l with
       | nil => exact ⟨[], rfl, by simp⟩
       | cons f l ih =>
         obtain ⟨pl, hp, hq⟩ := ih fun g hg => h5 g (by simp [hg])
         obtain ⟨i, hi⟩ := Option.isSome_iff_exists.1 (h5 f (by simp))
         refine ⟨(f.offset, i.size) :: pl, by simp [hi, hp], fun j g hj => ?_⟩
         cases j with
         | zero => simp at hj; subst hj; exact ⟨i, hi, rfl⟩
         | succ j => simp at hj; simpa using hq j g hj
     obtain ⟨places, hp, hq⟩ := hpl
     obtain ⟨b, hb, hcb⟩ := fillP_sound hρ (places.toArray[·]?) parts.toList ps zero out z.cells (by
       have h6 := h4
       generalize parts.toList = l at h6 ⊢
       clear hf h4
       induction l generalizing ps with
       | nil => cases ps <;> simp_all [all2]
       | cons p l ih =>
         cases ps with
         | nil => simp [all2] at h6
         | cons q ps =>
           simp only [all2, Bool.and_eq_true] at h6 ⊢
           refine ⟨?_, ih ps h6.2⟩
           have h7 := h6.1
           unfold chkPart at h7
           split at h7
           · rename_i f hf
             simp only [Bool.and_eq_true, beq_iff_eq] at h7
             obtain ⟨⟨ho, hsz⟩, hx⟩ := h7
             obtain ⟨i', hi', hsz'⟩ := szB_inv hsz
             obtain ⟨i'', hi'', hpq⟩ := hq p.1 f (by simpa using hf)
             rw [hi'] at hi''
             cases hi''
             simp [hpq, ho, hsz', hx]
           · cases h7) (hcells μ w S) hf
     refine ⟨.agg b, ?_, hcb.vr⟩
     have hbuilt : P.built t (parts.map fun (i, x) => (i, ρ x)).toList = some b := by
       unfold Program.built
       simp only [hi, hu, hz, hp]
       rw [Array.toList_map]
       exact hb
     simp only [execOp, Sem.run_bind, run_build w t _ b hbuilt, Result.andThen_ok]
     rfl
   · rename_i n e hu
     split at h2
     · rename_i ie hie
       obtain ⟨b, hb, hcb⟩ := fillP_sound hρ (fun i => some (i * ie.size, ie.size)) parts.toList ps zero out z.cells (by
         have h6 := h2
         generalize parts.toList = l at h6 ⊢
         clear hf h2
         induction l generalizing ps with
         | nil => cases ps <;> simp_all [all2]
         | cons p l ih =>
           cases ps with
           | nil => simp [all2] at h6
           | cons q ps =>
             simp only [all2, Bool.and_eq_true, beq_iff_eq] at h6 ⊢
             obtain ⟨⟨⟨h7, h8⟩, h9⟩, h10⟩ := h6
             exact ⟨⟨by simp [h7, h8], h9⟩, ih ps h10⟩) (hcells μ w S) hf
       refine ⟨.agg b, ?_, hcb.vr⟩
       have hbuilt : P.built t (parts.map fun (i, x) => (i, ρ x)).toList = some b := by
         unfold Program.built
         simp only [hi, hu, hz, hie]
         rw [Array.toList_map]
         exact hb
       simp only [execOp, Sem.run_bind, run_build w t _ b hbuilt, Result.andThen_ok]
       rfl
     · cases h2
   · cases h2
 · -- nilCheck
   rename_i x y
   simp only [pureOp] at hv
   have hx := hρ _ _ hc
   split at hv
   · rename_i b i f hy
     rw [hy] at hx
     simp only [Option.some.injEq] at hv
     subst hv
     obtain ⟨a, ha, _⟩ := hx.ptr_inv.addOff (n := 0)
     exact ⟨.pointer (some a), by simp [execOp, ha], by rw [← ha]; exact hx⟩
   · rename_i cs off hy
     rw [hy] at hx
     simp only [Option.some.injEq] at hv
     subst hv
     obtain ⟨m, n, ha, _⟩ := hx.iptr_inv.addOff (n := 0)
     exact ⟨_, by simp [execOp, ha]; rfl, by rw [← ha]; exact hx⟩
   · rename_i f cap hy
     rw [hy] at hx
     simp only [Option.some.injEq] at hv
     subst hv
     obtain ⟨caps, ha, _⟩ := hx.fn_inv
     exact ⟨_, by simp [execOp, ha]; rfl, by rw [← ha]; exact hx⟩
   · cases hv
 · -- bin
   rename_i op t x y yt op' x' y'
   simp only [Bool.and_eq_true, decide_eq_true_eq] at hc
   obtain ⟨⟨rfl, h1⟩, h2⟩ := hc
   simp only [pureOp] at hv
   obtain ⟨cv, hr, hcv⟩ := gives_bin (P := P) (t := t) (xo := x) (yo := y) (hρ _ _ h1) (hρ _ _ h2) hv
   exact ⟨cv, by simp only [execOp, Sem.run_bind, hr] at *; simp [hr], hcv⟩
 · -- eqB
   rename_i op t x y yt neg x' y'
   simp only [Bool.and_eq_true] at hc
   obtain ⟨⟨⟨h0, h1⟩, h2⟩, h3⟩ := hc
   split at h1
   · rename_i hu
     simp only [pureOp] at hv
     split at hv
     · rename_i a b ha hb
       have e1 := hρ _ _ h2
       have e2 := hρ _ _ h3
       rw [ha] at e1
       rw [hb] at e2
       have e1 := e1.bool_inv
       have e2 := e2.bool_inv
       simp only [Option.some.injEq] at hv
       subst hv
       rcases eqNe_inv h0 with ⟨rfl, rfl⟩ | ⟨rfl, rfl⟩
       · exact ⟨.bool (a == b), by simp [execOp, e1, e2, eqGuard, binOp, run_equal_bool hu], .imm _ _ (.bool _)⟩
       · exact ⟨.bool (!(a == b)), by simp [execOp, e1, e2, eqGuard, binOp, run_equal_bool hu], .imm _ _ (.bool _)⟩
     · cases hv
   · cases h1
 · -- eqP
   rename_i op t x y yt neg x' y'
   simp only [Bool.and_eq_true] at hc
   obtain ⟨⟨⟨h0, h1⟩, h2⟩, h3⟩ := hc
   split at h1
   · rename_i el hu
     simp only [pureOp, Option.map_eq_some_iff] at hv
     obtain ⟨b, hb, rfl⟩ := hv
     have e1 := hρ _ _ h2
     have e2 := hρ _ _ h3
     have key : ∃ a c, ρ x = .pointer a ∧ ρ y = .pointer c ∧ (a = none ∨ c = none) ∧ b = (a.isNone && c.isNone) := by
       unfold eqPtr at hb
       split at hb <;> first | cases hb | skip
       · rename_i hx hy; rw [hx] at e1; rw [hy] at e2; exact ⟨_, _, e1.nilp_inv, e2.nilp_inv, .inl rfl, rfl⟩
       · rename_i hx hy; rw [hx] at e1; rw [hy] at e2; obtain ⟨a, ha, _⟩ := e2.ptr_inv.addOff (n := 0); exact ⟨_, _, e1.nilp_inv, ha, .inl rfl, rfl⟩
       · rename_i hx hy; rw [hx] at e1; rw [hy] at e2; obtain ⟨m, o, ha, _⟩ := e2.iptr_inv.addOff (n := 0); exact ⟨_, _, e1.nilp_inv, ha, .inl rfl, rfl⟩
       · rename_i hx hy; rw [hx] at e1; rw [hy] at e2; obtain ⟨a, ha, _⟩ := e1.ptr_inv.addOff (n := 0); exact ⟨_, _, ha, e2.nilp_inv, .inr rfl, rfl⟩
       · rename_i hx hy; rw [hx] at e1; rw [hy] at e2; obtain ⟨m, o, ha, _⟩ := e1.iptr_inv.addOff (n := 0); exact ⟨_, _, ha, e2.nilp_inv, .inr rfl, rfl⟩
     obtain ⟨a, c, ha, hc', hor, rfl⟩ := key
     have heq : (Op.equal t (.pointer a) (.pointer c)).run P w = .ok (a.isNone && c.isNone) w := run_equal_ptr hu hor
     rcases eqNe_inv h0 with ⟨rfl, rfl⟩ | ⟨rfl, rfl⟩
     · exact ⟨.bool (a.isNone && c.isNone), by simp [execOp, ha, hc', eqGuard, binOp, heq], .imm _ _ (.bool _)⟩
     · exact ⟨.bool (!(a.isNone && c.isNone)), by simp [execOp, ha, hc', eqGuard, binOp, heq], .imm _ _ (.bool _)⟩
   · cases h1
 · -- eqI
   rename_i op t x y yt neg x' y'
   simp only [Bool.and_eq_true] at hc
   obtain ⟨⟨⟨h0, h1⟩, h2⟩, h3⟩ := hc
   split at h3
   · split at h1
     · rename_i el hu
       simp only [pureOp, Option.map_eq_some_iff] at hv
       obtain ⟨b, hb, rfl⟩ := hv
       have e1 := hρ _ _ h2
       have hky : r (.const .zsl) = .zsl := hk _
       rw [hky] at hb
       have hcy : ρ (.const (.slice none 0 0)) = .slice none 0 0 := hkv _
       generalize hvx : ρ x = vx at e1
       have key : b = false ∧ ∃ ad n c, vx = .slice (some ad) n c := by
         unfold eqIface at hb
         split at hb
         · rename_i h4 h5; cases h5
         · rename_i e z zs h4 h5
           cases hb
           rw [h4] at e1
           cases e1 with
           | imm _ _ h => cases h with
             | imm _ _ A cap g i1 i2 i3 i4 i5 =>
               refine ⟨rfl, ?_⟩
               cases A with
               | none => have := i2 rfl; simp at i1; omega
               | some ad => exact ⟨ad, _, _, rfl⟩
         · rename_i b' off n e h4 h5
           cases hb
           rw [h4] at e1
           refine ⟨rfl, ?_⟩
           have := e1.sl_inv
           unfold SlAt at this
           split at this
           · exact this.elim
           · obtain ⟨A, cap, h6, h7, h8⟩ := this
             cases A with
             | none => have := h8 rfl; omega
             | some ad => exact ⟨ad, _, _, h6⟩
           · omega
           · obtain ⟨_, cap, h6, _⟩ := this
             exact ⟨_, _, _, h6⟩
         · cases hb
       obtain ⟨rfl, ad, n, c, hx0⟩ := key
       have hx := hvx.trans hx0
       have heq : (Op.equal t (.slice (some ad) n c) (.slice none 0 0)).run P w = .ok false w := run_equal_slice_nil w t el (some ad) n c hu
       rcases eqNe_inv h0 with ⟨rfl, rfl⟩ | ⟨rfl, rfl⟩
       · exact ⟨.bool false, by simp [execOp, hx, hcy, eqGuard, binOp, heq], .imm _ _ (.bool _)⟩
       · exact ⟨.bool true, by simp [execOp, hx, hcy, eqGuard, binOp, heq], .imm _ _ (.bool _)⟩
     · cases h1
   · cases h3
 · -- eqAgg
   rename_i op t x y yt neg x' y'
   simp only [Bool.and_eq_true, decide_eq_true_eq, Bool.not_eq_true'] at hc
   obtain ⟨⟨⟨⟨⟨h0, hk⟩, h1⟩, hg⟩, h2⟩, h3⟩ := hc
   simp only [pureOp] at hv
   split at hv
   · rename_i a b ha hb
     have e1 := hρ _ _ h2
     have e2 := hρ _ _ h3
     rw [ha] at e1
     rw [hb] at e2
     simp only [Option.map_eq_some_iff] at hv
     obtain ⟨r, hr, rfl⟩ := hv
     obtain ⟨hla, hlb⟩ := cellsEq_length hr
     obtain ⟨xs, ex, lx, cx⟩ := e1.agg_inv
     obtain ⟨ys, ey, ly, cy⟩ := e2.agg_inv
     obtain ⟨sx, sy⟩ := cellsEq_scalar hr
     have hrow : rowT P t = true := by unfold rowT; split at h1 <;> first | rfl | (rename_i hu; rw [hu]) | cases h1
     have he := eq_ok 6 t neg.2 hk w 9994 (.agg xs) (.agg ys) xs.toList ys.toList r (by unfold CellsOf; rw [hrow]; simp) (by unfold CellsOf; rw [hrow]; simp) (by rw [abs_of sx lx cx, abs_of sy ly cy]; exact hr)
     rcases eqNe_inv h0 with ⟨rfl, hn⟩ | ⟨rfl, hn⟩
     · exact ⟨.bool r, by simp [execOp, ex, ey, run_eqGuard_agg w _ _ _ _ _ _ hg, run_eql_struct, he], by rw [hn]; exact .imm _ _ (.bool _)⟩
     · exact ⟨.bool (!r), by simp [execOp, ex, ey, run_eqGuard_agg w _ _ _ _ _ _ hg, run_neq_struct, he], by rw [hn]; exact .imm _ _ (.bool _)⟩
   · cases hv
 · -- un
   rename_i op t x op' x'
   simp only [Bool.and_eq_true, decide_eq_true_eq] at hc
   obtain ⟨rfl, h1⟩ := hc
   have e1 := hρ _ _ h1
   simp only [pureOp] at hv
   unfold unop at hv
   split at hv
   · rename_i k n hx
     rw [hx] at e1
     have e1 := e1.int_inv
     simp only [Option.some.injEq] at hv
     subst hv
     exact ⟨_, by simp only [execOp, e1]; rfl, .imm _ _ (.int _ _)⟩
   · rename_i b hx
     rw [hx] at e1
     have e1 := e1.bool_inv
     simp only [Option.some.injEq] at hv
     subst hv
     exact ⟨_, by simp only [execOp, e1]; rfl, .imm _ _ (.bool _)⟩
   · cases hv
 · -- conv
   rename_i s d x k x'
   simp only [Bool.and_eq_true] at hc
   obtain ⟨⟨h1, h2⟩, h3⟩ := hc
   obtain ⟨ds, hs⟩ := Option.isSome_iff_exists.1 h1
   split at h2
   · rename_i k' hd
     simp only [decide_eq_true_eq] at h2
     subst h2
     have e1 := hρ _ _ h3
     simp only [pureOp] at hv
     split at hv
     · rename_i k2 n hx
       rw [hx] at e1
       have e1 := e1.int_inv
       simp only [Option.some.injEq] at hv
       subst hv
       refine ⟨.int k (k.wrap n), ?_, .imm _ _ (.int _ _)⟩
       cases ds <;> simp [execOp, e1, convert, run_underlying hs, run_underlying hd, Conv.intToInt]
     · cases hv
   · cases h2
 · -- slice
   rename_i t x lo hi mx e x' lo' hi' mx'
   simp only [Bool.and_eq_true] at hc
   obtain ⟨⟨⟨⟨⟨h1, h2⟩, h3⟩, h4⟩, h5⟩, h6⟩ := hc
   split at h1
   · rename_i el hu
     simp only [pureOp] at hv
     split at hv
     · cases hv
     · rename_i l hl
       split at hv
       · rename_i h m hh hm
         have b1 := bound_inv hρ h3 hl
         have b2 := opt_inv hρ h4 hh
         have b3 := opt_inv hρ h5 hm
         obtain ⟨cv, hr, hcv⟩ := gives_slice (P := P) (low := lo.map ρ) (high := hi.map ρ) (max := mx.map ρ) hu h1 (hρ _ _ h2)
           (by rcases b1 with ⟨rfl, _, rfl⟩ | h; exact .inl ⟨rfl, rfl⟩; exact .inr h)
           (by
             rcases b2 with ⟨rfl, hn, rfl⟩ | h
             · rcases b3 with ⟨rfl, _, _⟩ | ⟨k, n, h7, h8⟩
               · exact .inl ⟨rfl, rfl, rfl⟩
               · rw [hn] at h6
                 cases mx' with
                 | none => cases mx <;> simp [chkOpt] at h5 h7
                 | some q => simp at h6
             · exact .inr h)
           (by rcases b3 with ⟨rfl, _, rfl⟩ | h; exact .inl ⟨rfl, rfl⟩; exact .inr h) hv
         exact ⟨cv, by simp [execOp, hr], hcv⟩
       · cases hv
   · cases h1
 · -- sliceStr
   rename_i t x lo hi x' lo' hi'
   simp only [Bool.and_eq_true] at hc
   obtain ⟨⟨⟨h1, h2⟩, h3⟩, h4⟩ := hc
   split at h1
   · rename_i hu
     have e1 := hρ _ _ h2
     simp only [pureOp] at hv
     split at hv
     · rename_i s hx
       rw [hx] at e1
       obtain ⟨bs, he1, hbs⟩ := e1.str_inv
       subst hbs
       split at hv
       · rename_i l h hl hh
         split at hv
         · rename_i hlh
           simp only [Option.some.injEq] at hv
           subst hv
           have b1 := bound_inv hρ h3 hl
           have b2 := bound_inv hρ h4 hh
           have hsz : bs.data.toList.length = bs.size := by simp
           have hb : (Instr.sliceBounds false bs.size bs.size (lo.map ρ) (hi.map ρ) none).run P w = .ok (l, h, bs.size) w :=
             run_bounds (by rcases b1 with ⟨rfl, _, rfl⟩ | h; exact .inl ⟨rfl, rfl⟩; exact .inr h) (by rcases b2 with ⟨rfl, _, rfl⟩ | h; exact .inl ⟨rfl, rfl, hsz⟩; exact .inr h) (.inl ⟨rfl, rfl⟩) hlh.1 (by omega) (Nat.le_refl _)
           refine ⟨.string (bs.extract l h), by simp [execOp, he1, Instr.sliceAt, Instr.slice, run_underlying hu, hb], .imm _ _ ?_⟩
           have : (bs.data.toList.take h).drop l = (bs.extract l h).data.toList := by
             simp [ByteArray.data_extract, List.extract_eq_take_drop, List.drop_take]
           rw [this]
           exact .str _
         · cases hv
       · cases hv
     · cases hv
   · cases h1
 · -- fieldAddr
   rename_i s x f off x'
   simp only [Bool.and_eq_true] at hc
   obtain ⟨h1, h2⟩ := hc
   split at h1
   · rename_i fs hu
     split at h1
     · rename_i g hg
       simp only [Bool.and_eq_true, beq_iff_eq] at h1
       obtain ⟨ho, h1⟩ := h1
       subst ho
       split at h1
       · rename_i i hi
         have hsz : i.size ≠ 0 := by simpa using h1
         have e1 := hρ _ _ h2
         have hplace : ∀ a, (fieldPlace a g).run P w = .ok (a.add g.offset) w := fun a => by simp [fieldPlace, sizeOf, typeInfo, hi, hsz]
         simp only [pureOp] at hv
         split at hv
         · rename_i b j f' hx
           rw [hx] at e1
           simp only [Option.some.injEq] at hv
           subst hv
           obtain ⟨a, ha, hp⟩ := e1.ptr_inv.addOff (n := g.offset)
           exact ⟨.pointer (some (a.add g.offset)), by simp [execOp, ha, Instr.fieldAt, run_underlying hu, hg, Instr.sureAddr, hplace], .ptr _ _ _ _ hp⟩
         · rename_i cs o' hx
           rw [hx] at e1
           simp only [Option.some.injEq] at hv
           subst hv
           obtain ⟨m, o2, ha, hp⟩ := e1.iptr_inv.addOff (n := g.offset)
           exact ⟨.pointer (some ⟨m, o2 + g.offset, none⟩), by simp [execOp, ha, Instr.fieldAt, run_underlying hu, hg, Instr.sureAddr, hplace, add_mk], .imm _ _ hp⟩
         · cases hv
       · cases h1
     · cases h1
   · cases h1
 · -- field
   rename_i s x f agg off n x'
   simp only [Bool.and_eq_true] at hc
   obtain ⟨h1, h2⟩ := hc
   split at h1
   · rename_i fs hu
     split at h1
     · rename_i g hg
       simp only [Bool.and_eq_true, beq_iff_eq] at h1
       obtain ⟨⟨ho, hsz⟩, hagg⟩ := h1
       subst ho
       have e1 := hρ _ _ h2
       simp only [pureOp] at hv
       split at hv
       · rename_i cs hx
         rw [hx] at e1
         obtain ⟨a, ha, hl, hcs⟩ := e1.agg_inv
         obtain ⟨cv, hr, hcv⟩ := part_sound (P := P) (a := a) hsz hagg ⟨hl, hcs⟩ hv
         exact ⟨cv, by simp [execOp, ha, Instr.field, run_underlying hu, hg, asAgg, hr], hcv⟩
       · cases hv
     · cases h1
   · cases h1
 · -- indexSl
   rename_i t x i e x' i'
   simp only [Bool.and_eq_true] at hc
   obtain ⟨⟨⟨h0, h1⟩, h2⟩, h3⟩ := hc
   have h0 : e ≠ 0 := by simpa using h0
   split at h1
   · rename_i el hu
     have e1 := hρ _ _ h2
     have e2 := hρ _ _ h3
     simp only [pureOp] at hv
     split at hv
     · rename_i e' xs k hx hk
       split at hv
       · rename_i he
         subst he
         simp only [Option.map_eq_some_iff] at hv
         obtain ⟨c, hc, rfl⟩ := hv
         rw [hx] at e1
         obtain ⟨m, o2, cap, ha, hlt, hp⟩ := e1.imm_inv.index hc h0
         obtain ⟨kd, n, hn, hn0, rfl⟩ := idxNat_inv hk
         rw [hn] at e2
         have e2 := e2.int_inv
         exact ⟨.pointer (some ⟨m, o2 + k * e', none⟩), by simp [execOp, ha, e2, Instr.indexAt, asIntOf, run_underlying hu, hlt, run_sizeOf h1, add_mk], .imm _ _ hp⟩
       · cases hv
     · rename_i b off len e' k hx hk
       split at hv
       · rename_i he
         obtain ⟨hlt, rfl⟩ := he
         simp only [Option.some.injEq] at hv
         subst hv
         rw [hx] at e1
         obtain ⟨kd, n, hn, hn0, rfl⟩ := idxNat_inv hk
         rw [hn] at e2
         have e2 := e2.int_inv
         have hsl := e1.sl_inv
         have key : ∃ a cap, ρ x = .slice (some a) len cap ∧ PtrAt (μ b) (off + k) 0 (.pointer (some (a.add (k * e')))) := by
           cases hμ : μ b with
           | free => rw [hμ] at hsl; exact hsl.elim
           | dead =>
             rw [hμ] at hsl
             obtain ⟨A, cap, hv, h4, h5⟩ := hsl
             cases A with
             | none => have := h5 rfl; omega
             | some a => exact ⟨a, cap, hv, _, rfl⟩
           | void => rw [hμ] at hsl; obtain ⟨_, h4, _⟩ := hsl; omega
           | here m n2 e2 =>
             rw [hμ] at hsl
             obtain ⟨rfl, cap, hv, h4, h5⟩ := hsl
             refine ⟨_, cap, hv, ?_⟩
             show Value.pointer (some _) = _
             rw [add_mk, Nat.add_mul, Nat.add_zero]
         obtain ⟨a, cap, ha, hp⟩ := key
         exact ⟨.pointer (some (a.add (k * e'))), by simp [execOp, ha, e2, Instr.indexAt, asIntOf, run_underlying hu, hlt, run_sizeOf h1], .ptr _ _ _ _ hp⟩
       · cases hv
     · cases hv
   · cases h1
 · -- indexArr
   rename_i t x i n e x' i'
   simp only [Bool.and_eq_true] at hc
   obtain ⟨⟨h1, h2⟩, h3⟩ := hc
   split at h1
   · rename_i m el hu
     simp only [Bool.and_eq_true, beq_iff_eq] at h1
     obtain ⟨rfl, h1⟩ := h1
     have e1 := hρ _ _ h2
     have e2 := hρ _ _ h3
     simp only [pureOp] at hv
     split at hv
     · rename_i b j f k hx hk
       split at hv
       · rename_i hlt
         simp only [Option.some.injEq] at hv
         subst hv
         rw [hx] at e1
         obtain ⟨kd, n, hn, hn0, rfl⟩ := idxNat_inv hk
         rw [hn] at e2
         have e2 := e2.int_inv
         obtain ⟨a, ha, hp⟩ := e1.ptr_inv.addOff (n := k * e)
         exact ⟨.pointer (some (a.add (k * e))), by simp [execOp, ha, e2, Instr.indexAt, asIntOf, run_underlying hu, hlt, run_sizeOf h1, Instr.sureAddr], .ptr _ _ _ _ hp⟩
       · cases hv
     · rename_i cs o2 k hx hk
       split at hv
       · rename_i hlt
         simp only [Option.some.injEq] at hv
         subst hv
         rw [hx] at e1
         obtain ⟨kd, n, hn, hn0, rfl⟩ := idxNat_inv hk
         rw [hn] at e2
         have e2 := e2.int_inv
         obtain ⟨m2, o3, ha, hp⟩ := e1.iptr_inv.addOff (n := k * e)
         exact ⟨.pointer (some ⟨m2, o3 + k * e, none⟩), by simp [execOp, ha, e2, Instr.indexAt, asIntOf, run_underlying hu, hlt, run_sizeOf h1, Instr.sureAddr, add_mk], .imm _ _ hp⟩
       · cases hv
     · cases hv
   · cases h1
 · -- indexVal
   rename_i t x i agg n e x' i'
   simp only [Bool.and_eq_true] at hc
   obtain ⟨⟨h1, h2⟩, h3⟩ := hc
   split at h1
   · rename_i m el hu
     simp only [Bool.and_eq_true, beq_iff_eq] at h1
     obtain ⟨⟨rfl, h1⟩, h4⟩ := h1
     have e1 := hρ _ _ h2
     have e2 := hρ _ _ h3
     simp only [pureOp] at hv
     split at hv
     · rename_i cs k hx hk
       split at hv
       · rename_i hlt
         rw [hx] at e1
         obtain ⟨kd, n, hn, hn0, rfl⟩ := idxNat_inv hk
         rw [hn] at e2
         have e2 := e2.int_inv
         obtain ⟨a, ha, hl, hcs⟩ := e1.agg_inv
         obtain ⟨cv, hr, hcv⟩ := part_sound (P := P) (a := a) h1 h4 ⟨hl, hcs⟩ hv
         exact ⟨cv, by simp [execOp, ha, e2, Instr.index, asIntOf, run_underlying hu, hlt, run_sizeOf h1, hr], hcv⟩
       · cases hv
     · cases hv
   · cases h1
 · -- indexStr
   rename_i t x i x' i'
   simp only [Bool.and_eq_true] at hc
   obtain ⟨⟨h1, h2⟩, h3⟩ := hc
   split at h1
   · rename_i hu
     have e1 := hρ _ _ h2
     have e2 := hρ _ _ h3
     simp only [pureOp] at hv
     split at hv
     · rename_i s k hx hk
       split at hv
       case h_2 => cases hv
       rename_i c hc
       simp only [Option.some.injEq] at hv
       subst hv
       rw [hx] at e1
       obtain ⟨bs, he1, rfl⟩ := e1.str_inv
       obtain ⟨kd, n, hn, hn0, rfl⟩ := idxNat_inv hk
       rw [hn] at e2
       have e2 := e2.int_inv
       have hb : bs[k]? = some c := by
         have : k < bs.size := by have := (List.getElem?_eq_some_iff.1 hc).1; simpa using this
         rw [getElem?_pos bs k this]
         rw [List.getElem?_eq_getElem (by simpa using this)] at hc
         simp only [Option.some.injEq] at hc ⊢
         rw [← hc]
         rfl
       exact ⟨.int .u8 c.toNat, by simp [execOp, he1, e2, Instr.index, asIntOf, run_underlying hu, hb], .imm _ _ (.int _ _)⟩
     · cases hv
   · cases h1
 · -- extract
   rename_i x i x' i'
   simp only [Bool.and_eq_true, beq_iff_eq] at hc
   obtain ⟨rfl, h1⟩ := hc
   have e1 := hρ _ _ h1
   simp only [pureOp] at hv
   split at hv
   · rename_i vs hx
     rw [hx] at e1
     obtain ⟨a, ha, hl, hcs⟩ := e1.tup_inv
     have hlt := (List.getElem?_eq_some_iff.1 hv).1
     have hi : a[i]? = some a[i] := by simp
     exact ⟨a[i], by simp [execOp, ha, Instr.extract, hi], hcs _ _ _ hv hi⟩
   · cases hv
 · -- makeFunc
   rename_i f first cap f' cap'
   simp only [Bool.and_eq_true, beq_iff_eq] at hc
   obtain ⟨⟨rfl, h1⟩, h2⟩ := hc
   have h1 : first = #[] := by simpa using h1
   subst h1
   simp only [pureOp] at hv
   split at hv
   · simp only [Option.some.injEq] at hv
     subst hv
     refine ⟨.func (.func f) #[] (cap.map ρ), by simp [execOp, Instr.makeFunc], .fn _ _ _ ?_ ?_⟩
     · have := all2_length h2; simp at this ⊢; omega
     · intro j c u hj hu
       simp only [List.getElem?_map, Option.map_eq_some_iff, Array.getElem?_map] at hj hu
       obtain ⟨y, hy, rfl⟩ := hj
       obtain ⟨x, hx, rfl⟩ := hu
       exact hρ _ _ (all2_get h2 j x y (by simpa using hx) hy)
   · cases hv
 · -- len
   rename_i args argTypes x'
   split at hc
   · rename_i x t ha ht
     simp only [Bool.and_eq_true] at hc
     obtain ⟨h1, h2⟩ := hc
     have ha' : args = #[x] := by rw [← Array.toList_inj]; exact ha
     have ht' : argTypes = #[t] := by rw [← Array.toList_inj]; exact ht
     subst ha'
     subst ht'
     split at h1
     · rename_i el hu
       have e1 := hρ _ _ h2
       simp only [pureOp] at hv
       split at hv
       case h_2 => cases hv
       rename_i n hn
       simp only [Option.some.injEq] at hv
       subst hv
       have key : ∃ A cap, ρ x = .slice A n cap := by
         unfold lenVal at hn
         split at hn
         · rename_i e xs hx
           rw [hx] at e1
           simp only [Option.some.injEq] at hn
           subst hn
           have h := e1.imm_inv
           generalize ρ x = cv at h
           cases h with | imm e xs A cap g hl hn hel hcell hsub => exact ⟨A, cap, rfl⟩
         · rename_i hx
           rw [hx] at e1
           simp only [Option.some.injEq] at hn
           subst hn
           obtain ⟨A, hA⟩ := e1.zsl_inv
           exact ⟨A, 0, hA⟩
         · rename_i b off len e hx
           rw [hx] at e1
           simp only [Option.some.injEq] at hn
           subst hn
           have hsl := e1.sl_inv
           cases hμ : μ b with
           | free => rw [hμ] at hsl; exact hsl.elim
           | dead => rw [hμ] at hsl; obtain ⟨A, cap, hv, _⟩ := hsl; exact ⟨A, cap, hv⟩
           | void => rw [hμ] at hsl; obtain ⟨_, rfl, A, hv⟩ := hsl; exact ⟨A, 0, hv⟩
           | here m n e2 => rw [hμ] at hsl; obtain ⟨_, cap, hv, _⟩ := hsl; exact ⟨_, cap, hv⟩
         · cases hn
       obtain ⟨A, cap, hA⟩ := key
       exact ⟨goInt n, by simp [execOp, resolve, invoke, builtin, Builtin.len_, run_underlying hu, hA], .imm _ _ (.int _ _)⟩
     · cases h1
   · cases hc
 · -- lenStr
   rename_i args argTypes x'
   split at hc
   · rename_i x t ha ht
     simp only [Bool.and_eq_true] at hc
     obtain ⟨h1, h2⟩ := hc
     have ha' : args = #[x] := by rw [← Array.toList_inj]; exact ha
     have ht' : argTypes = #[t] := by rw [← Array.toList_inj]; exact ht
     subst ha'
     subst ht'
     split at h1
     · rename_i hu
       have e1 := hρ _ _ h2
       simp only [pureOp] at hv
       split at hv
       · rename_i s hx
         rw [hx] at e1
         obtain ⟨bs, he1, rfl⟩ := e1.str_inv
         simp only [Option.some.injEq] at hv
         subst hv
         refine ⟨goInt bs.size, by simp [execOp, resolve, invoke, builtin, Builtin.len_, run_underlying hu, he1], .imm _ _ ?_⟩
         have : bs.data.toList.length = bs.size := by simp
         rw [this]
         exact .int _ _
       · cases hv
     · cases h1
   · cases hc
 · -- len of an array
   rename_i args argTypes n
   split at hc
   · rename_i t x ht ha
     have ha' : args = #[x] := by rw [← Array.toList_inj]; exact ha
     have ht' : argTypes = #[t] := by rw [← Array.toList_inj]; exact ht
     subst ha'
     subst ht'
     split at hc
     · rename_i m el hu
       simp only [decide_eq_true_eq] at hc
       subst hc
       simp only [pureOp, Option.some.injEq] at hv
       subst hv
       exact ⟨.int .i64 (m : Int), by simp [execOp, resolve, invoke, builtin, Builtin.len_, run_underlying hu, goInt], by rw [hk]; exact .imm _ _ (.int _ _)⟩
     · cases hc
   · cases hc
 · -- min
   rename_i args argTypes x' y'
   split at hc
   · rename_i x y ha
     have ha' : args = #[x, y] := by rw [← Array.toList_inj]; exact ha
     subst ha'
     simp only [Bool.and_eq_true] at hc
     have e1 := hρ _ _ hc.1
     have e2 := hρ _ _ hc.2
     simp only [pureOp] at hv
     split at hv
     · rename_i k a k' b hx hy
       rw [hx] at e1
       rw [hy] at e2
       split at hv
       · rename_i hk
         subst hk
         simp only [Option.some.injEq] at hv
         subst hv
         exact ⟨_, by simp [execOp, resolve, invoke, builtin, Builtin.min_, Builtin.min2, e1.int_inv, e2.int_inv], .imm _ _ (.int _ _)⟩
       · cases hv
     · cases hv
   · cases hc
 · -- max
   rename_i args argTypes x' y'
   split at hc
   · rename_i x y ha
     have ha' : args = #[x, y] := by rw [← Array.toList_inj]; exact ha
     subst ha'
     simp only [Bool.and_eq_true] at hc
     have e1 := hρ _ _ hc.1
     have e2 := hρ _ _ hc.2
     simp only [pureOp] at hv
     split at hv
     · rename_i k a k' b hx hy
       rw [hx] at e1
       rw [hy] at e2
       split at hv
       · rename_i hk
         subst hk
         simp only [Option.some.injEq] at hv
         subst hv
         exact ⟨_, by simp [execOp, resolve, invoke, builtin, Builtin.max_, Builtin.max2, e1.int_inv, e2.int_inv], .imm _ _ (.int _ _)⟩
       · cases hv
     · cases hv
   · cases hc
 · -- a whole number as a floating-point one
   rename_i s d x x' y'
   simp only [Bool.and_eq_true] at hc
   obtain ⟨⟨h1, h2⟩, h3⟩ := hc
   split at h2
   · rename_i hd
     have e1 := hρ _ _ h3
     obtain ⟨n, hx, rfl⟩ := fop_ofInt hv
     rw [hx] at e1
     exact ⟨_, by simp [execOp, fl_ofInt h1 hd e1.int_inv], .imm _ _ (.fl _)⟩
   · cases h2
 · -- and back
   rename_i s d x x' y'
   simp only [Bool.and_eq_true] at hc
   obtain ⟨⟨h1, h2⟩, h3⟩ := hc
   split at h2
   · rename_i hd
     have e1 := hρ _ _ h3
     obtain ⟨n, hx, hn, rfl⟩ := fop_toInt hv
     rw [hx] at e1
     exact ⟨_, by simp [execOp, fl_toInt h1 hd hn e1.fl_inv], .imm _ _ (.int _ _)⟩
   · cases h2
 · -- a sum
   rename_i t x y xt x' y'
   simp only [Bool.and_eq_true] at hc
   have e1 := hρ _ _ hc.1
   have e2 := hρ _ _ hc.2
   obtain ⟨a, b, c, d, hx, hy, hn, rfl⟩ := fop_add hv
   rw [hx] at e1
   rw [hy] at e2
   exact ⟨_, by simp [execOp, eqGuard, fl_add hn e1.cx_inv e2.cx_inv], .imm _ _ (.cx _ _)⟩
 · -- a difference
   rename_i t x y xt x' y'
   simp only [Bool.and_eq_true] at hc
   have e1 := hρ _ _ hc.1
   have e2 := hρ _ _ hc.2
   obtain ⟨a, b, c, d, hx, hy, hn, rfl⟩ := fop_sub hv
   rw [hx] at e1
   rw [hy] at e2
   exact ⟨_, by simp [execOp, eqGuard, fl_sub hn e1.cx_inv e2.cx_inv], .imm _ _ (.cx _ _)⟩
 · -- a product
   rename_i t x y xt x' y'
   simp only [Bool.and_eq_true] at hc
   have e1 := hρ _ _ hc.1
   have e2 := hρ _ _ hc.2
   obtain ⟨a, b, c, d, hx, hy, hn, rfl⟩ := fop_mul hv
   rw [hx] at e1
   rw [hy] at e2
   exact ⟨_, by simp [execOp, eqGuard, fl_mul hn e1.cx_inv e2.cx_inv], .imm _ _ (.cx _ _)⟩
 · -- complex
   rename_i args argTypes x' y'
   split at hc
   · rename_i x y ha
     have ha' : args = #[x, y] := by rw [← Array.toList_inj]; exact ha
     subst ha'
     simp only [Bool.and_eq_true] at hc
     have e1 := hρ _ _ hc.1
     have e2 := hρ _ _ hc.2
     obtain ⟨a, b, hx, hy, rfl⟩ := fop_mk hv
     rw [hx] at e1
     rw [hy] at e2
     exact ⟨_, by simp [execOp, resolve, invoke, builtin, b_complex, e1.fl_inv, e2.fl_inv], .imm _ _ (.cx _ _)⟩
   · cases hc
 · -- real
   rename_i args argTypes x' y'
   split at hc
   · rename_i x ha
     have ha' : args = #[x] := by rw [← Array.toList_inj]; exact ha
     subst ha'
     have e1 := hρ _ _ hc
     obtain ⟨a, b, hx, rfl⟩ := fop_re hv
     rw [hx] at e1
     exact ⟨_, by simp [execOp, resolve, invoke, builtin, b_real, e1.cx_inv], .imm _ _ (.fl _)⟩
   · cases hc
 · -- imag
   rename_i args argTypes x' y'
   split at hc
   · rename_i x ha
     have ha' : args = #[x] := by rw [← Array.toList_inj]; exact ha
     subst ha'
     have e1 := hρ _ _ hc
     obtain ⟨a, b, hx, rfl⟩ := fop_im hv
     rw [hx] at e1
     exact ⟨_, by simp [execOp, resolve, invoke, builtin, b_imag, e1.cx_inv], .imm _ _ (.fl _)⟩
   · cases hc
 · cases hc
end
end AM
end Go.Proofs.YtjngkfdclcgfhaaGreatDoor
end
section
namespace Go.Proofs.YtjngkfdclcgfhaaGreatDoor
namespace AM
section
variable {P : Program} {μ μ' : Nat → Loc} {w w' : World} {S S' : Nat → Prop} {hp : Heap}
theorem Heap.get_set (hp : Heap) (b : Nat) (s : Slot) (c : Nat) : Heap.get (hp.set b s) c = if b = c ∧ b < hp.length then (match s with | .live k => some k | _ => none) else hp.get c := by
 unfold Heap.get
 rw [List.getElem?_set]
 by_cases h : b = c
 · subst h
   by_cases hl : b < hp.length
   · simp [hl]; cases s <;> rfl
   · simp [hl]
 · simp [h]
theorem Heap.isFree_set (hp : Heap) (b : Nat) (s : Slot) (c : Nat) : Heap.isFree (hp.set b s) c = if b = c ∧ b < hp.length then (match s with | .free => true | _ => false) else hp.isFree c := by
 unfold Heap.isFree
 rw [List.getElem?_set]
 by_cases h : b = c
 · subst h
   by_cases hl : b < hp.length
   · simp [hl]; cases s <;> rfl
   · simp [hl]
 · simp [h]
theorem Heap.free_lt {hp : Heap} {b : Nat} (h : hp.isFree b = true) : b < hp.length := by
 unfold Heap.isFree at h
 rcases Nat.lt_or_ge b hp.length with hl | hl
 · exact hl
 · rw [List.getElem?_eq_none hl] at h; cases h
theorem Heap.free_get {hp : Heap} {b : Nat} (h : hp.isFree b = true) : hp.get b = none := by
 unfold Heap.isFree at h
 unfold Heap.get
 split at h
 · rename_i hs; rw [hs]
 · cases h
theorem kill_length : ∀ (l : List Nat) (hp : Heap), (kill hp l).length = hp.length
 | [], _ => rfl
 | b :: l, hp => by rw [kill, kill_length l]; simp
theorem kill_get : ∀ (l : List Nat) (hp : Heap) (c : Nat), (kill hp l).get c = if c ∈ l then none else hp.get c
 | [], hp, c => by simp [kill]
 | b :: l, hp, c => by
   rw [kill, kill_get l, Heap.get_set]
   by_cases h1 : c ∈ l
   · simp [h1]
   · by_cases h2 : b = c
     · subst h2
       have e1 : (if b ∈ b :: l then none else hp.get b) = none := if_pos (by simp)
       rw [if_neg h1, e1]
       by_cases hl : b < hp.length
       · rw [if_pos ⟨rfl, hl⟩]
       · rw [if_neg (fun h => hl h.2)]
         unfold Heap.get
         rw [List.getElem?_eq_none (by omega)]
     · rw [if_neg h1, if_neg (by simp [h2]), if_neg (by simp [h1]; exact fun h => h2 h.symm)]
theorem kill_free : ∀ (l : List Nat) (hp : Heap) (c : Nat), (kill hp l).isFree c = true → hp.isFree c = true
 | [], hp, c, h => h
 | b :: l, hp, c, h => by
   have := kill_free l _ c (by rw [kill] at h; exact h)
   rw [Heap.isFree_set] at this
   split at this
   · cases this
   · exact this
def At (μ : Nat → Loc) (l : List Nat) (m : Nat) : Prop := ∃ b, b ∈ l ∧ ∃ n e, μ b = .here m n e
def With (S : Nat → Prop) (μ : Nat → Loc) (l : List Nat) (m : Nat) : Prop := S m ∨ At μ l m
theorem With.mono {l l' : List Nat} (h : ∀ b, b ∈ l → b ∈ l') : ∀ m, With S μ l m → With S μ l' m := fun m hm => by
 rcases hm with hm | ⟨b, hb, hr⟩
 · exact .inl hm
 · exact .inr ⟨b, h b hb, hr⟩
theorem allOn_get {α β : Type} {f : α → Option (β × List Nat)} : ∀ {xs : List α} {ys : List β} {l : List Nat}, allOn f xs = some (ys, l) →
   ys.length = xs.length ∧ ∀ (i : Nat) (y : β), ys[i]? = some y → ∃ x li, xs[i]? = some x ∧ f x = some (y, li) ∧ ∀ b, b ∈ li → b ∈ l
 | [], ys, l, h => by simp [allOn] at h; obtain ⟨rfl, rfl⟩ := h; simp
 | x :: xs, ys, l, h => by
   simp only [allOn] at h
   split at h
   · rename_i y lx hx
     split at h
     · rename_i ys' m hxs
       simp only [Option.some.injEq, Prod.mk.injEq] at h
       obtain ⟨rfl, rfl⟩ := h
       obtain ⟨h1, h2⟩ := allOn_get hxs
       refine ⟨by simp [h1], fun i z hz => ?_⟩
       cases i with
       | zero => simp at hz; subst hz; exact ⟨x, lx, rfl, hx, fun b hb => by simp [hb]⟩
       | succ i =>
         simp at hz
         obtain ⟨x', li, hx', hf, hb⟩ := h2 i z hz
         exact ⟨x', li, by simpa using hx', hf, fun b hb' => by simp [hb b hb']⟩
     · cases h
   · cases h
theorem blk_cells {l : Loc} {k : Blk} {i j : Nat} {x : List AVal} {c : AVal} (h : BlkR μ w S l k) (hi : k.elems[i]? = some x) (hj : x[j]? = some c) :
   ∃ m n v, l = .here m n k.e ∧ x.length = k.e ∧ i < n ∧ w.cell? ⟨m, i * k.e + j, none⟩ = some v ∧ Blk.R μ w S k.flat c v := by
 cases l with
 | free => exact h.elim
 | dead => exact h.elim
 | void => have h : k.elems = [] := h; rw [h] at hi; simp at hi
 | here m n e =>
   obtain ⟨rfl, hn, hx, cells, t, hh, hs, hc⟩ := h
   obtain ⟨v, hv, hr⟩ := hc i x j c hi hj
   have := (List.getElem?_eq_some_iff.1 hi).1
   exact ⟨m, n, v, rfl, hx i x hi, by omega, by simp [World.cell?, hh, hv], hr⟩
theorem viewP_sound (r : HRep μ w S hp) : ∀ (d : Nat) (v v' : AVal) (l : List Nat) (cv : Value), VR μ w S v cv → viewP hp d v = some (v', l) → IR w (With S μ l) v' cv := by
 intro d
 induction d with
 | zero =>
   intro v v' l cv h hv
   simp only [viewP] at hv
   split at hv
   · rename_i hi
     simp only [Option.some.injEq, Prod.mk.injEq] at hv
     obtain ⟨rfl, rfl⟩ := hv
     exact (h.imm_of hi).mono (fun _ _ => rfl) (fun m hm => .inl hm)
   · cases hv
 | succ d ih =>
   intro v v' l cv h hv
   unfold viewP at hv
   split at hv
   · rename_i hz
     exact absurd hz (Nat.succ_ne_zero _)
   · -- a slice
     rename_i d' b off len e hd
     cases hd
     split at hv
     · rename_i k hk
       have hb := r.live b k hk
       have hsl := h.sl_inv
       split at hv
       · rename_i hlen
         have key : ∀ (xs : List (List AVal)) (l : List Nat), xs.length = len → b ∈ l → (∀ (i : Nat) (x : List AVal) (j : Nat) (c : AVal), xs[i]? = some x → x[j]? = some c →
             ∃ (x0 : List AVal) (c0 : AVal), k.elems[off + i]? = some x0 ∧ x0.length = x.length ∧ x0[j]? = some c0 ∧ ∀ u, Blk.R μ w S k.flat c0 u → IR w (With S μ l) c u) →
             (∀ (i : Nat) (x : List AVal), xs[i]? = some x → ∃ x0, k.elems[off + i]? = some x0 ∧ x0.length = x.length) → IR w (With S μ l) (.imm e xs) cv := by
           intro xs l hxl hbl hx hx0
           cases hμ : μ b with
           | free => rw [hμ] at hsl; exact hsl.elim
           | dead => rw [hμ] at hb; exact hb.elim
           | void =>
             rw [hμ] at hsl
             obtain ⟨_, rfl, A, rfl⟩ := hsl
             have : xs = [] := List.eq_nil_of_length_eq_zero hxl
             subst this
             exact .imm e [] A 0 (fun _ _ => undef) (Nat.le_refl _) (fun _ => rfl) (by simp) (by simp) (by simp)
           | here m n e' =>
             rw [hμ] at hsl
             obtain ⟨rfl, cap, rfl, hcap, hlc⟩ := hsl
             subst hxl
             have hke : k.e = e' := by rw [hμ] at hb; exact hb.1.symm
             refine .imm e' xs _ cap (fun i j => (w.cell? ⟨m, (off + i) * e' + j, none⟩).getD undef) hlc (fun hh => by cases hh) (fun i x hi => ?_) (fun i x j c hi hj => ?_) (fun i x j c hi hj => ?_)
             · obtain ⟨x0, h0, h1⟩ := hx0 i x hi
               rw [← h1]
               rw [hμ] at hb
               rw [← hke]
               exact hb.2.2.1 _ _ h0
             · obtain ⟨x0, c0, h0, h1, h2, h3⟩ := hx i x j c hi hj
               obtain ⟨m', n', u, hl, _, _, hcell, hr⟩ := blk_cells hb h0 h2
               rw [hμ] at hl
               cases hl
               refine ⟨m, off * k.e, rfl, .inr ⟨b, hbl, n, k.e, hμ⟩, ?_⟩
               rw [show off * k.e + (i * k.e + j) = (off + i) * k.e + j by rw [Nat.add_mul]; omega, hcell]
               rfl
             · obtain ⟨x0, c0, h0, h1, h2, h3⟩ := hx i x j c hi hj
               obtain ⟨m', n', u, hl, _, _, hcell, hr⟩ := blk_cells hb h0 h2
               rw [hμ] at hl
               cases hl
               show IR w _ c ((w.cell? ⟨m, (off + i) * k.e + j, none⟩).getD undef)
               rw [hcell]
               exact h3 u hr
         split at hv
         · rename_i hflat
           simp only [Option.some.injEq, Prod.mk.injEq] at hv
           obtain ⟨rfl, rfl⟩ := hv
           refine key _ _ (by simp; omega) (by simp) (fun i x j c hi hj => ?_) (fun i x hi => ?_)
           · rw [List.getElem?_take] at hi
             split at hi
             · rw [List.getElem?_drop] at hi
               refine ⟨x, c, hi, rfl, hj, fun u hu => ?_⟩
               have hu := hu.1
               rw [if_pos hflat] at hu
               exact hu.mono (fun _ _ => rfl) (fun m hm => .inl hm)
             · cases hi
           · rw [List.getElem?_take] at hi
             split at hi
             · rw [List.getElem?_drop] at hi; exact ⟨x, hi, rfl⟩
             · cases hi
         · rename_i hflat
           split at hv
           · rename_i xs l1 hall
             simp only [Option.some.injEq, Prod.mk.injEq] at hv
             obtain ⟨rfl, rfl⟩ := hv
             obtain ⟨hl1, hg⟩ := allOn_get hall
             have hrow : ∀ (i : Nat) (x0 : List AVal), ((k.elems.drop off).take len)[i]? = some x0 → k.elems[off + i]? = some x0 := fun i x0 hi => by
               rw [List.getElem?_take] at hi
               split at hi
               · rw [List.getElem?_drop] at hi; exact hi
               · cases hi
             refine key _ _ (by rw [hl1]; simp; omega) (by simp) (fun i x j c hi hj => ?_) (fun i x hi => ?_)
             · obtain ⟨x0, li, h0, h1, h2⟩ := hg i x hi
               obtain ⟨h3, h4⟩ := allOn_get h1
               obtain ⟨c0, lj, h5, h6, h7⟩ := h4 j c hj
               refine ⟨x0, c0, hrow i x0 h0, h3.symm, h5, fun u hu => ?_⟩
               exact (ih c0 c lj u hu.vr h6).mono (fun _ _ => rfl) (With.mono fun b hb => by simp [h2 b (h7 b hb)])
             · obtain ⟨x0, li, h0, h1, h2⟩ := hg i x hi
               exact ⟨x0, hrow i x0 h0, (allOn_get h1).1.symm⟩
           · cases hv
       · cases hv
     · cases hv
   · -- a pointer
     rename_i d' b i f hd
     cases hd
     split at hv
     · rename_i k hk
       have hb := r.live b k hk
       have hp := h.ptr_inv
       split at hv
       · rename_i x hx
         have key : ∀ (y : List AVal) (l : List Nat), b ∈ l → (∀ (j : Nat) (c : AVal), y[j]? = some c → ∃ c0, x[j]? = some c0 ∧ ∀ u, Blk.R μ w S k.flat c0 u → IR w (With S μ l) c u) → IR w (With S μ l) (.iptr y f) cv := by
           intro y l hbl hy
           cases hμ : μ b with
           | free => rw [hμ] at hb; exact hb.elim
           | dead => rw [hμ] at hb; exact hb.elim
           | void => rw [hμ] at hb; have hb : k.elems = [] := hb; rw [hb] at hx; simp at hx
           | here m n e =>
             rw [hμ] at hp
             have hp : cv = _ := hp
             subst hp
             have hke : k.e = e := by rw [hμ] at hb; exact hb.1.symm
             refine .iptr y f m (i * e) (fun j => (w.cell? ⟨m, i * e + j, none⟩).getD undef) (.inr ⟨b, hbl, n, e, hμ⟩) (fun j c hj => ?_) (fun j c hj => ?_)
             · obtain ⟨c0, h0, h1⟩ := hy j c hj
               obtain ⟨m', n', u, hl, _, _, hcell, hr⟩ := blk_cells hb hx h0
               rw [hμ] at hl
               cases hl
               rw [hcell]
               rfl
             · obtain ⟨c0, h0, h1⟩ := hy j c hj
               obtain ⟨m', n', u, hl, _, _, hcell, hr⟩ := blk_cells hb hx h0
               rw [hμ] at hl
               cases hl
               show IR w _ c ((w.cell? ⟨m, i * k.e + j, none⟩).getD undef)
               rw [hcell]
               exact h1 u hr
         split at hv
         · rename_i hflat
           simp only [Option.some.injEq, Prod.mk.injEq] at hv
           obtain ⟨rfl, rfl⟩ := hv
           refine key _ _ (by simp) (fun j c hj => ⟨c, hj, fun u hu => ?_⟩)
           have hu := hu.1
           rw [if_pos hflat] at hu
           exact hu.mono (fun _ _ => rfl) (fun m hm => .inl hm)
         · rename_i hflat
           split at hv
           · rename_i y l1 hall
             simp only [Option.some.injEq, Prod.mk.injEq] at hv
             obtain ⟨rfl, rfl⟩ := hv
             obtain ⟨hl1, hg⟩ := allOn_get hall
             refine key _ _ (by simp) (fun j c hj => ?_)
             obtain ⟨c0, li, h0, h1, h2⟩ := hg j c hj
             exact ⟨c0, h0, fun u hu => (ih c0 c li u hu.vr h1).mono (fun _ _ => rfl) (With.mono fun b hb => by simp [h2 b hb])⟩
           · cases hv
       · cases hv
     · cases hv
   · -- a function
     rename_i d' f cap hd
     cases hd
     split at hv
     · rename_i c l1 hall
       simp only [Option.some.injEq, Prod.mk.injEq] at hv
       obtain ⟨rfl, rfl⟩ := hv
       obtain ⟨hl1, hg⟩ := allOn_get hall
       obtain ⟨caps, rfl, hl, hcs⟩ := h.fn_inv
       refine .fn f c caps (by rw [hl1]; exact hl) (fun j x u hj hu => ?_)
       obtain ⟨x0, li, h0, h1, h2⟩ := hg j x hj
       exact (ih x0 x li u (hcs j x0 u h0 hu) h1).mono (fun _ _ => rfl) (With.mono h2)
     · cases hv
   · split at hv
     · rename_i hi
       simp only [Option.some.injEq, Prod.mk.injEq] at hv
       obtain ⟨rfl, rfl⟩ := hv
       exact (h.imm_of hi).mono (fun _ _ => rfl) (fun m hm => .inl hm)
     · cases hv
end
end AM
end Go.Proofs.YtjngkfdclcgfhaaGreatDoor
end
