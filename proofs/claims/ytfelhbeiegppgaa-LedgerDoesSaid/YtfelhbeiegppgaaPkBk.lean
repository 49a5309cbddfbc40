/-
  What the proof of LedgerDoes leans on, part 11. (Many texts laid together by program.)
-/
import Derived.Test.YtfelhbeiegppgaaPkBj
set_option linter.unnecessarySimpa false
set_option linter.unusedSimpArgs false
set_option linter.unusedVariables false
section
namespace Go.Proofs.Ytfelhbeiegppgaa
open Go.RowKit
theorem prod_inv {α β : Type} [Lay α] [Lay β] {w : World} {B : Nat → Prop} {x : α × β} {cs : List Value} (h : Lay.R w B x cs) : ∃ c d, cs = c ++ d ∧ Lay.R w B x.1 c ∧ Lay.R w B x.2 d := h
theorem int_inv {w : World} {B : Nat → Prop} {x : Int} {cs : List Value} (h : Lay.R w B x cs) : cs = [.int .i64 x] ∧ I64 x := h
theorem bool_inv {w : World} {B : Nat → Prop} {x : Bool} {cs : List Value} (h : Lay.R w B x cs) : cs = [.bool x] := h
theorem list_inv {α : Type} [Lay α] {w : World} {B : Nat → Prop} {xs : List α} {cs : List Value} (h : Lay.R w B xs cs) : ∃ A c, cs = [.slice A xs.length c] ∧ xs.length ≤ c ∧ c ≤ maxLen ∧ (A = none → c = 0) ∧ Sl w B A xs := h
structure Res where
 cpu : Int
 mem : Int
 gpu : Int
 lic : Int
def Res.pr (x : Res) : Int × Int × Int × Int := (x.cpu, x.mem, x.gpu, x.lic)
def Res.of (y : Int × Int × Int × Int) : Res := ⟨y.1, y.2.1, y.2.2.1, y.2.2.2⟩
instance : Lay Res := Lay.iso Res.pr
theorem Res.inv {w : World} {B : Nat → Prop} {x : Res} {cs : List Value} (h : Lay.R w B x cs) : cs = [.int .i64 x.cpu, .int .i64 x.mem, .int .i64 x.gpu, .int .i64 x.lic] ∧ I64 x.cpu ∧ I64 x.mem ∧ I64 x.gpu ∧ I64 x.lic := by
 have g0 : Lay.R w B x.pr cs := h
 obtain ⟨c1, d1, rfl, f1, g1⟩ := prod_inv g0
 obtain ⟨rfl, b0⟩ := int_inv f1
 obtain ⟨c2, d2, rfl, f2, g2⟩ := prod_inv g1
 obtain ⟨rfl, b1⟩ := int_inv f2
 obtain ⟨c3, d3, rfl, f3, g3⟩ := prod_inv g2
 obtain ⟨rfl, b2⟩ := int_inv f3
 obtain ⟨rfl, b3⟩ := int_inv g3
 exact ⟨rfl, b0, b1, b2, b3⟩
theorem Res.val {w : World} {B : Nat → Prop} {x : Res} {v : Value} (h : V w B x v) : v = .agg #[.int .i64 x.cpu, .int .i64 x.mem, .int .i64 x.gpu, .int .i64 x.lic] ∧ I64 x.cpu ∧ I64 x.mem ∧ I64 x.gpu ∧ I64 x.lic := by
 obtain ⟨cs, rfl, hR⟩ := h.agg_eq rfl
 obtain ⟨e, hh⟩ := Res.inv hR
 exact ⟨by rw [← Array.toArray_toList (xs := cs), e], hh⟩
theorem rd_Res : Rd Try.prog 23 Res := rd_iso Res.pr Res.of (fun _ => rfl) (rd_struct Try.underlying23 (by kernel_rfl) (RdF.cons (rd_int Try.underlying3) rfl (by kernel_rfl) rfl (RdF.cons (rd_int Try.underlying3) rfl (by kernel_rfl) rfl (RdF.cons (rd_int Try.underlying3) rfl (by kernel_rfl) rfl (RdF.last (rd_int Try.underlying3) rfl (by kernel_rfl))))))
theorem agg_Res : AggT Try.prog 23 4 := ⟨_, Try.underlying23, rfl, by kernel_rfl⟩
attribute [go_sem] agg_Res
theorem load_Res {w : World} {a : Addr} (h : RowOk w a 4) : (loadVar 23 a).run Try.prog w = .ok (.agg (rowAt w a 4)) w := run_load_row h agg_Res
attribute [go_sem ↓] load_Res
structure Dep where
 job : Int
 ok : Bool
def Dep.pr (x : Dep) : Int × Bool := (x.job, x.ok)
def Dep.of (y : Int × Bool) : Dep := ⟨y.1, y.2⟩
instance : Lay Dep := Lay.iso Dep.pr
theorem Dep.inv {w : World} {B : Nat → Prop} {x : Dep} {cs : List Value} (h : Lay.R w B x cs) : cs = [.int .i64 x.job, .bool x.ok] ∧ I64 x.job := by
 have g0 : Lay.R w B x.pr cs := h
 obtain ⟨c1, d1, rfl, f1, g1⟩ := prod_inv g0
 obtain ⟨rfl, b0⟩ := int_inv f1
 obtain rfl := bool_inv g1
 exact ⟨rfl, b0⟩
theorem Dep.val {w : World} {B : Nat → Prop} {x : Dep} {v : Value} (h : V w B x v) : v = .agg #[.int .i64 x.job, .bool x.ok] ∧ I64 x.job := by
 obtain ⟨cs, rfl, hR⟩ := h.agg_eq rfl
 obtain ⟨e, hh⟩ := Dep.inv hR
 exact ⟨by rw [← Array.toArray_toList (xs := cs), e], hh⟩
theorem agg_Dep : AggT Try.prog 28 2 := ⟨_, Try.underlying28, rfl, by kernel_rfl⟩
attribute [go_sem] agg_Dep
theorem load_Dep {w : World} {a : Addr} (h : RowOk w a 2) : (loadVar 28 a).run Try.prog w = .ok (.agg (rowAt w a 2)) w := run_load_row h agg_Dep
attribute [go_sem ↓] load_Dep
structure Queue where
 part : Int
 users : (List Int)
 maxJobs : Int
 maxRun : Int
 maxUser : Int
 qos : Int
def Queue.pr (x : Queue) : Int × (List Int) × Int × Int × Int × Int := (x.part, x.users, x.maxJobs, x.maxRun, x.maxUser, x.qos)
def Queue.of (y : Int × (List Int) × Int × Int × Int × Int) : Queue := ⟨y.1, y.2.1, y.2.2.1, y.2.2.2.1, y.2.2.2.2.1, y.2.2.2.2.2⟩
instance : Lay Queue := Lay.iso Queue.pr
theorem Queue.inv {w : World} {B : Nat → Prop} {x : Queue} {cs : List Value} (h : Lay.R w B x cs) : ∃ (A1 : Option Addr) (C1 : Nat), cs = [.int .i64 x.part, .slice A1 x.users.length C1, .int .i64 x.maxJobs, .int .i64 x.maxRun, .int .i64 x.maxUser, .int .i64 x.qos] ∧ I64 x.part ∧ x.users.length ≤ C1 ∧ C1 ≤ maxLen ∧ (A1 = none → C1 = 0) ∧ Sl w B A1 x.users ∧ I64 x.maxJobs ∧ I64 x.maxRun ∧ I64 x.maxUser ∧ I64 x.qos := by
 have g0 : Lay.R w B x.pr cs := h
 obtain ⟨c1, d1, rfl, f1, g1⟩ := prod_inv g0
 obtain ⟨rfl, b0⟩ := int_inv f1
 obtain ⟨c2, d2, rfl, f2, g2⟩ := prod_inv g1
 obtain ⟨A1, C1, rfl, l1, m1, n1, s1⟩ := list_inv f2
 obtain ⟨c3, d3, rfl, f3, g3⟩ := prod_inv g2
 obtain ⟨rfl, b2⟩ := int_inv f3
 obtain ⟨c4, d4, rfl, f4, g4⟩ := prod_inv g3
 obtain ⟨rfl, b3⟩ := int_inv f4
 obtain ⟨c5, d5, rfl, f5, g5⟩ := prod_inv g4
 obtain ⟨rfl, b4⟩ := int_inv f5
 obtain ⟨rfl, b5⟩ := int_inv g5
 exact ⟨A1, C1, rfl, b0, l1, m1, n1, s1, b2, b3, b4, b5⟩
theorem Queue.val {w : World} {B : Nat → Prop} {x : Queue} {v : Value} (h : V w B x v) : ∃ (A1 : Option Addr) (C1 : Nat), v = .agg #[.int .i64 x.part, .slice A1 x.users.length C1, .int .i64 x.maxJobs, .int .i64 x.maxRun, .int .i64 x.maxUser, .int .i64 x.qos] ∧ I64 x.part ∧ x.users.length ≤ C1 ∧ C1 ≤ maxLen ∧ (A1 = none → C1 = 0) ∧ Sl w B A1 x.users ∧ I64 x.maxJobs ∧ I64 x.maxRun ∧ I64 x.maxUser ∧ I64 x.qos := by
 obtain ⟨cs, rfl, hR⟩ := h.agg_eq rfl
 obtain ⟨A1, C1, e, hh⟩ := Queue.inv hR
 exact ⟨A1, C1, by rw [← Array.toArray_toList (xs := cs), e], hh⟩
theorem rd_Queue : Rd Try.prog 92 Queue := rd_iso Queue.pr Queue.of (fun _ => rfl) (rd_struct Try.underlying92 (by kernel_rfl) (RdF.cons (rd_int Try.underlying3) rfl (by kernel_rfl) rfl (RdF.cons (rd_slice Try.underlying90 (by kernel_rfl) (rd_int Try.underlying3)) rfl (by kernel_rfl) rfl (RdF.cons (rd_int Try.underlying3) rfl (by kernel_rfl) rfl (RdF.cons (rd_int Try.underlying3) rfl (by kernel_rfl) rfl (RdF.cons (rd_int Try.underlying3) rfl (by kernel_rfl) rfl (RdF.last (rd_int Try.underlying3) rfl (by kernel_rfl))))))))
theorem agg_Queue : AggT Try.prog 92 6 := ⟨_, Try.underlying92, rfl, by kernel_rfl⟩
attribute [go_sem] agg_Queue
theorem load_Queue {w : World} {a : Addr} (h : RowOk w a 6) : (loadVar 92 a).run Try.prog w = .ok (.agg (rowAt w a 6)) w := run_load_row h agg_Queue
attribute [go_sem ↓] load_Queue
structure Weights where
 age : Int
 size : Int
 qos : Int
 share : Int
def Weights.pr (x : Weights) : Int × Int × Int × Int := (x.age, x.size, x.qos, x.share)
def Weights.of (y : Int × Int × Int × Int) : Weights := ⟨y.1, y.2.1, y.2.2.1, y.2.2.2⟩
instance : Lay Weights := Lay.iso Weights.pr
theorem Weights.inv {w : World} {B : Nat → Prop} {x : Weights} {cs : List Value} (h : Lay.R w B x cs) : cs = [.int .i64 x.age, .int .i64 x.size, .int .i64 x.qos, .int .i64 x.share] ∧ I64 x.age ∧ I64 x.size ∧ I64 x.qos ∧ I64 x.share := by
 have g0 : Lay.R w B x.pr cs := h
 obtain ⟨c1, d1, rfl, f1, g1⟩ := prod_inv g0
 obtain ⟨rfl, b0⟩ := int_inv f1
 obtain ⟨c2, d2, rfl, f2, g2⟩ := prod_inv g1
 obtain ⟨rfl, b1⟩ := int_inv f2
 obtain ⟨c3, d3, rfl, f3, g3⟩ := prod_inv g2
 obtain ⟨rfl, b2⟩ := int_inv f3
 obtain ⟨rfl, b3⟩ := int_inv g3
 exact ⟨rfl, b0, b1, b2, b3⟩
theorem Weights.val {w : World} {B : Nat → Prop} {x : Weights} {v : Value} (h : V w B x v) : v = .agg #[.int .i64 x.age, .int .i64 x.size, .int .i64 x.qos, .int .i64 x.share] ∧ I64 x.age ∧ I64 x.size ∧ I64 x.qos ∧ I64 x.share := by
 obtain ⟨cs, rfl, hR⟩ := h.agg_eq rfl
 obtain ⟨e, hh⟩ := Weights.inv hR
 exact ⟨by rw [← Array.toArray_toList (xs := cs), e], hh⟩
theorem rd_Weights : Rd Try.prog 46 Weights := rd_iso Weights.pr Weights.of (fun _ => rfl) (rd_struct Try.underlying46 (by kernel_rfl) (RdF.cons (rd_int Try.underlying3) rfl (by kernel_rfl) rfl (RdF.cons (rd_int Try.underlying3) rfl (by kernel_rfl) rfl (RdF.cons (rd_int Try.underlying3) rfl (by kernel_rfl) rfl (RdF.last (rd_int Try.underlying3) rfl (by kernel_rfl))))))
theorem agg_Weights : AggT Try.prog 46 4 := ⟨_, Try.underlying46, rfl, by kernel_rfl⟩
attribute [go_sem] agg_Weights
theorem load_Weights {w : World} {a : Addr} (h : RowOk w a 4) : (loadVar 46 a).run Try.prog w = .ok (.agg (rowAt w a 4)) w := run_load_row h agg_Weights
attribute [go_sem ↓] load_Weights
structure Spec where
 nodes : (List Res)
 parts : (List (List Int))
 queues : (List Queue)
 users : Int
 weights : Weights
 decay : Int
 mode : Int
 jobs : Int
 ids : Int
 versions : Int
 linger : Int
 keep : Int
 inn : Int
 out : Int
 cache : Int
def Spec.pr (x : Spec) : (List Res) × (List (List Int)) × (List Queue) × Int × Weights × Int × Int × Int × Int × Int × Int × Int × Int × Int × Int := (x.nodes, x.parts, x.queues, x.users, x.weights, x.decay, x.mode, x.jobs, x.ids, x.versions, x.linger, x.keep, x.inn, x.out, x.cache)
def Spec.of (y : (List Res) × (List (List Int)) × (List Queue) × Int × Weights × Int × Int × Int × Int × Int × Int × Int × Int × Int × Int) : Spec := ⟨y.1, y.2.1, y.2.2.1, y.2.2.2.1, y.2.2.2.2.1, y.2.2.2.2.2.1, y.2.2.2.2.2.2.1, y.2.2.2.2.2.2.2.1, y.2.2.2.2.2.2.2.2.1, y.2.2.2.2.2.2.2.2.2.1, y.2.2.2.2.2.2.2.2.2.2.1, y.2.2.2.2.2.2.2.2.2.2.2.1, y.2.2.2.2.2.2.2.2.2.2.2.2.1, y.2.2.2.2.2.2.2.2.2.2.2.2.2.1, y.2.2.2.2.2.2.2.2.2.2.2.2.2.2⟩
instance : Lay Spec := Lay.iso Spec.pr
theorem Spec.inv {w : World} {B : Nat → Prop} {x : Spec} {cs : List Value} (h : Lay.R w B x cs) : ∃ (A0 : Option Addr) (C0 : Nat) (A1 : Option Addr) (C1 : Nat) (A2 : Option Addr) (C2 : Nat), cs = [.slice A0 x.nodes.length C0, .slice A1 x.parts.length C1, .slice A2 x.queues.length C2, .int .i64 x.users, .int .i64 x.weights.age, .int .i64 x.weights.size, .int .i64 x.weights.qos, .int .i64 x.weights.share, .int .i64 x.decay, .int .i64 x.mode, .int .i64 x.jobs, .int .i64 x.ids, .int .i64 x.versions, .int .i64 x.linger, .int .i64 x.keep, .int .i64 x.inn, .int .i64 x.out, .int .i64 x.cache] ∧ x.nodes.length ≤ C0 ∧ C0 ≤ maxLen ∧ (A0 = none → C0 = 0) ∧ Sl w B A0 x.nodes ∧ x.parts.length ≤ C1 ∧ C1 ≤ maxLen ∧ (A1 = none → C1 = 0) ∧ Sl w B A1 x.parts ∧ x.queues.length ≤ C2 ∧ C2 ≤ maxLen ∧ (A2 = none → C2 = 0) ∧ Sl w B A2 x.queues ∧ I64 x.users ∧ I64 x.weights.age ∧ I64 x.weights.size ∧ I64 x.weights.qos ∧ I64 x.weights.share ∧ I64 x.decay ∧ I64 x.mode ∧ I64 x.jobs ∧ I64 x.ids ∧ I64 x.versions ∧ I64 x.linger ∧ I64 x.keep ∧ I64 x.inn ∧ I64 x.out ∧ I64 x.cache := by
 have g0 : Lay.R w B x.pr cs := h
 obtain ⟨c1, d1, rfl, f1, g1⟩ := prod_inv g0
 obtain ⟨A0, C0, rfl, l0, m0, n0, s0⟩ := list_inv f1
 obtain ⟨c2, d2, rfl, f2, g2⟩ := prod_inv g1
 obtain ⟨A1, C1, rfl, l1, m1, n1, s1⟩ := list_inv f2
 obtain ⟨c3, d3, rfl, f3, g3⟩ := prod_inv g2
 obtain ⟨A2, C2, rfl, l2, m2, n2, s2⟩ := list_inv f3
 obtain ⟨c4, d4, rfl, f4, g4⟩ := prod_inv g3
 obtain ⟨rfl, b3⟩ := int_inv f4
 obtain ⟨c5, d5, rfl, f5, g5⟩ := prod_inv g4
 obtain ⟨rfl, b4, b5, b6, b7⟩ := Weights.inv f5
 obtain ⟨c6, d6, rfl, f6, g6⟩ := prod_inv g5
 obtain ⟨rfl, b8⟩ := int_inv f6
 obtain ⟨c7, d7, rfl, f7, g7⟩ := prod_inv g6
 obtain ⟨rfl, b9⟩ := int_inv f7
 obtain ⟨c8, d8, rfl, f8, g8⟩ := prod_inv g7
 obtain ⟨rfl, b10⟩ := int_inv f8
 obtain ⟨c9, d9, rfl, f9, g9⟩ := prod_inv g8
 obtain ⟨rfl, b11⟩ := int_inv f9
 obtain ⟨c10, d10, rfl, f10, g10⟩ := prod_inv g9
 obtain ⟨rfl, b12⟩ := int_inv f10
 obtain ⟨c11, d11, rfl, f11, g11⟩ := prod_inv g10
 obtain ⟨rfl, b13⟩ := int_inv f11
 obtain ⟨c12, d12, rfl, f12, g12⟩ := prod_inv g11
 obtain ⟨rfl, b14⟩ := int_inv f12
 obtain ⟨c13, d13, rfl, f13, g13⟩ := prod_inv g12
 obtain ⟨rfl, b15⟩ := int_inv f13
 obtain ⟨c14, d14, rfl, f14, g14⟩ := prod_inv g13
 obtain ⟨rfl, b16⟩ := int_inv f14
 obtain ⟨rfl, b17⟩ := int_inv g14
 exact ⟨A0, C0, A1, C1, A2, C2, rfl, l0, m0, n0, s0, l1, m1, n1, s1, l2, m2, n2, s2, b3, b4, b5, b6, b7, b8, b9, b10, b11, b12, b13, b14, b15, b16, b17⟩
theorem Spec.val {w : World} {B : Nat → Prop} {x : Spec} {v : Value} (h : V w B x v) : ∃ (A0 : Option Addr) (C0 : Nat) (A1 : Option Addr) (C1 : Nat) (A2 : Option Addr) (C2 : Nat), v = .agg #[.slice A0 x.nodes.length C0, .slice A1 x.parts.length C1, .slice A2 x.queues.length C2, .int .i64 x.users, .int .i64 x.weights.age, .int .i64 x.weights.size, .int .i64 x.weights.qos, .int .i64 x.weights.share, .int .i64 x.decay, .int .i64 x.mode, .int .i64 x.jobs, .int .i64 x.ids, .int .i64 x.versions, .int .i64 x.linger, .int .i64 x.keep, .int .i64 x.inn, .int .i64 x.out, .int .i64 x.cache] ∧ x.nodes.length ≤ C0 ∧ C0 ≤ maxLen ∧ (A0 = none → C0 = 0) ∧ Sl w B A0 x.nodes ∧ x.parts.length ≤ C1 ∧ C1 ≤ maxLen ∧ (A1 = none → C1 = 0) ∧ Sl w B A1 x.parts ∧ x.queues.length ≤ C2 ∧ C2 ≤ maxLen ∧ (A2 = none → C2 = 0) ∧ Sl w B A2 x.queues ∧ I64 x.users ∧ I64 x.weights.age ∧ I64 x.weights.size ∧ I64 x.weights.qos ∧ I64 x.weights.share ∧ I64 x.decay ∧ I64 x.mode ∧ I64 x.jobs ∧ I64 x.ids ∧ I64 x.versions ∧ I64 x.linger ∧ I64 x.keep ∧ I64 x.inn ∧ I64 x.out ∧ I64 x.cache := by
 obtain ⟨cs, rfl, hR⟩ := h.agg_eq rfl
 obtain ⟨A0, C0, A1, C1, A2, C2, e, hh⟩ := Spec.inv hR
 exact ⟨A0, C0, A1, C1, A2, C2, by rw [← Array.toArray_toList (xs := cs), e], hh⟩
theorem rd_Spec : Rd Try.prog 48 Spec := rd_iso Spec.pr Spec.of (fun _ => rfl) (rd_struct Try.underlying48 (by kernel_rfl) (RdF.cons (rd_slice Try.underlying42 (by kernel_rfl) rd_Res) rfl (by kernel_rfl) rfl (RdF.cons (rd_slice Try.underlying43 (by kernel_rfl) (rd_slice Try.underlying90 (by kernel_rfl) (rd_int Try.underlying3))) rfl (by kernel_rfl) rfl (RdF.cons (rd_slice Try.underlying44 (by kernel_rfl) rd_Queue) rfl (by kernel_rfl) rfl (RdF.cons (rd_int Try.underlying3) rfl (by kernel_rfl) rfl (RdF.cons rd_Weights rfl (by kernel_rfl) rfl (RdF.cons (rd_int Try.underlying3) rfl (by kernel_rfl) rfl (RdF.cons (rd_int Try.underlying3) rfl (by kernel_rfl) rfl (RdF.cons (rd_int Try.underlying3) rfl (by kernel_rfl) rfl (RdF.cons (rd_int Try.underlying3) rfl (by kernel_rfl) rfl (RdF.cons (rd_int Try.underlying3) rfl (by kernel_rfl) rfl (RdF.cons (rd_int Try.underlying3) rfl (by kernel_rfl) rfl (RdF.cons (rd_int Try.underlying3) rfl (by kernel_rfl) rfl (RdF.cons (rd_int Try.underlying3) rfl (by kernel_rfl) rfl (RdF.cons (rd_int Try.underlying3) rfl (by kernel_rfl) rfl (RdF.last (rd_int Try.underlying3) rfl (by kernel_rfl)))))))))))))))))
theorem agg_Spec : AggT Try.prog 48 18 := ⟨_, Try.underlying48, rfl, by kernel_rfl⟩
attribute [go_sem] agg_Spec
theorem load_Spec {w : World} {a : Addr} (h : RowOk w a 18) : (loadVar 48 a).run Try.prog w = .ok (.agg (rowAt w a 18)) w := run_load_row h agg_Spec
attribute [go_sem ↓] load_Spec
structure Job where
 id : Int
 user : Int
 queue : Int
 many : Int
 need : Res
 wall : Int
 after : (List Dep)
 state : Int
 ok : Bool
 kill : Bool
 version : Int
 born : Int
 start : Int
 fin : Int
 array : Int
def Job.pr (x : Job) : Int × Int × Int × Int × Res × Int × (List Dep) × Int × Bool × Bool × Int × Int × Int × Int × Int := (x.id, x.user, x.queue, x.many, x.need, x.wall, x.after, x.state, x.ok, x.kill, x.version, x.born, x.start, x.fin, x.array)
def Job.of (y : Int × Int × Int × Int × Res × Int × (List Dep) × Int × Bool × Bool × Int × Int × Int × Int × Int) : Job := ⟨y.1, y.2.1, y.2.2.1, y.2.2.2.1, y.2.2.2.2.1, y.2.2.2.2.2.1, y.2.2.2.2.2.2.1, y.2.2.2.2.2.2.2.1, y.2.2.2.2.2.2.2.2.1, y.2.2.2.2.2.2.2.2.2.1, y.2.2.2.2.2.2.2.2.2.2.1, y.2.2.2.2.2.2.2.2.2.2.2.1, y.2.2.2.2.2.2.2.2.2.2.2.2.1, y.2.2.2.2.2.2.2.2.2.2.2.2.2.1, y.2.2.2.2.2.2.2.2.2.2.2.2.2.2⟩
instance : Lay Job := Lay.iso Job.pr
theorem Job.inv {w : World} {B : Nat → Prop} {x : Job} {cs : List Value} (h : Lay.R w B x cs) : ∃ (A9 : Option Addr) (C9 : Nat), cs = [.int .i64 x.id, .int .i64 x.user, .int .i64 x.queue, .int .i64 x.many, .int .i64 x.need.cpu, .int .i64 x.need.mem, .int .i64 x.need.gpu, .int .i64 x.need.lic, .int .i64 x.wall, .slice A9 x.after.length C9, .int .i64 x.state, .bool x.ok, .bool x.kill, .int .i64 x.version, .int .i64 x.born, .int .i64 x.start, .int .i64 x.fin, .int .i64 x.array] ∧ I64 x.id ∧ I64 x.user ∧ I64 x.queue ∧ I64 x.many ∧ I64 x.need.cpu ∧ I64 x.need.mem ∧ I64 x.need.gpu ∧ I64 x.need.lic ∧ I64 x.wall ∧ x.after.length ≤ C9 ∧ C9 ≤ maxLen ∧ (A9 = none → C9 = 0) ∧ Sl w B A9 x.after ∧ I64 x.state ∧ I64 x.version ∧ I64 x.born ∧ I64 x.start ∧ I64 x.fin ∧ I64 x.array := by
 have g0 : Lay.R w B x.pr cs := h
 obtain ⟨c1, d1, rfl, f1, g1⟩ := prod_inv g0
 obtain ⟨rfl, b0⟩ := int_inv f1
 obtain ⟨c2, d2, rfl, f2, g2⟩ := prod_inv g1
 obtain ⟨rfl, b1⟩ := int_inv f2
 obtain ⟨c3, d3, rfl, f3, g3⟩ := prod_inv g2
 obtain ⟨rfl, b2⟩ := int_inv f3
 obtain ⟨c4, d4, rfl, f4, g4⟩ := prod_inv g3
 obtain ⟨rfl, b3⟩ := int_inv f4
 obtain ⟨c5, d5, rfl, f5, g5⟩ := prod_inv g4
 obtain ⟨rfl, b4, b5, b6, b7⟩ := Res.inv f5
 obtain ⟨c6, d6, rfl, f6, g6⟩ := prod_inv g5
 obtain ⟨rfl, b8⟩ := int_inv f6
 obtain ⟨c7, d7, rfl, f7, g7⟩ := prod_inv g6
 obtain ⟨A9, C9, rfl, l9, m9, n9, s9⟩ := list_inv f7
 obtain ⟨c8, d8, rfl, f8, g8⟩ := prod_inv g7
 obtain ⟨rfl, b10⟩ := int_inv f8
 obtain ⟨c9, d9, rfl, f9, g9⟩ := prod_inv g8
 obtain rfl := bool_inv f9
 obtain ⟨c10, d10, rfl, f10, g10⟩ := prod_inv g9
 obtain rfl := bool_inv f10
 obtain ⟨c11, d11, rfl, f11, g11⟩ := prod_inv g10
 obtain ⟨rfl, b13⟩ := int_inv f11
 obtain ⟨c12, d12, rfl, f12, g12⟩ := prod_inv g11
 obtain ⟨rfl, b14⟩ := int_inv f12
 obtain ⟨c13, d13, rfl, f13, g13⟩ := prod_inv g12
 obtain ⟨rfl, b15⟩ := int_inv f13
 obtain ⟨c14, d14, rfl, f14, g14⟩ := prod_inv g13
 obtain ⟨rfl, b16⟩ := int_inv f14
 obtain ⟨rfl, b17⟩ := int_inv g14
 exact ⟨A9, C9, rfl, b0, b1, b2, b3, b4, b5, b6, b7, b8, l9, m9, n9, s9, b10, b13, b14, b15, b16, b17⟩
theorem Job.val {w : World} {B : Nat → Prop} {x : Job} {v : Value} (h : V w B x v) : ∃ (A9 : Option Addr) (C9 : Nat), v = .agg #[.int .i64 x.id, .int .i64 x.user, .int .i64 x.queue, .int .i64 x.many, .int .i64 x.need.cpu, .int .i64 x.need.mem, .int .i64 x.need.gpu, .int .i64 x.need.lic, .int .i64 x.wall, .slice A9 x.after.length C9, .int .i64 x.state, .bool x.ok, .bool x.kill, .int .i64 x.version, .int .i64 x.born, .int .i64 x.start, .int .i64 x.fin, .int .i64 x.array] ∧ I64 x.id ∧ I64 x.user ∧ I64 x.queue ∧ I64 x.many ∧ I64 x.need.cpu ∧ I64 x.need.mem ∧ I64 x.need.gpu ∧ I64 x.need.lic ∧ I64 x.wall ∧ x.after.length ≤ C9 ∧ C9 ≤ maxLen ∧ (A9 = none → C9 = 0) ∧ Sl w B A9 x.after ∧ I64 x.state ∧ I64 x.version ∧ I64 x.born ∧ I64 x.start ∧ I64 x.fin ∧ I64 x.array := by
 obtain ⟨cs, rfl, hR⟩ := h.agg_eq rfl
 obtain ⟨A9, C9, e, hh⟩ := Job.inv hR
 exact ⟨A9, C9, by rw [← Array.toArray_toList (xs := cs), e], hh⟩
theorem agg_Job : AggT Try.prog 26 18 := ⟨_, Try.underlying26, rfl, by kernel_rfl⟩
attribute [go_sem] agg_Job
theorem load_Job {w : World} {a : Addr} (h : RowOk w a 18) : (loadVar 26 a).run Try.prog w = .ok (.agg (rowAt w a 18)) w := run_load_row h agg_Job
attribute [go_sem ↓] load_Job
structure Share where
 node : Int
 many : Int
def Share.pr (x : Share) : Int × Int := (x.node, x.many)
def Share.of (y : Int × Int) : Share := ⟨y.1, y.2⟩
instance : Lay Share := Lay.iso Share.pr
theorem Share.inv {w : World} {B : Nat → Prop} {x : Share} {cs : List Value} (h : Lay.R w B x cs) : cs = [.int .i64 x.node, .int .i64 x.many] ∧ I64 x.node ∧ I64 x.many := by
 have g0 : Lay.R w B x.pr cs := h
 obtain ⟨c1, d1, rfl, f1, g1⟩ := prod_inv g0
 obtain ⟨rfl, b0⟩ := int_inv f1
 obtain ⟨rfl, b1⟩ := int_inv g1
 exact ⟨rfl, b0, b1⟩
theorem Share.val {w : World} {B : Nat → Prop} {x : Share} {v : Value} (h : V w B x v) : v = .agg #[.int .i64 x.node, .int .i64 x.many] ∧ I64 x.node ∧ I64 x.many := by
 obtain ⟨cs, rfl, hR⟩ := h.agg_eq rfl
 obtain ⟨e, hh⟩ := Share.inv hR
 exact ⟨by rw [← Array.toArray_toList (xs := cs), e], hh⟩
theorem rd_Share : Rd Try.prog 89 Share := rd_iso Share.pr Share.of (fun _ => rfl) (rd_struct Try.underlying89 (by kernel_rfl) (RdF.cons (rd_int Try.underlying3) rfl (by kernel_rfl) rfl (RdF.last (rd_int Try.underlying3) rfl (by kernel_rfl))))
theorem agg_Share : AggT Try.prog 89 2 := ⟨_, Try.underlying89, rfl, by kernel_rfl⟩
attribute [go_sem] agg_Share
theorem load_Share {w : World} {a : Addr} (h : RowOk w a 2) : (loadVar 89 a).run Try.prog w = .ok (.agg (rowAt w a 2)) w := run_load_row h agg_Share
attribute [go_sem ↓] load_Share
structure Alloc where
 job : Int
 need : Res
 shares : (List Share)
def Alloc.pr (x : Alloc) : Int × Res × (List Share) := (x.job, x.need, x.shares)
def Alloc.of (y : Int × Res × (List Share)) : Alloc := ⟨y.1, y.2.1, y.2.2⟩
instance : Lay Alloc := Lay.iso Alloc.pr
theorem Alloc.inv {w : World} {B : Nat → Prop} {x : Alloc} {cs : List Value} (h : Lay.R w B x cs) : ∃ (A5 : Option Addr) (C5 : Nat), cs = [.int .i64 x.job, .int .i64 x.need.cpu, .int .i64 x.need.mem, .int .i64 x.need.gpu, .int .i64 x.need.lic, .slice A5 x.shares.length C5] ∧ I64 x.job ∧ I64 x.need.cpu ∧ I64 x.need.mem ∧ I64 x.need.gpu ∧ I64 x.need.lic ∧ x.shares.length ≤ C5 ∧ C5 ≤ maxLen ∧ (A5 = none → C5 = 0) ∧ Sl w B A5 x.shares := by
 have g0 : Lay.R w B x.pr cs := h
 obtain ⟨c1, d1, rfl, f1, g1⟩ := prod_inv g0
 obtain ⟨rfl, b0⟩ := int_inv f1
 obtain ⟨c2, d2, rfl, f2, g2⟩ := prod_inv g1
 obtain ⟨rfl, b1, b2, b3, b4⟩ := Res.inv f2
 obtain ⟨A5, C5, rfl, l5, m5, n5, s5⟩ := list_inv g2
 exact ⟨A5, C5, rfl, b0, b1, b2, b3, b4, l5, m5, n5, s5⟩
theorem Alloc.val {w : World} {B : Nat → Prop} {x : Alloc} {v : Value} (h : V w B x v) : ∃ (A5 : Option Addr) (C5 : Nat), v = .agg #[.int .i64 x.job, .int .i64 x.need.cpu, .int .i64 x.need.mem, .int .i64 x.need.gpu, .int .i64 x.need.lic, .slice A5 x.shares.length C5] ∧ I64 x.job ∧ I64 x.need.cpu ∧ I64 x.need.mem ∧ I64 x.need.gpu ∧ I64 x.need.lic ∧ x.shares.length ≤ C5 ∧ C5 ≤ maxLen ∧ (A5 = none → C5 = 0) ∧ Sl w B A5 x.shares := by
 obtain ⟨cs, rfl, hR⟩ := h.agg_eq rfl
 obtain ⟨A5, C5, e, hh⟩ := Alloc.inv hR
 exact ⟨A5, C5, by rw [← Array.toArray_toList (xs := cs), e], hh⟩
theorem rd_Alloc : Rd Try.prog 57 Alloc := rd_iso Alloc.pr Alloc.of (fun _ => rfl) (rd_struct Try.underlying57 (by kernel_rfl) (RdF.cons (rd_int Try.underlying3) rfl (by kernel_rfl) rfl (RdF.cons rd_Res rfl (by kernel_rfl) rfl (RdF.last (rd_slice Try.underlying55 (by kernel_rfl) rd_Share) rfl (by kernel_rfl)))))
theorem agg_Alloc : AggT Try.prog 57 6 := ⟨_, Try.underlying57, rfl, by kernel_rfl⟩
attribute [go_sem] agg_Alloc
theorem load_Alloc {w : World} {a : Addr} (h : RowOk w a 6) : (loadVar 57 a).run Try.prog w = .ok (.agg (rowAt w a 6)) w := run_load_row h agg_Alloc
attribute [go_sem ↓] load_Alloc
structure Run where
 need : Res
 shares : (List Share)
 til : Int
def Run.pr (x : Run) : Res × (List Share) × Int := (x.need, x.shares, x.til)
def Run.of (y : Res × (List Share) × Int) : Run := ⟨y.1, y.2.1, y.2.2⟩
instance : Lay Run := Lay.iso Run.pr
theorem Run.inv {w : World} {B : Nat → Prop} {x : Run} {cs : List Value} (h : Lay.R w B x cs) : ∃ (A4 : Option Addr) (C4 : Nat), cs = [.int .i64 x.need.cpu, .int .i64 x.need.mem, .int .i64 x.need.gpu, .int .i64 x.need.lic, .slice A4 x.shares.length C4, .int .i64 x.til] ∧ I64 x.need.cpu ∧ I64 x.need.mem ∧ I64 x.need.gpu ∧ I64 x.need.lic ∧ x.shares.length ≤ C4 ∧ C4 ≤ maxLen ∧ (A4 = none → C4 = 0) ∧ Sl w B A4 x.shares ∧ I64 x.til := by
 have g0 : Lay.R w B x.pr cs := h
 obtain ⟨c1, d1, rfl, f1, g1⟩ := prod_inv g0
 obtain ⟨rfl, b0, b1, b2, b3⟩ := Res.inv f1
 obtain ⟨c2, d2, rfl, f2, g2⟩ := prod_inv g1
 obtain ⟨A4, C4, rfl, l4, m4, n4, s4⟩ := list_inv f2
 obtain ⟨rfl, b5⟩ := int_inv g2
 exact ⟨A4, C4, rfl, b0, b1, b2, b3, l4, m4, n4, s4, b5⟩
theorem Run.val {w : World} {B : Nat → Prop} {x : Run} {v : Value} (h : V w B x v) : ∃ (A4 : Option Addr) (C4 : Nat), v = .agg #[.int .i64 x.need.cpu, .int .i64 x.need.mem, .int .i64 x.need.gpu, .int .i64 x.need.lic, .slice A4 x.shares.length C4, .int .i64 x.til] ∧ I64 x.need.cpu ∧ I64 x.need.mem ∧ I64 x.need.gpu ∧ I64 x.need.lic ∧ x.shares.length ≤ C4 ∧ C4 ≤ maxLen ∧ (A4 = none → C4 = 0) ∧ Sl w B A4 x.shares ∧ I64 x.til := by
 obtain ⟨cs, rfl, hR⟩ := h.agg_eq rfl
 obtain ⟨A4, C4, e, hh⟩ := Run.inv hR
 exact ⟨A4, C4, by rw [← Array.toArray_toList (xs := cs), e], hh⟩
structure Booking where
 id : Int
 node : Int
 fro : Int
 to : Int
def Booking.pr (x : Booking) : Int × Int × Int × Int := (x.id, x.node, x.fro, x.to)
def Booking.of (y : Int × Int × Int × Int) : Booking := ⟨y.1, y.2.1, y.2.2.1, y.2.2.2⟩
instance : Lay Booking := Lay.iso Booking.pr
theorem Booking.inv {w : World} {B : Nat → Prop} {x : Booking} {cs : List Value} (h : Lay.R w B x cs) : cs = [.int .i64 x.id, .int .i64 x.node, .int .i64 x.fro, .int .i64 x.to] ∧ I64 x.id ∧ I64 x.node ∧ I64 x.fro ∧ I64 x.to := by
 have g0 : Lay.R w B x.pr cs := h
 obtain ⟨c1, d1, rfl, f1, g1⟩ := prod_inv g0
 obtain ⟨rfl, b0⟩ := int_inv f1
 obtain ⟨c2, d2, rfl, f2, g2⟩ := prod_inv g1
 obtain ⟨rfl, b1⟩ := int_inv f2
 obtain ⟨c3, d3, rfl, f3, g3⟩ := prod_inv g2
 obtain ⟨rfl, b2⟩ := int_inv f3
 obtain ⟨rfl, b3⟩ := int_inv g3
 exact ⟨rfl, b0, b1, b2, b3⟩
theorem Booking.val {w : World} {B : Nat → Prop} {x : Booking} {v : Value} (h : V w B x v) : v = .agg #[.int .i64 x.id, .int .i64 x.node, .int .i64 x.fro, .int .i64 x.to] ∧ I64 x.id ∧ I64 x.node ∧ I64 x.fro ∧ I64 x.to := by
 obtain ⟨cs, rfl, hR⟩ := h.agg_eq rfl
 obtain ⟨e, hh⟩ := Booking.inv hR
 exact ⟨by rw [← Array.toArray_toList (xs := cs), e], hh⟩
structure Step where
 at_ : Int
 free : Res
def Step.pr (x : Step) : Int × Res := (x.at_, x.free)
def Step.of (y : Int × Res) : Step := ⟨y.1, y.2⟩
instance : Lay Step := Lay.iso Step.pr
theorem Step.inv {w : World} {B : Nat → Prop} {x : Step} {cs : List Value} (h : Lay.R w B x cs) : cs = [.int .i64 x.at_, .int .i64 x.free.cpu, .int .i64 x.free.mem, .int .i64 x.free.gpu, .int .i64 x.free.lic] ∧ I64 x.at_ ∧ I64 x.free.cpu ∧ I64 x.free.mem ∧ I64 x.free.gpu ∧ I64 x.free.lic := by
 have g0 : Lay.R w B x.pr cs := h
 obtain ⟨c1, d1, rfl, f1, g1⟩ := prod_inv g0
 obtain ⟨rfl, b0⟩ := int_inv f1
 obtain ⟨rfl, b1, b2, b3, b4⟩ := Res.inv g1
 exact ⟨rfl, b0, b1, b2, b3, b4⟩
theorem Step.val {w : World} {B : Nat → Prop} {x : Step} {v : Value} (h : V w B x v) : v = .agg #[.int .i64 x.at_, .int .i64 x.free.cpu, .int .i64 x.free.mem, .int .i64 x.free.gpu, .int .i64 x.free.lic] ∧ I64 x.at_ ∧ I64 x.free.cpu ∧ I64 x.free.mem ∧ I64 x.free.gpu ∧ I64 x.free.lic := by
 obtain ⟨cs, rfl, hR⟩ := h.agg_eq rfl
 obtain ⟨e, hh⟩ := Step.inv hR
 exact ⟨by rw [← Array.toArray_toList (xs := cs), e], hh⟩
structure Request where
 kind : Int
 key : Int
 job : Int
 version : Int
 queue : Int
 many : Int
 need : Res
 wall : Int
 tasks : Int
 after : (List Dep)
 node : Int
 fro : Int
 to : Int
 id : Int
def Request.pr (x : Request) : Int × Int × Int × Int × Int × Int × Res × Int × Int × (List Dep) × Int × Int × Int × Int := (x.kind, x.key, x.job, x.version, x.queue, x.many, x.need, x.wall, x.tasks, x.after, x.node, x.fro, x.to, x.id)
def Request.of (y : Int × Int × Int × Int × Int × Int × Res × Int × Int × (List Dep) × Int × Int × Int × Int) : Request := ⟨y.1, y.2.1, y.2.2.1, y.2.2.2.1, y.2.2.2.2.1, y.2.2.2.2.2.1, y.2.2.2.2.2.2.1, y.2.2.2.2.2.2.2.1, y.2.2.2.2.2.2.2.2.1, y.2.2.2.2.2.2.2.2.2.1, y.2.2.2.2.2.2.2.2.2.2.1, y.2.2.2.2.2.2.2.2.2.2.2.1, y.2.2.2.2.2.2.2.2.2.2.2.2.1, y.2.2.2.2.2.2.2.2.2.2.2.2.2⟩
instance : Lay Request := Lay.iso Request.pr
theorem Request.inv {w : World} {B : Nat → Prop} {x : Request} {cs : List Value} (h : Lay.R w B x cs) : ∃ (A12 : Option Addr) (C12 : Nat), cs = [.int .i64 x.kind, .int .i64 x.key, .int .i64 x.job, .int .i64 x.version, .int .i64 x.queue, .int .i64 x.many, .int .i64 x.need.cpu, .int .i64 x.need.mem, .int .i64 x.need.gpu, .int .i64 x.need.lic, .int .i64 x.wall, .int .i64 x.tasks, .slice A12 x.after.length C12, .int .i64 x.node, .int .i64 x.fro, .int .i64 x.to, .int .i64 x.id] ∧ I64 x.kind ∧ I64 x.key ∧ I64 x.job ∧ I64 x.version ∧ I64 x.queue ∧ I64 x.many ∧ I64 x.need.cpu ∧ I64 x.need.mem ∧ I64 x.need.gpu ∧ I64 x.need.lic ∧ I64 x.wall ∧ I64 x.tasks ∧ x.after.length ≤ C12 ∧ C12 ≤ maxLen ∧ (A12 = none → C12 = 0) ∧ Sl w B A12 x.after ∧ I64 x.node ∧ I64 x.fro ∧ I64 x.to ∧ I64 x.id := by
 have g0 : Lay.R w B x.pr cs := h
 obtain ⟨c1, d1, rfl, f1, g1⟩ := prod_inv g0
 obtain ⟨rfl, b0⟩ := int_inv f1
 obtain ⟨c2, d2, rfl, f2, g2⟩ := prod_inv g1
 obtain ⟨rfl, b1⟩ := int_inv f2
 obtain ⟨c3, d3, rfl, f3, g3⟩ := prod_inv g2
 obtain ⟨rfl, b2⟩ := int_inv f3
 obtain ⟨c4, d4, rfl, f4, g4⟩ := prod_inv g3
 obtain ⟨rfl, b3⟩ := int_inv f4
 obtain ⟨c5, d5, rfl, f5, g5⟩ := prod_inv g4
 obtain ⟨rfl, b4⟩ := int_inv f5
 obtain ⟨c6, d6, rfl, f6, g6⟩ := prod_inv g5
 obtain ⟨rfl, b5⟩ := int_inv f6
 obtain ⟨c7, d7, rfl, f7, g7⟩ := prod_inv g6
 obtain ⟨rfl, b6, b7, b8, b9⟩ := Res.inv f7
 obtain ⟨c8, d8, rfl, f8, g8⟩ := prod_inv g7
 obtain ⟨rfl, b10⟩ := int_inv f8
 obtain ⟨c9, d9, rfl, f9, g9⟩ := prod_inv g8
 obtain ⟨rfl, b11⟩ := int_inv f9
 obtain ⟨c10, d10, rfl, f10, g10⟩ := prod_inv g9
 obtain ⟨A12, C12, rfl, l12, m12, n12, s12⟩ := list_inv f10
 obtain ⟨c11, d11, rfl, f11, g11⟩ := prod_inv g10
 obtain ⟨rfl, b13⟩ := int_inv f11
 obtain ⟨c12, d12, rfl, f12, g12⟩ := prod_inv g11
 obtain ⟨rfl, b14⟩ := int_inv f12
 obtain ⟨c13, d13, rfl, f13, g13⟩ := prod_inv g12
 obtain ⟨rfl, b15⟩ := int_inv f13
 obtain ⟨rfl, b16⟩ := int_inv g13
 exact ⟨A12, C12, rfl, b0, b1, b2, b3, b4, b5, b6, b7, b8, b9, b10, b11, l12, m12, n12, s12, b13, b14, b15, b16⟩
theorem Request.val {w : World} {B : Nat → Prop} {x : Request} {v : Value} (h : V w B x v) : ∃ (A12 : Option Addr) (C12 : Nat), v = .agg #[.int .i64 x.kind, .int .i64 x.key, .int .i64 x.job, .int .i64 x.version, .int .i64 x.queue, .int .i64 x.many, .int .i64 x.need.cpu, .int .i64 x.need.mem, .int .i64 x.need.gpu, .int .i64 x.need.lic, .int .i64 x.wall, .int .i64 x.tasks, .slice A12 x.after.length C12, .int .i64 x.node, .int .i64 x.fro, .int .i64 x.to, .int .i64 x.id] ∧ I64 x.kind ∧ I64 x.key ∧ I64 x.job ∧ I64 x.version ∧ I64 x.queue ∧ I64 x.many ∧ I64 x.need.cpu ∧ I64 x.need.mem ∧ I64 x.need.gpu ∧ I64 x.need.lic ∧ I64 x.wall ∧ I64 x.tasks ∧ x.after.length ≤ C12 ∧ C12 ≤ maxLen ∧ (A12 = none → C12 = 0) ∧ Sl w B A12 x.after ∧ I64 x.node ∧ I64 x.fro ∧ I64 x.to ∧ I64 x.id := by
 obtain ⟨cs, rfl, hR⟩ := h.agg_eq rfl
 obtain ⟨A12, C12, e, hh⟩ := Request.inv hR
 exact ⟨A12, C12, by rw [← Array.toArray_toList (xs := cs), e], hh⟩
structure Reply where
 key : Int
 err : Int
 job : Int
 version : Int
 nums : (List Int)
def Reply.pr (x : Reply) : Int × Int × Int × Int × (List Int) := (x.key, x.err, x.job, x.version, x.nums)
def Reply.of (y : Int × Int × Int × Int × (List Int)) : Reply := ⟨y.1, y.2.1, y.2.2.1, y.2.2.2.1, y.2.2.2.2⟩
instance : Lay Reply := Lay.iso Reply.pr
theorem Reply.inv {w : World} {B : Nat → Prop} {x : Reply} {cs : List Value} (h : Lay.R w B x cs) : ∃ (A4 : Option Addr) (C4 : Nat), cs = [.int .i64 x.key, .int .i64 x.err, .int .i64 x.job, .int .i64 x.version, .slice A4 x.nums.length C4] ∧ I64 x.key ∧ I64 x.err ∧ I64 x.job ∧ I64 x.version ∧ x.nums.length ≤ C4 ∧ C4 ≤ maxLen ∧ (A4 = none → C4 = 0) ∧ Sl w B A4 x.nums := by
 have g0 : Lay.R w B x.pr cs := h
 obtain ⟨c1, d1, rfl, f1, g1⟩ := prod_inv g0
 obtain ⟨rfl, b0⟩ := int_inv f1
 obtain ⟨c2, d2, rfl, f2, g2⟩ := prod_inv g1
 obtain ⟨rfl, b1⟩ := int_inv f2
 obtain ⟨c3, d3, rfl, f3, g3⟩ := prod_inv g2
 obtain ⟨rfl, b2⟩ := int_inv f3
 obtain ⟨c4, d4, rfl, f4, g4⟩ := prod_inv g3
 obtain ⟨rfl, b3⟩ := int_inv f4
 obtain ⟨A4, C4, rfl, l4, m4, n4, s4⟩ := list_inv g4
 exact ⟨A4, C4, rfl, b0, b1, b2, b3, l4, m4, n4, s4⟩
theorem Reply.val {w : World} {B : Nat → Prop} {x : Reply} {v : Value} (h : V w B x v) : ∃ (A4 : Option Addr) (C4 : Nat), v = .agg #[.int .i64 x.key, .int .i64 x.err, .int .i64 x.job, .int .i64 x.version, .slice A4 x.nums.length C4] ∧ I64 x.key ∧ I64 x.err ∧ I64 x.job ∧ I64 x.version ∧ x.nums.length ≤ C4 ∧ C4 ≤ maxLen ∧ (A4 = none → C4 = 0) ∧ Sl w B A4 x.nums := by
 obtain ⟨cs, rfl, hR⟩ := h.agg_eq rfl
 obtain ⟨A4, C4, e, hh⟩ := Reply.inv hR
 exact ⟨A4, C4, by rw [← Array.toArray_toList (xs := cs), e], hh⟩
structure Call where
 user : Int
 request : Request
def Call.pr (x : Call) : Int × Request := (x.user, x.request)
def Call.of (y : Int × Request) : Call := ⟨y.1, y.2⟩
instance : Lay Call := Lay.iso Call.pr
theorem Call.inv {w : World} {B : Nat → Prop} {x : Call} {cs : List Value} (h : Lay.R w B x cs) : ∃ (A13 : Option Addr) (C13 : Nat), cs = [.int .i64 x.user, .int .i64 x.request.kind, .int .i64 x.request.key, .int .i64 x.request.job, .int .i64 x.request.version, .int .i64 x.request.queue, .int .i64 x.request.many, .int .i64 x.request.need.cpu, .int .i64 x.request.need.mem, .int .i64 x.request.need.gpu, .int .i64 x.request.need.lic, .int .i64 x.request.wall, .int .i64 x.request.tasks, .slice A13 x.request.after.length C13, .int .i64 x.request.node, .int .i64 x.request.fro, .int .i64 x.request.to, .int .i64 x.request.id] ∧ I64 x.user ∧ I64 x.request.kind ∧ I64 x.request.key ∧ I64 x.request.job ∧ I64 x.request.version ∧ I64 x.request.queue ∧ I64 x.request.many ∧ I64 x.request.need.cpu ∧ I64 x.request.need.mem ∧ I64 x.request.need.gpu ∧ I64 x.request.need.lic ∧ I64 x.request.wall ∧ I64 x.request.tasks ∧ x.request.after.length ≤ C13 ∧ C13 ≤ maxLen ∧ (A13 = none → C13 = 0) ∧ Sl w B A13 x.request.after ∧ I64 x.request.node ∧ I64 x.request.fro ∧ I64 x.request.to ∧ I64 x.request.id := by
 have g0 : Lay.R w B x.pr cs := h
 obtain ⟨c1, d1, rfl, f1, g1⟩ := prod_inv g0
 obtain ⟨rfl, b0⟩ := int_inv f1
 obtain ⟨A13, C13, rfl, b1, b2, b3, b4, b5, b6, b7, b8, b9, b10, b11, b12, l13, m13, n13, s13, b14, b15, b16, b17⟩ := Request.inv g1
 exact ⟨A13, C13, rfl, b0, b1, b2, b3, b4, b5, b6, b7, b8, b9, b10, b11, b12, l13, m13, n13, s13, b14, b15, b16, b17⟩
theorem Call.val {w : World} {B : Nat → Prop} {x : Call} {v : Value} (h : V w B x v) : ∃ (A13 : Option Addr) (C13 : Nat), v = .agg #[.int .i64 x.user, .int .i64 x.request.kind, .int .i64 x.request.key, .int .i64 x.request.job, .int .i64 x.request.version, .int .i64 x.request.queue, .int .i64 x.request.many, .int .i64 x.request.need.cpu, .int .i64 x.request.need.mem, .int .i64 x.request.need.gpu, .int .i64 x.request.need.lic, .int .i64 x.request.wall, .int .i64 x.request.tasks, .slice A13 x.request.after.length C13, .int .i64 x.request.node, .int .i64 x.request.fro, .int .i64 x.request.to, .int .i64 x.request.id] ∧ I64 x.user ∧ I64 x.request.kind ∧ I64 x.request.key ∧ I64 x.request.job ∧ I64 x.request.version ∧ I64 x.request.queue ∧ I64 x.request.many ∧ I64 x.request.need.cpu ∧ I64 x.request.need.mem ∧ I64 x.request.need.gpu ∧ I64 x.request.need.lic ∧ I64 x.request.wall ∧ I64 x.request.tasks ∧ x.request.after.length ≤ C13 ∧ C13 ≤ maxLen ∧ (A13 = none → C13 = 0) ∧ Sl w B A13 x.request.after ∧ I64 x.request.node ∧ I64 x.request.fro ∧ I64 x.request.to ∧ I64 x.request.id := by
 obtain ⟨cs, rfl, hR⟩ := h.agg_eq rfl
 obtain ⟨A13, C13, e, hh⟩ := Call.inv hR
 exact ⟨A13, C13, by rw [← Array.toArray_toList (xs := cs), e], hh⟩
structure Entry where
 kind : Int
 user : Int
 request : Request
 reply : Reply
 job : Int
 ok : Bool
def Entry.pr (x : Entry) : Int × Int × Request × Reply × Int × Bool := (x.kind, x.user, x.request, x.reply, x.job, x.ok)
def Entry.of (y : Int × Int × Request × Reply × Int × Bool) : Entry := ⟨y.1, y.2.1, y.2.2.1, y.2.2.2.1, y.2.2.2.2.1, y.2.2.2.2.2⟩
instance : Lay Entry := Lay.iso Entry.pr
theorem Entry.inv {w : World} {B : Nat → Prop} {x : Entry} {cs : List Value} (h : Lay.R w B x cs) : ∃ (A14 : Option Addr) (C14 : Nat) (A23 : Option Addr) (C23 : Nat), cs = [.int .i64 x.kind, .int .i64 x.user, .int .i64 x.request.kind, .int .i64 x.request.key, .int .i64 x.request.job, .int .i64 x.request.version, .int .i64 x.request.queue, .int .i64 x.request.many, .int .i64 x.request.need.cpu, .int .i64 x.request.need.mem, .int .i64 x.request.need.gpu, .int .i64 x.request.need.lic, .int .i64 x.request.wall, .int .i64 x.request.tasks, .slice A14 x.request.after.length C14, .int .i64 x.request.node, .int .i64 x.request.fro, .int .i64 x.request.to, .int .i64 x.request.id, .int .i64 x.reply.key, .int .i64 x.reply.err, .int .i64 x.reply.job, .int .i64 x.reply.version, .slice A23 x.reply.nums.length C23, .int .i64 x.job, .bool x.ok] ∧ I64 x.kind ∧ I64 x.user ∧ I64 x.request.kind ∧ I64 x.request.key ∧ I64 x.request.job ∧ I64 x.request.version ∧ I64 x.request.queue ∧ I64 x.request.many ∧ I64 x.request.need.cpu ∧ I64 x.request.need.mem ∧ I64 x.request.need.gpu ∧ I64 x.request.need.lic ∧ I64 x.request.wall ∧ I64 x.request.tasks ∧ x.request.after.length ≤ C14 ∧ C14 ≤ maxLen ∧ (A14 = none → C14 = 0) ∧ Sl w B A14 x.request.after ∧ I64 x.request.node ∧ I64 x.request.fro ∧ I64 x.request.to ∧ I64 x.request.id ∧ I64 x.reply.key ∧ I64 x.reply.err ∧ I64 x.reply.job ∧ I64 x.reply.version ∧ x.reply.nums.length ≤ C23 ∧ C23 ≤ maxLen ∧ (A23 = none → C23 = 0) ∧ Sl w B A23 x.reply.nums ∧ I64 x.job := by
 have g0 : Lay.R w B x.pr cs := h
 obtain ⟨c1, d1, rfl, f1, g1⟩ := prod_inv g0
 obtain ⟨rfl, b0⟩ := int_inv f1
 obtain ⟨c2, d2, rfl, f2, g2⟩ := prod_inv g1
 obtain ⟨rfl, b1⟩ := int_inv f2
 obtain ⟨c3, d3, rfl, f3, g3⟩ := prod_inv g2
 obtain ⟨A14, C14, rfl, b2, b3, b4, b5, b6, b7, b8, b9, b10, b11, b12, b13, l14, m14, n14, s14, b15, b16, b17, b18⟩ := Request.inv f3
 obtain ⟨c4, d4, rfl, f4, g4⟩ := prod_inv g3
 obtain ⟨A23, C23, rfl, b19, b20, b21, b22, l23, m23, n23, s23⟩ := Reply.inv f4
 obtain ⟨c5, d5, rfl, f5, g5⟩ := prod_inv g4
 obtain ⟨rfl, b24⟩ := int_inv f5
 obtain rfl := bool_inv g5
 exact ⟨A14, C14, A23, C23, rfl, b0, b1, b2, b3, b4, b5, b6, b7, b8, b9, b10, b11, b12, b13, l14, m14, n14, s14, b15, b16, b17, b18, b19, b20, b21, b22, l23, m23, n23, s23, b24⟩
theorem Entry.val {w : World} {B : Nat → Prop} {x : Entry} {v : Value} (h : V w B x v) : ∃ (A14 : Option Addr) (C14 : Nat) (A23 : Option Addr) (C23 : Nat), v = .agg #[.int .i64 x.kind, .int .i64 x.user, .int .i64 x.request.kind, .int .i64 x.request.key, .int .i64 x.request.job, .int .i64 x.request.version, .int .i64 x.request.queue, .int .i64 x.request.many, .int .i64 x.request.need.cpu, .int .i64 x.request.need.mem, .int .i64 x.request.need.gpu, .int .i64 x.request.need.lic, .int .i64 x.request.wall, .int .i64 x.request.tasks, .slice A14 x.request.after.length C14, .int .i64 x.request.node, .int .i64 x.request.fro, .int .i64 x.request.to, .int .i64 x.request.id, .int .i64 x.reply.key, .int .i64 x.reply.err, .int .i64 x.reply.job, .int .i64 x.reply.version, .slice A23 x.reply.nums.length C23, .int .i64 x.job, .bool x.ok] ∧ I64 x.kind ∧ I64 x.user ∧ I64 x.request.kind ∧ I64 x.request.key ∧ I64 x.request.job ∧ I64 x.request.version ∧ I64 x.request.queue ∧ I64 x.request.many ∧ I64 x.request.need.cpu ∧ I64 x.request.need.mem ∧ I64 x.request.need.gpu ∧ I64 x.request.need.lic ∧ I64 x.request.wall ∧ I64 x.request.tasks ∧ x.request.after.length ≤ C14 ∧ C14 ≤ maxLen ∧ (A14 = none → C14 = 0) ∧ Sl w B A14 x.request.after ∧ I64 x.request.node ∧ I64 x.request.fro ∧ I64 x.request.to ∧ I64 x.request.id ∧ I64 x.reply.key ∧ I64 x.reply.err ∧ I64 x.reply.job ∧ I64 x.reply.version ∧ x.reply.nums.length ≤ C23 ∧ C23 ≤ maxLen ∧ (A23 = none → C23 = 0) ∧ Sl w B A23 x.reply.nums ∧ I64 x.job := by
 obtain ⟨cs, rfl, hR⟩ := h.agg_eq rfl
 obtain ⟨A14, C14, A23, C23, e, hh⟩ := Entry.inv hR
 exact ⟨A14, C14, A23, C23, by rw [← Array.toArray_toList (xs := cs), e], hh⟩
structure Event where
 kind : Int
 user : Int
 request : Request
 bytes : (List UInt8)
 n : Int
 keep : Bool
 job : Int
 ok : Bool
def Event.pr (x : Event) : Int × Int × Request × (List UInt8) × Int × Bool × Int × Bool := (x.kind, x.user, x.request, x.bytes, x.n, x.keep, x.job, x.ok)
def Event.of (y : Int × Int × Request × (List UInt8) × Int × Bool × Int × Bool) : Event := ⟨y.1, y.2.1, y.2.2.1, y.2.2.2.1, y.2.2.2.2.1, y.2.2.2.2.2.1, y.2.2.2.2.2.2.1, y.2.2.2.2.2.2.2⟩
instance : Lay Event := Lay.iso Event.pr
theorem Event.inv {w : World} {B : Nat → Prop} {x : Event} {cs : List Value} (h : Lay.R w B x cs) : ∃ (A14 : Option Addr) (C14 : Nat) (A19 : Option Addr) (C19 : Nat), cs = [.int .i64 x.kind, .int .i64 x.user, .int .i64 x.request.kind, .int .i64 x.request.key, .int .i64 x.request.job, .int .i64 x.request.version, .int .i64 x.request.queue, .int .i64 x.request.many, .int .i64 x.request.need.cpu, .int .i64 x.request.need.mem, .int .i64 x.request.need.gpu, .int .i64 x.request.need.lic, .int .i64 x.request.wall, .int .i64 x.request.tasks, .slice A14 x.request.after.length C14, .int .i64 x.request.node, .int .i64 x.request.fro, .int .i64 x.request.to, .int .i64 x.request.id, .slice A19 x.bytes.length C19, .int .i64 x.n, .bool x.keep, .int .i64 x.job, .bool x.ok] ∧ I64 x.kind ∧ I64 x.user ∧ I64 x.request.kind ∧ I64 x.request.key ∧ I64 x.request.job ∧ I64 x.request.version ∧ I64 x.request.queue ∧ I64 x.request.many ∧ I64 x.request.need.cpu ∧ I64 x.request.need.mem ∧ I64 x.request.need.gpu ∧ I64 x.request.need.lic ∧ I64 x.request.wall ∧ I64 x.request.tasks ∧ x.request.after.length ≤ C14 ∧ C14 ≤ maxLen ∧ (A14 = none → C14 = 0) ∧ Sl w B A14 x.request.after ∧ I64 x.request.node ∧ I64 x.request.fro ∧ I64 x.request.to ∧ I64 x.request.id ∧ x.bytes.length ≤ C19 ∧ C19 ≤ maxLen ∧ (A19 = none → C19 = 0) ∧ Sl w B A19 x.bytes ∧ I64 x.n ∧ I64 x.job := by
 have g0 : Lay.R w B x.pr cs := h
 obtain ⟨c1, d1, rfl, f1, g1⟩ := prod_inv g0
 obtain ⟨rfl, b0⟩ := int_inv f1
 obtain ⟨c2, d2, rfl, f2, g2⟩ := prod_inv g1
 obtain ⟨rfl, b1⟩ := int_inv f2
 obtain ⟨c3, d3, rfl, f3, g3⟩ := prod_inv g2
 obtain ⟨A14, C14, rfl, b2, b3, b4, b5, b6, b7, b8, b9, b10, b11, b12, b13, l14, m14, n14, s14, b15, b16, b17, b18⟩ := Request.inv f3
 obtain ⟨c4, d4, rfl, f4, g4⟩ := prod_inv g3
 obtain ⟨A19, C19, rfl, l19, m19, n19, s19⟩ := list_inv f4
 obtain ⟨c5, d5, rfl, f5, g5⟩ := prod_inv g4
 obtain ⟨rfl, b20⟩ := int_inv f5
 obtain ⟨c6, d6, rfl, f6, g6⟩ := prod_inv g5
 obtain rfl := bool_inv f6
 obtain ⟨c7, d7, rfl, f7, g7⟩ := prod_inv g6
 obtain ⟨rfl, b22⟩ := int_inv f7
 obtain rfl := bool_inv g7
 exact ⟨A14, C14, A19, C19, rfl, b0, b1, b2, b3, b4, b5, b6, b7, b8, b9, b10, b11, b12, b13, l14, m14, n14, s14, b15, b16, b17, b18, l19, m19, n19, s19, b20, b22⟩
theorem Event.val {w : World} {B : Nat → Prop} {x : Event} {v : Value} (h : V w B x v) : ∃ (A14 : Option Addr) (C14 : Nat) (A19 : Option Addr) (C19 : Nat), v = .agg #[.int .i64 x.kind, .int .i64 x.user, .int .i64 x.request.kind, .int .i64 x.request.key, .int .i64 x.request.job, .int .i64 x.request.version, .int .i64 x.request.queue, .int .i64 x.request.many, .int .i64 x.request.need.cpu, .int .i64 x.request.need.mem, .int .i64 x.request.need.gpu, .int .i64 x.request.need.lic, .int .i64 x.request.wall, .int .i64 x.request.tasks, .slice A14 x.request.after.length C14, .int .i64 x.request.node, .int .i64 x.request.fro, .int .i64 x.request.to, .int .i64 x.request.id, .slice A19 x.bytes.length C19, .int .i64 x.n, .bool x.keep, .int .i64 x.job, .bool x.ok] ∧ I64 x.kind ∧ I64 x.user ∧ I64 x.request.kind ∧ I64 x.request.key ∧ I64 x.request.job ∧ I64 x.request.version ∧ I64 x.request.queue ∧ I64 x.request.many ∧ I64 x.request.need.cpu ∧ I64 x.request.need.mem ∧ I64 x.request.need.gpu ∧ I64 x.request.need.lic ∧ I64 x.request.wall ∧ I64 x.request.tasks ∧ x.request.after.length ≤ C14 ∧ C14 ≤ maxLen ∧ (A14 = none → C14 = 0) ∧ Sl w B A14 x.request.after ∧ I64 x.request.node ∧ I64 x.request.fro ∧ I64 x.request.to ∧ I64 x.request.id ∧ x.bytes.length ≤ C19 ∧ C19 ≤ maxLen ∧ (A19 = none → C19 = 0) ∧ Sl w B A19 x.bytes ∧ I64 x.n ∧ I64 x.job := by
 obtain ⟨cs, rfl, hR⟩ := h.agg_eq rfl
 obtain ⟨A14, C14, A19, C19, e, hh⟩ := Event.inv hR
 exact ⟨A14, C14, A19, C19, by rw [← Array.toArray_toList (xs := cs), e], hh⟩
end Go.Proofs.Ytfelhbeiegppgaa
end
section
namespace Go.Proofs.Ytfelhbeiegppgaa
open AM
class Enc (α : Type) [Lay α] where
 cells : α → List AVal
 ok : ∀ {w : World} {B S : Nat → Prop} {x : α} {cs : List Value}, Lay.R w B x cs → (∀ b, B b → S b) → cs.length = (cells x).length ∧ ∀ (j : Nat) (c : AVal) (v : Value), (cells x)[j]? = some c → cs[j]? = some v → IR w S c v
theorem one_cell {w : World} {S : Nat → Prop} {c : AVal} {v : Value} (h : IR w S c v) : [v].length = [c].length ∧ ∀ (j : Nat) (c' : AVal) (v' : Value), [c][j]? = some c' → [v][j]? = some v' → IR w S c' v' := by
 refine ⟨rfl, fun j c' v' hj hv => ?_⟩
 cases j with
 | zero => simp at hj hv; subst hj; subst hv; exact h
 | succ j => simp at hj
instance : Enc Int where
 cells x := [.int .i64 x]
 ok h _ := by rw [h.1]; exact one_cell (.int _ _)
instance : Enc Bool where
 cells x := [.bool x]
 ok h _ := by
   have h : _ = _ := h
   rw [h]; exact one_cell (.bool _)
instance : Enc UInt8 where
 cells x := [.int .u8 (x.toNat : Int)]
 ok h _ := by
   have h : _ = _ := h
   rw [h]; exact one_cell (.int _ _)
instance : Enc ByteArray where
 cells x := [.str x.data.toList]
 ok h _ := by rw [h.1]; exact one_cell (.str _)
instance {α : Type} [Lay α] [Enc α] : Enc (List α) where
 cells xs := [.imm (Lay.n α) (xs.map Enc.cells)]
 ok {w B S xs cs} h hS := by
   obtain ⟨A, c, rfl, hlc, hcm, hn, hsl⟩ := h
   have key : IR w S (.imm (Lay.n α) (xs.map Enc.cells)) (.slice A (xs.map (Enc.cells (α := α))).length c) := by
     refine .imm _ _ A c (fun i j => (match A with | some ad => (w.cell? (ad.add (i * Lay.n α + j))).getD undef | none => undef)) (by simpa using hlc) hn (fun i x hi => ?_) (fun i x j cc hi hj => ?_) (fun i x j cc hi hj => ?_)
     · rw [List.getElem?_map] at hi
       simp only [Option.map_eq_some_iff] at hi
       obtain ⟨y, hy, rfl⟩ := hi
       obtain ⟨ad, cs, _, _, hr, _⟩ := hsl i y hy
       rw [← (Enc.ok hr hS).1, Lay.size hr]
     · rw [List.getElem?_map] at hi
       simp only [Option.map_eq_some_iff] at hi
       obtain ⟨y, hy, rfl⟩ := hi
       obtain ⟨ad, cs, rfl, hb, hr, hcell⟩ := hsl i y hy
       have hl := (Enc.ok hr hS).1
       have hjl := (List.getElem?_eq_some_iff.1 hj).1
       have hlen := (List.getElem?_eq_some_iff.1 hy).1
       -- the first element shows that the address is plain
       obtain ⟨ad', cs', had, _, hr', hcell'⟩ := hsl 0 xs[0] (List.getElem?_eq_getElem (by omega))
       cases had
       have h0 : 0 < cs'.length := by rw [Lay.size hr']; exact Lay.pos
       have hplain := hcell' 0 cs'[0] (List.getElem?_eq_getElem h0)
       have hspot : ad.spot = none := by
         cases hsp : ad.spot with
         | none => rfl
         | some q =>
           exfalso
           simp only [Nat.zero_mul, Nat.add_zero, Addr.add, if_true, World.cell?] at hplain
           split at hplain
           · rw [hsp] at hplain; simp at hplain
           · cases hplain
       have hadd : ∀ n, ad.add n = ⟨ad.block, ad.off + n, none⟩ := fun n => by
         obtain ⟨b, o, s⟩ := ad
         simp only at hspot
         subst hspot
         exact add_mk b o n
       have hu := hcell j (cs[j]'(by omega)) (List.getElem?_eq_getElem _)
       refine ⟨ad.block, ad.off, by obtain ⟨b, o, s⟩ := ad; simp only at hspot; subst hspot; rfl, hS _ hb, ?_⟩
       simp only
       rw [← hadd, hu]
       rfl
     · rw [List.getElem?_map] at hi
       simp only [Option.map_eq_some_iff] at hi
       obtain ⟨y, hy, rfl⟩ := hi
       obtain ⟨ad, cs, rfl, hb, hr, hcell⟩ := hsl i y hy
       obtain ⟨hl, hir⟩ := Enc.ok hr hS
       have hjl := (List.getElem?_eq_some_iff.1 hj).1
       have hcs : cs[j]? = some (cs[j]'(by omega)) := List.getElem?_eq_getElem _
       simp only
       rw [hcell j _ hcs]
       exact hir j cc _ hj hcs
   rw [List.length_map] at key
   exact one_cell key
instance {α β : Type} [Lay α] [Lay β] [Enc α] [Enc β] : Enc (α × β) where
 cells x := Enc.cells x.1 ++ Enc.cells x.2
 ok h hS := by
   obtain ⟨c, d, rfl, h1, h2⟩ := h
   obtain ⟨l1, r1⟩ := Enc.ok h1 hS
   obtain ⟨l2, r2⟩ := Enc.ok h2 hS
   refine ⟨by simp [l1, l2], fun j a v hj hv => ?_⟩
   rw [List.getElem?_append] at hj hv
   rw [l1] at hv
   split at hj
   · rename_i hlt; rw [if_pos hlt] at hv; exact r1 j a v hj hv
   · rename_i hlt; rw [if_neg hlt] at hv; exact r2 _ a v hj hv
@[reducible] def Enc.iso {α β : Type} [Lay β] [Enc β] (f : α → β) : @Enc α (Lay.iso f) :=
 @Enc.mk α (Lay.iso f) (fun x => Enc.cells (f x)) (fun h hS => Enc.ok (α := β) h hS)
instance : Enc Res := Enc.iso Res.pr
instance : Enc Dep := Enc.iso Dep.pr
instance : Enc Queue := Enc.iso Queue.pr
instance : Enc Weights := Enc.iso Weights.pr
instance : Enc Spec := Enc.iso Spec.pr
instance : Enc Job := Enc.iso Job.pr
instance : Enc Share := Enc.iso Share.pr
instance : Enc Alloc := Enc.iso Alloc.pr
instance : Enc Run := Enc.iso Run.pr
instance : Enc Booking := Enc.iso Booking.pr
instance : Enc Step := Enc.iso Step.pr
instance : Enc Request := Enc.iso Request.pr
instance : Enc Reply := Enc.iso Reply.pr
instance : Enc Call := Enc.iso Call.pr
instance : Enc Entry := Enc.iso Entry.pr
instance : Enc Event := Enc.iso Event.pr
def encV {α : Type} [Lay α] [Enc α] (x : α) : AVal := if Lay.agg α then .agg (Enc.cells x) else (Enc.cells x).headD .undef
theorem V.vr {α : Type} [Lay α] [Enc α] {w : World} {B S : Nat → Prop} {x : α} {v : Value} (h : V w B x v) (hS : ∀ b, B b → S b) (μ : Nat → AM.Loc) : VR μ w S (encV x) v := by
 obtain ⟨hl, hr⟩ := Enc.ok h.1 hS
 unfold encV
 split
 · rename_i ha
   obtain ⟨cs, rfl, hR⟩ := h.agg_eq ha
   exact .agg _ cs (by simpa [Value.cells] using hl.symm) fun j c u hj hu => .imm _ _ (hr j c u hj (by simpa [Value.cells] using hu))
 · rename_i ha
   have hc := h.cells_eq (by simpa using ha)
   rw [hc] at hl hr
   match hx : Enc.cells x, hl, hr with
   | [c], _, hr => exact .imm _ _ (hr 0 c v rfl rfl)
end Go.Proofs.Ytfelhbeiegppgaa
end
