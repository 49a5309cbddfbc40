/-
  No cell of these rows narrows 'for every input' (looked for: loops, veiled, ifaces, maps, wideKeys, modest, calm, conditions, laid).
  DERIVED. THE GIVEN ROWS OF THIS SEAT. 10 by the template 'for every input the law returns true; each argument reads behind the call as it read before'; 0 by the template 'total and deterministic' (their statements: YtacaeonoogkkaaaTotals.lean).
  GIVEN WITH THE SEED: the statements are not yours to turn. If you find one false, say at which input.
  Laid BY PROGRAM, IN A SANDBOX (cutbox-rows.mjs): the forced cells as the released guide's own fill.sh prints them over the translation a712bc746ba2f145… (all of the seat's roots in one cut). By AI agents, Wed Nov 11 2026. No macro, syntax, notation, axiom, sorry.
-/
import Derived.Test.YtacaeonoogkkaaaChecked
import GoSem.Claim
import GoSem.ClaimJoined
import GoSem.ClaimMapViews
import Derived.JoinedTies
import Derived.KernelRfl
namespace Go.Proofs.Ytacaeonoogkkaaa
/- THE CELL 'sum', in the pinned program and in every row, IS THE sha256 OF THE DUMP (.gsa) THAT YtacaeonoogkkaaaProg.lean LOADS. Nothing in Lean hashes anything: it is a label: what it is worth is what the hold of that sum in a sandbox is worth. -/
noncomputable def Try.pinned : Pinned := { name := "ytacaeonoogkkaaa", sum := "a712bc746ba2f1452fb61c7c2bd41050ea59de0026c6f1c3fb6371262b821682", checked := Try.checked }
namespace Rows
def none {H : Type} : Left H := { results := [], args := [] }

/-- 'drayagelaw22.RankSome': WHATEVER THE INPUT: true; the input reads as it did. -/
def rankSomeSpec : ChangeSpec := { name := "rankSome", fn := fun _ => fun
  | [d1, d2, d3] => { results := [.lit (.bool true)], args := [d1, d2, d3] }
  | _ => none }
def rankSomeRow : OpenClaim := { program := "ytacaeonoogkkaaa", sum := "a712bc746ba2f1452fb61c7c2bd41050ea59de0026c6f1c3fb6371262b821682", func := "drayage/drayagelaw22.RankSome", spec := "rankSome", unfollowed := true, recurses := true, apart := false }
def RankSomeSaid : Prop := rankSomeRow.holds Try.pinned (OpenSpec.ofChange rankSomeSpec)

/-- ITS FALSE NEIGHBOUR: 'it returns false'. Refute it at one input. -/
def rankSomeWrong : ChangeSpec := { name := "rankSome", fn := fun _ => fun
  | [d1, d2, d3] => { results := [.lit (.bool false)], args := [d1, d2, d3] }
  | _ => none }
def RankSomeWrongFalsely : Prop := rankSomeRow.holds Try.pinned (OpenSpec.ofChange rankSomeWrong)

/-- 'drayagelaw22.RankOrder': WHATEVER THE INPUT: true; the input reads as it did. -/
def rankOrderSpec : ChangeSpec := { name := "rankOrder", fn := fun _ => fun
  | [d1, d2, d3] => { results := [.lit (.bool true)], args := [d1, d2, d3] }
  | _ => none }
def rankOrderRow : OpenClaim := { program := "ytacaeonoogkkaaa", sum := "a712bc746ba2f1452fb61c7c2bd41050ea59de0026c6f1c3fb6371262b821682", func := "drayage/drayagelaw22.RankOrder", spec := "rankOrder", unfollowed := true, recurses := true, apart := false }
def RankOrderSaid : Prop := rankOrderRow.holds Try.pinned (OpenSpec.ofChange rankOrderSpec)

/-- ITS FALSE NEIGHBOUR: 'it returns false'. Refute it at one input. -/
def rankOrderWrong : ChangeSpec := { name := "rankOrder", fn := fun _ => fun
  | [d1, d2, d3] => { results := [.lit (.bool false)], args := [d1, d2, d3] }
  | _ => none }
def RankOrderWrongFalsely : Prop := rankOrderRow.holds Try.pinned (OpenSpec.ofChange rankOrderWrong)

/-- 'drayagelaw22.RankTotal': WHATEVER THE INPUT: true; the input reads as it did. -/
def rankTotalSpec : ChangeSpec := { name := "rankTotal", fn := fun _ => fun
  | [d1, d2, d3] => { results := [.lit (.bool true)], args := [d1, d2, d3] }
  | _ => none }
def rankTotalRow : OpenClaim := { program := "ytacaeonoogkkaaa", sum := "a712bc746ba2f1452fb61c7c2bd41050ea59de0026c6f1c3fb6371262b821682", func := "drayage/drayagelaw22.RankTotal", spec := "rankTotal", unfollowed := true, recurses := true, apart := false }
def RankTotalSaid : Prop := rankTotalRow.holds Try.pinned (OpenSpec.ofChange rankTotalSpec)

/-- ITS FALSE NEIGHBOUR: 'it returns false'. Refute it at one input. -/
def rankTotalWrong : ChangeSpec := { name := "rankTotal", fn := fun _ => fun
  | [d1, d2, d3] => { results := [.lit (.bool false)], args := [d1, d2, d3] }
  | _ => none }
def RankTotalWrongFalsely : Prop := rankTotalRow.holds Try.pinned (OpenSpec.ofChange rankTotalWrong)

/-- 'drayagelaw37.KeysOnce': WHATEVER THE INPUT: true; the input reads as it did. -/
def keysOnceSpec : ChangeSpec := { name := "keysOnce", fn := fun _ => fun
  | [d1, d2] => { results := [.lit (.bool true)], args := [d1, d2] }
  | _ => none }
def keysOnceRow : OpenClaim := { program := "ytacaeonoogkkaaa", sum := "a712bc746ba2f1452fb61c7c2bd41050ea59de0026c6f1c3fb6371262b821682", func := "drayage/drayagelaw37.KeysOnce", spec := "keysOnce", inPlace := ["slices.overlaps[drayage/api.Entry]"], unfollowed := true, recurses := true, apart := false }
def KeysOnceSaid : Prop := keysOnceRow.holds Try.pinned (OpenSpec.ofChange keysOnceSpec)

/-- ITS FALSE NEIGHBOUR: 'it returns false'. Refute it at one input. -/
def keysOnceWrong : ChangeSpec := { name := "keysOnce", fn := fun _ => fun
  | [d1, d2] => { results := [.lit (.bool false)], args := [d1, d2] }
  | _ => none }
def KeysOnceWrongFalsely : Prop := keysOnceRow.holds Try.pinned (OpenSpec.ofChange keysOnceWrong)

/-- 'drayagelaw17.DepsStay': WHATEVER THE INPUT: true; the input reads as it did. -/
def depsStaySpec : ChangeSpec := { name := "depsStay", fn := fun _ => fun
  | [d1, d2, d3] => { results := [.lit (.bool true)], args := [d1, d2, d3] }
  | _ => none }
def depsStayRow : OpenClaim := { program := "ytacaeonoogkkaaa", sum := "a712bc746ba2f1452fb61c7c2bd41050ea59de0026c6f1c3fb6371262b821682", func := "drayage/drayagelaw17.DepsStay", spec := "depsStay", unfollowed := true, recurses := true, apart := false }
def DepsStaySaid : Prop := depsStayRow.holds Try.pinned (OpenSpec.ofChange depsStaySpec)

/-- ITS FALSE NEIGHBOUR: 'it returns false'. Refute it at one input. -/
def depsStayWrong : ChangeSpec := { name := "depsStay", fn := fun _ => fun
  | [d1, d2, d3] => { results := [.lit (.bool false)], args := [d1, d2, d3] }
  | _ => none }
def DepsStayWrongFalsely : Prop := depsStayRow.holds Try.pinned (OpenSpec.ofChange depsStayWrong)

/-- 'drayagelaw14.LedgerSums': WHATEVER THE INPUT: true; the input reads as it did. -/
def ledgerSumsSpec : ChangeSpec := { name := "ledgerSums", fn := fun _ => fun
  | [d1, d2] => { results := [.lit (.bool true)], args := [d1, d2] }
  | _ => none }
def ledgerSumsRow : OpenClaim := { program := "ytacaeonoogkkaaa", sum := "a712bc746ba2f1452fb61c7c2bd41050ea59de0026c6f1c3fb6371262b821682", func := "drayage/drayagelaw14.LedgerSums", spec := "ledgerSums", unfollowed := true, recurses := true, apart := false }
def LedgerSumsSaid : Prop := ledgerSumsRow.holds Try.pinned (OpenSpec.ofChange ledgerSumsSpec)

/-- ITS FALSE NEIGHBOUR: 'it returns false'. Refute it at one input. -/
def ledgerSumsWrong : ChangeSpec := { name := "ledgerSums", fn := fun _ => fun
  | [d1, d2] => { results := [.lit (.bool false)], args := [d1, d2] }
  | _ => none }
def LedgerSumsWrongFalsely : Prop := ledgerSumsRow.holds Try.pinned (OpenSpec.ofChange ledgerSumsWrong)

/-- 'drayagelaw14.LedgerDoes': WHATEVER THE INPUT: true; the input reads as it did. -/
def ledgerDoesSpec : ChangeSpec := { name := "ledgerDoes", fn := fun _ => fun
  | [d1, d2, d3] => { results := [.lit (.bool true)], args := [d1, d2, d3] }
  | _ => none }
def ledgerDoesRow : OpenClaim := { program := "ytacaeonoogkkaaa", sum := "a712bc746ba2f1452fb61c7c2bd41050ea59de0026c6f1c3fb6371262b821682", func := "drayage/drayagelaw14.LedgerDoes", spec := "ledgerDoes", inPlace := ["maps.clone"], unfollowed := true, recurses := true, apart := false }
def LedgerDoesSaid : Prop := ledgerDoesRow.holds Try.pinned (OpenSpec.ofChange ledgerDoesSpec)

/-- ITS FALSE NEIGHBOUR: 'it returns false'. Refute it at one input. -/
def ledgerDoesWrong : ChangeSpec := { name := "ledgerDoes", fn := fun _ => fun
  | [d1, d2, d3] => { results := [.lit (.bool false)], args := [d1, d2, d3] }
  | _ => none }
def LedgerDoesWrongFalsely : Prop := ledgerDoesRow.holds Try.pinned (OpenSpec.ofChange ledgerDoesWrong)

/-- 'drayagelaw13.PlanSooner': WHATEVER THE INPUT: true; the input reads as it did. -/
def planSoonerSpec : ChangeSpec := { name := "planSooner", fn := fun _ => fun
  | [d1, d2, d3] => { results := [.lit (.bool true)], args := [d1, d2, d3] }
  | _ => none }
def planSoonerRow : OpenClaim := { program := "ytacaeonoogkkaaa", sum := "a712bc746ba2f1452fb61c7c2bd41050ea59de0026c6f1c3fb6371262b821682", func := "drayage/drayagelaw13.PlanSooner", spec := "planSooner", inPlace := ["slices.overlaps[drayage/api.Step]"], unfollowed := true, recurses := true, apart := false }
def PlanSoonerSaid : Prop := planSoonerRow.holds Try.pinned (OpenSpec.ofChange planSoonerSpec)

/-- ITS FALSE NEIGHBOUR: 'it returns false'. Refute it at one input. -/
def planSoonerWrong : ChangeSpec := { name := "planSooner", fn := fun _ => fun
  | [d1, d2, d3] => { results := [.lit (.bool false)], args := [d1, d2, d3] }
  | _ => none }
def PlanSoonerWrongFalsely : Prop := planSoonerRow.holds Try.pinned (OpenSpec.ofChange planSoonerWrong)

/-- 'drayagelaw13.PlanLeast': WHATEVER THE INPUT: true; the input reads as it did. -/
def planLeastSpec : ChangeSpec := { name := "planLeast", fn := fun _ => fun
  | [d1, d2] => { results := [.lit (.bool true)], args := [d1, d2] }
  | _ => none }
def planLeastRow : OpenClaim := { program := "ytacaeonoogkkaaa", sum := "a712bc746ba2f1452fb61c7c2bd41050ea59de0026c6f1c3fb6371262b821682", func := "drayage/drayagelaw13.PlanLeast", spec := "planLeast", inPlace := ["slices.overlaps[drayage/api.Step]"], unfollowed := true, recurses := true, apart := false }
def PlanLeastSaid : Prop := planLeastRow.holds Try.pinned (OpenSpec.ofChange planLeastSpec)

/-- ITS FALSE NEIGHBOUR: 'it returns false'. Refute it at one input. -/
def planLeastWrong : ChangeSpec := { name := "planLeast", fn := fun _ => fun
  | [d1, d2] => { results := [.lit (.bool false)], args := [d1, d2] }
  | _ => none }
def PlanLeastWrongFalsely : Prop := planLeastRow.holds Try.pinned (OpenSpec.ofChange planLeastWrong)

/-- 'drayagelaw13.PlanStays': WHATEVER THE INPUT: true; the input reads as it did. -/
def planStaysSpec : ChangeSpec := { name := "planStays", fn := fun _ => fun
  | [d1, d2, d3] => { results := [.lit (.bool true)], args := [d1, d2, d3] }
  | _ => none }
def planStaysRow : OpenClaim := { program := "ytacaeonoogkkaaa", sum := "a712bc746ba2f1452fb61c7c2bd41050ea59de0026c6f1c3fb6371262b821682", func := "drayage/drayagelaw13.PlanStays", spec := "planStays", inPlace := ["slices.overlaps[drayage/api.Step]"], unfollowed := true, recurses := true, apart := false }
def PlanStaysSaid : Prop := planStaysRow.holds Try.pinned (OpenSpec.ofChange planStaysSpec)

/-- ITS FALSE NEIGHBOUR: 'it returns false'. Refute it at one input. -/
def planStaysWrong : ChangeSpec := { name := "planStays", fn := fun _ => fun
  | [d1, d2, d3] => { results := [.lit (.bool false)], args := [d1, d2, d3] }
  | _ => none }
def PlanStaysWrongFalsely : Prop := planStaysRow.holds Try.pinned (OpenSpec.ofChange planStaysWrong)

/- THE SECOND FORM. 'bulk': how many values and letters a reading holds, each counted each time it is reached (what is shared counts as often as it is met; a slice's spare places count too). A statement '..UptoSaid' is the law's where the arguments, and the package variables that the reading takes, are together of bulk at most 1048576: NARROWER than '..Said'. Prove '..Said' where nothing that the law and all that it calls make is longer than what came in: it says more and counts as full. Else prove '..UptoSaid'. A law counts once. -/
mutual
def uptoBulk {H : Type} : DataW H → Nat
  | .lit (.string bytes) => bytes.length + 1
  | .lit _ => 1
  | .nil => 1
  | .ptr d => uptoBulk d + 1
  | .slice elems spare => uptoBulkAll elems + uptoBulkAll spare + 1
  | .agg parts => uptoBulkAll parts + 1
  | .iface _ d => uptoBulk d + 1
  | .map entries => uptoBulkEntries entries + 1
  | .held _ => 1
def uptoBulkAll {H : Type} : List (DataW H) → Nat
  | [] => 0
  | d :: r => uptoBulk d + uptoBulkAll r
def uptoBulkEntries {H : Type} : List (Lit × DataW H) → Nat
  | [] => 0
  | x :: r => uptoBulkEntry x + uptoBulkEntries r
def uptoBulkEntry {H : Type} : Lit × DataW H → Nat
  | (.string bytes, d) => bytes.length + uptoBulk d + 1
  | (_, d) => uptoBulk d + 1
 end
def uptoSmall : (H : Type) → List (DataW H) → Bool := fun _ ds => decide (uptoBulkAll ds ≤ 1048576)
def OpenSpec.upto (s : _root_.Go.ChangeSpec) : _root_.Go.OpenSpec := { _root_.Go.OpenSpec.ofChange s with cond := some uptoSmall }

/-- 'drayagelaw22.RankSome', WHERE WHAT IT READS IS OF BULK AT MOST 1048576: true; the input reads as it did. -/
def rankSomeUptoRow : OpenClaim := { program := "ytacaeonoogkkaaa", sum := "a712bc746ba2f1452fb61c7c2bd41050ea59de0026c6f1c3fb6371262b821682", func := "drayage/drayagelaw22.RankSome", spec := "rankSome", unfollowed := true, recurses := true, apart := false, narrowed := true }
def RankSomeUptoSaid : Prop := rankSomeUptoRow.holds Try.pinned (OpenSpec.upto rankSomeSpec)

/-- 'drayagelaw22.RankOrder', WHERE WHAT IT READS IS OF BULK AT MOST 1048576: true; the input reads as it did. -/
def rankOrderUptoRow : OpenClaim := { program := "ytacaeonoogkkaaa", sum := "a712bc746ba2f1452fb61c7c2bd41050ea59de0026c6f1c3fb6371262b821682", func := "drayage/drayagelaw22.RankOrder", spec := "rankOrder", unfollowed := true, recurses := true, apart := false, narrowed := true }
def RankOrderUptoSaid : Prop := rankOrderUptoRow.holds Try.pinned (OpenSpec.upto rankOrderSpec)

/-- 'drayagelaw22.RankTotal', WHERE WHAT IT READS IS OF BULK AT MOST 1048576: true; the input reads as it did. -/
def rankTotalUptoRow : OpenClaim := { program := "ytacaeonoogkkaaa", sum := "a712bc746ba2f1452fb61c7c2bd41050ea59de0026c6f1c3fb6371262b821682", func := "drayage/drayagelaw22.RankTotal", spec := "rankTotal", unfollowed := true, recurses := true, apart := false, narrowed := true }
def RankTotalUptoSaid : Prop := rankTotalUptoRow.holds Try.pinned (OpenSpec.upto rankTotalSpec)

/-- 'drayagelaw37.KeysOnce', WHERE WHAT IT READS IS OF BULK AT MOST 1048576: true; the input reads as it did. -/
def keysOnceUptoRow : OpenClaim := { program := "ytacaeonoogkkaaa", sum := "a712bc746ba2f1452fb61c7c2bd41050ea59de0026c6f1c3fb6371262b821682", func := "drayage/drayagelaw37.KeysOnce", spec := "keysOnce", inPlace := ["slices.overlaps[drayage/api.Entry]"], unfollowed := true, recurses := true, apart := false, narrowed := true }
def KeysOnceUptoSaid : Prop := keysOnceUptoRow.holds Try.pinned (OpenSpec.upto keysOnceSpec)

/-- 'drayagelaw17.DepsStay', WHERE WHAT IT READS IS OF BULK AT MOST 1048576: true; the input reads as it did. -/
def depsStayUptoRow : OpenClaim := { program := "ytacaeonoogkkaaa", sum := "a712bc746ba2f1452fb61c7c2bd41050ea59de0026c6f1c3fb6371262b821682", func := "drayage/drayagelaw17.DepsStay", spec := "depsStay", unfollowed := true, recurses := true, apart := false, narrowed := true }
def DepsStayUptoSaid : Prop := depsStayUptoRow.holds Try.pinned (OpenSpec.upto depsStaySpec)

/-- 'drayagelaw14.LedgerSums', WHERE WHAT IT READS IS OF BULK AT MOST 1048576: true; the input reads as it did. -/
def ledgerSumsUptoRow : OpenClaim := { program := "ytacaeonoogkkaaa", sum := "a712bc746ba2f1452fb61c7c2bd41050ea59de0026c6f1c3fb6371262b821682", func := "drayage/drayagelaw14.LedgerSums", spec := "ledgerSums", unfollowed := true, recurses := true, apart := false, narrowed := true }
def LedgerSumsUptoSaid : Prop := ledgerSumsUptoRow.holds Try.pinned (OpenSpec.upto ledgerSumsSpec)

/-- 'drayagelaw14.LedgerDoes', WHERE WHAT IT READS IS OF BULK AT MOST 1048576: true; the input reads as it did. -/
def ledgerDoesUptoRow : OpenClaim := { program := "ytacaeonoogkkaaa", sum := "a712bc746ba2f1452fb61c7c2bd41050ea59de0026c6f1c3fb6371262b821682", func := "drayage/drayagelaw14.LedgerDoes", spec := "ledgerDoes", inPlace := ["maps.clone"], unfollowed := true, recurses := true, apart := false, narrowed := true }
def LedgerDoesUptoSaid : Prop := ledgerDoesUptoRow.holds Try.pinned (OpenSpec.upto ledgerDoesSpec)

/-- 'drayagelaw13.PlanSooner', WHERE WHAT IT READS IS OF BULK AT MOST 1048576: true; the input reads as it did. -/
def planSoonerUptoRow : OpenClaim := { program := "ytacaeonoogkkaaa", sum := "a712bc746ba2f1452fb61c7c2bd41050ea59de0026c6f1c3fb6371262b821682", func := "drayage/drayagelaw13.PlanSooner", spec := "planSooner", inPlace := ["slices.overlaps[drayage/api.Step]"], unfollowed := true, recurses := true, apart := false, narrowed := true }
def PlanSoonerUptoSaid : Prop := planSoonerUptoRow.holds Try.pinned (OpenSpec.upto planSoonerSpec)

/-- 'drayagelaw13.PlanLeast', WHERE WHAT IT READS IS OF BULK AT MOST 1048576: true; the input reads as it did. -/
def planLeastUptoRow : OpenClaim := { program := "ytacaeonoogkkaaa", sum := "a712bc746ba2f1452fb61c7c2bd41050ea59de0026c6f1c3fb6371262b821682", func := "drayage/drayagelaw13.PlanLeast", spec := "planLeast", inPlace := ["slices.overlaps[drayage/api.Step]"], unfollowed := true, recurses := true, apart := false, narrowed := true }
def PlanLeastUptoSaid : Prop := planLeastUptoRow.holds Try.pinned (OpenSpec.upto planLeastSpec)

/-- 'drayagelaw13.PlanStays', WHERE WHAT IT READS IS OF BULK AT MOST 1048576: true; the input reads as it did. -/
def planStaysUptoRow : OpenClaim := { program := "ytacaeonoogkkaaa", sum := "a712bc746ba2f1452fb61c7c2bd41050ea59de0026c6f1c3fb6371262b821682", func := "drayage/drayagelaw13.PlanStays", spec := "planStays", inPlace := ["slices.overlaps[drayage/api.Step]"], unfollowed := true, recurses := true, apart := false, narrowed := true }
def PlanStaysUptoSaid : Prop := planStaysUptoRow.holds Try.pinned (OpenSpec.upto planStaysSpec)

end Rows
end Go.Proofs.Ytacaeonoogkkaaa
