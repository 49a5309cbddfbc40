/-
  DERIVED. GIVEN WITH THE SEED: THE CARDS: each row of YtfelhbeiegppgaaDoorRows.lean that lists a variable, with what it lists TIED to the program's text (the seventh form; the later family's looks); each row that meets fmt, with fmt's text TOLD by the authors' own Lean function (tested against real Go, not proved from fmt's source: count such statements apart). THE CARD IS WHAT COUNTS. Prove the row's statement (the work); the ties are given (YtfelhbeiegppgaaDoorTie.lean); close each card by the builder's one call (the guide's Derived/Test/ToyasCard.lean, 'card_holds'). Laid BY PROGRAM, IN A SANDBOX (cutbox-door.mjs). By AI agents, Wed Nov 11 2026. No macro, syntax, notation, axiom, sorry.
-/
import Derived.Test.YtfelhbeiegppgaaDoorRows
import GoSem.ClaimSeven
namespace Go.Proofs.YtfelhbeiegppgaaDoor
namespace Rows

/-- THE TIED CARD OF 'drayagelaw49.StatOf'. -/
def statOfCard : Claim7 := { stood := { row := statOfRow, standIns := [], harness := (true, "ff45b8f5bbe863459b782e8e9e39bea11ea8e79b92c74630a0ced745e9c1c3aa"), looks := false }, kinds := [], alts := [], laidByText := true, laidKinds := [.data, .data, .data, .data], laidTests := true, laidLooks := .later }
def StatOfCardSaid : Prop := Claim7.holds Tryd.pinned (.plain (OpenSpec.ofChange statOfSpec)) statOfCard

/-- THE SECOND FORM's CARD OF 'drayagelaw49.StatOf'. -/
def statOfUptoCard : Claim7 := { stood := { row := statOfUptoRow, standIns := [], harness := (true, "ff45b8f5bbe863459b782e8e9e39bea11ea8e79b92c74630a0ced745e9c1c3aa"), looks := false }, kinds := [], alts := [], laidByText := true, laidKinds := [.data, .data, .data, .data], laidTests := true, laidLooks := .later }
def StatOfUptoCardSaid : Prop := Claim7.holds Tryd.pinned (.plain (OpenSpec.upto statOfSpec)) statOfUptoCard
end Rows
end Go.Proofs.YtfelhbeiegppgaaDoor
