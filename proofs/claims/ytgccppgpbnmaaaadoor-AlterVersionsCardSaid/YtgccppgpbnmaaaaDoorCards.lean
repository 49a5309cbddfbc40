/-
  DERIVED. GIVEN WITH THE SEED: THE CARDS: each row of YtgccppgpbnmaaaaDoorRows.lean that lists a variable, with what it lists TIED to the program's text (the seventh form; the later family's looks); each row that meets fmt, with fmt's text TOLD by the authors' own Lean function (tested against real Go, not proved from fmt's source: count such statements apart). THE CARD IS WHAT COUNTS. Prove the row's statement (the work); the ties are given (YtgccppgpbnmaaaaDoorTie.lean); close each card by the builder's one call (the guide's Derived/Test/ToyasCard.lean, 'card_holds'). Laid BY PROGRAM, IN A SANDBOX (cutbox-door.mjs). By AI agents, Wed Nov 11 2026. No macro, syntax, notation, axiom, sorry.
-/
import Derived.Test.YtgccppgpbnmaaaaDoorRows
import GoSem.ClaimSeven
namespace Go.Proofs.YtgccppgpbnmaaaaDoor
namespace Rows

/-- THE TIED CARD OF 'drayagelaw49.StatOf'. -/
def statOfCard : Claim7 := { stood := { row := statOfRow, standIns := [], harness := (true, "f662f84a55fcc42127e5561140b0c8b52a6e04a8d92251afd9764e18f6df97cd"), looks := false }, kinds := [], alts := [], laidByText := true, laidKinds := [.data, .data, .data, .data], laidTests := true, laidLooks := .later }
def StatOfCardSaid : Prop := Claim7.holds Tryd.pinned (.plain (OpenSpec.ofChange statOfSpec)) statOfCard

/-- THE TIED CARD OF 'drayagelaw04.SpanText'. -/
def spanTextCard : Claim7 := { stood := { row := spanTextRow, standIns := [], harness := (true, "f662f84a55fcc42127e5561140b0c8b52a6e04a8d92251afd9764e18f6df97cd"), looks := false }, kinds := [], alts := [], laidByText := true, laidKinds := [.data, .data, .data], laidTests := true, laidLooks := .later }
def SpanTextCardSaid : Prop := Claim7.holds Tryd.pinned (.plain (OpenSpec.ofChange spanTextSpec)) spanTextCard

/-- THE TIED CARD OF 'drayagelaw04.SpanRead'. -/
def spanReadCard : Claim7 := { stood := { row := spanReadRow, standIns := [], harness := (true, "f662f84a55fcc42127e5561140b0c8b52a6e04a8d92251afd9764e18f6df97cd"), looks := false }, kinds := [], alts := [], laidByText := true, laidKinds := [.data, .data, .data], laidTests := true, laidLooks := .later }
def SpanReadCardSaid : Prop := Claim7.holds Tryd.pinned (.plain (OpenSpec.ofChange spanReadSpec)) spanReadCard

/-- THE TIED CARD OF 'drayagelaw25.AlterVersions'. -/
def alterVersionsCard : Claim7 := { stood := { row := alterVersionsRow, standIns := [], harness := (true, "f662f84a55fcc42127e5561140b0c8b52a6e04a8d92251afd9764e18f6df97cd"), looks := false }, kinds := [], alts := [], laidByText := true, laidKinds := [.data], laidTests := true, laidLooks := .later }
def AlterVersionsCardSaid : Prop := Claim7.holds Tryd.pinned (.plain (OpenSpec.ofChange alterVersionsSpec)) alterVersionsCard

/-- THE TIED CARD OF 'drayagelaw25.AlterBack'. -/
def alterBackCard : Claim7 := { stood := { row := alterBackRow, standIns := [], harness := (true, "f662f84a55fcc42127e5561140b0c8b52a6e04a8d92251afd9764e18f6df97cd"), looks := false }, kinds := [], alts := [], laidByText := true, laidKinds := [.data], laidTests := true, laidLooks := .later }
def AlterBackCardSaid : Prop := Claim7.holds Tryd.pinned (.plain (OpenSpec.ofChange alterBackSpec)) alterBackCard

/-- THE TIED CARD OF 'drayagelaw03.UnitsText'. -/
def unitsTextCard : Claim7 := { stood := { row := unitsTextRow, standIns := [], harness := (true, "f662f84a55fcc42127e5561140b0c8b52a6e04a8d92251afd9764e18f6df97cd"), looks := false }, kinds := [], alts := [], laidByText := true, laidKinds := [.data, .data, .data], laidTests := true, laidLooks := .later }
def UnitsTextCardSaid : Prop := Claim7.holds Tryd.pinned (.plain (OpenSpec.ofChange unitsTextSpec)) unitsTextCard

/-- THE TIED CARD OF 'drayagelaw03.UnitsRead'. -/
def unitsReadCard : Claim7 := { stood := { row := unitsReadRow, standIns := [], harness := (true, "f662f84a55fcc42127e5561140b0c8b52a6e04a8d92251afd9764e18f6df97cd"), looks := false }, kinds := [], alts := [], laidByText := true, laidKinds := [.data, .data, .data], laidTests := true, laidLooks := .later }
def UnitsReadCardSaid : Prop := Claim7.holds Tryd.pinned (.plain (OpenSpec.ofChange unitsReadSpec)) unitsReadCard

/-- THE SECOND FORM's CARD OF 'drayagelaw49.StatOf'. -/
def statOfUptoCard : Claim7 := { stood := { row := statOfUptoRow, standIns := [], harness := (true, "f662f84a55fcc42127e5561140b0c8b52a6e04a8d92251afd9764e18f6df97cd"), looks := false }, kinds := [], alts := [], laidByText := true, laidKinds := [.data, .data, .data, .data], laidTests := true, laidLooks := .later }
def StatOfUptoCardSaid : Prop := Claim7.holds Tryd.pinned (.plain (OpenSpec.upto statOfSpec)) statOfUptoCard

/-- THE SECOND FORM's CARD OF 'drayagelaw04.SpanText'. -/
def spanTextUptoCard : Claim7 := { stood := { row := spanTextUptoRow, standIns := [], harness := (true, "f662f84a55fcc42127e5561140b0c8b52a6e04a8d92251afd9764e18f6df97cd"), looks := false }, kinds := [], alts := [], laidByText := true, laidKinds := [.data, .data, .data], laidTests := true, laidLooks := .later }
def SpanTextUptoCardSaid : Prop := Claim7.holds Tryd.pinned (.plain (OpenSpec.upto spanTextSpec)) spanTextUptoCard

/-- THE SECOND FORM's CARD OF 'drayagelaw04.SpanRead'. -/
def spanReadUptoCard : Claim7 := { stood := { row := spanReadUptoRow, standIns := [], harness := (true, "f662f84a55fcc42127e5561140b0c8b52a6e04a8d92251afd9764e18f6df97cd"), looks := false }, kinds := [], alts := [], laidByText := true, laidKinds := [.data, .data, .data], laidTests := true, laidLooks := .later }
def SpanReadUptoCardSaid : Prop := Claim7.holds Tryd.pinned (.plain (OpenSpec.upto spanReadSpec)) spanReadUptoCard

/-- THE SECOND FORM's CARD OF 'drayagelaw25.AlterVersions'. -/
def alterVersionsUptoCard : Claim7 := { stood := { row := alterVersionsUptoRow, standIns := [], harness := (true, "f662f84a55fcc42127e5561140b0c8b52a6e04a8d92251afd9764e18f6df97cd"), looks := false }, kinds := [], alts := [], laidByText := true, laidKinds := [.data], laidTests := true, laidLooks := .later }
def AlterVersionsUptoCardSaid : Prop := Claim7.holds Tryd.pinned (.plain (OpenSpec.upto alterVersionsSpec)) alterVersionsUptoCard

/-- THE SECOND FORM's CARD OF 'drayagelaw25.AlterBack'. -/
def alterBackUptoCard : Claim7 := { stood := { row := alterBackUptoRow, standIns := [], harness := (true, "f662f84a55fcc42127e5561140b0c8b52a6e04a8d92251afd9764e18f6df97cd"), looks := false }, kinds := [], alts := [], laidByText := true, laidKinds := [.data], laidTests := true, laidLooks := .later }
def AlterBackUptoCardSaid : Prop := Claim7.holds Tryd.pinned (.plain (OpenSpec.upto alterBackSpec)) alterBackUptoCard

/-- THE SECOND FORM's CARD OF 'drayagelaw03.UnitsText'. -/
def unitsTextUptoCard : Claim7 := { stood := { row := unitsTextUptoRow, standIns := [], harness := (true, "f662f84a55fcc42127e5561140b0c8b52a6e04a8d92251afd9764e18f6df97cd"), looks := false }, kinds := [], alts := [], laidByText := true, laidKinds := [.data, .data, .data], laidTests := true, laidLooks := .later }
def UnitsTextUptoCardSaid : Prop := Claim7.holds Tryd.pinned (.plain (OpenSpec.upto unitsTextSpec)) unitsTextUptoCard

/-- THE SECOND FORM's CARD OF 'drayagelaw03.UnitsRead'. -/
def unitsReadUptoCard : Claim7 := { stood := { row := unitsReadUptoRow, standIns := [], harness := (true, "f662f84a55fcc42127e5561140b0c8b52a6e04a8d92251afd9764e18f6df97cd"), looks := false }, kinds := [], alts := [], laidByText := true, laidKinds := [.data, .data, .data], laidTests := true, laidLooks := .later }
def UnitsReadUptoCardSaid : Prop := Claim7.holds Tryd.pinned (.plain (OpenSpec.upto unitsReadSpec)) unitsReadUptoCard
end Rows
end Go.Proofs.YtgccppgpbnmaaaaDoor
