/-
  DERIVED. GIVEN WITH THE SEED: THE CARDS: each row of YtbhnojlcbgkcbaaDoorRows.lean that lists a variable, with what it lists TIED to the program's text (the seventh form; the later family's looks); each row that meets fmt, with fmt's text TOLD by the authors' own Lean function (tested against real Go, not proved from fmt's source: count such statements apart). THE CARD IS WHAT COUNTS. Prove the row's statement (the work); the ties are given (YtbhnojlcbgkcbaaDoorTie.lean); close each card by the builder's one call (the guide's Derived/Test/ToyasCard.lean, 'card_holds'). Laid BY PROGRAM, IN A SANDBOX (cutbox-door.mjs). By AI agents, Wed Nov 11 2026. No macro, syntax, notation, axiom, sorry.
-/
import Derived.Test.YtbhnojlcbgkcbaaDoorRows
import GoSem.ClaimSeven
namespace Go.Proofs.YtbhnojlcbgkcbaaDoor
namespace Rows

/-- THE TIED CARD OF 'drayagelaw04.SpanText'. -/
def spanTextCard : Claim7 := { stood := { row := spanTextRow, standIns := [], harness := (true, "0db2acf1ddeb3a5267932e99e0b4246ce38ca4bffaf8355faba2ea3e5b42c16a"), looks := false }, kinds := [], alts := [], laidByText := true, laidKinds := [.data, .data, .data], laidTests := true, laidLooks := .later }
def SpanTextCardSaid : Prop := Claim7.holds Tryd.pinned (.plain (OpenSpec.ofChange spanTextSpec)) spanTextCard

/-- THE TIED CARD OF 'drayagelaw04.SpanRead'. -/
def spanReadCard : Claim7 := { stood := { row := spanReadRow, standIns := [], harness := (true, "0db2acf1ddeb3a5267932e99e0b4246ce38ca4bffaf8355faba2ea3e5b42c16a"), looks := false }, kinds := [], alts := [], laidByText := true, laidKinds := [.data, .data, .data], laidTests := true, laidLooks := .later }
def SpanReadCardSaid : Prop := Claim7.holds Tryd.pinned (.plain (OpenSpec.ofChange spanReadSpec)) spanReadCard

/-- THE TIED CARD OF 'drayagelaw03.UnitsText'. -/
def unitsTextCard : Claim7 := { stood := { row := unitsTextRow, standIns := [], harness := (true, "0db2acf1ddeb3a5267932e99e0b4246ce38ca4bffaf8355faba2ea3e5b42c16a"), looks := false }, kinds := [], alts := [], laidByText := true, laidKinds := [.data, .data, .data], laidTests := true, laidLooks := .later }
def UnitsTextCardSaid : Prop := Claim7.holds Tryd.pinned (.plain (OpenSpec.ofChange unitsTextSpec)) unitsTextCard

/-- THE TIED CARD OF 'drayagelaw03.UnitsRead'. -/
def unitsReadCard : Claim7 := { stood := { row := unitsReadRow, standIns := [], harness := (true, "0db2acf1ddeb3a5267932e99e0b4246ce38ca4bffaf8355faba2ea3e5b42c16a"), looks := false }, kinds := [], alts := [], laidByText := true, laidKinds := [.data, .data, .data], laidTests := true, laidLooks := .later }
def UnitsReadCardSaid : Prop := Claim7.holds Tryd.pinned (.plain (OpenSpec.ofChange unitsReadSpec)) unitsReadCard

/-- THE SECOND FORM's CARD OF 'drayagelaw04.SpanText'. -/
def spanTextUptoCard : Claim7 := { stood := { row := spanTextUptoRow, standIns := [], harness := (true, "0db2acf1ddeb3a5267932e99e0b4246ce38ca4bffaf8355faba2ea3e5b42c16a"), looks := false }, kinds := [], alts := [], laidByText := true, laidKinds := [.data, .data, .data], laidTests := true, laidLooks := .later }
def SpanTextUptoCardSaid : Prop := Claim7.holds Tryd.pinned (.plain (OpenSpec.upto spanTextSpec)) spanTextUptoCard

/-- THE SECOND FORM's CARD OF 'drayagelaw04.SpanRead'. -/
def spanReadUptoCard : Claim7 := { stood := { row := spanReadUptoRow, standIns := [], harness := (true, "0db2acf1ddeb3a5267932e99e0b4246ce38ca4bffaf8355faba2ea3e5b42c16a"), looks := false }, kinds := [], alts := [], laidByText := true, laidKinds := [.data, .data, .data], laidTests := true, laidLooks := .later }
def SpanReadUptoCardSaid : Prop := Claim7.holds Tryd.pinned (.plain (OpenSpec.upto spanReadSpec)) spanReadUptoCard

/-- THE SECOND FORM's CARD OF 'drayagelaw03.UnitsText'. -/
def unitsTextUptoCard : Claim7 := { stood := { row := unitsTextUptoRow, standIns := [], harness := (true, "0db2acf1ddeb3a5267932e99e0b4246ce38ca4bffaf8355faba2ea3e5b42c16a"), looks := false }, kinds := [], alts := [], laidByText := true, laidKinds := [.data, .data, .data], laidTests := true, laidLooks := .later }
def UnitsTextUptoCardSaid : Prop := Claim7.holds Tryd.pinned (.plain (OpenSpec.upto unitsTextSpec)) unitsTextUptoCard

/-- THE SECOND FORM's CARD OF 'drayagelaw03.UnitsRead'. -/
def unitsReadUptoCard : Claim7 := { stood := { row := unitsReadUptoRow, standIns := [], harness := (true, "0db2acf1ddeb3a5267932e99e0b4246ce38ca4bffaf8355faba2ea3e5b42c16a"), looks := false }, kinds := [], alts := [], laidByText := true, laidKinds := [.data, .data, .data], laidTests := true, laidLooks := .later }
def UnitsReadUptoCardSaid : Prop := Claim7.holds Tryd.pinned (.plain (OpenSpec.upto unitsReadSpec)) unitsReadUptoCard
end Rows
end Go.Proofs.YtbhnojlcbgkcbaaDoor
