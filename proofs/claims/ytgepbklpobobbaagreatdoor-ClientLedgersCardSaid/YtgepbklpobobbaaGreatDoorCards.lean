/-
  DERIVED. GIVEN WITH THE SEED: THE CARDS: each row of YtgepbklpobobbaaGreatDoorRows.lean that lists a variable, with what it lists TIED to the program's text (the seventh form; the later family's looks); each row that meets fmt, with fmt's text TOLD by the authors' own Lean function (tested against real Go, not proved from fmt's source: count such statements apart). THE CARD IS WHAT COUNTS. Prove the row's statement (the work); the ties are given (YtgepbklpobobbaaGreatDoorTie.lean); close each card by the builder's one call (the guide's Derived/Test/ToyasCard.lean, 'card_holds'). Laid BY PROGRAM, IN A SANDBOX (cutbox-door.mjs). By AI agents, Wed Nov 11 2026. No macro, syntax, notation, axiom, sorry.
-/
import Derived.Test.YtgepbklpobobbaaGreatDoorRows
import GoSem.ClaimSeven
namespace Go.Proofs.YtgepbklpobobbaaGreatDoor
namespace Rows

/-- THE TIED CARD OF 'worldmintlaw37.ClientLedgers'. -/
def clientLedgersCard : Claim7 := { stood := { row := clientLedgersRow, standIns := [], harness := (true, "4c6aeeb80a5a5caacb00b281449c374940a930d37095b0789fa957dcbb9d8eed"), looks := true }, kinds := [], alts := [], laidByText := true, laidKinds := [.data], laidTests := true, laidLooks := .later }
def ClientLedgersCardSaid : Prop := Claim7.holds Tryz.pinned (.plain (OpenSpec.ofChange clientLedgersSpec)) clientLedgersCard

/-- THE SECOND FORM's CARD OF 'worldmintlaw37.ClientLedgers'. -/
def clientLedgersUptoCard : Claim7 := { stood := { row := clientLedgersUptoRow, standIns := [], harness := (true, "4c6aeeb80a5a5caacb00b281449c374940a930d37095b0789fa957dcbb9d8eed"), looks := true }, kinds := [], alts := [], laidByText := true, laidKinds := [.data], laidTests := true, laidLooks := .later }
def ClientLedgersUptoCardSaid : Prop := Claim7.holds Tryz.pinned (.plain (OpenSpec.upto clientLedgersSpec)) clientLedgersUptoCard
end Rows
end Go.Proofs.YtgepbklpobobbaaGreatDoor
