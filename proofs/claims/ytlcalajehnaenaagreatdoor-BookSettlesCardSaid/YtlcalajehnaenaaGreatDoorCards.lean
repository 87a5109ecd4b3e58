/-
  DERIVED. GIVEN WITH THE SEED: THE CARDS: each row of YtlcalajehnaenaaGreatDoorRows.lean that lists a variable, with what it lists TIED to the program's text (the seventh form; the later family's looks); each row that meets fmt, with fmt's text TOLD by the authors' own Lean function (tested against real Go, not proved from fmt's source: count such statements apart). THE CARD IS WHAT COUNTS. Prove the row's statement (the work); the ties are given (YtlcalajehnaenaaGreatDoorTie.lean); close each card by the builder's one call (the guide's Derived/Test/ToyasCard.lean, 'card_holds'). Laid BY PROGRAM, IN A SANDBOX (cutbox-door.mjs). By AI agents, Wed Nov 11 2026. No macro, syntax, notation, axiom, sorry.
-/
import Derived.Test.YtlcalajehnaenaaGreatDoorRows
import GoSem.ClaimSeven
namespace Go.Proofs.YtlcalajehnaenaaGreatDoor
namespace Rows

/-- THE TIED CARD OF 'worldmintlaw26.BookSettles'. -/
def bookSettlesCard : Claim7 := { stood := { row := bookSettlesRow, standIns := [], harness := (true, "db89a0d4c00179fa1a497b1c301b655f2687a4224e4ce5218baf32a781c1513b"), looks := true }, kinds := [], alts := [], laidByText := true, laidKinds := [.data], laidTests := true, laidLooks := .later }
def BookSettlesCardSaid : Prop := Claim7.holds Tryz.pinned (.plain (OpenSpec.ofChange bookSettlesSpec)) bookSettlesCard

/-- THE SECOND FORM's CARD OF 'worldmintlaw26.BookSettles'. -/
def bookSettlesUptoCard : Claim7 := { stood := { row := bookSettlesUptoRow, standIns := [], harness := (true, "db89a0d4c00179fa1a497b1c301b655f2687a4224e4ce5218baf32a781c1513b"), looks := true }, kinds := [], alts := [], laidByText := true, laidKinds := [.data], laidTests := true, laidLooks := .later }
def BookSettlesUptoCardSaid : Prop := Claim7.holds Tryz.pinned (.plain (OpenSpec.upto bookSettlesSpec)) bookSettlesUptoCard
end Rows
end Go.Proofs.YtlcalajehnaenaaGreatDoor
