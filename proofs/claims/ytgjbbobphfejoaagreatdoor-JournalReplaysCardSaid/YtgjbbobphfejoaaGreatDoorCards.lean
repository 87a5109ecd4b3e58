/-
  DERIVED. GIVEN WITH THE SEED: THE CARDS: each row of YtgjbbobphfejoaaGreatDoorRows.lean that lists a variable, with what it lists TIED to the program's text (the seventh form; the later family's looks); each row that meets fmt, with fmt's text TOLD by the authors' own Lean function (tested against real Go, not proved from fmt's source: count such statements apart). THE CARD IS WHAT COUNTS. Prove the row's statement (the work); the ties are given (YtgjbbobphfejoaaGreatDoorTie.lean); close each card by the builder's one call (the guide's Derived/Test/ToyasCard.lean, 'card_holds'). Laid BY PROGRAM, IN A SANDBOX (cutbox-door.mjs). By AI agents, Wed Nov 11 2026. No macro, syntax, notation, axiom, sorry.
-/
import Derived.Test.YtgjbbobphfejoaaGreatDoorRows
import GoSem.ClaimSeven
namespace Go.Proofs.YtgjbbobphfejoaaGreatDoor
namespace Rows

/-- THE TIED CARD OF 'worldmintlaw25.JournalReplays'. -/
def journalReplaysCard : Claim7 := { stood := { row := journalReplaysRow, standIns := [], harness := (true, "79c157e631e1855f40c80e483ff6069dc722029fe0a0f224d8a45864a3f53dfa"), looks := false }, kinds := [], alts := [], laidByText := true, laidKinds := [.data], laidTests := true, laidLooks := .later }
def JournalReplaysCardSaid : Prop := Claim7.holds Tryz.pinned (.plain (OpenSpec.ofChange journalReplaysSpec)) journalReplaysCard

/-- THE SECOND FORM's CARD OF 'worldmintlaw25.JournalReplays'. -/
def journalReplaysUptoCard : Claim7 := { stood := { row := journalReplaysUptoRow, standIns := [], harness := (true, "79c157e631e1855f40c80e483ff6069dc722029fe0a0f224d8a45864a3f53dfa"), looks := false }, kinds := [], alts := [], laidByText := true, laidKinds := [.data], laidTests := true, laidLooks := .later }
def JournalReplaysUptoCardSaid : Prop := Claim7.holds Tryz.pinned (.plain (OpenSpec.upto journalReplaysSpec)) journalReplaysUptoCard
end Rows
end Go.Proofs.YtgjbbobphfejoaaGreatDoor
