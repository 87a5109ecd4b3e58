/-
  No cell of these rows narrows 'for every input' (looked for: loops, veiled, ifaces, maps, wideKeys, modest, calm, conditions, laid).
  DERIVED. THE GIVEN ROWS OF THIS SEAT. 7 by the template 'for every input the law returns true; each argument reads behind the call as it read before'; 0 by the template 'total and deterministic' (their statements: YtkandhpnenmleaaTotals.lean).
  GIVEN WITH THE SEED: the statements are not yours to turn. If you find one false, say at which input.
  Laid BY PROGRAM, IN A SANDBOX (cutbox-rows.mjs): the forced cells as the released guide's own fill.sh prints them over the translation fbcbafa76871c5e3… (all of the seat's roots in one cut). By AI agents, Wed Nov 11 2026. No macro, syntax, notation, axiom, sorry.
-/
import Derived.Test.YtkandhpnenmleaaChecked
import GoSem.Claim
import GoSem.ClaimJoined
import GoSem.ClaimMapViews
import Derived.JoinedTies
import Derived.KernelRfl
namespace Go.Proofs.Ytkandhpnenmleaa
/- THE CELL 'sum', in the pinned program and in every row, IS THE sha256 OF THE DUMP (.gsa) THAT YtkandhpnenmleaaProg.lean LOADS. Nothing in Lean hashes anything: it is a label: what it is worth is what the hold of that sum in a sandbox is worth. -/
noncomputable def Try.pinned : Pinned := { name := "ytkandhpnenmleaa", sum := "fbcbafa76871c5e32debd9c04513dc3f72e47252be6f468725a947cfe3e4621e", checked := Try.checked }
namespace Rows
def none {H : Type} : Left H := { results := [], args := [] }

/-- 'worldmintlaw26.BookFull': WHATEVER THE INPUT: true; the input reads as it did. -/
def bookFullSpec : ChangeSpec := { name := "bookFull", fn := fun _ => fun
  | [d] => { results := [.lit (.bool true)], args := [d] }
  | _ => none }
def bookFullRow : OpenClaim := { program := "ytkandhpnenmleaa", sum := "fbcbafa76871c5e32debd9c04513dc3f72e47252be6f468725a947cfe3e4621e", func := "worldmint/worldmintlaw26.BookFull", spec := "bookFull", inPlace := ["slices.overlaps[int]"], unfollowed := true, recurses := true, apart := false }
def BookFullSaid : Prop := bookFullRow.holds Try.pinned (OpenSpec.ofChange bookFullSpec)

/-- ITS FALSE NEIGHBOUR: 'it returns false'. Refute it at one input. -/
def bookFullWrong : ChangeSpec := { name := "bookFull", fn := fun _ => fun
  | [d] => { results := [.lit (.bool false)], args := [d] }
  | _ => none }
def BookFullWrongFalsely : Prop := bookFullRow.holds Try.pinned (OpenSpec.ofChange bookFullWrong)

/-- 'worldmintlaw26.BookSums': WHATEVER THE INPUT: true; the input reads as it did. -/
def bookSumsSpec : ChangeSpec := { name := "bookSums", fn := fun _ => fun
  | [d] => { results := [.lit (.bool true)], args := [d] }
  | _ => none }
def bookSumsRow : OpenClaim := { program := "ytkandhpnenmleaa", sum := "fbcbafa76871c5e32debd9c04513dc3f72e47252be6f468725a947cfe3e4621e", func := "worldmint/worldmintlaw26.BookSums", spec := "bookSums", inPlace := ["slices.overlaps[int]"], unfollowed := true, recurses := true, apart := false }
def BookSumsSaid : Prop := bookSumsRow.holds Try.pinned (OpenSpec.ofChange bookSumsSpec)

/-- ITS FALSE NEIGHBOUR: 'it returns false'. Refute it at one input. -/
def bookSumsWrong : ChangeSpec := { name := "bookSums", fn := fun _ => fun
  | [d] => { results := [.lit (.bool false)], args := [d] }
  | _ => none }
def BookSumsWrongFalsely : Prop := bookSumsRow.holds Try.pinned (OpenSpec.ofChange bookSumsWrong)

/-- 'worldmintlaw26.BookPriority': WHATEVER THE INPUT: true; the input reads as it did. -/
def bookPrioritySpec : ChangeSpec := { name := "bookPriority", fn := fun _ => fun
  | [d1, d2, d3, d4] => { results := [.lit (.bool true)], args := [d1, d2, d3, d4] }
  | _ => none }
def bookPriorityRow : OpenClaim := { program := "ytkandhpnenmleaa", sum := "fbcbafa76871c5e32debd9c04513dc3f72e47252be6f468725a947cfe3e4621e", func := "worldmint/worldmintlaw26.BookPriority", spec := "bookPriority", inPlace := ["slices.overlaps[int]"], unfollowed := true, recurses := true, apart := false }
def BookPrioritySaid : Prop := bookPriorityRow.holds Try.pinned (OpenSpec.ofChange bookPrioritySpec)

/-- ITS FALSE NEIGHBOUR: 'it returns false'. Refute it at one input. -/
def bookPriorityWrong : ChangeSpec := { name := "bookPriority", fn := fun _ => fun
  | [d1, d2, d3, d4] => { results := [.lit (.bool false)], args := [d1, d2, d3, d4] }
  | _ => none }
def BookPriorityWrongFalsely : Prop := bookPriorityRow.holds Try.pinned (OpenSpec.ofChange bookPriorityWrong)

/-- 'worldmintlaw26.BookScript': WHATEVER THE INPUT: true; the input reads as it did. -/
def bookScriptSpec : ChangeSpec := { name := "bookScript", fn := fun _ => fun
  | [d1, d2] => { results := [.lit (.bool true)], args := [d1, d2] }
  | _ => none }
def bookScriptRow : OpenClaim := { program := "ytkandhpnenmleaa", sum := "fbcbafa76871c5e32debd9c04513dc3f72e47252be6f468725a947cfe3e4621e", func := "worldmint/worldmintlaw26.BookScript", spec := "bookScript", inPlace := ["slices.overlaps[int]"], unfollowed := true, recurses := true, apart := false }
def BookScriptSaid : Prop := bookScriptRow.holds Try.pinned (OpenSpec.ofChange bookScriptSpec)

/-- ITS FALSE NEIGHBOUR: 'it returns false'. Refute it at one input. -/
def bookScriptWrong : ChangeSpec := { name := "bookScript", fn := fun _ => fun
  | [d1, d2] => { results := [.lit (.bool false)], args := [d1, d2] }
  | _ => none }
def BookScriptWrongFalsely : Prop := bookScriptRow.holds Try.pinned (OpenSpec.ofChange bookScriptWrong)

/-- 'worldmintlaw26.BookCrossed': WHATEVER THE INPUT: true; the input reads as it did. -/
def bookCrossedSpec : ChangeSpec := { name := "bookCrossed", fn := fun _ => fun
  | [d] => { results := [.lit (.bool true)], args := [d] }
  | _ => none }
def bookCrossedRow : OpenClaim := { program := "ytkandhpnenmleaa", sum := "fbcbafa76871c5e32debd9c04513dc3f72e47252be6f468725a947cfe3e4621e", func := "worldmint/worldmintlaw26.BookCrossed", spec := "bookCrossed", inPlace := ["slices.overlaps[int]"], unfollowed := true, recurses := true, apart := false }
def BookCrossedSaid : Prop := bookCrossedRow.holds Try.pinned (OpenSpec.ofChange bookCrossedSpec)

/-- ITS FALSE NEIGHBOUR: 'it returns false'. Refute it at one input. -/
def bookCrossedWrong : ChangeSpec := { name := "bookCrossed", fn := fun _ => fun
  | [d] => { results := [.lit (.bool false)], args := [d] }
  | _ => none }
def BookCrossedWrongFalsely : Prop := bookCrossedRow.holds Try.pinned (OpenSpec.ofChange bookCrossedWrong)

/-- 'worldmintlaw26.BookQuote': WHATEVER THE INPUT: true; the input reads as it did. -/
def bookQuoteSpec : ChangeSpec := { name := "bookQuote", fn := fun _ => fun
  | [d1, d2, d3] => { results := [.lit (.bool true)], args := [d1, d2, d3] }
  | _ => none }
def bookQuoteRow : OpenClaim := { program := "ytkandhpnenmleaa", sum := "fbcbafa76871c5e32debd9c04513dc3f72e47252be6f468725a947cfe3e4621e", func := "worldmint/worldmintlaw26.BookQuote", spec := "bookQuote", inPlace := ["slices.overlaps[int]"], unfollowed := true, recurses := true, apart := false }
def BookQuoteSaid : Prop := bookQuoteRow.holds Try.pinned (OpenSpec.ofChange bookQuoteSpec)

/-- ITS FALSE NEIGHBOUR: 'it returns false'. Refute it at one input. -/
def bookQuoteWrong : ChangeSpec := { name := "bookQuote", fn := fun _ => fun
  | [d1, d2, d3] => { results := [.lit (.bool false)], args := [d1, d2, d3] }
  | _ => none }
def BookQuoteWrongFalsely : Prop := bookQuoteRow.holds Try.pinned (OpenSpec.ofChange bookQuoteWrong)

/-- 'worldmintlaw26.BookCopies': WHATEVER THE INPUT: true; the input reads as it did. -/
def bookCopiesSpec : ChangeSpec := { name := "bookCopies", fn := fun _ => fun
  | [d1, d2, d3] => { results := [.lit (.bool true)], args := [d1, d2, d3] }
  | _ => none }
def bookCopiesRow : OpenClaim := { program := "ytkandhpnenmleaa", sum := "fbcbafa76871c5e32debd9c04513dc3f72e47252be6f468725a947cfe3e4621e", func := "worldmint/worldmintlaw26.BookCopies", spec := "bookCopies", inPlace := ["slices.overlaps[int]"], unfollowed := true, recurses := true, apart := false }
def BookCopiesSaid : Prop := bookCopiesRow.holds Try.pinned (OpenSpec.ofChange bookCopiesSpec)

/-- ITS FALSE NEIGHBOUR: 'it returns false'. Refute it at one input. -/
def bookCopiesWrong : ChangeSpec := { name := "bookCopies", fn := fun _ => fun
  | [d1, d2, d3] => { results := [.lit (.bool false)], args := [d1, d2, d3] }
  | _ => none }
def BookCopiesWrongFalsely : Prop := bookCopiesRow.holds Try.pinned (OpenSpec.ofChange bookCopiesWrong)

/- THE SECOND FORM. 'bulk': how many values and letters a reading holds, each counted each time it is reached (what is shared counts as often as it is met; a slice's spare places count too). A statement '..UptoSaid' is the law's where the arguments, and the package variables that the reading takes, are together of bulk at most 1048576: NARROWER than '..Said'. Prove '..Said' where nothing that the law and all that it calls make is longer than what came in: it says more and counts as full. Else prove '..UptoSaid'. A law counts once. -/
mutual
def uptoBulk {H : Type} : DataW H → Nat
  | .lit (.string bytes) => bytes.length + 1
  | .lit _ => 1
  | .nil => 1
  | .ptr d => uptoBulk d + 1
  | .slice elems spare => uptoBulkAll elems + uptoBulkAll spare + 1
  | .agg parts => uptoBulkAll parts + 1
  | .iface _ d => uptoBulk d + 1
  | .map entries => uptoBulkEntries entries + 1
  | .held _ => 1
def uptoBulkAll {H : Type} : List (DataW H) → Nat
  | [] => 0
  | d :: r => uptoBulk d + uptoBulkAll r
def uptoBulkEntries {H : Type} : List (Lit × DataW H) → Nat
  | [] => 0
  | x :: r => uptoBulkEntry x + uptoBulkEntries r
def uptoBulkEntry {H : Type} : Lit × DataW H → Nat
  | (.string bytes, d) => bytes.length + uptoBulk d + 1
  | (_, d) => uptoBulk d + 1
 end
def uptoSmall : (H : Type) → List (DataW H) → Bool := fun _ ds => decide (uptoBulkAll ds ≤ 1048576)
def OpenSpec.upto (s : _root_.Go.ChangeSpec) : _root_.Go.OpenSpec := { _root_.Go.OpenSpec.ofChange s with cond := some uptoSmall }

/-- 'worldmintlaw26.BookFull', WHERE WHAT IT READS IS OF BULK AT MOST 1048576: true; the input reads as it did. -/
def bookFullUptoRow : OpenClaim := { program := "ytkandhpnenmleaa", sum := "fbcbafa76871c5e32debd9c04513dc3f72e47252be6f468725a947cfe3e4621e", func := "worldmint/worldmintlaw26.BookFull", spec := "bookFull", inPlace := ["slices.overlaps[int]"], unfollowed := true, recurses := true, apart := false, narrowed := true }
def BookFullUptoSaid : Prop := bookFullUptoRow.holds Try.pinned (OpenSpec.upto bookFullSpec)

/-- 'worldmintlaw26.BookSums', WHERE WHAT IT READS IS OF BULK AT MOST 1048576: true; the input reads as it did. -/
def bookSumsUptoRow : OpenClaim := { program := "ytkandhpnenmleaa", sum := "fbcbafa76871c5e32debd9c04513dc3f72e47252be6f468725a947cfe3e4621e", func := "worldmint/worldmintlaw26.BookSums", spec := "bookSums", inPlace := ["slices.overlaps[int]"], unfollowed := true, recurses := true, apart := false, narrowed := true }
def BookSumsUptoSaid : Prop := bookSumsUptoRow.holds Try.pinned (OpenSpec.upto bookSumsSpec)

/-- 'worldmintlaw26.BookPriority', WHERE WHAT IT READS IS OF BULK AT MOST 1048576: true; the input reads as it did. -/
def bookPriorityUptoRow : OpenClaim := { program := "ytkandhpnenmleaa", sum := "fbcbafa76871c5e32debd9c04513dc3f72e47252be6f468725a947cfe3e4621e", func := "worldmint/worldmintlaw26.BookPriority", spec := "bookPriority", inPlace := ["slices.overlaps[int]"], unfollowed := true, recurses := true, apart := false, narrowed := true }
def BookPriorityUptoSaid : Prop := bookPriorityUptoRow.holds Try.pinned (OpenSpec.upto bookPrioritySpec)

/-- 'worldmintlaw26.BookScript', WHERE WHAT IT READS IS OF BULK AT MOST 1048576: true; the input reads as it did. -/
def bookScriptUptoRow : OpenClaim := { program := "ytkandhpnenmleaa", sum := "fbcbafa76871c5e32debd9c04513dc3f72e47252be6f468725a947cfe3e4621e", func := "worldmint/worldmintlaw26.BookScript", spec := "bookScript", inPlace := ["slices.overlaps[int]"], unfollowed := true, recurses := true, apart := false, narrowed := true }
def BookScriptUptoSaid : Prop := bookScriptUptoRow.holds Try.pinned (OpenSpec.upto bookScriptSpec)

/-- 'worldmintlaw26.BookCrossed', WHERE WHAT IT READS IS OF BULK AT MOST 1048576: true; the input reads as it did. -/
def bookCrossedUptoRow : OpenClaim := { program := "ytkandhpnenmleaa", sum := "fbcbafa76871c5e32debd9c04513dc3f72e47252be6f468725a947cfe3e4621e", func := "worldmint/worldmintlaw26.BookCrossed", spec := "bookCrossed", inPlace := ["slices.overlaps[int]"], unfollowed := true, recurses := true, apart := false, narrowed := true }
def BookCrossedUptoSaid : Prop := bookCrossedUptoRow.holds Try.pinned (OpenSpec.upto bookCrossedSpec)

/-- 'worldmintlaw26.BookQuote', WHERE WHAT IT READS IS OF BULK AT MOST 1048576: true; the input reads as it did. -/
def bookQuoteUptoRow : OpenClaim := { program := "ytkandhpnenmleaa", sum := "fbcbafa76871c5e32debd9c04513dc3f72e47252be6f468725a947cfe3e4621e", func := "worldmint/worldmintlaw26.BookQuote", spec := "bookQuote", inPlace := ["slices.overlaps[int]"], unfollowed := true, recurses := true, apart := false, narrowed := true }
def BookQuoteUptoSaid : Prop := bookQuoteUptoRow.holds Try.pinned (OpenSpec.upto bookQuoteSpec)

/-- 'worldmintlaw26.BookCopies', WHERE WHAT IT READS IS OF BULK AT MOST 1048576: true; the input reads as it did. -/
def bookCopiesUptoRow : OpenClaim := { program := "ytkandhpnenmleaa", sum := "fbcbafa76871c5e32debd9c04513dc3f72e47252be6f468725a947cfe3e4621e", func := "worldmint/worldmintlaw26.BookCopies", spec := "bookCopies", inPlace := ["slices.overlaps[int]"], unfollowed := true, recurses := true, apart := false, narrowed := true }
def BookCopiesUptoSaid : Prop := bookCopiesUptoRow.holds Try.pinned (OpenSpec.upto bookCopiesSpec)

end Rows
end Go.Proofs.Ytkandhpnenmleaa
