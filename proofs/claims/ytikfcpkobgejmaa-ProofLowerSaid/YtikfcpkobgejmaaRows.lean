/-
  No cell of these rows narrows 'for every input' (looked for: loops, veiled, ifaces, maps, wideKeys, modest, calm, conditions, laid).
  DERIVED. THE GIVEN ROWS OF THIS SEAT. 7 by the template 'for every input the law returns true; each argument reads behind the call as it read before'; 0 by the template 'total and deterministic' (their statements: YtikfcpkobgejmaaTotals.lean).
  GIVEN WITH THE SEED: the statements are not yours to turn. If you find one false, say at which input.
  Laid BY PROGRAM, IN A SANDBOX (cutbox-rows.mjs): the forced cells as the released guide's own fill.sh prints them over the translation dbdad95712bcf8e2… (all of the seat's roots in one cut). By AI agents, Wed Nov 11 2026. No macro, syntax, notation, axiom, sorry.
-/
import Derived.Test.YtikfcpkobgejmaaChecked
import GoSem.Claim
import GoSem.ClaimJoined
import GoSem.ClaimMapViews
import Derived.JoinedTies
import Derived.KernelRfl
namespace Go.Proofs.Ytikfcpkobgejmaa
/- THE CELL 'sum', in the pinned program and in every row, IS THE sha256 OF THE DUMP (.gsa) THAT YtikfcpkobgejmaaProg.lean LOADS. Nothing in Lean hashes anything: it is a label: what it is worth is what the hold of that sum in a sandbox is worth. -/
noncomputable def Try.pinned : Pinned := { name := "ytikfcpkobgejmaa", sum := "dbdad95712bcf8e274a29ffcc319ca8d1d8db66d5205961f36b6d60340fbc792", checked := Try.checked }
namespace Rows
def none {H : Type} : Left H := { results := [], args := [] }

/-- 'worldmintlaw29.ProofChecks': WHATEVER THE INPUT: true; the input reads as it did. -/
def proofChecksSpec : ChangeSpec := { name := "proofChecks", fn := fun _ => fun
  | [d1, d2, d3, d4, d5, d6, d7] => { results := [.lit (.bool true)], args := [d1, d2, d3, d4, d5, d6, d7] }
  | _ => none }
def proofChecksRow : OpenClaim := { program := "ytikfcpkobgejmaa", sum := "dbdad95712bcf8e274a29ffcc319ca8d1d8db66d5205961f36b6d60340fbc792", func := "worldmint/worldmintlaw29.ProofChecks", spec := "proofChecks", unfollowed := true, recurses := true, apart := false }
def ProofChecksSaid : Prop := proofChecksRow.holds Try.pinned (OpenSpec.ofChange proofChecksSpec)

/-- ITS FALSE NEIGHBOUR: 'it returns false'. Refute it at one input. -/
def proofChecksWrong : ChangeSpec := { name := "proofChecks", fn := fun _ => fun
  | [d1, d2, d3, d4, d5, d6, d7] => { results := [.lit (.bool false)], args := [d1, d2, d3, d4, d5, d6, d7] }
  | _ => none }
def ProofChecksWrongFalsely : Prop := proofChecksRow.holds Try.pinned (OpenSpec.ofChange proofChecksWrong)

/-- 'worldmintlaw29.ProofRefuses': WHATEVER THE INPUT: true; the input reads as it did. -/
def proofRefusesSpec : ChangeSpec := { name := "proofRefuses", fn := fun _ => fun
  | [d1, d2, d3, d4, d5, d6, d7] => { results := [.lit (.bool true)], args := [d1, d2, d3, d4, d5, d6, d7] }
  | _ => none }
def proofRefusesRow : OpenClaim := { program := "ytikfcpkobgejmaa", sum := "dbdad95712bcf8e274a29ffcc319ca8d1d8db66d5205961f36b6d60340fbc792", func := "worldmint/worldmintlaw29.ProofRefuses", spec := "proofRefuses", unfollowed := true, recurses := true, apart := false }
def ProofRefusesSaid : Prop := proofRefusesRow.holds Try.pinned (OpenSpec.ofChange proofRefusesSpec)

/-- ITS FALSE NEIGHBOUR: 'it returns false'. Refute it at one input. -/
def proofRefusesWrong : ChangeSpec := { name := "proofRefuses", fn := fun _ => fun
  | [d1, d2, d3, d4, d5, d6, d7] => { results := [.lit (.bool false)], args := [d1, d2, d3, d4, d5, d6, d7] }
  | _ => none }
def ProofRefusesWrongFalsely : Prop := proofRefusesRow.holds Try.pinned (OpenSpec.ofChange proofRefusesWrong)

/-- 'worldmintlaw29.ProofLeaf': WHATEVER THE INPUT: true; the input reads as it did. -/
def proofLeafSpec : ChangeSpec := { name := "proofLeaf", fn := fun _ => fun
  | [d1, d2, d3, d4] => { results := [.lit (.bool true)], args := [d1, d2, d3, d4] }
  | _ => none }
def proofLeafRow : OpenClaim := { program := "ytikfcpkobgejmaa", sum := "dbdad95712bcf8e274a29ffcc319ca8d1d8db66d5205961f36b6d60340fbc792", func := "worldmint/worldmintlaw29.ProofLeaf", spec := "proofLeaf", unfollowed := true, recurses := true, apart := false }
def ProofLeafSaid : Prop := proofLeafRow.holds Try.pinned (OpenSpec.ofChange proofLeafSpec)

/-- ITS FALSE NEIGHBOUR: 'it returns false'. Refute it at one input. -/
def proofLeafWrong : ChangeSpec := { name := "proofLeaf", fn := fun _ => fun
  | [d1, d2, d3, d4] => { results := [.lit (.bool false)], args := [d1, d2, d3, d4] }
  | _ => none }
def ProofLeafWrongFalsely : Prop := proofLeafRow.holds Try.pinned (OpenSpec.ofChange proofLeafWrong)

/-- 'worldmintlaw29.ProofMakes': WHATEVER THE INPUT: true; the input reads as it did. -/
def proofMakesSpec : ChangeSpec := { name := "proofMakes", fn := fun _ => fun
  | [d1, d2, d3, d4, d5] => { results := [.lit (.bool true)], args := [d1, d2, d3, d4, d5] }
  | _ => none }
def proofMakesRow : OpenClaim := { program := "ytikfcpkobgejmaa", sum := "dbdad95712bcf8e274a29ffcc319ca8d1d8db66d5205961f36b6d60340fbc792", func := "worldmint/worldmintlaw29.ProofMakes", spec := "proofMakes", unfollowed := true, recurses := true, apart := false }
def ProofMakesSaid : Prop := proofMakesRow.holds Try.pinned (OpenSpec.ofChange proofMakesSpec)

/-- ITS FALSE NEIGHBOUR: 'it returns false'. Refute it at one input. -/
def proofMakesWrong : ChangeSpec := { name := "proofMakes", fn := fun _ => fun
  | [d1, d2, d3, d4, d5] => { results := [.lit (.bool false)], args := [d1, d2, d3, d4, d5] }
  | _ => none }
def ProofMakesWrongFalsely : Prop := proofMakesRow.holds Try.pinned (OpenSpec.ofChange proofMakesWrong)

/-- 'worldmintlaw29.ProofSound': WHATEVER THE INPUT: true; the input reads as it did. -/
def proofSoundSpec : ChangeSpec := { name := "proofSound", fn := fun _ => fun
  | [d1, d2, d3, d4, d5, d6, d7] => { results := [.lit (.bool true)], args := [d1, d2, d3, d4, d5, d6, d7] }
  | _ => none }
def proofSoundRow : OpenClaim := { program := "ytikfcpkobgejmaa", sum := "dbdad95712bcf8e274a29ffcc319ca8d1d8db66d5205961f36b6d60340fbc792", func := "worldmint/worldmintlaw29.ProofSound", spec := "proofSound", unfollowed := true, recurses := true, apart := false }
def ProofSoundSaid : Prop := proofSoundRow.holds Try.pinned (OpenSpec.ofChange proofSoundSpec)

/-- ITS FALSE NEIGHBOUR: 'it returns false'. Refute it at one input. -/
def proofSoundWrong : ChangeSpec := { name := "proofSound", fn := fun _ => fun
  | [d1, d2, d3, d4, d5, d6, d7] => { results := [.lit (.bool false)], args := [d1, d2, d3, d4, d5, d6, d7] }
  | _ => none }
def ProofSoundWrongFalsely : Prop := proofSoundRow.holds Try.pinned (OpenSpec.ofChange proofSoundWrong)

/-- 'worldmintlaw29.ProofLower': WHATEVER THE INPUT: true; the input reads as it did. -/
def proofLowerSpec : ChangeSpec := { name := "proofLower", fn := fun _ => fun
  | [d1, d2, d3, d4] => { results := [.lit (.bool true)], args := [d1, d2, d3, d4] }
  | _ => none }
def proofLowerRow : OpenClaim := { program := "ytikfcpkobgejmaa", sum := "dbdad95712bcf8e274a29ffcc319ca8d1d8db66d5205961f36b6d60340fbc792", func := "worldmint/worldmintlaw29.ProofLower", spec := "proofLower", unfollowed := true, recurses := true, apart := false }
def ProofLowerSaid : Prop := proofLowerRow.holds Try.pinned (OpenSpec.ofChange proofLowerSpec)

/-- ITS FALSE NEIGHBOUR: 'it returns false'. Refute it at one input. -/
def proofLowerWrong : ChangeSpec := { name := "proofLower", fn := fun _ => fun
  | [d1, d2, d3, d4] => { results := [.lit (.bool false)], args := [d1, d2, d3, d4] }
  | _ => none }
def ProofLowerWrongFalsely : Prop := proofLowerRow.holds Try.pinned (OpenSpec.ofChange proofLowerWrong)

/-- 'worldmintlaw29.ProofEncoding': WHATEVER THE INPUT: true; the input reads as it did. -/
def proofEncodingSpec : ChangeSpec := { name := "proofEncoding", fn := fun _ => fun
  | [d1, d2, d3, d4, d5, d6, d7] => { results := [.lit (.bool true)], args := [d1, d2, d3, d4, d5, d6, d7] }
  | _ => none }
def proofEncodingRow : OpenClaim := { program := "ytikfcpkobgejmaa", sum := "dbdad95712bcf8e274a29ffcc319ca8d1d8db66d5205961f36b6d60340fbc792", func := "worldmint/worldmintlaw29.ProofEncoding", spec := "proofEncoding", unfollowed := true, recurses := true, apart := false }
def ProofEncodingSaid : Prop := proofEncodingRow.holds Try.pinned (OpenSpec.ofChange proofEncodingSpec)

/-- ITS FALSE NEIGHBOUR: 'it returns false'. Refute it at one input. -/
def proofEncodingWrong : ChangeSpec := { name := "proofEncoding", fn := fun _ => fun
  | [d1, d2, d3, d4, d5, d6, d7] => { results := [.lit (.bool false)], args := [d1, d2, d3, d4, d5, d6, d7] }
  | _ => none }
def ProofEncodingWrongFalsely : Prop := proofEncodingRow.holds Try.pinned (OpenSpec.ofChange proofEncodingWrong)

/- THE SECOND FORM. 'bulk': how many values and letters a reading holds, each counted each time it is reached (what is shared counts as often as it is met; a slice's spare places count too). A statement '..UptoSaid' is the law's where the arguments, and the package variables that the reading takes, are together of bulk at most 1048576: NARROWER than '..Said'. Prove '..Said' where nothing that the law and all that it calls make is longer than what came in: it says more and counts as full. Else prove '..UptoSaid'. A law counts once. -/
mutual
def uptoBulk {H : Type} : DataW H → Nat
  | .lit (.string bytes) => bytes.length + 1
  | .lit _ => 1
  | .nil => 1
  | .ptr d => uptoBulk d + 1
  | .slice elems spare => uptoBulkAll elems + uptoBulkAll spare + 1
  | .agg parts => uptoBulkAll parts + 1
  | .iface _ d => uptoBulk d + 1
  | .map entries => uptoBulkEntries entries + 1
  | .held _ => 1
def uptoBulkAll {H : Type} : List (DataW H) → Nat
  | [] => 0
  | d :: r => uptoBulk d + uptoBulkAll r
def uptoBulkEntries {H : Type} : List (Lit × DataW H) → Nat
  | [] => 0
  | x :: r => uptoBulkEntry x + uptoBulkEntries r
def uptoBulkEntry {H : Type} : Lit × DataW H → Nat
  | (.string bytes, d) => bytes.length + uptoBulk d + 1
  | (_, d) => uptoBulk d + 1
 end
def uptoSmall : (H : Type) → List (DataW H) → Bool := fun _ ds => decide (uptoBulkAll ds ≤ 1048576)
def OpenSpec.upto (s : _root_.Go.ChangeSpec) : _root_.Go.OpenSpec := { _root_.Go.OpenSpec.ofChange s with cond := some uptoSmall }

/-- 'worldmintlaw29.ProofChecks', WHERE WHAT IT READS IS OF BULK AT MOST 1048576: true; the input reads as it did. -/
def proofChecksUptoRow : OpenClaim := { program := "ytikfcpkobgejmaa", sum := "dbdad95712bcf8e274a29ffcc319ca8d1d8db66d5205961f36b6d60340fbc792", func := "worldmint/worldmintlaw29.ProofChecks", spec := "proofChecks", unfollowed := true, recurses := true, apart := false, narrowed := true }
def ProofChecksUptoSaid : Prop := proofChecksUptoRow.holds Try.pinned (OpenSpec.upto proofChecksSpec)

/-- 'worldmintlaw29.ProofRefuses', WHERE WHAT IT READS IS OF BULK AT MOST 1048576: true; the input reads as it did. -/
def proofRefusesUptoRow : OpenClaim := { program := "ytikfcpkobgejmaa", sum := "dbdad95712bcf8e274a29ffcc319ca8d1d8db66d5205961f36b6d60340fbc792", func := "worldmint/worldmintlaw29.ProofRefuses", spec := "proofRefuses", unfollowed := true, recurses := true, apart := false, narrowed := true }
def ProofRefusesUptoSaid : Prop := proofRefusesUptoRow.holds Try.pinned (OpenSpec.upto proofRefusesSpec)

/-- 'worldmintlaw29.ProofLeaf', WHERE WHAT IT READS IS OF BULK AT MOST 1048576: true; the input reads as it did. -/
def proofLeafUptoRow : OpenClaim := { program := "ytikfcpkobgejmaa", sum := "dbdad95712bcf8e274a29ffcc319ca8d1d8db66d5205961f36b6d60340fbc792", func := "worldmint/worldmintlaw29.ProofLeaf", spec := "proofLeaf", unfollowed := true, recurses := true, apart := false, narrowed := true }
def ProofLeafUptoSaid : Prop := proofLeafUptoRow.holds Try.pinned (OpenSpec.upto proofLeafSpec)

/-- 'worldmintlaw29.ProofMakes', WHERE WHAT IT READS IS OF BULK AT MOST 1048576: true; the input reads as it did. -/
def proofMakesUptoRow : OpenClaim := { program := "ytikfcpkobgejmaa", sum := "dbdad95712bcf8e274a29ffcc319ca8d1d8db66d5205961f36b6d60340fbc792", func := "worldmint/worldmintlaw29.ProofMakes", spec := "proofMakes", unfollowed := true, recurses := true, apart := false, narrowed := true }
def ProofMakesUptoSaid : Prop := proofMakesUptoRow.holds Try.pinned (OpenSpec.upto proofMakesSpec)

/-- 'worldmintlaw29.ProofSound', WHERE WHAT IT READS IS OF BULK AT MOST 1048576: true; the input reads as it did. -/
def proofSoundUptoRow : OpenClaim := { program := "ytikfcpkobgejmaa", sum := "dbdad95712bcf8e274a29ffcc319ca8d1d8db66d5205961f36b6d60340fbc792", func := "worldmint/worldmintlaw29.ProofSound", spec := "proofSound", unfollowed := true, recurses := true, apart := false, narrowed := true }
def ProofSoundUptoSaid : Prop := proofSoundUptoRow.holds Try.pinned (OpenSpec.upto proofSoundSpec)

/-- 'worldmintlaw29.ProofLower', WHERE WHAT IT READS IS OF BULK AT MOST 1048576: true; the input reads as it did. -/
def proofLowerUptoRow : OpenClaim := { program := "ytikfcpkobgejmaa", sum := "dbdad95712bcf8e274a29ffcc319ca8d1d8db66d5205961f36b6d60340fbc792", func := "worldmint/worldmintlaw29.ProofLower", spec := "proofLower", unfollowed := true, recurses := true, apart := false, narrowed := true }
def ProofLowerUptoSaid : Prop := proofLowerUptoRow.holds Try.pinned (OpenSpec.upto proofLowerSpec)

/-- 'worldmintlaw29.ProofEncoding', WHERE WHAT IT READS IS OF BULK AT MOST 1048576: true; the input reads as it did. -/
def proofEncodingUptoRow : OpenClaim := { program := "ytikfcpkobgejmaa", sum := "dbdad95712bcf8e274a29ffcc319ca8d1d8db66d5205961f36b6d60340fbc792", func := "worldmint/worldmintlaw29.ProofEncoding", spec := "proofEncoding", unfollowed := true, recurses := true, apart := false, narrowed := true }
def ProofEncodingUptoSaid : Prop := proofEncodingUptoRow.holds Try.pinned (OpenSpec.upto proofEncodingSpec)

end Rows
end Go.Proofs.Ytikfcpkobgejmaa
