/-
  No cell of these rows narrows 'for every input' (looked for: loops, veiled, ifaces, maps, wideKeys, modest, calm, conditions, laid).
  DERIVED. THE GIVEN ROWS OF THIS SEAT. 7 by the template 'for every input the law returns true; each argument reads behind the call as it read before'; 0 by the template 'total and deterministic' (their statements: YtedhjmfobbmpoaaTotals.lean).
  GIVEN WITH THE SEED: the statements are not yours to turn. If you find one false, say at which input.
  Laid BY PROGRAM, IN A SANDBOX (cutbox-rows.mjs): the forced cells as the released guide's own fill.sh prints them over the translation 8840afad4c3db542… (all of the seat's roots in one cut). By AI agents, Wed Nov 11 2026. No macro, syntax, notation, axiom, sorry.
-/
import Derived.Test.YtedhjmfobbmpoaaChecked
import GoSem.Claim
import GoSem.ClaimJoined
import GoSem.ClaimMapViews
import Derived.JoinedTies
import Derived.KernelRfl
namespace Go.Proofs.Ytedhjmfobbmpoaa
/- THE CELL 'sum', in the pinned program and in every row, IS THE sha256 OF THE DUMP (.gsa) THAT YtedhjmfobbmpoaaProg.lean LOADS. Nothing in Lean hashes anything: it is a label: what it is worth is what the hold of that sum in a sandbox is worth. -/
noncomputable def Try.pinned : Pinned := { name := "ytedhjmfobbmpoaa", sum := "8840afad4c3db5421f5b9681db6b9e4a0be1db4b01ae9c5243ee09566bc1e54a", checked := Try.checked }
namespace Rows
def none {H : Type} : Left H := { results := [], args := [] }

/-- 'dumbwaiterlaw01.SerialNeeds': WHATEVER THE INPUT: true; the input reads as it did. -/
def serialNeedsSpec : ChangeSpec := { name := "serialNeeds", fn := fun _ => fun
  | [d1, d2, d3] => { results := [.lit (.bool true)], args := [d1, d2, d3] }
  | _ => none }
def serialNeedsRow : OpenClaim := { program := "ytedhjmfobbmpoaa", sum := "8840afad4c3db5421f5b9681db6b9e4a0be1db4b01ae9c5243ee09566bc1e54a", func := "dumbwaiter/dumbwaiterlaw01.SerialNeeds", spec := "serialNeeds", apart := false }
def SerialNeedsSaid : Prop := serialNeedsRow.holds Try.pinned (OpenSpec.ofChange serialNeedsSpec)

/-- ITS FALSE NEIGHBOUR: 'it returns false'. Refute it at one input. -/
def serialNeedsWrong : ChangeSpec := { name := "serialNeeds", fn := fun _ => fun
  | [d1, d2, d3] => { results := [.lit (.bool false)], args := [d1, d2, d3] }
  | _ => none }
def SerialNeedsWrongFalsely : Prop := serialNeedsRow.holds Try.pinned (OpenSpec.ofChange serialNeedsWrong)

/-- 'dumbwaiterlaw01.SerialSeen': WHATEVER THE INPUT: true; the input reads as it did. -/
def serialSeenSpec : ChangeSpec := { name := "serialSeen", fn := fun _ => fun
  | [d1, d2, d3, d4, d5] => { results := [.lit (.bool true)], args := [d1, d2, d3, d4, d5] }
  | _ => none }
def serialSeenRow : OpenClaim := { program := "ytedhjmfobbmpoaa", sum := "8840afad4c3db5421f5b9681db6b9e4a0be1db4b01ae9c5243ee09566bc1e54a", func := "dumbwaiter/dumbwaiterlaw01.SerialSeen", spec := "serialSeen", apart := false }
def SerialSeenSaid : Prop := serialSeenRow.holds Try.pinned (OpenSpec.ofChange serialSeenSpec)

/-- ITS FALSE NEIGHBOUR: 'it returns false'. Refute it at one input. -/
def serialSeenWrong : ChangeSpec := { name := "serialSeen", fn := fun _ => fun
  | [d1, d2, d3, d4, d5] => { results := [.lit (.bool false)], args := [d1, d2, d3, d4, d5] }
  | _ => none }
def SerialSeenWrongFalsely : Prop := serialSeenRow.holds Try.pinned (OpenSpec.ofChange serialSeenWrong)

/-- 'dumbwaiterlaw01.SerialAligns': WHATEVER THE INPUT: true; the input reads as it did. -/
def serialAlignsSpec : ChangeSpec := { name := "serialAligns", fn := fun _ => fun
  | [d1, d2, d3] => { results := [.lit (.bool true)], args := [d1, d2, d3] }
  | _ => none }
def serialAlignsRow : OpenClaim := { program := "ytedhjmfobbmpoaa", sum := "8840afad4c3db5421f5b9681db6b9e4a0be1db4b01ae9c5243ee09566bc1e54a", func := "dumbwaiter/dumbwaiterlaw01.SerialAligns", spec := "serialAligns", apart := false }
def SerialAlignsSaid : Prop := serialAlignsRow.holds Try.pinned (OpenSpec.ofChange serialAlignsSpec)

/-- ITS FALSE NEIGHBOUR: 'it returns false'. Refute it at one input. -/
def serialAlignsWrong : ChangeSpec := { name := "serialAligns", fn := fun _ => fun
  | [d1, d2, d3] => { results := [.lit (.bool false)], args := [d1, d2, d3] }
  | _ => none }
def SerialAlignsWrongFalsely : Prop := serialAlignsRow.holds Try.pinned (OpenSpec.ofChange serialAlignsWrong)

/-- 'dumbwaiterlaw01.SerialRounds': WHATEVER THE INPUT: true; the input reads as it did. -/
def serialRoundsSpec : ChangeSpec := { name := "serialRounds", fn := fun _ => fun
  | [d] => { results := [.lit (.bool true)], args := [d] }
  | _ => none }
def serialRoundsRow : OpenClaim := { program := "ytedhjmfobbmpoaa", sum := "8840afad4c3db5421f5b9681db6b9e4a0be1db4b01ae9c5243ee09566bc1e54a", func := "dumbwaiter/dumbwaiterlaw01.SerialRounds", spec := "serialRounds", apart := false }
def SerialRoundsSaid : Prop := serialRoundsRow.holds Try.pinned (OpenSpec.ofChange serialRoundsSpec)

/-- ITS FALSE NEIGHBOUR: 'it returns false'. Refute it at one input. -/
def serialRoundsWrong : ChangeSpec := { name := "serialRounds", fn := fun _ => fun
  | [d] => { results := [.lit (.bool false)], args := [d] }
  | _ => none }
def SerialRoundsWrongFalsely : Prop := serialRoundsRow.holds Try.pinned (OpenSpec.ofChange serialRoundsWrong)

/-- 'dumbwaiterlaw01.SerialNames': WHATEVER THE INPUT: true; the input reads as it did. -/
def serialNamesSpec : ChangeSpec := { name := "serialNames", fn := fun _ => fun
  | [] => { results := [.lit (.bool true)], args := [] }
  | _ => none }
def serialNamesRow : OpenClaim := { program := "ytedhjmfobbmpoaa", sum := "8840afad4c3db5421f5b9681db6b9e4a0be1db4b01ae9c5243ee09566bc1e54a", func := "dumbwaiter/dumbwaiterlaw01.SerialNames", spec := "serialNames", apart := false }
def SerialNamesSaid : Prop := serialNamesRow.holds Try.pinned (OpenSpec.ofChange serialNamesSpec)

/-- ITS FALSE NEIGHBOUR: 'it returns false'. Refute it at one input. -/
def serialNamesWrong : ChangeSpec := { name := "serialNames", fn := fun _ => fun
  | [] => { results := [.lit (.bool false)], args := [] }
  | _ => none }
def SerialNamesWrongFalsely : Prop := serialNamesRow.holds Try.pinned (OpenSpec.ofChange serialNamesWrong)

/-- 'dumbwaiterlaw01.SerialGoes': WHATEVER THE INPUT: true; the input reads as it did. -/
def serialGoesSpec : ChangeSpec := { name := "serialGoes", fn := fun _ => fun
  | [d1, d2, d3, d4] => { results := [.lit (.bool true)], args := [d1, d2, d3, d4] }
  | _ => none }
def serialGoesRow : OpenClaim := { program := "ytedhjmfobbmpoaa", sum := "8840afad4c3db5421f5b9681db6b9e4a0be1db4b01ae9c5243ee09566bc1e54a", func := "dumbwaiter/dumbwaiterlaw01.SerialGoes", spec := "serialGoes", apart := false }
def SerialGoesSaid : Prop := serialGoesRow.holds Try.pinned (OpenSpec.ofChange serialGoesSpec)

/-- ITS FALSE NEIGHBOUR: 'it returns false'. Refute it at one input. -/
def serialGoesWrong : ChangeSpec := { name := "serialGoes", fn := fun _ => fun
  | [d1, d2, d3, d4] => { results := [.lit (.bool false)], args := [d1, d2, d3, d4] }
  | _ => none }
def SerialGoesWrongFalsely : Prop := serialGoesRow.holds Try.pinned (OpenSpec.ofChange serialGoesWrong)

/-- 'dumbwaiterlaw01.SerialCalls': WHATEVER THE INPUT: true; the input reads as it did. -/
def serialCallsSpec : ChangeSpec := { name := "serialCalls", fn := fun _ => fun
  | [d1, d2, d3, d4, d5, d6, d7, d8, d9] => { results := [.lit (.bool true)], args := [d1, d2, d3, d4, d5, d6, d7, d8, d9] }
  | _ => none }
def serialCallsRow : OpenClaim := { program := "ytedhjmfobbmpoaa", sum := "8840afad4c3db5421f5b9681db6b9e4a0be1db4b01ae9c5243ee09566bc1e54a", func := "dumbwaiter/dumbwaiterlaw01.SerialCalls", spec := "serialCalls", apart := false }
def SerialCallsSaid : Prop := serialCallsRow.holds Try.pinned (OpenSpec.ofChange serialCallsSpec)

/-- ITS FALSE NEIGHBOUR: 'it returns false'. Refute it at one input. -/
def serialCallsWrong : ChangeSpec := { name := "serialCalls", fn := fun _ => fun
  | [d1, d2, d3, d4, d5, d6, d7, d8, d9] => { results := [.lit (.bool false)], args := [d1, d2, d3, d4, d5, d6, d7, d8, d9] }
  | _ => none }
def SerialCallsWrongFalsely : Prop := serialCallsRow.holds Try.pinned (OpenSpec.ofChange serialCallsWrong)

/- THE SECOND FORM. 'bulk': how many values and letters a reading holds, each counted each time it is reached (what is shared counts as often as it is met; a slice's spare places count too). A statement '..UptoSaid' is the law's where the arguments, and the package variables that the reading takes, are together of bulk at most 1048576: NARROWER than '..Said'. Prove '..Said' where nothing that the law and all that it calls make is longer than what came in: it says more and counts as full. Else prove '..UptoSaid'. A law counts once. -/
mutual
def uptoBulk {H : Type} : DataW H → Nat
  | .lit (.string bytes) => bytes.length + 1
  | .lit _ => 1
  | .nil => 1
  | .ptr d => uptoBulk d + 1
  | .slice elems spare => uptoBulkAll elems + uptoBulkAll spare + 1
  | .agg parts => uptoBulkAll parts + 1
  | .iface _ d => uptoBulk d + 1
  | .map entries => uptoBulkEntries entries + 1
  | .held _ => 1
def uptoBulkAll {H : Type} : List (DataW H) → Nat
  | [] => 0
  | d :: r => uptoBulk d + uptoBulkAll r
def uptoBulkEntries {H : Type} : List (Lit × DataW H) → Nat
  | [] => 0
  | x :: r => uptoBulkEntry x + uptoBulkEntries r
def uptoBulkEntry {H : Type} : Lit × DataW H → Nat
  | (.string bytes, d) => bytes.length + uptoBulk d + 1
  | (_, d) => uptoBulk d + 1
 end
def uptoSmall : (H : Type) → List (DataW H) → Bool := fun _ ds => decide (uptoBulkAll ds ≤ 1048576)
def OpenSpec.upto (s : _root_.Go.ChangeSpec) : _root_.Go.OpenSpec := { _root_.Go.OpenSpec.ofChange s with cond := some uptoSmall }

/-- 'dumbwaiterlaw01.SerialNeeds', WHERE WHAT IT READS IS OF BULK AT MOST 1048576: true; the input reads as it did. -/
def serialNeedsUptoRow : OpenClaim := { program := "ytedhjmfobbmpoaa", sum := "8840afad4c3db5421f5b9681db6b9e4a0be1db4b01ae9c5243ee09566bc1e54a", func := "dumbwaiter/dumbwaiterlaw01.SerialNeeds", spec := "serialNeeds", apart := false, narrowed := true }
def SerialNeedsUptoSaid : Prop := serialNeedsUptoRow.holds Try.pinned (OpenSpec.upto serialNeedsSpec)

/-- 'dumbwaiterlaw01.SerialSeen', WHERE WHAT IT READS IS OF BULK AT MOST 1048576: true; the input reads as it did. -/
def serialSeenUptoRow : OpenClaim := { program := "ytedhjmfobbmpoaa", sum := "8840afad4c3db5421f5b9681db6b9e4a0be1db4b01ae9c5243ee09566bc1e54a", func := "dumbwaiter/dumbwaiterlaw01.SerialSeen", spec := "serialSeen", apart := false, narrowed := true }
def SerialSeenUptoSaid : Prop := serialSeenUptoRow.holds Try.pinned (OpenSpec.upto serialSeenSpec)

/-- 'dumbwaiterlaw01.SerialAligns', WHERE WHAT IT READS IS OF BULK AT MOST 1048576: true; the input reads as it did. -/
def serialAlignsUptoRow : OpenClaim := { program := "ytedhjmfobbmpoaa", sum := "8840afad4c3db5421f5b9681db6b9e4a0be1db4b01ae9c5243ee09566bc1e54a", func := "dumbwaiter/dumbwaiterlaw01.SerialAligns", spec := "serialAligns", apart := false, narrowed := true }
def SerialAlignsUptoSaid : Prop := serialAlignsUptoRow.holds Try.pinned (OpenSpec.upto serialAlignsSpec)

/-- 'dumbwaiterlaw01.SerialRounds', WHERE WHAT IT READS IS OF BULK AT MOST 1048576: true; the input reads as it did. -/
def serialRoundsUptoRow : OpenClaim := { program := "ytedhjmfobbmpoaa", sum := "8840afad4c3db5421f5b9681db6b9e4a0be1db4b01ae9c5243ee09566bc1e54a", func := "dumbwaiter/dumbwaiterlaw01.SerialRounds", spec := "serialRounds", apart := false, narrowed := true }
def SerialRoundsUptoSaid : Prop := serialRoundsUptoRow.holds Try.pinned (OpenSpec.upto serialRoundsSpec)

/-- 'dumbwaiterlaw01.SerialNames', WHERE WHAT IT READS IS OF BULK AT MOST 1048576: true; the input reads as it did. -/
def serialNamesUptoRow : OpenClaim := { program := "ytedhjmfobbmpoaa", sum := "8840afad4c3db5421f5b9681db6b9e4a0be1db4b01ae9c5243ee09566bc1e54a", func := "dumbwaiter/dumbwaiterlaw01.SerialNames", spec := "serialNames", apart := false, narrowed := true }
def SerialNamesUptoSaid : Prop := serialNamesUptoRow.holds Try.pinned (OpenSpec.upto serialNamesSpec)

/-- 'dumbwaiterlaw01.SerialGoes', WHERE WHAT IT READS IS OF BULK AT MOST 1048576: true; the input reads as it did. -/
def serialGoesUptoRow : OpenClaim := { program := "ytedhjmfobbmpoaa", sum := "8840afad4c3db5421f5b9681db6b9e4a0be1db4b01ae9c5243ee09566bc1e54a", func := "dumbwaiter/dumbwaiterlaw01.SerialGoes", spec := "serialGoes", apart := false, narrowed := true }
def SerialGoesUptoSaid : Prop := serialGoesUptoRow.holds Try.pinned (OpenSpec.upto serialGoesSpec)

/-- 'dumbwaiterlaw01.SerialCalls', WHERE WHAT IT READS IS OF BULK AT MOST 1048576: true; the input reads as it did. -/
def serialCallsUptoRow : OpenClaim := { program := "ytedhjmfobbmpoaa", sum := "8840afad4c3db5421f5b9681db6b9e4a0be1db4b01ae9c5243ee09566bc1e54a", func := "dumbwaiter/dumbwaiterlaw01.SerialCalls", spec := "serialCalls", apart := false, narrowed := true }
def SerialCallsUptoSaid : Prop := serialCallsUptoRow.holds Try.pinned (OpenSpec.upto serialCallsSpec)

end Rows
end Go.Proofs.Ytedhjmfobbmpoaa
