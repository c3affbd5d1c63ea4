/-
  No cell of these rows narrows 'for every input' (looked for: loops, veiled, ifaces, maps, wideKeys, modest, calm, conditions, laid).
  DERIVED. THE GIVEN ROWS OF THIS SEAT. 5 by the template 'for every input the law returns true; each argument reads behind the call as it read before'; 0 by the template 'total and deterministic' (their statements: YtgegagndihffpaaTotals.lean).
  GIVEN WITH THE SEED: the statements are not yours to turn. If you find one false, say at which input.
  Laid BY PROGRAM, IN A SANDBOX (cutbox-rows.mjs): the forced cells as the released guide's own fill.sh prints them over the translation fd93f76c93dea648… (all of the seat's roots in one cut). By AI agents, Wed Nov 11 2026. No macro, syntax, notation, axiom, sorry.
-/
import Derived.Test.YtgegagndihffpaaChecked
import GoSem.Claim
import GoSem.ClaimJoined
import GoSem.ClaimMapViews
import Derived.JoinedTies
import Derived.KernelRfl
namespace Go.Proofs.Ytgegagndihffpaa
/- THE CELL 'sum', in the pinned program and in every row, IS THE sha256 OF THE DUMP (.gsa) THAT YtgegagndihffpaaProg.lean LOADS. Nothing in Lean hashes anything: it is a label: what it is worth is what the hold of that sum in a sandbox is worth. -/
noncomputable def Try.pinned : Pinned := { name := "ytgegagndihffpaa", sum := "fd93f76c93dea648be5f708970721eb249d7188ba41d50cbc49dc5fb42b548dc", checked := Try.checked }
namespace Rows
def none {H : Type} : Left H := { results := [], args := [] }

/-- 'dumbwaiterlaw27.PortsStay': WHATEVER THE INPUT: true; the input reads as it did. -/
def portsStaySpec : ChangeSpec := { name := "portsStay", fn := fun _ => fun
  | [d1, d2] => { results := [.lit (.bool true)], args := [d1, d2] }
  | _ => none }
def portsStayRow : OpenClaim := { program := "ytgegagndihffpaa", sum := "fd93f76c93dea648be5f708970721eb249d7188ba41d50cbc49dc5fb42b548dc", func := "dumbwaiter/dumbwaiterlaw27.PortsStay", spec := "portsStay", inPlace := ["slices.overlaps[dumbwaiter/api.Port]"], unfollowed := true, recurses := true, apart := false }
def PortsStaySaid : Prop := portsStayRow.holds Try.pinned (OpenSpec.ofChange portsStaySpec)

/-- ITS FALSE NEIGHBOUR: 'it returns false'. Refute it at one input. -/
def portsStayWrong : ChangeSpec := { name := "portsStay", fn := fun _ => fun
  | [d1, d2] => { results := [.lit (.bool false)], args := [d1, d2] }
  | _ => none }
def PortsStayWrongFalsely : Prop := portsStayRow.holds Try.pinned (OpenSpec.ofChange portsStayWrong)

/-- 'dumbwaiterlaw27.PortsBack': WHATEVER THE INPUT: true; the input reads as it did. -/
def portsBackSpec : ChangeSpec := { name := "portsBack", fn := fun _ => fun
  | [d1, d2, d3] => { results := [.lit (.bool true)], args := [d1, d2, d3] }
  | _ => none }
def portsBackRow : OpenClaim := { program := "ytgegagndihffpaa", sum := "fd93f76c93dea648be5f708970721eb249d7188ba41d50cbc49dc5fb42b548dc", func := "dumbwaiter/dumbwaiterlaw27.PortsBack", spec := "portsBack", inPlace := ["slices.overlaps[dumbwaiter/api.Port]"], unfollowed := true, recurses := true, apart := false }
def PortsBackSaid : Prop := portsBackRow.holds Try.pinned (OpenSpec.ofChange portsBackSpec)

/-- ITS FALSE NEIGHBOUR: 'it returns false'. Refute it at one input. -/
def portsBackWrong : ChangeSpec := { name := "portsBack", fn := fun _ => fun
  | [d1, d2, d3] => { results := [.lit (.bool false)], args := [d1, d2, d3] }
  | _ => none }
def PortsBackWrongFalsely : Prop := portsBackRow.holds Try.pinned (OpenSpec.ofChange portsBackWrong)

/-- 'dumbwaiterlaw27.PortsNames': WHATEVER THE INPUT: true; the input reads as it did. -/
def portsNamesSpec : ChangeSpec := { name := "portsNames", fn := fun _ => fun
  | [] => { results := [.lit (.bool true)], args := [] }
  | _ => none }
def portsNamesRow : OpenClaim := { program := "ytgegagndihffpaa", sum := "fd93f76c93dea648be5f708970721eb249d7188ba41d50cbc49dc5fb42b548dc", func := "dumbwaiter/dumbwaiterlaw27.PortsNames", spec := "portsNames", inPlace := ["slices.overlaps[dumbwaiter/api.Port]"], unfollowed := true, recurses := true, apart := false }
def PortsNamesSaid : Prop := portsNamesRow.holds Try.pinned (OpenSpec.ofChange portsNamesSpec)

/-- ITS FALSE NEIGHBOUR: 'it returns false'. Refute it at one input. -/
def portsNamesWrong : ChangeSpec := { name := "portsNames", fn := fun _ => fun
  | [] => { results := [.lit (.bool false)], args := [] }
  | _ => none }
def PortsNamesWrongFalsely : Prop := portsNamesRow.holds Try.pinned (OpenSpec.ofChange portsNamesWrong)

/-- 'dumbwaiterlaw27.PortsKnow': WHATEVER THE INPUT: true; the input reads as it did. -/
def portsKnowSpec : ChangeSpec := { name := "portsKnow", fn := fun _ => fun
  | [d1, d2, d3] => { results := [.lit (.bool true)], args := [d1, d2, d3] }
  | _ => none }
def portsKnowRow : OpenClaim := { program := "ytgegagndihffpaa", sum := "fd93f76c93dea648be5f708970721eb249d7188ba41d50cbc49dc5fb42b548dc", func := "dumbwaiter/dumbwaiterlaw27.PortsKnow", spec := "portsKnow", inPlace := ["slices.overlaps[dumbwaiter/api.Port]"], unfollowed := true, recurses := true, apart := false }
def PortsKnowSaid : Prop := portsKnowRow.holds Try.pinned (OpenSpec.ofChange portsKnowSpec)

/-- ITS FALSE NEIGHBOUR: 'it returns false'. Refute it at one input. -/
def portsKnowWrong : ChangeSpec := { name := "portsKnow", fn := fun _ => fun
  | [d1, d2, d3] => { results := [.lit (.bool false)], args := [d1, d2, d3] }
  | _ => none }
def PortsKnowWrongFalsely : Prop := portsKnowRow.holds Try.pinned (OpenSpec.ofChange portsKnowWrong)

/-- 'dumbwaiterlaw27.PortsTwice': WHATEVER THE INPUT: true; the input reads as it did. -/
def portsTwiceSpec : ChangeSpec := { name := "portsTwice", fn := fun _ => fun
  | [d1, d2, d3, d4, d5] => { results := [.lit (.bool true)], args := [d1, d2, d3, d4, d5] }
  | _ => none }
def portsTwiceRow : OpenClaim := { program := "ytgegagndihffpaa", sum := "fd93f76c93dea648be5f708970721eb249d7188ba41d50cbc49dc5fb42b548dc", func := "dumbwaiter/dumbwaiterlaw27.PortsTwice", spec := "portsTwice", inPlace := ["slices.overlaps[dumbwaiter/api.Port]"], unfollowed := true, recurses := true, apart := false }
def PortsTwiceSaid : Prop := portsTwiceRow.holds Try.pinned (OpenSpec.ofChange portsTwiceSpec)

/-- ITS FALSE NEIGHBOUR: 'it returns false'. Refute it at one input. -/
def portsTwiceWrong : ChangeSpec := { name := "portsTwice", fn := fun _ => fun
  | [d1, d2, d3, d4, d5] => { results := [.lit (.bool false)], args := [d1, d2, d3, d4, d5] }
  | _ => none }
def PortsTwiceWrongFalsely : Prop := portsTwiceRow.holds Try.pinned (OpenSpec.ofChange portsTwiceWrong)

/- THE SECOND FORM. 'bulk': how many values and letters a reading holds, each counted each time it is reached (what is shared counts as often as it is met; a slice's spare places count too). A statement '..UptoSaid' is the law's where the arguments, and the package variables that the reading takes, are together of bulk at most 1048576: NARROWER than '..Said'. Prove '..Said' where nothing that the law and all that it calls make is longer than what came in: it says more and counts as full. Else prove '..UptoSaid'. A law counts once. -/
mutual
def uptoBulk {H : Type} : DataW H → Nat
  | .lit (.string bytes) => bytes.length + 1
  | .lit _ => 1
  | .nil => 1
  | .ptr d => uptoBulk d + 1
  | .slice elems spare => uptoBulkAll elems + uptoBulkAll spare + 1
  | .agg parts => uptoBulkAll parts + 1
  | .iface _ d => uptoBulk d + 1
  | .map entries => uptoBulkEntries entries + 1
  | .held _ => 1
def uptoBulkAll {H : Type} : List (DataW H) → Nat
  | [] => 0
  | d :: r => uptoBulk d + uptoBulkAll r
def uptoBulkEntries {H : Type} : List (Lit × DataW H) → Nat
  | [] => 0
  | x :: r => uptoBulkEntry x + uptoBulkEntries r
def uptoBulkEntry {H : Type} : Lit × DataW H → Nat
  | (.string bytes, d) => bytes.length + uptoBulk d + 1
  | (_, d) => uptoBulk d + 1
 end
def uptoSmall : (H : Type) → List (DataW H) → Bool := fun _ ds => decide (uptoBulkAll ds ≤ 1048576)
def OpenSpec.upto (s : _root_.Go.ChangeSpec) : _root_.Go.OpenSpec := { _root_.Go.OpenSpec.ofChange s with cond := some uptoSmall }

/-- 'dumbwaiterlaw27.PortsStay', WHERE WHAT IT READS IS OF BULK AT MOST 1048576: true; the input reads as it did. -/
def portsStayUptoRow : OpenClaim := { program := "ytgegagndihffpaa", sum := "fd93f76c93dea648be5f708970721eb249d7188ba41d50cbc49dc5fb42b548dc", func := "dumbwaiter/dumbwaiterlaw27.PortsStay", spec := "portsStay", inPlace := ["slices.overlaps[dumbwaiter/api.Port]"], unfollowed := true, recurses := true, apart := false, narrowed := true }
def PortsStayUptoSaid : Prop := portsStayUptoRow.holds Try.pinned (OpenSpec.upto portsStaySpec)

/-- 'dumbwaiterlaw27.PortsBack', WHERE WHAT IT READS IS OF BULK AT MOST 1048576: true; the input reads as it did. -/
def portsBackUptoRow : OpenClaim := { program := "ytgegagndihffpaa", sum := "fd93f76c93dea648be5f708970721eb249d7188ba41d50cbc49dc5fb42b548dc", func := "dumbwaiter/dumbwaiterlaw27.PortsBack", spec := "portsBack", inPlace := ["slices.overlaps[dumbwaiter/api.Port]"], unfollowed := true, recurses := true, apart := false, narrowed := true }
def PortsBackUptoSaid : Prop := portsBackUptoRow.holds Try.pinned (OpenSpec.upto portsBackSpec)

/-- 'dumbwaiterlaw27.PortsNames', WHERE WHAT IT READS IS OF BULK AT MOST 1048576: true; the input reads as it did. -/
def portsNamesUptoRow : OpenClaim := { program := "ytgegagndihffpaa", sum := "fd93f76c93dea648be5f708970721eb249d7188ba41d50cbc49dc5fb42b548dc", func := "dumbwaiter/dumbwaiterlaw27.PortsNames", spec := "portsNames", inPlace := ["slices.overlaps[dumbwaiter/api.Port]"], unfollowed := true, recurses := true, apart := false, narrowed := true }
def PortsNamesUptoSaid : Prop := portsNamesUptoRow.holds Try.pinned (OpenSpec.upto portsNamesSpec)

/-- 'dumbwaiterlaw27.PortsKnow', WHERE WHAT IT READS IS OF BULK AT MOST 1048576: true; the input reads as it did. -/
def portsKnowUptoRow : OpenClaim := { program := "ytgegagndihffpaa", sum := "fd93f76c93dea648be5f708970721eb249d7188ba41d50cbc49dc5fb42b548dc", func := "dumbwaiter/dumbwaiterlaw27.PortsKnow", spec := "portsKnow", inPlace := ["slices.overlaps[dumbwaiter/api.Port]"], unfollowed := true, recurses := true, apart := false, narrowed := true }
def PortsKnowUptoSaid : Prop := portsKnowUptoRow.holds Try.pinned (OpenSpec.upto portsKnowSpec)

/-- 'dumbwaiterlaw27.PortsTwice', WHERE WHAT IT READS IS OF BULK AT MOST 1048576: true; the input reads as it did. -/
def portsTwiceUptoRow : OpenClaim := { program := "ytgegagndihffpaa", sum := "fd93f76c93dea648be5f708970721eb249d7188ba41d50cbc49dc5fb42b548dc", func := "dumbwaiter/dumbwaiterlaw27.PortsTwice", spec := "portsTwice", inPlace := ["slices.overlaps[dumbwaiter/api.Port]"], unfollowed := true, recurses := true, apart := false, narrowed := true }
def PortsTwiceUptoSaid : Prop := portsTwiceUptoRow.holds Try.pinned (OpenSpec.upto portsTwiceSpec)

end Rows
end Go.Proofs.Ytgegagndihffpaa
