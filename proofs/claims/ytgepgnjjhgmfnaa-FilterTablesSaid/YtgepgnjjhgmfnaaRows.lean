/-
  No cell of these rows narrows 'for every input' (looked for: loops, veiled, ifaces, maps, wideKeys, modest, calm, conditions, laid).
  DERIVED. THE GIVEN ROWS OF THIS SEAT. 6 by the template 'for every input the law returns true; each argument reads behind the call as it read before'; 0 by the template 'total and deterministic' (their statements: YtgepgnjjhgmfnaaTotals.lean).
  GIVEN WITH THE SEED: the statements are not yours to turn. If you find one false, say at which input.
  Laid BY PROGRAM, IN A SANDBOX (cutbox-rows.mjs): the forced cells as the released guide's own fill.sh prints them over the translation ce396ceb9edd4013… (all of the seat's roots in one cut). By AI agents, Wed Nov 11 2026. No macro, syntax, notation, axiom, sorry.
-/
import Derived.Test.YtgepgnjjhgmfnaaChecked
import GoSem.Claim
import GoSem.ClaimJoined
import GoSem.ClaimMapViews
import Derived.JoinedTies
import Derived.KernelRfl
namespace Go.Proofs.Ytgepgnjjhgmfnaa
/- THE CELL 'sum', in the pinned program and in every row, IS THE sha256 OF THE DUMP (.gsa) THAT YtgepgnjjhgmfnaaProg.lean LOADS. Nothing in Lean hashes anything: it is a label: what it is worth is what the hold of that sum in a sandbox is worth. -/
noncomputable def Try.pinned : Pinned := { name := "ytgepgnjjhgmfnaa", sum := "ce396ceb9edd4013d6867b14218186edfa87a81f8ab7601896f5558f956a8d94", checked := Try.checked }
namespace Rows
def none {H : Type} : Left H := { results := [], args := [] }

/-- 'dumbwaiterlaw24.FilterStays': WHATEVER THE INPUT: true; the input reads as it did. -/
def filterStaysSpec : ChangeSpec := { name := "filterStays", fn := fun _ => fun
  | [d1, d2, d3] => { results := [.lit (.bool true)], args := [d1, d2, d3] }
  | _ => none }
def filterStaysRow : OpenClaim := { program := "ytgepgnjjhgmfnaa", sum := "ce396ceb9edd4013d6867b14218186edfa87a81f8ab7601896f5558f956a8d94", func := "dumbwaiter/dumbwaiterlaw24.FilterStays", spec := "filterStays", inPlace := ["slices.overlaps[int]"], unfollowed := true, recurses := true, apart := false }
def FilterStaysSaid : Prop := filterStaysRow.holds Try.pinned (OpenSpec.ofChange filterStaysSpec)

/-- ITS FALSE NEIGHBOUR: 'it returns false'. Refute it at one input. -/
def filterStaysWrong : ChangeSpec := { name := "filterStays", fn := fun _ => fun
  | [d1, d2, d3] => { results := [.lit (.bool false)], args := [d1, d2, d3] }
  | _ => none }
def FilterStaysWrongFalsely : Prop := filterStaysRow.holds Try.pinned (OpenSpec.ofChange filterStaysWrong)

/-- 'dumbwaiterlaw24.FilterPasses': WHATEVER THE INPUT: true; the input reads as it did. -/
def filterPassesSpec : ChangeSpec := { name := "filterPasses", fn := fun _ => fun
  | [d1, d2, d3, d4, d5] => { results := [.lit (.bool true)], args := [d1, d2, d3, d4, d5] }
  | _ => none }
def filterPassesRow : OpenClaim := { program := "ytgepgnjjhgmfnaa", sum := "ce396ceb9edd4013d6867b14218186edfa87a81f8ab7601896f5558f956a8d94", func := "dumbwaiter/dumbwaiterlaw24.FilterPasses", spec := "filterPasses", inPlace := ["slices.overlaps[int]"], unfollowed := true, recurses := true, apart := false }
def FilterPassesSaid : Prop := filterPassesRow.holds Try.pinned (OpenSpec.ofChange filterPassesSpec)

/-- ITS FALSE NEIGHBOUR: 'it returns false'. Refute it at one input. -/
def filterPassesWrong : ChangeSpec := { name := "filterPasses", fn := fun _ => fun
  | [d1, d2, d3, d4, d5] => { results := [.lit (.bool false)], args := [d1, d2, d3, d4, d5] }
  | _ => none }
def FilterPassesWrongFalsely : Prop := filterPassesRow.holds Try.pinned (OpenSpec.ofChange filterPassesWrong)

/-- 'dumbwaiterlaw24.FilterNames': WHATEVER THE INPUT: true; the input reads as it did. -/
def filterNamesSpec : ChangeSpec := { name := "filterNames", fn := fun _ => fun
  | [] => { results := [.lit (.bool true)], args := [] }
  | _ => none }
def filterNamesRow : OpenClaim := { program := "ytgepgnjjhgmfnaa", sum := "ce396ceb9edd4013d6867b14218186edfa87a81f8ab7601896f5558f956a8d94", func := "dumbwaiter/dumbwaiterlaw24.FilterNames", spec := "filterNames", inPlace := ["slices.overlaps[int]"], unfollowed := true, recurses := true, apart := false }
def FilterNamesSaid : Prop := filterNamesRow.holds Try.pinned (OpenSpec.ofChange filterNamesSpec)

/-- ITS FALSE NEIGHBOUR: 'it returns false'. Refute it at one input. -/
def filterNamesWrong : ChangeSpec := { name := "filterNames", fn := fun _ => fun
  | [] => { results := [.lit (.bool false)], args := [] }
  | _ => none }
def FilterNamesWrongFalsely : Prop := filterNamesRow.holds Try.pinned (OpenSpec.ofChange filterNamesWrong)

/-- 'dumbwaiterlaw24.FilterTables': WHATEVER THE INPUT: true; the input reads as it did. -/
def filterTablesSpec : ChangeSpec := { name := "filterTables", fn := fun _ => fun
  | [d1, d2] => { results := [.lit (.bool true)], args := [d1, d2] }
  | _ => none }
def filterTablesRow : OpenClaim := { program := "ytgepgnjjhgmfnaa", sum := "ce396ceb9edd4013d6867b14218186edfa87a81f8ab7601896f5558f956a8d94", func := "dumbwaiter/dumbwaiterlaw24.FilterTables", spec := "filterTables", inPlace := ["slices.overlaps[int]"], unfollowed := true, recurses := true, apart := false }
def FilterTablesSaid : Prop := filterTablesRow.holds Try.pinned (OpenSpec.ofChange filterTablesSpec)

/-- ITS FALSE NEIGHBOUR: 'it returns false'. Refute it at one input. -/
def filterTablesWrong : ChangeSpec := { name := "filterTables", fn := fun _ => fun
  | [d1, d2] => { results := [.lit (.bool false)], args := [d1, d2] }
  | _ => none }
def FilterTablesWrongFalsely : Prop := filterTablesRow.holds Try.pinned (OpenSpec.ofChange filterTablesWrong)

/-- 'dumbwaiterlaw24.FilterVlans': WHATEVER THE INPUT: true; the input reads as it did. -/
def filterVlansSpec : ChangeSpec := { name := "filterVlans", fn := fun _ => fun
  | [d1, d2, d3, d4] => { results := [.lit (.bool true)], args := [d1, d2, d3, d4] }
  | _ => none }
def filterVlansRow : OpenClaim := { program := "ytgepgnjjhgmfnaa", sum := "ce396ceb9edd4013d6867b14218186edfa87a81f8ab7601896f5558f956a8d94", func := "dumbwaiter/dumbwaiterlaw24.FilterVlans", spec := "filterVlans", inPlace := ["slices.overlaps[int]"], unfollowed := true, recurses := true, apart := false }
def FilterVlansSaid : Prop := filterVlansRow.holds Try.pinned (OpenSpec.ofChange filterVlansSpec)

/-- ITS FALSE NEIGHBOUR: 'it returns false'. Refute it at one input. -/
def filterVlansWrong : ChangeSpec := { name := "filterVlans", fn := fun _ => fun
  | [d1, d2, d3, d4] => { results := [.lit (.bool false)], args := [d1, d2, d3, d4] }
  | _ => none }
def FilterVlansWrongFalsely : Prop := filterVlansRow.holds Try.pinned (OpenSpec.ofChange filterVlansWrong)

/-- 'dumbwaiterlaw24.FilterCalls': WHATEVER THE INPUT: true; the input reads as it did. -/
def filterCallsSpec : ChangeSpec := { name := "filterCalls", fn := fun _ => fun
  | [d1, d2, d3, d4, d5, d6, d7] => { results := [.lit (.bool true)], args := [d1, d2, d3, d4, d5, d6, d7] }
  | _ => none }
def filterCallsRow : OpenClaim := { program := "ytgepgnjjhgmfnaa", sum := "ce396ceb9edd4013d6867b14218186edfa87a81f8ab7601896f5558f956a8d94", func := "dumbwaiter/dumbwaiterlaw24.FilterCalls", spec := "filterCalls", inPlace := ["slices.overlaps[int]"], unfollowed := true, recurses := true, apart := false }
def FilterCallsSaid : Prop := filterCallsRow.holds Try.pinned (OpenSpec.ofChange filterCallsSpec)

/-- ITS FALSE NEIGHBOUR: 'it returns false'. Refute it at one input. -/
def filterCallsWrong : ChangeSpec := { name := "filterCalls", fn := fun _ => fun
  | [d1, d2, d3, d4, d5, d6, d7] => { results := [.lit (.bool false)], args := [d1, d2, d3, d4, d5, d6, d7] }
  | _ => none }
def FilterCallsWrongFalsely : Prop := filterCallsRow.holds Try.pinned (OpenSpec.ofChange filterCallsWrong)

/- THE SECOND FORM. 'bulk': how many values and letters a reading holds, each counted each time it is reached (what is shared counts as often as it is met; a slice's spare places count too). A statement '..UptoSaid' is the law's where the arguments, and the package variables that the reading takes, are together of bulk at most 1048576: NARROWER than '..Said'. Prove '..Said' where nothing that the law and all that it calls make is longer than what came in: it says more and counts as full. Else prove '..UptoSaid'. A law counts once. -/
mutual
def uptoBulk {H : Type} : DataW H → Nat
  | .lit (.string bytes) => bytes.length + 1
  | .lit _ => 1
  | .nil => 1
  | .ptr d => uptoBulk d + 1
  | .slice elems spare => uptoBulkAll elems + uptoBulkAll spare + 1
  | .agg parts => uptoBulkAll parts + 1
  | .iface _ d => uptoBulk d + 1
  | .map entries => uptoBulkEntries entries + 1
  | .held _ => 1
def uptoBulkAll {H : Type} : List (DataW H) → Nat
  | [] => 0
  | d :: r => uptoBulk d + uptoBulkAll r
def uptoBulkEntries {H : Type} : List (Lit × DataW H) → Nat
  | [] => 0
  | x :: r => uptoBulkEntry x + uptoBulkEntries r
def uptoBulkEntry {H : Type} : Lit × DataW H → Nat
  | (.string bytes, d) => bytes.length + uptoBulk d + 1
  | (_, d) => uptoBulk d + 1
 end
def uptoSmall : (H : Type) → List (DataW H) → Bool := fun _ ds => decide (uptoBulkAll ds ≤ 1048576)
def OpenSpec.upto (s : _root_.Go.ChangeSpec) : _root_.Go.OpenSpec := { _root_.Go.OpenSpec.ofChange s with cond := some uptoSmall }

/-- 'dumbwaiterlaw24.FilterStays', WHERE WHAT IT READS IS OF BULK AT MOST 1048576: true; the input reads as it did. -/
def filterStaysUptoRow : OpenClaim := { program := "ytgepgnjjhgmfnaa", sum := "ce396ceb9edd4013d6867b14218186edfa87a81f8ab7601896f5558f956a8d94", func := "dumbwaiter/dumbwaiterlaw24.FilterStays", spec := "filterStays", inPlace := ["slices.overlaps[int]"], unfollowed := true, recurses := true, apart := false, narrowed := true }
def FilterStaysUptoSaid : Prop := filterStaysUptoRow.holds Try.pinned (OpenSpec.upto filterStaysSpec)

/-- 'dumbwaiterlaw24.FilterPasses', WHERE WHAT IT READS IS OF BULK AT MOST 1048576: true; the input reads as it did. -/
def filterPassesUptoRow : OpenClaim := { program := "ytgepgnjjhgmfnaa", sum := "ce396ceb9edd4013d6867b14218186edfa87a81f8ab7601896f5558f956a8d94", func := "dumbwaiter/dumbwaiterlaw24.FilterPasses", spec := "filterPasses", inPlace := ["slices.overlaps[int]"], unfollowed := true, recurses := true, apart := false, narrowed := true }
def FilterPassesUptoSaid : Prop := filterPassesUptoRow.holds Try.pinned (OpenSpec.upto filterPassesSpec)

/-- 'dumbwaiterlaw24.FilterNames', WHERE WHAT IT READS IS OF BULK AT MOST 1048576: true; the input reads as it did. -/
def filterNamesUptoRow : OpenClaim := { program := "ytgepgnjjhgmfnaa", sum := "ce396ceb9edd4013d6867b14218186edfa87a81f8ab7601896f5558f956a8d94", func := "dumbwaiter/dumbwaiterlaw24.FilterNames", spec := "filterNames", inPlace := ["slices.overlaps[int]"], unfollowed := true, recurses := true, apart := false, narrowed := true }
def FilterNamesUptoSaid : Prop := filterNamesUptoRow.holds Try.pinned (OpenSpec.upto filterNamesSpec)

/-- 'dumbwaiterlaw24.FilterTables', WHERE WHAT IT READS IS OF BULK AT MOST 1048576: true; the input reads as it did. -/
def filterTablesUptoRow : OpenClaim := { program := "ytgepgnjjhgmfnaa", sum := "ce396ceb9edd4013d6867b14218186edfa87a81f8ab7601896f5558f956a8d94", func := "dumbwaiter/dumbwaiterlaw24.FilterTables", spec := "filterTables", inPlace := ["slices.overlaps[int]"], unfollowed := true, recurses := true, apart := false, narrowed := true }
def FilterTablesUptoSaid : Prop := filterTablesUptoRow.holds Try.pinned (OpenSpec.upto filterTablesSpec)

/-- 'dumbwaiterlaw24.FilterVlans', WHERE WHAT IT READS IS OF BULK AT MOST 1048576: true; the input reads as it did. -/
def filterVlansUptoRow : OpenClaim := { program := "ytgepgnjjhgmfnaa", sum := "ce396ceb9edd4013d6867b14218186edfa87a81f8ab7601896f5558f956a8d94", func := "dumbwaiter/dumbwaiterlaw24.FilterVlans", spec := "filterVlans", inPlace := ["slices.overlaps[int]"], unfollowed := true, recurses := true, apart := false, narrowed := true }
def FilterVlansUptoSaid : Prop := filterVlansUptoRow.holds Try.pinned (OpenSpec.upto filterVlansSpec)

/-- 'dumbwaiterlaw24.FilterCalls', WHERE WHAT IT READS IS OF BULK AT MOST 1048576: true; the input reads as it did. -/
def filterCallsUptoRow : OpenClaim := { program := "ytgepgnjjhgmfnaa", sum := "ce396ceb9edd4013d6867b14218186edfa87a81f8ab7601896f5558f956a8d94", func := "dumbwaiter/dumbwaiterlaw24.FilterCalls", spec := "filterCalls", inPlace := ["slices.overlaps[int]"], unfollowed := true, recurses := true, apart := false, narrowed := true }
def FilterCallsUptoSaid : Prop := filterCallsUptoRow.holds Try.pinned (OpenSpec.upto filterCallsSpec)

end Rows
end Go.Proofs.Ytgepgnjjhgmfnaa
