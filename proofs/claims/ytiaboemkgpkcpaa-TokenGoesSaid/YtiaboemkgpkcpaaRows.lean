/-
  No cell of these rows narrows 'for every input' (looked for: loops, veiled, ifaces, maps, wideKeys, modest, calm, conditions, laid).
  DERIVED. THE GIVEN ROWS OF THIS SEAT. 3 by the template 'for every input the law returns true; each argument reads behind the call as it read before'; 0 by the template 'total and deterministic' (their statements: YtiaboemkgpkcpaaTotals.lean).
  GIVEN WITH THE SEED: the statements are not yours to turn. If you find one false, say at which input.
  Laid BY PROGRAM, IN A SANDBOX (cutbox-rows.mjs): the forced cells as the released guide's own fill.sh prints them over the translation cc9725260f6133d0… (all of the seat's roots in one cut). By AI agents, Wed Nov 11 2026. No macro, syntax, notation, axiom, sorry.
-/
import Derived.Test.YtiaboemkgpkcpaaChecked
import GoSem.Claim
import GoSem.ClaimJoined
import GoSem.ClaimMapViews
import Derived.JoinedTies
import Derived.KernelRfl
namespace Go.Proofs.Ytiaboemkgpkcpaa
/- THE CELL 'sum', in the pinned program and in every row, IS THE sha256 OF THE DUMP (.gsa) THAT YtiaboemkgpkcpaaProg.lean LOADS. Nothing in Lean hashes anything: it is a label: what it is worth is what the hold of that sum in a sandbox is worth. -/
noncomputable def Try.pinned : Pinned := { name := "ytiaboemkgpkcpaa", sum := "cc9725260f6133d0a994a481e180482e39c6339b17e182218de8e4d5038d40bc", checked := Try.checked }
namespace Rows
def none {H : Type} : Left H := { results := [], args := [] }

/-- 'dumbwaiterlaw11.TokenGoes': WHATEVER THE INPUT: true; the input reads as it did. -/
def tokenGoesSpec : ChangeSpec := { name := "tokenGoes", fn := fun _ => fun
  | [d] => { results := [.lit (.bool true)], args := [d] }
  | _ => none }
def tokenGoesRow : OpenClaim := { program := "ytiaboemkgpkcpaa", sum := "cc9725260f6133d0a994a481e180482e39c6339b17e182218de8e4d5038d40bc", func := "dumbwaiter/dumbwaiterlaw11.TokenGoes", spec := "tokenGoes", inPlace := ["slices.overlaps[dumbwaiter/api.Tok]"], unfollowed := true, recurses := true, plainKeys := false, apart := false }
def TokenGoesSaid : Prop := tokenGoesRow.holds Try.pinned (OpenSpec.ofChange tokenGoesSpec)

/-- ITS FALSE NEIGHBOUR: 'it returns false'. Refute it at one input. -/
def tokenGoesWrong : ChangeSpec := { name := "tokenGoes", fn := fun _ => fun
  | [d] => { results := [.lit (.bool false)], args := [d] }
  | _ => none }
def TokenGoesWrongFalsely : Prop := tokenGoesRow.holds Try.pinned (OpenSpec.ofChange tokenGoesWrong)

/-- 'dumbwaiterlaw11.TokenApart': WHATEVER THE INPUT: true; the input reads as it did. -/
def tokenApartSpec : ChangeSpec := { name := "tokenApart", fn := fun _ => fun
  | [d1, d2] => { results := [.lit (.bool true)], args := [d1, d2] }
  | _ => none }
def tokenApartRow : OpenClaim := { program := "ytiaboemkgpkcpaa", sum := "cc9725260f6133d0a994a481e180482e39c6339b17e182218de8e4d5038d40bc", func := "dumbwaiter/dumbwaiterlaw11.TokenApart", spec := "tokenApart", inPlace := ["slices.overlaps[dumbwaiter/api.Tok]"], unfollowed := true, recurses := true, plainKeys := false, apart := false }
def TokenApartSaid : Prop := tokenApartRow.holds Try.pinned (OpenSpec.ofChange tokenApartSpec)

/-- ITS FALSE NEIGHBOUR: 'it returns false'. Refute it at one input. -/
def tokenApartWrong : ChangeSpec := { name := "tokenApart", fn := fun _ => fun
  | [d1, d2] => { results := [.lit (.bool false)], args := [d1, d2] }
  | _ => none }
def TokenApartWrongFalsely : Prop := tokenApartRow.holds Try.pinned (OpenSpec.ofChange tokenApartWrong)

/-- 'dumbwaiterlaw11.TokenNames': WHATEVER THE INPUT: true; the input reads as it did. -/
def tokenNamesSpec : ChangeSpec := { name := "tokenNames", fn := fun _ => fun
  | [] => { results := [.lit (.bool true)], args := [] }
  | _ => none }
def tokenNamesRow : OpenClaim := { program := "ytiaboemkgpkcpaa", sum := "cc9725260f6133d0a994a481e180482e39c6339b17e182218de8e4d5038d40bc", func := "dumbwaiter/dumbwaiterlaw11.TokenNames", spec := "tokenNames", inPlace := ["slices.overlaps[dumbwaiter/api.Tok]"], unfollowed := true, recurses := true, plainKeys := false, apart := false }
def TokenNamesSaid : Prop := tokenNamesRow.holds Try.pinned (OpenSpec.ofChange tokenNamesSpec)

/-- ITS FALSE NEIGHBOUR: 'it returns false'. Refute it at one input. -/
def tokenNamesWrong : ChangeSpec := { name := "tokenNames", fn := fun _ => fun
  | [] => { results := [.lit (.bool false)], args := [] }
  | _ => none }
def TokenNamesWrongFalsely : Prop := tokenNamesRow.holds Try.pinned (OpenSpec.ofChange tokenNamesWrong)

/- THE SECOND FORM. 'bulk': how many values and letters a reading holds, each counted each time it is reached (what is shared counts as often as it is met; a slice's spare places count too). A statement '..UptoSaid' is the law's where the arguments, and the package variables that the reading takes, are together of bulk at most 1048576: NARROWER than '..Said'. Prove '..Said' where nothing that the law and all that it calls make is longer than what came in: it says more and counts as full. Else prove '..UptoSaid'. A law counts once. -/
mutual
def uptoBulk {H : Type} : DataW H → Nat
  | .lit (.string bytes) => bytes.length + 1
  | .lit _ => 1
  | .nil => 1
  | .ptr d => uptoBulk d + 1
  | .slice elems spare => uptoBulkAll elems + uptoBulkAll spare + 1
  | .agg parts => uptoBulkAll parts + 1
  | .iface _ d => uptoBulk d + 1
  | .map entries => uptoBulkEntries entries + 1
  | .held _ => 1
def uptoBulkAll {H : Type} : List (DataW H) → Nat
  | [] => 0
  | d :: r => uptoBulk d + uptoBulkAll r
def uptoBulkEntries {H : Type} : List (Lit × DataW H) → Nat
  | [] => 0
  | x :: r => uptoBulkEntry x + uptoBulkEntries r
def uptoBulkEntry {H : Type} : Lit × DataW H → Nat
  | (.string bytes, d) => bytes.length + uptoBulk d + 1
  | (_, d) => uptoBulk d + 1
 end
def uptoSmall : (H : Type) → List (DataW H) → Bool := fun _ ds => decide (uptoBulkAll ds ≤ 1048576)
def OpenSpec.upto (s : _root_.Go.ChangeSpec) : _root_.Go.OpenSpec := { _root_.Go.OpenSpec.ofChange s with cond := some uptoSmall }

/-- 'dumbwaiterlaw11.TokenGoes', WHERE WHAT IT READS IS OF BULK AT MOST 1048576: true; the input reads as it did. -/
def tokenGoesUptoRow : OpenClaim := { program := "ytiaboemkgpkcpaa", sum := "cc9725260f6133d0a994a481e180482e39c6339b17e182218de8e4d5038d40bc", func := "dumbwaiter/dumbwaiterlaw11.TokenGoes", spec := "tokenGoes", inPlace := ["slices.overlaps[dumbwaiter/api.Tok]"], unfollowed := true, recurses := true, plainKeys := false, apart := false, narrowed := true }
def TokenGoesUptoSaid : Prop := tokenGoesUptoRow.holds Try.pinned (OpenSpec.upto tokenGoesSpec)

/-- 'dumbwaiterlaw11.TokenApart', WHERE WHAT IT READS IS OF BULK AT MOST 1048576: true; the input reads as it did. -/
def tokenApartUptoRow : OpenClaim := { program := "ytiaboemkgpkcpaa", sum := "cc9725260f6133d0a994a481e180482e39c6339b17e182218de8e4d5038d40bc", func := "dumbwaiter/dumbwaiterlaw11.TokenApart", spec := "tokenApart", inPlace := ["slices.overlaps[dumbwaiter/api.Tok]"], unfollowed := true, recurses := true, plainKeys := false, apart := false, narrowed := true }
def TokenApartUptoSaid : Prop := tokenApartUptoRow.holds Try.pinned (OpenSpec.upto tokenApartSpec)

/-- 'dumbwaiterlaw11.TokenNames', WHERE WHAT IT READS IS OF BULK AT MOST 1048576: true; the input reads as it did. -/
def tokenNamesUptoRow : OpenClaim := { program := "ytiaboemkgpkcpaa", sum := "cc9725260f6133d0a994a481e180482e39c6339b17e182218de8e4d5038d40bc", func := "dumbwaiter/dumbwaiterlaw11.TokenNames", spec := "tokenNames", inPlace := ["slices.overlaps[dumbwaiter/api.Tok]"], unfollowed := true, recurses := true, plainKeys := false, apart := false, narrowed := true }
def TokenNamesUptoSaid : Prop := tokenNamesUptoRow.holds Try.pinned (OpenSpec.upto tokenNamesSpec)

end Rows
end Go.Proofs.Ytiaboemkgpkcpaa
