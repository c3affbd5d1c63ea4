/-
  Chapter 11: All, states of its loop. Own work; nothing here is trusted.
-/
import Derived.Test.YtiaboemkgpkcpaaCh11Go1
namespace Go.Proofs.Ytiaboemkgpkcpaa
open Go Go.Sx Go.RowKit
set_option maxRecDepth 1000000
set_option maxHeartbeats 8000000
set_option linter.unusedVariables false
set_option linter.unusedSimpArgs false
noncomputable section
abbrev aSl : List Nat := [1, 15, 16, 17, 4]
@[reducible] def aA (v : Lo Tk) (s n K : Int) : List SV × List (SO C11) := ([.raw (.int .i64 s), hS v 0, .raw (.int .i64 n), .raw (.int .i64 K), .raw (.slice none 0 0)], obT v)
@[reducible] def aB (v : Lo Tk) (us : List Int) (s n K : Int) : List SV × List (SO C11) := ([.raw (.int .i64 s), hS v 0, .raw (.int .i64 n), .raw (.int .i64 K), .h (nx v 0)], obT v ++ [.sl true false 3 us])
abbrev aR (v : Lo Tk) (x : List SV × List (SO C11)) := roundG C11 Try.prog noSp noLs (fun _ _ => 20) 10 15 0 aSl ⟨x.1, nx v 0, x.2⟩
end
end Go.Proofs.Ytiaboemkgpkcpaa
