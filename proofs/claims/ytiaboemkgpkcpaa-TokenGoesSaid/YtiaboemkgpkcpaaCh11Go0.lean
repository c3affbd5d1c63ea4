/-
  Chapter 11: TokenGoes, states of its loop over events. Own work; nothing here is trusted.
-/
import Derived.Test.YtiaboemkgpkcpaaCh11RngF
namespace Go.Proofs.Ytiaboemkgpkcpaa
open Go Go.Sx Go.RowKit
set_option maxRecDepth 1000000
set_option maxHeartbeats 8000000
set_option linter.unusedVariables false
set_option linter.unusedSimpArgs false
noncomputable section
abbrev lSl : List Nat := [0, 2, 5, 6, 7, 8, 9, 3]
@[reducible] def lSt (v : Lo Tk) (M W : List (Int × Int)) (e n i : Int) : List SV × List (SO C11) := ([hS v 0, .raw (.bool false), .raw (.int .i64 e), .raw (.int .i64 n), .h (nx v 0), .h (nx v 0 + 1), .raw (.int .i64 i), .h (nx v 0 + 2)], obE v ++ [.mp .i64 3 M, .mp .i64 32 W, .gone])
abbrev lR (v : Lo Tk) (M W : List (Int × Int)) (e n i : Int) := roundG C11 Try.prog noSp noLs (fun _ _ => 20) 10 3 0 lSl ⟨(lSt v M W e n i).1, nx v 0 + 3, (lSt v M W e n i).2⟩
end
end Go.Proofs.Ytiaboemkgpkcpaa
