/-
  Chapter 27: the guard of acts, states. Own work; nothing here is trusted.
-/
import Derived.Test.YtgegagndihffpaaCh27Stay2
namespace Go.Proofs.Ytgegagndihffpaa
open Go Go.Sx Go.RowKit
set_option maxRecDepth 1000000
set_option maxHeartbeats 8000000
set_option linter.unusedVariables false
set_option linter.unusedSimpArgs false
noncomputable section

abbrev gSlots : List Nat := [0, 3, 2]
abbrev gSt (o : Bool) (f : Bool) (ls : List Ac) (K : Int) (R : Bool) : List SV × List (SO C27) := ([.h 0, .raw (.int .i64 K), .raw (.bool R)], [.sl o f 40 ls])
abbrev gRound (o : Bool) (f : Bool) (ls : List Ac) (K : Int) := roundG C27 Try.prog noSp noLs (fun _ _ => 20) 10 9 0 gSlots ⟨(gSt o f ls K false).1, 1, (gSt o f ls K false).2⟩
end
end Go.Proofs.Ytgegagndihffpaa
