/-
  Chapter 27: PortsBack, what it stands on. Own work; nothing here is trusted.
-/
import Derived.Test.YtgegagndihffpaaCh27Stay3
namespace Go.Proofs.Ytgegagndihffpaa
open Go Go.Sx Go.RowKit
set_option maxRecDepth 1000000
set_option maxHeartbeats 8000000
set_option linter.unusedVariables false
noncomputable section
def sfR : SpecT C27 := addS 14 (seeS bytT) noSp
theorem sfR_ok : SpecTOk Try.prog sfR := addS_ok (seeS_ok bytT_ok) noSp_ok
abbrev fR (f : Bool) (b : List Int) := fnC C27 Try.prog sfR noLs (fun _ _ => 20) 10 16 [.h 0] [.sl false f 5 b]
end
end Go.Proofs.Ytgegagndihffpaa
