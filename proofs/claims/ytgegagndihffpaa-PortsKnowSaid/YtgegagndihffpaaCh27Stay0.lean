/-
  Chapter 27: PortsStay, what it stands on. Own work; nothing here is trusted.
-/
import Derived.Test.YtgegagndihffpaaCh27Done
namespace Go.Proofs.Ytgegagndihffpaa
open Go Go.Sx Go.RowKit
set_option maxRecDepth 1000000
set_option maxHeartbeats 8000000
set_option linter.unusedVariables false
noncomputable section
def sfS : SpecT C27 := addS 14 (seeS bytT) (addS 15 (seeS findT) (addS 12 (seeS doneT) (addS 13 (seeS chkT) noSp)))
theorem sfS_ok : SpecTOk Try.prog sfS := addS_ok (seeS_ok bytT_ok) (addS_ok (seeS_ok findT_ok) (addS_ok (seeS_ok doneT_ok) (addS_ok (seeS_ok chkT_ok) noSp_ok)))
end
end Go.Proofs.Ytgegagndihffpaa
