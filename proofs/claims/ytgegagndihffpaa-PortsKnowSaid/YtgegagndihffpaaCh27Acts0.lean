/-
  Chapter 27: Add, Remove, Open: what they stand on. Own work; nothing here is trusted.
-/
import Derived.Test.YtgegagndihffpaaCh27KnowT
namespace Go.Proofs.Ytgegagndihffpaa
open Go Go.Sx Go.RowKit
set_option maxRecDepth 1000000
set_option maxHeartbeats 8000000
set_option linter.unusedVariables false
noncomputable section
def sfA : SpecT C27 := addS 13 (seeS chkT) (addS 28 (seeS atT) (addS 29 (seeS ownT) (addS 32 (seeS withT) (addS 35 (seeS woT) noSp))))
theorem sfA_ok : SpecTOk Try.prog sfA := addS_ok (seeS_ok chkT_ok) (addS_ok (seeS_ok atT_ok) (addS_ok (seeS_ok ownT_ok) (addS_ok (seeS_ok withT_ok) (addS_ok (seeS_ok woT_ok) noSp_ok))))
abbrev fA := fnC C27 Try.prog sfA noLs (fun _ _ => 20) 10
end
end Go.Proofs.Ytgegagndihffpaa
