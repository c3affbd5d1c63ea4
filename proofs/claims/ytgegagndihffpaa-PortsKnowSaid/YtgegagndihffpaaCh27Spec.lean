/-
  Chapter 27: the specifications that all its statements use; the examples hold. Own work; nothing here is trusted.
-/
import Derived.Test.YtgegagndihffpaaCh27Ins
namespace Go.Proofs.Ytgegagndihffpaa
open Go Go.Sx Go.RowKit
set_option maxRecDepth 1000000
set_option maxHeartbeats 8000000
set_option linter.unusedVariables false
noncomputable section
def spX : SpecT C27 := addS 42 (ownS insT) (addS 43 (ownS delT) noSp)
theorem spX_ok : SpecTOk Try.prog spX := addS_ok (ownS_ok insT_ok) (addS_ok (ownS_ok delT_ok) noSp_ok)
theorem lives_run : (fnC C27 Try.prog spX noLs (fun _ _ => 9) 20 8 [] []).get = some (.raw (.bool true), []) := by kernel_rfl
theorem lives_ok : Fn0 (C := C27) Try.prog 8 [] [] (.raw (.bool true), []) := fnC_ok plain mixed spX_ok noLs_ok lives_run
end
end Go.Proofs.Ytgegagndihffpaa
