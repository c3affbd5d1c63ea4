/-
  Chapter 24: the specifications that all its statements use; the examples hold. Own work; nothing here is trusted.
-/
import Derived.Test.YtgepgnjjhgmfnaaCh24Ins
namespace Go.Proofs.Ytgepgnjjhgmfnaa
open Go Go.Sx Go.RowKit
set_option maxRecDepth 1000000
set_option maxHeartbeats 8000000
set_option linter.unusedVariables false
noncomputable section
def spX : SpecT C24 := addS 61 (ownS insT) (addS 62 (ownS delT) noSp)
theorem spX_ok : SpecTOk Try.prog spX := addS_ok (ownS_ok insT_ok) (addS_ok (ownS_ok delT_ok) noSp_ok)
theorem lives_run : (fnC C24 Try.prog spX noLs (fun _ _ => 34) 20 9 [] []).get = some (.raw (.bool true), []) := by kernel_rfl
theorem lives_ok : Fn0 (C := C24) Try.prog 9 [] [] (.raw (.bool true), []) := fnC_ok plain mixed spX_ok noLs_ok lives_run
end
end Go.Proofs.Ytgepgnjjhgmfnaa
