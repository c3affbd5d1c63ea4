/-
  Chapter 11: the specifications that all its statements use; the examples hold. Own work; nothing here is trusted.
-/
import Derived.Test.YtiaboemkgpkcpaaCh11Moves
import Derived.Test.YtiaboemkgpkcpaaCh11Ins
namespace Go.Proofs.Ytiaboemkgpkcpaa
open Go Go.Sx Go.RowKit
set_option maxRecDepth 1000000
set_option maxHeartbeats 8000000
set_option linter.unusedVariables false
noncomputable section
def spX : SpecT C11 := addS 22 (ownS insT) (addS 21 (ownS delT) (addS 19 (viewS movesT) noSp))
theorem spX_ok : SpecTOk Try.prog spX := addS_ok (ownS_ok insT_ok) (addS_ok (ownS_ok delT_ok) (addS_ok (viewS_ok movesT_ok) noSp_ok))
theorem lives_run : (fnC C11 Try.prog spX noLs (fun _ _ => 8) 20 6 [] []).get = some (.raw (.bool true), []) := by kernel_rfl
theorem lives_ok : Fn0 (C := C11) Try.prog 6 [] [] (.raw (.bool true), []) := fnC_ok plain mixed spX_ok noLs_ok lives_run
end
end Go.Proofs.Ytiaboemkgpkcpaa
