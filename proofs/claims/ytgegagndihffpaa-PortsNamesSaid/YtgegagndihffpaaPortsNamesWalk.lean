/-
  The symbolic walk of PortsNames. Own work; nothing here is trusted.
-/
import Derived.Test.YtgegagndihffpaaCh27Spec
namespace Go.Proofs.Ytgegagndihffpaa
open Go Go.Sx Go.RowKit
set_option maxRecDepth 1000000
set_option maxHeartbeats 8000000
noncomputable section
theorem names_run : (fnC C27 Try.prog spX noLs (fun _ _ => 9) 20 5 [] []).get = some (.raw (.bool true), []) := by kernel_rfl
theorem PortsNames_walk (w : World) : Calls Try.prog 5 #[] w fun e w' => e = .returned (.bool true) ∧ Below w.heap.size w w' :=
  run_flat (C := C27) (fnC_ok (C := C27) plain mixed spX_ok noLs_ok names_run) (args := []) (vals := []) rfl
end
end Go.Proofs.Ytgegagndihffpaa
