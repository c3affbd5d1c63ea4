/-
  The symbolic walk of FilterNames. Own work; nothing here is trusted.
-/
import Derived.Test.YtgepgnjjhgmfnaaCh24Spec
namespace Go.Proofs.Ytgepgnjjhgmfnaa
open Go Go.Sx Go.RowKit
set_option maxRecDepth 1000000
set_option maxHeartbeats 8000000
noncomputable section
theorem names_run : (fnC C24 Try.prog spX noLs (fun _ _ => 34) 20 5 [] []).get = some (.raw (.bool true), []) := by kernel_rfl
theorem FilterNames_walk (w : World) : Calls Try.prog 5 #[] w fun e w' => e = .returned (.bool true) ∧ Below w.heap.size w w' :=
  run_flat (C := C24) (fnC_ok (C := C24) plain mixed spX_ok noLs_ok names_run) (args := []) (vals := []) rfl
end
end Go.Proofs.Ytgepgnjjhgmfnaa
