/-
  The symbolic walk of RegsNames. Own work; nothing here is trusted.
-/
import Derived.Test.YtknkemjbikbhgaaCh18Spec
namespace Go.Proofs.Ytknkemjbikbhgaa
open Go Go.Sx Go.RowKit
set_option maxRecDepth 1000000
set_option maxHeartbeats 8000000
noncomputable section
theorem names_run : (fnC C18 Try.prog noSp noLs (fun _ _ => 17) 20 14 [] []).get = some (.raw (.bool true), []) := by kernel_rfl
theorem RegsNames_walk (w : World) : Calls Try.prog 14 #[] w fun e w' => e = .returned (.bool true) ∧ Below w.heap.size w w' :=
  run_flat (C := C18) (fnC_ok (C := C18) plain mixed noSp_ok noLs_ok names_run) (args := []) (vals := []) rfl
end
end Go.Proofs.Ytknkemjbikbhgaa
