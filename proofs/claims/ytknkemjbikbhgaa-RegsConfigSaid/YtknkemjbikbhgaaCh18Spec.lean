/-
  Chapter 18: the examples hold. Own work; nothing here is trusted.
-/
import Derived.Test.YtknkemjbikbhgaaCh18
namespace Go.Proofs.Ytknkemjbikbhgaa
open Go Go.Sx Go.RowKit
set_option maxRecDepth 1000000
set_option maxHeartbeats 8000000
set_option linter.unusedVariables false
noncomputable section
theorem alive_lives : (fnC C18 Try.prog noSp noLs (fun _ _ => 17) 20 40 [] []).get = some (.raw (.bool true), []) := by kernel_rfl
theorem lives18_ok : Fn0 (C := C18) Try.prog 40 [] [] (.raw (.bool true), []) := fnC_ok plain mixed noSp_ok noLs_ok alive_lives
end
end Go.Proofs.Ytknkemjbikbhgaa
