/-
  The symbolic walk of FeatNames. Own work; nothing here is trusted.
-/
import Derived.Test.YtknkemjbikbhgaaCh06
namespace Go.Proofs.Ytknkemjbikbhgaa
open Go Go.Sx Go.RowKit
set_option maxRecDepth 100000
set_option maxHeartbeats 4000000
def sp6 : SpecF C6 := spec1 16 (const0 (.bool true)) noSpec
theorem sp6_ok : SpecOk Try.prog sp6 := spec1_ok (const0_ok (by kernel_rfl) lives06_walk) noSpec_ok
abbrev cV := callS (C := C6) Try.prog sp6 noDraw (fun _ _ => 20)
theorem cV_ok (d : Nat) : CallOk Try.prog (cV d) := callS_sound plain sp6_ok (fun c _ => noDraw_ok c) d
theorem featNames_run : cV 10 5 [] [] 0 isT = (true = true) := by kernel_rfl
set_option maxRecDepth 100000 in
theorem FeatNames_walk (w : World) : Calls Try.prog 5 #[] w fun e w' => e = .returned (.bool true) ∧ Below w.heap.size w w' :=
  run_true (cV_ok 10) (args := []) (cast featNames_run.symm rfl) w
end Go.Proofs.Ytknkemjbikbhgaa
