/-
  Chapter 7: what is common to its statements: the examples hold.
-/
import Derived.Test.YtknkemjbikbhgaaCh06
namespace Go.Proofs.Ytknkemjbikbhgaa
open Go Go.Sx Go.RowKit
set_option maxRecDepth 100000
set_option maxHeartbeats 2000000
set_option linter.unusedVariables false
abbrev cU7 := evalS (C := C6) Try.prog noSpec (fun _ _ => 20)
theorem cU7_ok (d : Nat) : CallP Try.prog (cU7 d) := evalS_ok plain mixed noSpec_ok d
theorem lives07_run : cU7 10 28 [] [] 0 isT = (true = true) := by kernel_rfl
set_option maxRecDepth 100000 in
theorem lives07_walk (w : World) : Calls Try.prog 28 #[] w fun e w' => e = .returned (.bool true) ∧ Below w.heap.size w w' :=
  run_true (cU7_ok 10) (args := []) (cast lives07_run.symm rfl) w
end Go.Proofs.Ytknkemjbikbhgaa
