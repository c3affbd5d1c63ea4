/-
  The symbolic walk of StatusNames. Own work; nothing here is trusted.
-/
import Derived.Test.YtknkemjbikbhgaaCh07
namespace Go.Proofs.Ytknkemjbikbhgaa
open Go Go.Sx Go.RowKit
set_option maxRecDepth 100000
set_option maxHeartbeats 4000000
def spL : SpecF C6 Prop := spec1 28 (const0 (.bool true)) noSpec
theorem spL_ok : SpecOk Try.prog spL := spec1_ok (const0_ok (by kernel_rfl) lives07_walk) noSpec_ok
abbrev cV := evalS (C := C6) Try.prog spL (fun _ _ => 20)
theorem cV_ok (d : Nat) : CallP Try.prog (cV d) := evalS_ok plain mixed spL_ok d
theorem names_run : cV 12 9 [] [] 0 isT = (true = true) := by kernel_rfl
set_option maxRecDepth 100000 in
theorem StatusNames_walk (w : World) : Calls Try.prog 9 #[] w fun e w' => e = .returned (.bool true) ∧ Below w.heap.size w w' :=
  run_true (cV_ok 12) (args := []) (cast names_run.symm rfl) w
end Go.Proofs.Ytknkemjbikbhgaa
