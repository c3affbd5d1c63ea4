/-
  Chapter 1: what the statements' functions answer, by the symbolic evaluator.
-/
import Derived.Test.YtedhjmfobbmpoaaSxTop
import Derived.Test.YtedhjmfobbmpoaaProg
namespace Go.Proofs.Ytedhjmfobbmpoaa
open Go Go.Sx Go.RowKit
def C0 : Tab := fun _ => cInt .u64
theorem plain : Plain Try.prog := plain_of (by kernel_rfl)
abbrev cS := callS (C := C0) Try.prog noSpec noDraw (fun _ _ => 0)
theorem cS_ok (d : Nat) : CallOk Try.prog (cS d) := callS_sound plain noSpec_ok (fun c _ => noDraw_ok c) d
theorem names_run : cS 10 7 [] [] 0 isT = (true = true) := by kernel_rfl
set_option maxRecDepth 100000 in
theorem SerialNames_walk (w : World) : Calls Try.prog 7 #[] w fun e w' => e = .returned (.bool true) ∧ Below w.heap.size w w' :=
  run_true (cS_ok 10) (args := []) (cast names_run.symm rfl) w
end Go.Proofs.Ytedhjmfobbmpoaa
