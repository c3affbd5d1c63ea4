/-
  Chapter 8: what is common to its statements: the examples hold.
-/
import Derived.Test.YtkhlmlcjedbkcaaSxFrame
import Derived.Test.YtkhlmlcjedbkcaaProg
namespace Go.Proofs.Ytkhlmlcjedbkcaa
open Go Go.Sx Go.RowKit
set_option maxRecDepth 100000
set_option maxHeartbeats 2000000
set_option linter.unusedVariables false
def C8 : Tab := fun t => match t with
  | 4 => cBool
  | 45 => cInt .u64
  | _ => cInt .i64
theorem plain : Plain Try.prog := plain_of (by kernel_rfl)
theorem mixed : Try.prog.follows .mixedOrders = true := by kernel_rfl
abbrev cU := evalS (C := C8) Try.prog noSpec (fun _ _ => 20)
theorem cU_ok (d : Nat) : CallP Try.prog (cU d) := evalS_ok plain mixed noSpec_ok d
theorem lives08_run : cU 10 6 [] [] 0 isT = (true = true) := by kernel_rfl
set_option maxRecDepth 100000 in
theorem lives08_walk (w : World) : Calls Try.prog 6 #[] w fun e w' => e = .returned (.bool true) ∧ Below w.heap.size w w' :=
  run_true (cU_ok 10) (args := []) (cast lives08_run.symm rfl) w
end Go.Proofs.Ytkhlmlcjedbkcaa
