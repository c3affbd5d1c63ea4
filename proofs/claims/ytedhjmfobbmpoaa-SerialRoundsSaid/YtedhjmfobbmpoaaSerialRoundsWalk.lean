/-
  The symbolic walk of SerialRounds. Own work; nothing here is trusted.
-/
import Derived.Test.YtedhjmfobbmpoaaCh01Rounds
import Derived.Test.YtedhjmfobbmpoaaSxOpen
namespace Go.Proofs.Ytedhjmfobbmpoaa
open Go Go.Sx Go.RowKit
set_option maxRecDepth 1000000
set_option maxHeartbeats 8000000
set_option linter.unusedVariables false
theorem rounds_form (n : Int) : (fr 6 [.raw (.int .i64 n)] []).get =
  bro (inR64 (1 + n % 200)) (bro (decide (1 ≤ 1 + n % 200 ∧ 1 + n % 200 ≤ 200)) (some (.raw (.bool true), [])) none)
    (bro (decide (1 ≤ IntKind.i64.wrap (1 + n % 200) ∧ IntKind.i64.wrap (1 + n % 200) ≤ 200)) (some (.raw (.bool true), [])) none) := by kernel_rfl
theorem rounds_run (n : Int) : (fr 6 [.raw (.int .i64 n)] []).get = some (.raw (.bool true), []) := by
  rw [rounds_form, inR64_mk (by omega), decide_eq_true (by omega)]; rfl
theorem SerialRounds_walk (a0 : Int) (_ : (Lit.int .i64 a0).wf = true) (w : World) : Calls Try.prog 6 #[.int .i64 a0] w fun e w' => e = .returned (.bool true) ∧ Below w.heap.size w w' :=
  run_flat (C := C0) (args := [.raw (.int .i64 a0)]) (vals := [.int .i64 a0])
    (fnC_ok (sp := sf2) (ls := lr) (unr := fun g _ => match g with | 6 => 0 | _ => 20) (d := 10) plain mixed sf2_ok lr_ok (rounds_run a0)) rfl
end Go.Proofs.Ytedhjmfobbmpoaa
