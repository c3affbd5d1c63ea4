/-
  The symbolic walk of SerialNeeds. Own work; nothing here is trusted.
-/
import Derived.Test.YtedhjmfobbmpoaaCh01
namespace Go.Proofs.Ytedhjmfobbmpoaa
open Go Go.Sx Go.RowKit
set_option maxRecDepth 100000
set_option maxHeartbeats 2000000
set_option linter.unusedVariables false
theorem needs_run (a0 a1 a2 : Int) (w0 : 0 ≤ a0 ∧ a0 ≤ 65535) (w1 : 0 ≤ a1 ∧ a1 ≤ 65535) (w2 : 0 ≤ a2 ∧ a2 ≤ 65535) : cP 10 3 (rawL [.int .u16 a0, .int .u16 a1, .int .u16 a2]) [] 0 isT := by
  conv => whnf
  refine brOn (by rw [beq_iff_eq]; exact decide_eq_decide.2 (by omega)) ?_
  conv => whnf
  refine brOn (by simp; omega) ?_
  conv => whnf
  simp; omega

theorem SerialNeeds_walk (a0 a1 a2 : Int) (w0 : (Lit.int .u16 a0).wf = true) (w1 : (Lit.int .u16 a1).wf = true) (w2 : (Lit.int .u16 a2).wf = true) (w : World) :
    Calls Try.prog 3 #[.int .u16 a0, .int .u16 a1, .int .u16 a2] w fun e w' => e = .returned (.bool true) ∧ Below w.heap.size w w' :=
  run_true (cP_ok 10) (args := [.int .u16 a0, .int .u16 a1, .int .u16 a2]) (needs_run a0 a1 a2 (wf_u16 w0) (wf_u16 w1) (wf_u16 w2)) w
end Go.Proofs.Ytedhjmfobbmpoaa
