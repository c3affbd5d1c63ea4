/-
  The symbolic walk of SerialSeen. Own work; nothing here is trusted.
-/
import Derived.Test.YtedhjmfobbmpoaaCh01
namespace Go.Proofs.Ytedhjmfobbmpoaa
open Go Go.Sx Go.RowKit
set_option maxRecDepth 100000
set_option maxHeartbeats 2000000
set_option linter.unusedVariables false
theorem seen_run (a0 a1 a2 a3 : Int) (b : Bool)  : cP 10 4 (rawL [.int .i64 a0, .int .i64 a1, .int .i64 a2, .int .i64 a3, .bool b]) [] 0 isT := by
  repeat' ((conv => whnf); first
    | refine ⟨by omega, by omega, fun r hr1 hr2 => ?_⟩ 
    |  (simp; done) 
    |  (simp; omega)
    | refine brOn (by first | exact decide_eq_true (by omega) | exact decide_eq_false (by omega) | exact inR64_mk (by omega) | exact inR64_off (by omega) | exact beq_iff_eq.2 (by omega) | exact beq_eq_false_iff_ne.2 (by omega) | (simp only [bne, Bool.not_eq_true', Bool.not_eq_false', decide_eq_true_eq, decide_eq_false_iff_not, beq_iff_eq, beq_eq_false_iff_ne]; omega) | (simp; done) | (simp; omega)) ?_
    | refine brOff (by first | exact decide_eq_true (by omega) | exact decide_eq_false (by omega) | exact inR64_mk (by omega) | exact inR64_off (by omega) | exact beq_iff_eq.2 (by omega) | exact beq_eq_false_iff_ne.2 (by omega) | (simp only [bne, Bool.not_eq_true', Bool.not_eq_false', decide_eq_true_eq, decide_eq_false_iff_not, beq_iff_eq, beq_eq_false_iff_ne]; omega) | (simp; done) | (simp; omega)) ?_
    | refine brR (fun h => ?_) (fun h => ?_)
    | refine brD (fun h => ?_) (fun h => ?_)
    | refine brE (fun h => ?_) (fun h => ?_)
    | refine brT (fun h => ?_) (fun h => ?_))
theorem SerialSeen_walk (a0 a1 a2 a3 : Int) (b : Bool) (w0 : (Lit.int .i64 a0).wf = true) (w1 : (Lit.int .i64 a1).wf = true) (w2 : (Lit.int .i64 a2).wf = true) (w3 : (Lit.int .i64 a3).wf = true) (w : World) :
    Calls Try.prog 4 #[.int .i64 a0, .int .i64 a1, .int .i64 a2, .int .i64 a3, .bool b] w fun e w' => e = .returned (.bool true) ∧ Below w.heap.size w w' :=
  run_true (cP_ok 10) (args := [.int .i64 a0, .int .i64 a1, .int .i64 a2, .int .i64 a3, .bool b]) (seen_run a0 a1 a2 a3 b) w
end Go.Proofs.Ytedhjmfobbmpoaa
