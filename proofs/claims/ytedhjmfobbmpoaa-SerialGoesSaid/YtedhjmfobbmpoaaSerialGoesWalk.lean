/-
  The symbolic walk of SerialGoes. Own work; nothing here is trusted.
-/
import Derived.Test.YtedhjmfobbmpoaaCh01Words
namespace Go.Proofs.Ytedhjmfobbmpoaa
open Go Go.Sx Go.RowKit
set_option maxRecDepth 100000
set_option maxHeartbeats 4000000
set_option linter.unusedVariables false
set_option linter.unusedSimpArgs false
def sp3 : SpecF C0 Prop := spec1 20 (flatF wordF) (spec1 21 (flatF readF) sp2)
theorem sp3_ok : SpecOk Try.prog sp3 := spec1_ok word_ok (spec1_ok read_ok sp2_ok)
abbrev cW := callS (C := C0) Try.prog sp3 noDraw (fun _ _ => 0)
theorem cW_ok (d : Nat) : CallP Try.prog (cW d) := callS_sound plain sp3_ok noDraw_ok d

theorem goes_run (a0 a1 a2 a3 : Int) (b : Bool)  : cW 10 8 (rawL [.agg #[.int .i64 a0, .bool b], .int .i64 a1, .int .i64 a2, .int .i64 a3]) [] 0 isT := by
  cases b
  all_goals
    conv => whnf
    refine ⟨by omega, by omega, fun r hr1 hr2 => ?_⟩
    conv => whnf
    refine brOn (inR64_mk (by omega)) ?_
    conv => whnf
    refine ⟨by omega, by omega, fun q hq1 hq2 => ?_⟩
    conv => whnf
    refine brOn (inR64_mk (by omega)) ?_
    conv => whnf
    refine ⟨by omega, by omega, fun a ha1 ha2 => ?_⟩
    conv => whnf
    refine brOn (inR64_mk (by omega)) ?_
    conv => whnf
    refine brOn (inR64_mk (by omega)) ?_
    conv => whnf
    refine ⟨by omega, by omega, fun b hb1 hb2 => ?_⟩
    repeat' ((conv => whnf); first
      | refine ⟨by omega, by omega, ?_⟩ 
      |  refine ⟨by omega, by omega, by omega, by omega, ?_⟩ 
      |  (simp; done) 
      |  (simp; omega)
      | refine brOn (by first | exact decide_eq_true (by omega) | exact decide_eq_false (by omega) | exact inR64_mk (by omega) | exact inR64_off (by omega) | exact beq_iff_eq.2 (by omega) | exact beq_eq_false_iff_ne.2 (by omega) | (simp only [bne, Bool.not_eq_true', Bool.not_eq_false', decide_eq_true_eq, decide_eq_false_iff_not, beq_iff_eq, beq_eq_false_iff_ne]; omega) | (simp; done) | (simp; omega)) ?_
      | refine brOff (by first | exact decide_eq_true (by omega) | exact decide_eq_false (by omega) | exact inR64_mk (by omega) | exact inR64_off (by omega) | exact beq_iff_eq.2 (by omega) | exact beq_eq_false_iff_ne.2 (by omega) | (simp only [bne, Bool.not_eq_true', Bool.not_eq_false', decide_eq_true_eq, decide_eq_false_iff_not, beq_iff_eq, beq_eq_false_iff_ne]; omega) | (simp; done) | (simp; omega)) ?_
      | refine brR (fun h => ?_) (fun h => ?_)
      | refine brD (fun h => ?_) (fun h => ?_)
      | refine brE (fun h => ?_) (fun h => ?_)
      | refine brT (fun h => ?_) (fun h => ?_))
    all_goals (first | (simp; done) | (simp; omega))

set_option maxRecDepth 100000 in
theorem SerialGoes_walk (a0 : Int) (b : Bool) (a1 a2 a3 : Int) (_ : (Lit.int .i64 a0).wf = true) (_ : (Lit.int .i64 a1).wf = true) (_ : (Lit.int .i64 a2).wf = true) (_ : (Lit.int .i64 a3).wf = true) (w : World) : Calls Try.prog 8 #[.agg #[.int .i64 a0, .bool b], .int .i64 a1, .int .i64 a2, .int .i64 a3] w fun e w' => e = .returned (.bool true) ∧ Below w.heap.size w w' :=
  run_true (cW_ok 10) (args := [.agg #[.int .i64 a0, .bool b], .int .i64 a1, .int .i64 a2, .int .i64 a3]) (goes_run a0 a1 a2 a3 b) w
end Go.Proofs.Ytedhjmfobbmpoaa
