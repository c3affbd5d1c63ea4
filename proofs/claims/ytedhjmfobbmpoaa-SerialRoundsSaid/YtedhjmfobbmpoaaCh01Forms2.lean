/-
  Chapter 1: Go and Between, of the program and of the document. Own work; nothing here is trusted.
-/
import Derived.Test.YtedhjmfobbmpoaaCh01Forms
namespace Go.Proofs.Ytedhjmfobbmpoaa
open Go Go.Sx Go.RowKit
set_option maxRecDepth 100000
set_option maxHeartbeats 4000000
set_option linter.unusedVariables false
set_option linter.unusedSimpArgs false
def posV (a : Int) (b : Bool) : SV := .agg [.raw (.int .i64 a), .raw (.bool b)]
def goV (a y s : Int) (b : Bool) : SV := match decide (1 ≤ s ∧ s ≤ 32768 ∧ 0 ≤ a ∧ a < s ∧ 0 ≤ y ∧ y ≤ s), decide (s ≤ a + y) with
  | true, true => .tup [posV (a + y - s) (!b), .raw (.int .i64 0)]
  | true, false => .tup [posV (a + y) b, .raw (.int .i64 0)]
  | false, _ => .tup [posV 0 false, .raw (.int .i64 2)]
def goF : List SV → Option SV := fun vs => match vs with
  | [.agg [.raw (.int .i64 a), .raw (.bool b)], .raw (.int .i64 y), .raw (.int .i64 s)] => some (goV a y s b)
  | _ => none
theorem go_run (g : Nat) (hg : g = 14 ∨ g = 28) (a y s : Int) (b : Bool) : cS 5 g [.agg [.raw (.int .i64 a), .raw (.bool b)], .raw (.int .i64 y), .raw (.int .i64 s)] [] 0 (fun sv _ _ => sv = goV a y s b) := by
  have hc : (1 ≤ s ∧ s ≤ 32768 ∧ 0 ≤ a ∧ a < s ∧ 0 ≤ y ∧ y ≤ s) ∨ s < 1 ∨ (1 ≤ s ∧ 32768 < s) ∨ (1 ≤ s ∧ s ≤ 32768 ∧ a < 0) ∨ (1 ≤ s ∧ s ≤ 32768 ∧ 0 ≤ a ∧ s ≤ a) ∨ (1 ≤ s ∧ s ≤ 32768 ∧ 0 ≤ a ∧ a < s ∧ y < 0) ∨ (1 ≤ s ∧ s ≤ 32768 ∧ 0 ≤ a ∧ a < s ∧ 0 ≤ y ∧ s < y) := by omega
  rcases hc with hv | hc | hc | hc | hc | hc | hc
  · by_cases h : s ≤ a + y
    · have e : goV a y s b = .tup [posV (a + y - s) (!b), .raw (.int .i64 0)] := by unfold goV; rw [decide_eq_true hv, decide_eq_true h]
      rw [e]
      rcases hg with rfl | rfl <;> cases b
      all_goals
        repeat' ((conv => whnf); first
          | rfl
          | refine brOn (by first | exact decide_eq_true (by omega) | exact decide_eq_false (by omega) | exact inR64_mk (by omega) | exact inR64_off (by omega) | exact beq_iff_eq.2 (by omega) | exact beq_eq_false_iff_ne.2 (by omega) | (simp only [bne, Bool.not_eq_true', Bool.not_eq_false', decide_eq_true_eq, decide_eq_false_iff_not, beq_iff_eq, beq_eq_false_iff_ne]; omega) | (simp; done) | (simp; omega)) ?_
          | refine brOff (by first | exact decide_eq_true (by omega) | exact decide_eq_false (by omega) | exact inR64_mk (by omega) | exact inR64_off (by omega) | exact beq_iff_eq.2 (by omega) | exact beq_eq_false_iff_ne.2 (by omega) | (simp only [bne, Bool.not_eq_true', Bool.not_eq_false', decide_eq_true_eq, decide_eq_false_iff_not, beq_iff_eq, beq_eq_false_iff_ne]; omega) | (simp; done) | (simp; omega)) ?_
          | refine brR (fun h => ?_) (fun h => ?_)
          | refine brD (fun h => ?_) (fun h => ?_)
          | refine brE (fun h => ?_) (fun h => ?_)
          | refine brT (fun h => ?_) (fun h => ?_))
    · have e : goV a y s b = .tup [posV (a + y) b, .raw (.int .i64 0)] := by unfold goV; rw [decide_eq_true hv, decide_eq_false h]
      rw [e]
      rcases hg with rfl | rfl <;> cases b
      all_goals
        repeat' ((conv => whnf); first
          | rfl
          | refine brOn (by first | exact decide_eq_true (by omega) | exact decide_eq_false (by omega) | exact inR64_mk (by omega) | exact inR64_off (by omega) | exact beq_iff_eq.2 (by omega) | exact beq_eq_false_iff_ne.2 (by omega) | (simp only [bne, Bool.not_eq_true', Bool.not_eq_false', decide_eq_true_eq, decide_eq_false_iff_not, beq_iff_eq, beq_eq_false_iff_ne]; omega) | (simp; done) | (simp; omega)) ?_
          | refine brOff (by first | exact decide_eq_true (by omega) | exact decide_eq_false (by omega) | exact inR64_mk (by omega) | exact inR64_off (by omega) | exact beq_iff_eq.2 (by omega) | exact beq_eq_false_iff_ne.2 (by omega) | (simp only [bne, Bool.not_eq_true', Bool.not_eq_false', decide_eq_true_eq, decide_eq_false_iff_not, beq_iff_eq, beq_eq_false_iff_ne]; omega) | (simp; done) | (simp; omega)) ?_
          | refine brR (fun h => ?_) (fun h => ?_)
          | refine brD (fun h => ?_) (fun h => ?_)
          | refine brE (fun h => ?_) (fun h => ?_)
          | refine brT (fun h => ?_) (fun h => ?_))
  all_goals
    have e : goV a y s b = .tup [posV 0 false, .raw (.int .i64 2)] := by
      unfold goV
      rw [decide_eq_false (show ¬ (1 ≤ s ∧ s ≤ 32768 ∧ 0 ≤ a ∧ a < s ∧ 0 ≤ y ∧ y ≤ s) by omega)]
    rw [e]
    rcases hg with rfl | rfl
    all_goals
      repeat' ((conv => whnf); first
        | rfl
        | refine brOn (by first | exact decide_eq_true (by omega) | exact decide_eq_false (by omega) | exact inR64_mk (by omega) | exact inR64_off (by omega) | exact beq_iff_eq.2 (by omega) | exact beq_eq_false_iff_ne.2 (by omega) | (simp only [bne, Bool.not_eq_true', Bool.not_eq_false', decide_eq_true_eq, decide_eq_false_iff_not, beq_iff_eq, beq_eq_false_iff_ne]; omega) | (simp; done) | (simp; omega)) ?_
        | refine brOff (by first | exact decide_eq_true (by omega) | exact decide_eq_false (by omega) | exact inR64_mk (by omega) | exact inR64_off (by omega) | exact beq_iff_eq.2 (by omega) | exact beq_eq_false_iff_ne.2 (by omega) | (simp only [bne, Bool.not_eq_true', Bool.not_eq_false', decide_eq_true_eq, decide_eq_false_iff_not, beq_iff_eq, beq_eq_false_iff_ne]; omega) | (simp; done) | (simp; omega)) ?_
        | refine brR (fun h => ?_) (fun h => ?_)
        | refine brD (fun h => ?_) (fun h => ?_)
        | refine brE (fun h => ?_) (fun h => ?_)
        | refine brT (fun h => ?_) (fun h => ?_))
theorem go_ok (g : Nat) (hg : g = 14 ∨ g = 28) : FnOk Try.prog g goF := FnOk.of (cS_ok 5) fun vs v hv => by
  unfold goF at hv
  split at hv
  · cases hv
    refine ⟨rfl, ?_, go_run g hg _ _ _ _⟩
    unfold goV
    split <;> rfl
  · cases hv

end Go.Proofs.Ytedhjmfobbmpoaa
