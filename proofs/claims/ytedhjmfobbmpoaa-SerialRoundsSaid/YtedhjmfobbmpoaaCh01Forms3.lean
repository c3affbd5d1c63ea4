/-
  Chapter 1: Between, of the program and of the document. Own work; nothing here is trusted.
-/
import Derived.Test.YtedhjmfobbmpoaaCh01Forms2
namespace Go.Proofs.Ytedhjmfobbmpoaa
open Go Go.Sx Go.RowKit
set_option maxRecDepth 100000
set_option maxHeartbeats 4000000
set_option linter.unusedVariables false
set_option linter.unusedSimpArgs false
def betV (a : Int) (b : Bool) (c : Int) (d : Bool) (s : Int) : SV := match decide (1 ≤ s ∧ s ≤ 32768 ∧ 0 ≤ a ∧ a < s ∧ 0 ≤ c ∧ c < s), (b == d), decide (c - a < 0) with
  | true, false, _ => .tup [.raw (.int .i64 (c - a + s)), .raw (.int .i64 0)]
  | true, true, true => .tup [.raw (.int .i64 (c - a + 2 * s)), .raw (.int .i64 0)]
  | true, true, false => .tup [.raw (.int .i64 (c - a)), .raw (.int .i64 0)]
  | false, _, _ => .tup [.raw (.int .i64 0), .raw (.int .i64 2)]
def betF : List SV → Option SV := fun vs => match vs with
  | [.agg [.raw (.int .i64 a), .raw (.bool b)], .agg [.raw (.int .i64 c), .raw (.bool d)], .raw (.int .i64 s)] => some (betV a b c d s)
  | _ => none
theorem bet_run (g : Nat) (hg : g = 19 ∨ g = 31) (a c s : Int) (b d : Bool) : cS 5 g [.agg [.raw (.int .i64 a), .raw (.bool b)], .agg [.raw (.int .i64 c), .raw (.bool d)], .raw (.int .i64 s)] [] 0 (fun sv _ _ => sv = betV a b c d s) := by
  have hc : (1 ≤ s ∧ s ≤ 32768 ∧ 0 ≤ a ∧ a < s ∧ 0 ≤ c ∧ c < s) ∨ s < 1 ∨ (1 ≤ s ∧ 32768 < s) ∨ (1 ≤ s ∧ s ≤ 32768 ∧ a < 0) ∨ (1 ≤ s ∧ s ≤ 32768 ∧ 0 ≤ a ∧ s ≤ a) ∨ (1 ≤ s ∧ s ≤ 32768 ∧ 0 ≤ a ∧ a < s ∧ c < 0) ∨ (1 ≤ s ∧ s ≤ 32768 ∧ 0 ≤ a ∧ a < s ∧ 0 ≤ c ∧ s ≤ c) := by omega
  rcases hc with hv | hc | hc | hc | hc | hc | hc
  · by_cases h : c - a < 0
    · unfold betV
      rw [decide_eq_true hv, decide_eq_true h]
      rcases hg with rfl | rfl <;> cases b <;> cases d
      all_goals
        repeat' ((conv => whnf); first
          | rfl
          | refine brOn (by first | exact decide_eq_true (by omega) | exact decide_eq_false (by omega) | exact inR64_mk (by omega) | exact inR64_off (by omega) | exact beq_iff_eq.2 (by omega) | exact beq_eq_false_iff_ne.2 (by omega) | (simp only [bne, Bool.not_eq_true', Bool.not_eq_false', decide_eq_true_eq, decide_eq_false_iff_not, beq_iff_eq, beq_eq_false_iff_ne]; omega) | (simp; done) | (simp; omega)) ?_
          | refine brOff (by first | exact decide_eq_true (by omega) | exact decide_eq_false (by omega) | exact inR64_mk (by omega) | exact inR64_off (by omega) | exact beq_iff_eq.2 (by omega) | exact beq_eq_false_iff_ne.2 (by omega) | (simp only [bne, Bool.not_eq_true', Bool.not_eq_false', decide_eq_true_eq, decide_eq_false_iff_not, beq_iff_eq, beq_eq_false_iff_ne]; omega) | (simp; done) | (simp; omega)) ?_
          | refine brR (fun h => ?_) (fun h => ?_)
          | refine brD (fun h => ?_) (fun h => ?_)
          | refine brE (fun h => ?_) (fun h => ?_)
          | refine brT (fun h => ?_) (fun h => ?_))
    · unfold betV
      rw [decide_eq_true hv, decide_eq_false h]
      rcases hg with rfl | rfl <;> cases b <;> cases d
      all_goals
        repeat' ((conv => whnf); first
          | rfl
          | refine brOn (by first | exact decide_eq_true (by omega) | exact decide_eq_false (by omega) | exact inR64_mk (by omega) | exact inR64_off (by omega) | exact beq_iff_eq.2 (by omega) | exact beq_eq_false_iff_ne.2 (by omega) | (simp only [bne, Bool.not_eq_true', Bool.not_eq_false', decide_eq_true_eq, decide_eq_false_iff_not, beq_iff_eq, beq_eq_false_iff_ne]; omega) | (simp; done) | (simp; omega)) ?_
          | refine brOff (by first | exact decide_eq_true (by omega) | exact decide_eq_false (by omega) | exact inR64_mk (by omega) | exact inR64_off (by omega) | exact beq_iff_eq.2 (by omega) | exact beq_eq_false_iff_ne.2 (by omega) | (simp only [bne, Bool.not_eq_true', Bool.not_eq_false', decide_eq_true_eq, decide_eq_false_iff_not, beq_iff_eq, beq_eq_false_iff_ne]; omega) | (simp; done) | (simp; omega)) ?_
          | refine brR (fun h => ?_) (fun h => ?_)
          | refine brD (fun h => ?_) (fun h => ?_)
          | refine brE (fun h => ?_) (fun h => ?_)
          | refine brT (fun h => ?_) (fun h => ?_))
  all_goals
    have e : betV a b c d s = .tup [.raw (.int .i64 0), .raw (.int .i64 2)] := by
      unfold betV
      rw [decide_eq_false (show ¬ (1 ≤ s ∧ s ≤ 32768 ∧ 0 ≤ a ∧ a < s ∧ 0 ≤ c ∧ c < s) by omega)]
    rw [e]
    rcases hg with rfl | rfl
    all_goals
      repeat' ((conv => whnf); first
        | rfl
        | refine brOn (by first | exact decide_eq_true (by omega) | exact decide_eq_false (by omega) | exact inR64_mk (by omega) | exact inR64_off (by omega) | exact beq_iff_eq.2 (by omega) | exact beq_eq_false_iff_ne.2 (by omega) | (simp only [bne, Bool.not_eq_true', Bool.not_eq_false', decide_eq_true_eq, decide_eq_false_iff_not, beq_iff_eq, beq_eq_false_iff_ne]; omega) | (simp; done) | (simp; omega)) ?_
        | refine brOff (by first | exact decide_eq_true (by omega) | exact decide_eq_false (by omega) | exact inR64_mk (by omega) | exact inR64_off (by omega) | exact beq_iff_eq.2 (by omega) | exact beq_eq_false_iff_ne.2 (by omega) | (simp only [bne, Bool.not_eq_true', Bool.not_eq_false', decide_eq_true_eq, decide_eq_false_iff_not, beq_iff_eq, beq_eq_false_iff_ne]; omega) | (simp; done) | (simp; omega)) ?_
        | refine brR (fun h => ?_) (fun h => ?_)
        | refine brD (fun h => ?_) (fun h => ?_)
        | refine brE (fun h => ?_) (fun h => ?_)
        | refine brT (fun h => ?_) (fun h => ?_))
theorem bet_ok (g : Nat) (hg : g = 19 ∨ g = 31) : FnOk Try.prog g betF := FnOk.of (cS_ok 5) fun vs v hv => by
  unfold betF at hv
  split at hv
  · cases hv
    refine ⟨rfl, ?_, bet_run g hg _ _ _ _ _⟩
    unfold betV
    split <;> rfl
  · cases hv
end Go.Proofs.Ytedhjmfobbmpoaa
