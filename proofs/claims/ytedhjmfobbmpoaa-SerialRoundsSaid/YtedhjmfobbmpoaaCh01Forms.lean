/-
  Chapter 1: what the program's functions and the document's answer, in one form for both. Own work; nothing here is trusted.
-/
import Derived.Test.YtedhjmfobbmpoaaCh01Align
import Derived.Test.YtedhjmfobbmpoaaSxSpec
namespace Go.Proofs.Ytedhjmfobbmpoaa
open Go Go.Sx Go.RowKit
set_option maxRecDepth 100000
set_option maxHeartbeats 4000000
set_option linter.unusedVariables false
set_option linter.unusedSimpArgs false
theorem mixed : Try.prog.follows .mixedOrders = true := by kernel_rfl

def okP (a s : Int) : Bool := decide (1 ≤ s ∧ s ≤ 32768 ∧ 0 ≤ a ∧ a < s)
def ck (a s : Int) : Int := match okP a s with
  | true => 0
  | false => 2
def chkF : List SV → Option SV := fun vs => match vs with
  | [.agg [.raw (.int .i64 a), .raw (.bool _)], .raw (.int .i64 s)] => some (.raw (.int .i64 (ck a s)))
  | _ => none
theorem ck_ok {a s : Int} (h : 1 ≤ s ∧ s ≤ 32768 ∧ 0 ≤ a ∧ a < s) : ck a s = 0 := by unfold ck okP; rw [decide_eq_true h]
theorem ck_no {a s : Int} (h : ¬ (1 ≤ s ∧ s ≤ 32768 ∧ 0 ≤ a ∧ a < s)) : ck a s = 2 := by unfold ck okP; rw [decide_eq_false h]
theorem chk_run (g : Nat) (hg : g = 24 ∨ g = 25) (a s : Int) (b : Bool) : cS 5 g [.agg [.raw (.int .i64 a), .raw (.bool b)], .raw (.int .i64 s)] [] 0 (fun sv _ _ => sv = .raw (.int .i64 (ck a s))) := by
  by_cases h1 : 1 ≤ s <;> by_cases h2 : s ≤ 32768 <;> by_cases h3 : 0 ≤ a <;> by_cases h4 : a < s
  all_goals first
    | (rw [ck_ok ⟨h1, h2, h3, h4⟩])
    | (rw [ck_no (by omega)])
  all_goals rcases hg with rfl | rfl
  all_goals skip
  all_goals
    repeat' ((conv => whnf); first
      | rfl
      | refine brOn (by first | exact decide_eq_true (by omega) | exact decide_eq_false (by omega) | exact inR64_mk (by omega) | exact inR64_off (by omega) | exact beq_iff_eq.2 (by omega) | exact beq_eq_false_iff_ne.2 (by omega) | (simp only [bne, Bool.not_eq_true', Bool.not_eq_false', decide_eq_true_eq, decide_eq_false_iff_not, beq_iff_eq, beq_eq_false_iff_ne]; omega) | (simp; done) | (simp; omega)) ?_
      | refine brOff (by first | exact decide_eq_true (by omega) | exact decide_eq_false (by omega) | exact inR64_mk (by omega) | exact inR64_off (by omega) | exact beq_iff_eq.2 (by omega) | exact beq_eq_false_iff_ne.2 (by omega) | (simp only [bne, Bool.not_eq_true', Bool.not_eq_false', decide_eq_true_eq, decide_eq_false_iff_not, beq_iff_eq, beq_eq_false_iff_ne]; omega) | (simp; done) | (simp; omega)) ?_
      | refine brR (fun h => ?_) (fun h => ?_)
      | refine brD (fun h => ?_) (fun h => ?_)
      | refine brE (fun h => ?_) (fun h => ?_)
      | refine brT (fun h => ?_) (fun h => ?_))
theorem chk_ok (g : Nat) (hg : g = 24 ∨ g = 25) : FnOk Try.prog g chkF := FnOk.of (cS_ok 5) fun vs v hv => by
  unfold chkF at hv
  split at hv
  · cases hv
    exact ⟨rfl, rfl, chk_run g hg _ _ _⟩
  · cases hv
end Go.Proofs.Ytedhjmfobbmpoaa
