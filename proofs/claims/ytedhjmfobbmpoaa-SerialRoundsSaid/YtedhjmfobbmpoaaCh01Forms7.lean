/-
  Chapter 1: NeedAt, of the program and of the document. Own work; nothing here is trusted.
-/
import Derived.Test.YtedhjmfobbmpoaaCh01Forms6
namespace Go.Proofs.Ytedhjmfobbmpoaa
open Go Go.Sx Go.RowKit
set_option maxRecDepth 100000
set_option maxHeartbeats 4000000
set_option linter.unusedVariables false
set_option linter.unusedSimpArgs false
def naE (e c y : Int) : Bool := decide (((c % 65536 - e % 65536) % 65536 - 1) % 65536 < (c % 65536 - (c - y) % 65536) % 65536)
def naV (a : Int) (b : Bool) (c : Int) (d : Bool) (y s : Int) : SV := match decide (1 ≤ s ∧ s ≤ 32768 ∧ 0 ≤ a ∧ a < s ∧ 0 ≤ c ∧ c < s ∧ 0 ≤ y ∧ y ≤ s), (b == d) with
  | true, true => .tup [.raw (.bool (naE a c y)), .raw (.int .i64 0)]
  | true, false => .tup [.raw (.bool (naE (a - s) c y)), .raw (.int .i64 0)]
  | false, _ => .tup [.raw (.bool false), .raw (.int .i64 2)]
def naF : List SV → Option SV := fun vs => match vs with
  | [.agg [.raw (.int .i64 a), .raw (.bool b)], .agg [.raw (.int .i64 c), .raw (.bool d)], .raw (.int .i64 y), .raw (.int .i64 s)] => some (naV a b c d y s)
  | _ => none
theorem naE_ref (e c y : Int) : decide (((c % 65536 - bitsV .i64 .and e 65535 % 65536) % 65536 - 1) % 65536 < (c % 65536 - bitsV .i64 .and (c - y) 65535 % 65536) % 65536) = naE e c y := by
  have h : ∀ x : Int, x % 65536 % 65536 = x % 65536 := fun x => by omega
  unfold naE
  rw [and16i, and16i, h, h]
theorem na_run (g : Nat) (hg : g = 15 ∨ g = 30) (a c y s : Int) (b d : Bool) : cS 5 g [.agg [.raw (.int .i64 a), .raw (.bool b)], .agg [.raw (.int .i64 c), .raw (.bool d)], .raw (.int .i64 y), .raw (.int .i64 s)] [] 0 (fun sv _ _ => sv = naV a b c d y s) := by
  have hc : (1 ≤ s ∧ s ≤ 32768 ∧ 0 ≤ a ∧ a < s ∧ 0 ≤ c ∧ c < s ∧ 0 ≤ y ∧ y ≤ s) ∨ s < 1 ∨ (1 ≤ s ∧ 32768 < s) ∨ (1 ≤ s ∧ s ≤ 32768 ∧ a < 0) ∨ (1 ≤ s ∧ s ≤ 32768 ∧ 0 ≤ a ∧ s ≤ a) ∨ (1 ≤ s ∧ s ≤ 32768 ∧ 0 ≤ a ∧ a < s ∧ c < 0) ∨ (1 ≤ s ∧ s ≤ 32768 ∧ 0 ≤ a ∧ a < s ∧ 0 ≤ c ∧ s ≤ c) ∨ (1 ≤ s ∧ s ≤ 32768 ∧ 0 ≤ a ∧ a < s ∧ 0 ≤ c ∧ c < s ∧ y < 0) ∨ (1 ≤ s ∧ s ≤ 32768 ∧ 0 ≤ a ∧ a < s ∧ 0 ≤ c ∧ c < s ∧ 0 ≤ y ∧ s < y) := by omega
  rcases hc with hv | hc | hc | hc | hc | hc | hc | hc | hc
  · unfold naV
    rw [decide_eq_true hv]
    have r1 := naE_ref a c y
    have r2 := naE_ref (a - s) c y
    rcases hg with rfl | rfl <;> cases b <;> cases d
    all_goals
      repeat' ((conv => whnf); first
        | exact rfl 
        |  exact congrArg (fun q => SV.tup [.raw (.bool q), .raw (.int .i64 0)]) r1 
        |  exact congrArg (fun q => SV.tup [.raw (.bool q), .raw (.int .i64 0)]) r2
        | refine brOn (by first | exact decide_eq_true (by omega) | exact decide_eq_false (by omega) | exact inR64_mk (by omega) | exact inR64_off (by omega) | exact beq_iff_eq.2 (by omega) | exact beq_eq_false_iff_ne.2 (by omega) | (simp only [bne, Bool.not_eq_true', Bool.not_eq_false', decide_eq_true_eq, decide_eq_false_iff_not, beq_iff_eq, beq_eq_false_iff_ne]; omega) | (simp; done) | (simp; omega)) ?_
        | refine brOff (by first | exact decide_eq_true (by omega) | exact decide_eq_false (by omega) | exact inR64_mk (by omega) | exact inR64_off (by omega) | exact beq_iff_eq.2 (by omega) | exact beq_eq_false_iff_ne.2 (by omega) | (simp only [bne, Bool.not_eq_true', Bool.not_eq_false', decide_eq_true_eq, decide_eq_false_iff_not, beq_iff_eq, beq_eq_false_iff_ne]; omega) | (simp; done) | (simp; omega)) ?_
        | refine brR (fun h => ?_) (fun h => ?_)
        | refine brD (fun h => ?_) (fun h => ?_)
        | refine brE (fun h => ?_) (fun h => ?_)
        | refine brT (fun h => ?_) (fun h => ?_))
  all_goals
    have e : naV a b c d y s = .tup [.raw (.bool false), .raw (.int .i64 2)] := by
      unfold naV
      rw [decide_eq_false (show ¬ (1 ≤ s ∧ s ≤ 32768 ∧ 0 ≤ a ∧ a < s ∧ 0 ≤ c ∧ c < s ∧ 0 ≤ y ∧ y ≤ s) by omega)]
    rw [e]
    rcases hg with rfl | rfl
    all_goals
      repeat' ((conv => whnf); first
        | exact rfl
        | refine brOn (by first | exact decide_eq_true (by omega) | exact decide_eq_false (by omega) | exact inR64_mk (by omega) | exact inR64_off (by omega) | exact beq_iff_eq.2 (by omega) | exact beq_eq_false_iff_ne.2 (by omega) | (simp only [bne, Bool.not_eq_true', Bool.not_eq_false', decide_eq_true_eq, decide_eq_false_iff_not, beq_iff_eq, beq_eq_false_iff_ne]; omega) | (simp; done) | (simp; omega)) ?_
        | refine brOff (by first | exact decide_eq_true (by omega) | exact decide_eq_false (by omega) | exact inR64_mk (by omega) | exact inR64_off (by omega) | exact beq_iff_eq.2 (by omega) | exact beq_eq_false_iff_ne.2 (by omega) | (simp only [bne, Bool.not_eq_true', Bool.not_eq_false', decide_eq_true_eq, decide_eq_false_iff_not, beq_iff_eq, beq_eq_false_iff_ne]; omega) | (simp; done) | (simp; omega)) ?_
        | refine brR (fun h => ?_) (fun h => ?_)
        | refine brD (fun h => ?_) (fun h => ?_)
        | refine brE (fun h => ?_) (fun h => ?_)
        | refine brT (fun h => ?_) (fun h => ?_))
theorem na_ok (g : Nat) (hg : g = 15 ∨ g = 30) : FnOk Try.prog g naF := FnOk.of (cS_ok 5) fun vs v hv => by
  unfold naF at hv
  split at hv
  · cases hv
    refine ⟨rfl, ?_, na_run g hg _ _ _ _ _ _⟩
    unfold naV
    split <;> rfl
  · cases hv
end Go.Proofs.Ytedhjmfobbmpoaa
