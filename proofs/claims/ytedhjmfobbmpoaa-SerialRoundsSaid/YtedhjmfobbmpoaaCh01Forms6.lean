/-
  Chapter 1: Read, of the program and of the document. Own work; nothing here is trusted.
-/
import Derived.Test.YtedhjmfobbmpoaaCh01Forms5
namespace Go.Proofs.Ytedhjmfobbmpoaa
open Go Go.Sx Go.RowKit
set_option maxRecDepth 100000
set_option maxHeartbeats 4000000
set_option linter.unusedVariables false
set_option linter.unusedSimpArgs false
def readV (w s : Int) : SV := match decide (1 ≤ s ∧ s ≤ 32768), decide (s ≤ w % 32768) with
  | true, true => .tup [posV 0 false, .raw (.int .i64 4)]
  | true, false => .tup [posV (w % 32768) (decide (32768 ≤ w)), .raw (.int .i64 0)]
  | false, _ => .tup [posV 0 false, .raw (.int .i64 2)]
def readG : List SV → (SV → Prop) → Prop := fun vs K => match vs with
  | [.raw (.int .u16 w), .raw (.int .i64 s)] => 0 ≤ w ∧ w < 65536 ∧ K (readV w s)
  | _ => False
theorem readP_run (w s : Int) (K : SV → Prop) (h1 : 0 ≤ w) (h2 : w < 65536) (e : bitsV .u16 .and w 32767 = w % 32768) (e2 : (shrV .u16 w 15 == 1) = decide (32768 ≤ w)) (h : K (readV w s)) :
    cS 5 21 [.raw (.int .u16 w), .raw (.int .i64 s)] [] 0 (fun sv _ _ => flatV sv = true ∧ K sv) := by
  rcases (show s < 1 ∨ (1 ≤ s ∧ 32768 < s) ∨ (1 ≤ s ∧ s ≤ 32768 ∧ s ≤ w % 32768) ∨ (1 ≤ s ∧ s ≤ 32768 ∧ w % 32768 < s) by omega) with hc | hc | hc | hc
  · have er : readV w s = .tup [posV 0 false, .raw (.int .i64 2)] := by unfold readV; rw [decide_eq_false (show ¬ (1 ≤ s ∧ s ≤ 32768) by omega)]
    rw [er] at h
    repeat' ((conv => whnf); first
      | exact ⟨rfl, h⟩
      | refine brOn (by first | exact decide_eq_true (by omega) | exact decide_eq_false (by omega) | exact inR64_mk (by omega) | exact inR64_off (by omega) | exact beq_iff_eq.2 (by omega) | exact beq_eq_false_iff_ne.2 (by omega) | (simp only [bne, Bool.not_eq_true', Bool.not_eq_false', decide_eq_true_eq, decide_eq_false_iff_not, beq_iff_eq, beq_eq_false_iff_ne]; omega) | (simp; done) | (simp; omega)) ?_
      | refine brOff (by first | exact decide_eq_true (by omega) | exact decide_eq_false (by omega) | exact inR64_mk (by omega) | exact inR64_off (by omega) | exact beq_iff_eq.2 (by omega) | exact beq_eq_false_iff_ne.2 (by omega) | (simp only [bne, Bool.not_eq_true', Bool.not_eq_false', decide_eq_true_eq, decide_eq_false_iff_not, beq_iff_eq, beq_eq_false_iff_ne]; omega) | (simp; done) | (simp; omega)) ?_
      | refine brR (fun h => ?_) (fun h => ?_)
      | refine brD (fun h => ?_) (fun h => ?_)
      | refine brE (fun h => ?_) (fun h => ?_)
      | refine brT (fun h => ?_) (fun h => ?_))
  · have er : readV w s = .tup [posV 0 false, .raw (.int .i64 2)] := by unfold readV; rw [decide_eq_false (show ¬ (1 ≤ s ∧ s ≤ 32768) by omega)]
    rw [er] at h
    repeat' ((conv => whnf); first
      | exact ⟨rfl, h⟩
      | refine brOn (by first | exact decide_eq_true (by omega) | exact decide_eq_false (by omega) | exact inR64_mk (by omega) | exact inR64_off (by omega) | exact beq_iff_eq.2 (by omega) | exact beq_eq_false_iff_ne.2 (by omega) | (simp only [bne, Bool.not_eq_true', Bool.not_eq_false', decide_eq_true_eq, decide_eq_false_iff_not, beq_iff_eq, beq_eq_false_iff_ne]; omega) | (simp; done) | (simp; omega)) ?_
      | refine brOff (by first | exact decide_eq_true (by omega) | exact decide_eq_false (by omega) | exact inR64_mk (by omega) | exact inR64_off (by omega) | exact beq_iff_eq.2 (by omega) | exact beq_eq_false_iff_ne.2 (by omega) | (simp only [bne, Bool.not_eq_true', Bool.not_eq_false', decide_eq_true_eq, decide_eq_false_iff_not, beq_iff_eq, beq_eq_false_iff_ne]; omega) | (simp; done) | (simp; omega)) ?_
      | refine brR (fun h => ?_) (fun h => ?_)
      | refine brD (fun h => ?_) (fun h => ?_)
      | refine brE (fun h => ?_) (fun h => ?_)
      | refine brT (fun h => ?_) (fun h => ?_))
  · have er : readV w s = .tup [posV 0 false, .raw (.int .i64 4)] := by unfold readV; rw [decide_eq_true (show 1 ≤ s ∧ s ≤ 32768 by omega), decide_eq_true (show s ≤ w % 32768 by omega)]
    rw [er] at h
    repeat' ((conv => whnf); first
      | exact ⟨rfl, h⟩
      | refine brOn (by first | exact decide_eq_true (by omega) | exact decide_eq_false (by omega) | exact inR64_mk (by omega) | exact inR64_off (by omega) | exact beq_iff_eq.2 (by omega) | exact beq_eq_false_iff_ne.2 (by omega) | (simp only [bne, Bool.not_eq_true', Bool.not_eq_false', decide_eq_true_eq, decide_eq_false_iff_not, beq_iff_eq, beq_eq_false_iff_ne]; omega) | (simp; done) | (simp; omega)) ?_
      | refine brOff (by first | exact decide_eq_true (by omega) | exact decide_eq_false (by omega) | exact inR64_mk (by omega) | exact inR64_off (by omega) | exact beq_iff_eq.2 (by omega) | exact beq_eq_false_iff_ne.2 (by omega) | (simp only [bne, Bool.not_eq_true', Bool.not_eq_false', decide_eq_true_eq, decide_eq_false_iff_not, beq_iff_eq, beq_eq_false_iff_ne]; omega) | (simp; done) | (simp; omega)) ?_
      | refine brR (fun h => ?_) (fun h => ?_)
      | refine brD (fun h => ?_) (fun h => ?_)
      | refine brE (fun h => ?_) (fun h => ?_)
      | refine brT (fun h => ?_) (fun h => ?_))
  · have er : readV w s = .tup [posV (w % 32768) (decide (32768 ≤ w)), .raw (.int .i64 0)] := by unfold readV; rw [decide_eq_true (show 1 ≤ s ∧ s ≤ 32768 by omega), decide_eq_false (show ¬ s ≤ w % 32768 by omega)]
    rw [er] at h
    repeat' ((conv => whnf); first
      | refine ⟨rfl, ?_⟩
      | refine brOn (by first | exact decide_eq_true (by omega) | exact decide_eq_false (by omega) | exact inR64_mk (by omega) | exact inR64_off (by omega) | exact beq_iff_eq.2 (by omega) | exact beq_eq_false_iff_ne.2 (by omega) | (simp only [bne, Bool.not_eq_true', Bool.not_eq_false', decide_eq_true_eq, decide_eq_false_iff_not, beq_iff_eq, beq_eq_false_iff_ne]; omega) | (simp; done) | (simp; omega)) ?_
      | refine brOff (by first | exact decide_eq_true (by omega) | exact decide_eq_false (by omega) | exact inR64_mk (by omega) | exact inR64_off (by omega) | exact beq_iff_eq.2 (by omega) | exact beq_eq_false_iff_ne.2 (by omega) | (simp only [bne, Bool.not_eq_true', Bool.not_eq_false', decide_eq_true_eq, decide_eq_false_iff_not, beq_iff_eq, beq_eq_false_iff_ne]; omega) | (simp; done) | (simp; omega)) ?_
      | refine brR (fun h => ?_) (fun h => ?_)
      | refine brD (fun h => ?_) (fun h => ?_)
      | refine brE (fun h => ?_) (fun h => ?_)
      | refine brT (fun h => ?_) (fun h => ?_))
    all_goals (show K (.tup [.agg [.raw (.int .i64 (bitsV .u16 .and w 32767)), .raw (.bool (shrV .u16 w 15 == 1))], .raw (.int .i64 0)]))
    all_goals (rw [e, e2]; exact h)
theorem readR_run (w s : Int) (K : SV → Prop) (h1 : 0 ≤ w) (h2 : w < 65536) (e : w.tmod 32768 = w % 32768) (h : K (readV w s)) :
    cS 5 29 [.raw (.int .u16 w), .raw (.int .i64 s)] [] 0 (fun sv _ _ => flatV sv = true ∧ K sv) := by
  rcases (show s < 1 ∨ (1 ≤ s ∧ 32768 < s) ∨ (1 ≤ s ∧ s ≤ 32768 ∧ s ≤ w % 32768) ∨ (1 ≤ s ∧ s ≤ 32768 ∧ w % 32768 < s) by omega) with hc | hc | hc | hc
  · have er : readV w s = .tup [posV 0 false, .raw (.int .i64 2)] := by unfold readV; rw [decide_eq_false (show ¬ (1 ≤ s ∧ s ≤ 32768) by omega)]
    rw [er] at h
    repeat' ((conv => whnf); first
      | exact ⟨rfl, h⟩
      | refine brOn (by first | exact decide_eq_true (by omega) | exact decide_eq_false (by omega) | exact inR64_mk (by omega) | exact inR64_off (by omega) | exact beq_iff_eq.2 (by omega) | exact beq_eq_false_iff_ne.2 (by omega) | (simp only [bne, Bool.not_eq_true', Bool.not_eq_false', decide_eq_true_eq, decide_eq_false_iff_not, beq_iff_eq, beq_eq_false_iff_ne]; omega) | (simp; done) | (simp; omega)) ?_
      | refine brOff (by first | exact decide_eq_true (by omega) | exact decide_eq_false (by omega) | exact inR64_mk (by omega) | exact inR64_off (by omega) | exact beq_iff_eq.2 (by omega) | exact beq_eq_false_iff_ne.2 (by omega) | (simp only [bne, Bool.not_eq_true', Bool.not_eq_false', decide_eq_true_eq, decide_eq_false_iff_not, beq_iff_eq, beq_eq_false_iff_ne]; omega) | (simp; done) | (simp; omega)) ?_
      | refine brR (fun h => ?_) (fun h => ?_)
      | refine brD (fun h => ?_) (fun h => ?_)
      | refine brE (fun h => ?_) (fun h => ?_)
      | refine brT (fun h => ?_) (fun h => ?_))
  · have er : readV w s = .tup [posV 0 false, .raw (.int .i64 2)] := by unfold readV; rw [decide_eq_false (show ¬ (1 ≤ s ∧ s ≤ 32768) by omega)]
    rw [er] at h
    repeat' ((conv => whnf); first
      | exact ⟨rfl, h⟩
      | refine brOn (by first | exact decide_eq_true (by omega) | exact decide_eq_false (by omega) | exact inR64_mk (by omega) | exact inR64_off (by omega) | exact beq_iff_eq.2 (by omega) | exact beq_eq_false_iff_ne.2 (by omega) | (simp only [bne, Bool.not_eq_true', Bool.not_eq_false', decide_eq_true_eq, decide_eq_false_iff_not, beq_iff_eq, beq_eq_false_iff_ne]; omega) | (simp; done) | (simp; omega)) ?_
      | refine brOff (by first | exact decide_eq_true (by omega) | exact decide_eq_false (by omega) | exact inR64_mk (by omega) | exact inR64_off (by omega) | exact beq_iff_eq.2 (by omega) | exact beq_eq_false_iff_ne.2 (by omega) | (simp only [bne, Bool.not_eq_true', Bool.not_eq_false', decide_eq_true_eq, decide_eq_false_iff_not, beq_iff_eq, beq_eq_false_iff_ne]; omega) | (simp; done) | (simp; omega)) ?_
      | refine brR (fun h => ?_) (fun h => ?_)
      | refine brD (fun h => ?_) (fun h => ?_)
      | refine brE (fun h => ?_) (fun h => ?_)
      | refine brT (fun h => ?_) (fun h => ?_))
  · have er : readV w s = .tup [posV 0 false, .raw (.int .i64 4)] := by unfold readV; rw [decide_eq_true (show 1 ≤ s ∧ s ≤ 32768 by omega), decide_eq_true (show s ≤ w % 32768 by omega)]
    rw [er] at h
    repeat' ((conv => whnf); first
      | exact ⟨rfl, h⟩
      | refine brOn (by first | exact decide_eq_true (by omega) | exact decide_eq_false (by omega) | exact inR64_mk (by omega) | exact inR64_off (by omega) | exact beq_iff_eq.2 (by omega) | exact beq_eq_false_iff_ne.2 (by omega) | (simp only [bne, Bool.not_eq_true', Bool.not_eq_false', decide_eq_true_eq, decide_eq_false_iff_not, beq_iff_eq, beq_eq_false_iff_ne]; omega) | (simp; done) | (simp; omega)) ?_
      | refine brOff (by first | exact decide_eq_true (by omega) | exact decide_eq_false (by omega) | exact inR64_mk (by omega) | exact inR64_off (by omega) | exact beq_iff_eq.2 (by omega) | exact beq_eq_false_iff_ne.2 (by omega) | (simp only [bne, Bool.not_eq_true', Bool.not_eq_false', decide_eq_true_eq, decide_eq_false_iff_not, beq_iff_eq, beq_eq_false_iff_ne]; omega) | (simp; done) | (simp; omega)) ?_
      | refine brR (fun h => ?_) (fun h => ?_)
      | refine brD (fun h => ?_) (fun h => ?_)
      | refine brE (fun h => ?_) (fun h => ?_)
      | refine brT (fun h => ?_) (fun h => ?_))
  · have er : readV w s = .tup [posV (w % 32768) (decide (32768 ≤ w)), .raw (.int .i64 0)] := by unfold readV; rw [decide_eq_true (show 1 ≤ s ∧ s ≤ 32768 by omega), decide_eq_false (show ¬ s ≤ w % 32768 by omega)]
    rw [er] at h
    repeat' ((conv => whnf); first
      | refine ⟨rfl, ?_⟩
      | refine brOn (by first | exact decide_eq_true (by omega) | exact decide_eq_false (by omega) | exact inR64_mk (by omega) | exact inR64_off (by omega) | exact beq_iff_eq.2 (by omega) | exact beq_eq_false_iff_ne.2 (by omega) | (simp only [bne, Bool.not_eq_true', Bool.not_eq_false', decide_eq_true_eq, decide_eq_false_iff_not, beq_iff_eq, beq_eq_false_iff_ne]; omega) | (simp; done) | (simp; omega)) ?_
      | refine brOff (by first | exact decide_eq_true (by omega) | exact decide_eq_false (by omega) | exact inR64_mk (by omega) | exact inR64_off (by omega) | exact beq_iff_eq.2 (by omega) | exact beq_eq_false_iff_ne.2 (by omega) | (simp only [bne, Bool.not_eq_true', Bool.not_eq_false', decide_eq_true_eq, decide_eq_false_iff_not, beq_iff_eq, beq_eq_false_iff_ne]; omega) | (simp; done) | (simp; omega)) ?_
      | refine brR (fun h => ?_) (fun h => ?_)
      | refine brD (fun h => ?_) (fun h => ?_)
      | refine brE (fun h => ?_) (fun h => ?_)
      | refine brT (fun h => ?_) (fun h => ?_))
    all_goals (show K (.tup [.agg [.raw (.int .i64 (w.tmod 32768)), .raw (.bool (decide (32768 ≤ w)))], .raw (.int .i64 0)]))
    all_goals (rw [e]; exact h)
theorem readP_ok : CallOk1 (C := C0) Try.prog 21 (flatF readG) := flatF_ok (cS_ok 5) fun vs K hF => by
  unfold readG at hF
  split at hF
  · rename_i w s
    obtain ⟨h1, h2, h3⟩ := hF
    refine ⟨rfl, readP_run w s K h1 h2 (and15 ⟨h1, h2⟩) ?_ h3⟩
    rw [shr15]
    by_cases h : 32768 ≤ w
    · rw [decide_eq_true h]; exact beq_iff_eq.2 (by omega)
    · rw [decide_eq_false h]; exact beq_eq_false_iff_ne.2 (by omega)
  · exact hF.elim
theorem readR_ok : CallOk1 (C := C0) Try.prog 29 (flatF readG) := flatF_ok (cS_ok 5) fun vs K hF => by
  unfold readG at hF
  split at hF
  · rename_i w s
    obtain ⟨h1, h2, h3⟩ := hF
    exact ⟨rfl, readR_run w s K h1 h2 (Int.tmod_eq_emod_of_nonneg h1) h3⟩
  · exact hF.elim
end Go.Proofs.Ytedhjmfobbmpoaa
