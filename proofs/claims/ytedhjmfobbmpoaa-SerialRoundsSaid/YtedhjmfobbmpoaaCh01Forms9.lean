/-
  Chapter 1: Align as a specification, of the program and of the document. Own work; nothing here is trusted.
-/
import Derived.Test.YtedhjmfobbmpoaaCh01Forms8
namespace Go.Proofs.Ytedhjmfobbmpoaa
open Go Go.Sx Go.RowKit
set_option maxRecDepth 100000
set_option maxHeartbeats 4000000
set_option linter.unusedVariables false
set_option linter.unusedSimpArgs false
theorem pow_dvd2 {k : Nat} (hk : k ≤ 63) : (2 : Int) ^ k * 2 ^ (64 - k) = 18446744073709551616 := by
  rw [← Int.pow_add]
  have : k + (64 - k) = 64 := by omega
  rw [this]; rfl
theorem alR_ok : CallOk1 (C := C0) Try.prog 32 (flatF alS) := flatF_ok (cS_ok 5) fun vs K hF => by
  unfold alS at hF
  split at hF
  · rename_i n t
    obtain ⟨h1, h2, h3, h4, h5⟩ := hF
    refine ⟨rfl, ?_⟩
    by_cases hb : t = 0 ∨ (t ≠ 0 ∧ bitsV .u64 .and t ((t - 1) % 18446744073709551616) ≠ 0)
    · rw [al_no (by rcases hb with h | h <;> omega)] at h5
      exact alNo_run 32 (.inr rfl) n t K h1 h2 h3 h4 hb h5
    · have ht : 1 ≤ t := by omega
      have ha : bitsV .u64 .and t ((t - 1) % 18446744073709551616) = 0 := by omega
      obtain ⟨k, hk, hkt⟩ := pow_of ⟨ht, h4⟩ ha
      have p2 := (pow2_le hk).2
      have pd := pow_dvd2 hk
      rw [← hkt] at p2 pd
      have m1 := Int.emod_nonneg n (show t ≠ 0 by omega)
      have m2 := Int.emod_lt_of_pos n (show 0 < t by omega)
      have m3 : n % t ≤ n := by
        have := Int.mul_ediv_add_emod n t
        have hq : 0 ≤ n / t := Int.ediv_nonneg h1 (by omega)
        have : 0 ≤ t * (n / t) := Int.mul_nonneg (by omega) hq
        omega
      have ub := up_le (n := n) (t := t) (by omega)
      refine alRef_run n t K h1 h2 ht p2 ha (Int.tmod_eq_emod_of_nonneg h1) m1 m2 m3 (fun hz => ?_) (fun hz hl => ?_) (fun hz hl => ?_)
      · have eu := up_self (show 0 < t by omega) hz
        have := up_top (n := n) (show 0 < t by omega) pd (by omega)
        rw [al_yes ⟨ht, ha, by omega⟩, eu] at h5
        exact h5
      · have eu := up_next (show 0 < t by omega) hz
        have := up_top (n := n) (show 0 < t by omega) pd (by omega)
        rw [al_yes ⟨ht, ha, by omega⟩, eu] at h5
        exact h5
      · have eu := up_next (show 0 < t by omega) hz
        rw [al_no (fun hh => by omega)] at h5
        exact h5
  · exact hF.elim
theorem alP_ok : CallOk1 (C := C0) Try.prog 16 (flatF alS) := flatF_ok (cS_ok 5) fun vs K hF => by
  unfold alS at hF
  split at hF
  · rename_i n t
    obtain ⟨h1, h2, h3, h4, h5⟩ := hF
    refine ⟨rfl, ?_⟩
    by_cases hb : t = 0 ∨ (t ≠ 0 ∧ bitsV .u64 .and t ((t - 1) % 18446744073709551616) ≠ 0)
    · rw [al_no (by rcases hb with h | h <;> omega)] at h5
      exact alNo_run 16 (.inl rfl) n t K h1 h2 h3 h4 hb h5
    · have ht : 1 ≤ t := by omega
      have ha : bitsV .u64 .and t ((t - 1) % 18446744073709551616) = 0 := by omega
      obtain ⟨k, hk, hkt⟩ := pow_of ⟨ht, h4⟩ ha
      have p2 := (pow2_le hk).2
      rw [← hkt] at p2
      refine align_run n t k hk hkt K h1 h2 ht p2 ha (fun h => ?_) (fun h => ?_) (fun h => ?_)
      · have e : (n + (t - 1) % 18446744073709551616) % 18446744073709551616 = n + (t - 1) := by omega
        rw [e, hkt]
        exact andNot_pow hk (by rw [← hkt]; omega)
      · rw [al_yes ⟨ht, ha, h⟩] at h5; exact h5
      · rw [al_no (fun hh => h hh.2.2)] at h5; exact h5
  · exact hF.elim

def soC : SpecF C0 (OT C0) := specG 24 (byF .fail chkF) (specG 25 (byF .fail chkF) (specG 20 (byF .fail wordG) (specG 26 (byF .fail wordG) (specG 17 (byF .fail powG) (specG 27 (byF .fail powG) noSpecO)))))
theorem soC_ok : SpecO Try.prog soC := specO_ok (chk_ok 24 (.inl rfl)) (specO_ok (chk_ok 25 (.inr rfl)) (specO_ok wordP_ok (specO_ok wordR_ok (specO_ok powP_ok (specO_ok powR_ok noSpecO_ok)))))
def spC : SpecF C0 Prop := spec1 14 (byF False goF) (spec1 28 (byF False goF) (spec1 21 (flatF readG) (spec1 29 (flatF readG) (spec1 15 (byF False naF) (spec1 30 (byF False naF) (spec1 19 (byF False betF) (spec1 31 (byF False betF) (spec1 16 (flatF alS) (spec1 32 (flatF alS) sp1)))))))))
theorem spC_ok : SpecOk Try.prog spC := spec1_ok (byF_ok (go_ok 14 (.inl rfl))) (spec1_ok (byF_ok (go_ok 28 (.inr rfl))) (spec1_ok readP_ok (spec1_ok readR_ok (spec1_ok (byF_ok (na_ok 15 (.inl rfl))) (spec1_ok (byF_ok (na_ok 30 (.inr rfl))) (spec1_ok (byF_ok (bet_ok 19 (.inl rfl))) (spec1_ok (byF_ok (bet_ok 31 (.inr rfl))) (spec1_ok alP_ok (spec1_ok alR_ok sp1_ok)))))))))
abbrev cC := evalSS (C := C0) Try.prog spC soC (fun _ _ => 20)
theorem cC_ok (d : Nat) : CallP Try.prog (cC d) := evalSS_ok plain mixed spC_ok soC_ok d
end Go.Proofs.Ytedhjmfobbmpoaa
