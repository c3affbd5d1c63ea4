/-
  Chapter 1: Align, of the program and of the document. Own work; nothing here is trusted.
-/
import Derived.Test.YtedhjmfobbmpoaaCh01Forms7
namespace Go.Proofs.Ytedhjmfobbmpoaa
open Go Go.Sx Go.RowKit
set_option maxRecDepth 100000
set_option maxHeartbeats 4000000
set_option linter.unusedVariables false
set_option linter.unusedSimpArgs false
theorem and64u {t : Int} (h : 1 ≤ t ∧ t < 18446744073709551616) : bitsV .u64 .and t ((t - 1) % 18446744073709551616) = ((t.toNat &&& (t.toNat - 1) : Nat) : Int) := by
  obtain ⟨m, rfl⟩ := Int.eq_ofNat_of_zero_le (show 0 ≤ t by omega)
  have e2 : ((m : Int) - 1) % 18446744073709551616 = ((m - 1 : Nat) : Int) := by omega
  show IntKind.u64.wrap ((BitVec.ofInt 64 (m : Int) &&& BitVec.ofInt 64 (((m : Int) - 1) % 18446744073709551616)).toNat : Int) = _
  rw [e2, BitVec.ofInt_natCast, BitVec.ofInt_natCast, BitVec.toNat_and, BitVec.toNat_ofNat, BitVec.toNat_ofNat, Nat.mod_eq_of_lt (by omega), Nat.mod_eq_of_lt (by omega)]
  have hle : m &&& (m - 1) ≤ m := Nat.and_le_left
  rw [wrap64 (by omega)]
  rfl
theorem pow_of {t : Int} (h : 1 ≤ t ∧ t < 18446744073709551616) (ha : bitsV .u64 .and t ((t - 1) % 18446744073709551616) = 0) : ∃ k : Nat, k ≤ 63 ∧ t = 2 ^ k := by
  rw [and64u h] at ha
  obtain ⟨k, hk⟩ := pow_of_and t.toNat (by omega) (by omega)
  have hk63 : k ≤ 63 := by
    by_cases hk' : k ≤ 63
    · exact hk'
    · have := Nat.pow_le_pow_right (show 0 < 2 by omega) (show 64 ≤ k by omega)
      omega
  refine ⟨k, hk63, ?_⟩
  have e : ((2 ^ k : Nat) : Int) = (2 : Int) ^ k := by simp
  rw [← e, ← hk]; omega
theorem up_self {n t : Int} (ht : 0 < t) (h : n % t = 0) : up n t = n := by
  have h1 := up_le (n := n) ht
  have hn : n = t * (n / t) := by have := Int.mul_ediv_add_emod n t; omega
  obtain ⟨q, hq⟩ : ∃ q, up n t = t * q := ⟨_, up_mul n t⟩
  by_cases hlt : n < up n t
  · have h' : t * (n / t) < t * q := by rw [← hn, ← hq]; exact hlt
    have := mul_step ht h'
    rw [← hn, ← hq] at this
    omega
  · omega
theorem up_next {n t : Int} (ht : 0 < t) (h : n % t ≠ 0) : up n t = n - n % t + t := by
  have h1 := up_le (n := n) ht
  have m1 := Int.emod_nonneg n (show t ≠ 0 by omega)
  have m2 := Int.emod_lt_of_pos n ht
  have hn : n - n % t = t * (n / t) := by have := Int.mul_ediv_add_emod n t; omega
  obtain ⟨q, hq⟩ : ∃ q, up n t = t * q := ⟨_, up_mul n t⟩
  have h2 : t * (n / t) < t * q := by rw [← hn, ← hq]; omega
  have h3 := mul_step ht h2
  rw [← hn, ← hq] at h3
  have h4 : n - n % t + t = t * (n / t + 1) := by rw [Int.mul_add, Int.mul_one, ← hn]
  by_cases hlt : n - n % t + t < up n t
  · have h' : t * (n / t + 1) < t * q := by rw [← h4, ← hq]; exact hlt
    have := mul_step ht h'
    rw [← h4, ← hq] at this
    omega
  · omega
def alV (n t : Int) : SV := match decide (1 ≤ t ∧ bitsV .u64 .and t ((t - 1) % 18446744073709551616) = 0 ∧ n + (t - 1) < 18446744073709551616) with
  | true => .tup [.raw (.int .u64 (up n t)), .raw (.int .i64 0)]
  | false => .tup [.raw (.int .u64 0), .raw (.int .i64 2)]
def alS : List SV → (SV → Prop) → Prop := fun vs K => match vs with
  | [.raw (.int .u64 n), .raw (.int .u64 t)] => 0 ≤ n ∧ n < 18446744073709551616 ∧ 0 ≤ t ∧ t < 18446744073709551616 ∧ K (alV n t)
  | _ => False
theorem al_no {n t : Int} (h : ¬ (1 ≤ t ∧ bitsV .u64 .and t ((t - 1) % 18446744073709551616) = 0 ∧ n + (t - 1) < 18446744073709551616)) : alV n t = .tup [.raw (.int .u64 0), .raw (.int .i64 2)] := by
  unfold alV; rw [decide_eq_false h]
theorem al_yes {n t : Int} (h : 1 ≤ t ∧ bitsV .u64 .and t ((t - 1) % 18446744073709551616) = 0 ∧ n + (t - 1) < 18446744073709551616) : alV n t = .tup [.raw (.int .u64 (up n t)), .raw (.int .i64 0)] := by
  unfold alV; rw [decide_eq_true h]
theorem alNo_run (g : Nat) (hg : g = 16 ∨ g = 32) (n t : Int) (K : SV → Prop) (h1 : 0 ≤ n) (h2 : n < 18446744073709551616) (h3 : 0 ≤ t) (h4 : t < 18446744073709551616) (hb : t = 0 ∨ (t ≠ 0 ∧ bitsV .u64 .and t ((t - 1) % 18446744073709551616) ≠ 0))
    (h : K (.tup [.raw (.int .u64 0), .raw (.int .i64 2)])) : cS 5 g [.raw (.int .u64 n), .raw (.int .u64 t)] [] 0 (fun sv _ _ => flatV sv = true ∧ K sv) := by
  rcases hb with hb | ⟨hb, ha⟩
  · rcases hg with rfl | rfl
    all_goals
      repeat' ((conv => whnf); first
        | exact ⟨rfl, h⟩
        | refine brOn (by first | exact decide_eq_true (by omega) | exact decide_eq_false (by omega) | exact inR64_mk (by omega) | exact inR64_off (by omega) | exact beq_iff_eq.2 (by omega) | exact beq_eq_false_iff_ne.2 (by omega) | (simp only [bne, Bool.not_eq_true', Bool.not_eq_false', decide_eq_true_eq, decide_eq_false_iff_not, beq_iff_eq, beq_eq_false_iff_ne]; omega) | (simp; done) | (simp; omega)) ?_
        | refine brOff (by first | exact decide_eq_true (by omega) | exact decide_eq_false (by omega) | exact inR64_mk (by omega) | exact inR64_off (by omega) | exact beq_iff_eq.2 (by omega) | exact beq_eq_false_iff_ne.2 (by omega) | (simp only [bne, Bool.not_eq_true', Bool.not_eq_false', decide_eq_true_eq, decide_eq_false_iff_not, beq_iff_eq, beq_eq_false_iff_ne]; omega) | (simp; done) | (simp; omega)) ?_
        | refine brR (fun h => ?_) (fun h => ?_)
        | refine brD (fun h => ?_) (fun h => ?_)
        | refine brE (fun h => ?_) (fun h => ?_)
        | refine brT (fun h => ?_) (fun h => ?_))
  · rcases hg with rfl | rfl
    all_goals
      conv => whnf
      refine brOff (beq_eq_false_iff_ne.2 hb) ?_
      conv => whnf
      refine brOn (bne_iff_ne.2 ha) ?_
      conv => whnf
      exact ⟨rfl, h⟩
theorem alRef_run (n t : Int) (K : SV → Prop) (h1 : 0 ≤ n) (h2 : n < 18446744073709551616) (h3 : 1 ≤ t) (h4 : t ≤ 9223372036854775808) (ha : bitsV .u64 .and t ((t - 1) % 18446744073709551616) = 0) (e : n.tmod t = n % t) (m1 : 0 ≤ n % t) (m2 : n % t < t) (m3 : n % t ≤ n)
    (hs : n % t = 0 → K (.tup [.raw (.int .u64 n), .raw (.int .i64 0)])) (hu : n % t ≠ 0 → n - n % t + t < 18446744073709551616 → K (.tup [.raw (.int .u64 (n - n % t + t)), .raw (.int .i64 0)])) (hn : n % t ≠ 0 → ¬ n - n % t + t < 18446744073709551616 → K (.tup [.raw (.int .u64 0), .raw (.int .i64 2)])) :
    cS 5 32 [.raw (.int .u64 n), .raw (.int .u64 t)] [] 0 (fun sv _ _ => flatV sv = true ∧ K sv) := by
  conv => whnf
  refine brOff (beq_eq_false_iff_ne.2 (by omega)) ?_
  conv => whnf
  refine brOff (by simp [ha]) ?_
  conv => whnf
  refine brOff (beq_eq_false_iff_ne.2 (by omega)) ?_
  conv => whnf
  by_cases hz : n % t = 0
  · refine brOn (beq_iff_eq.2 (by omega)) ?_
    conv => whnf
    exact ⟨rfl, hs hz⟩
  · refine brOff (beq_eq_false_iff_ne.2 (by omega)) ?_
    conv => whnf
    refine brOff (beq_eq_false_iff_ne.2 (by omega)) ?_
    conv => whnf
    by_cases hl : n - n % t + t < 18446744073709551616
    · refine brOff (decide_eq_false (by omega)) ?_
      conv => whnf
      refine ⟨rfl, ?_⟩
      show K (.tup [.raw (.int .u64 (((n - n.tmod t) % 18446744073709551616 + t) % 18446744073709551616)), .raw (.int .i64 0)])
      have ev : ((n - n.tmod t) % 18446744073709551616 + t) % 18446744073709551616 = n - n % t + t := by omega
      rw [ev]; exact hu hz hl
    · refine brOn (decide_eq_true (by omega)) ?_
      conv => whnf
      exact ⟨rfl, hn hz hl⟩
end Go.Proofs.Ytedhjmfobbmpoaa
