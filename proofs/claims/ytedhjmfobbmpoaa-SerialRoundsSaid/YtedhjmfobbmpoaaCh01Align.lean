/-
  Chapter 1: what Align and Power answer. Own work; nothing here is trusted.
-/
import Derived.Test.YtedhjmfobbmpoaaCh01Words
namespace Go.Proofs.Ytedhjmfobbmpoaa
open Go Go.Sx Go.RowKit
set_option maxRecDepth 100000
set_option maxHeartbeats 2000000
set_option linter.unusedVariables false
set_option linter.unusedSimpArgs false

theorem and_not_pow {x k : Nat} (hx : x < 2 ^ 64) : (BitVec.ofNat 64 x &&& ~~~ BitVec.ofNat 64 (2 ^ k - 1)).toNat = x - x % 2 ^ k := by
  apply Nat.eq_of_testBit_eq
  intro i
  have e : x - x % 2 ^ k = 2 ^ k * (x / 2 ^ k) := by
    have := Nat.div_add_mod x (2 ^ k)
    omega
  rw [e, Nat.testBit_two_pow_mul, Nat.testBit_div_two_pow, BitVec.testBit_toNat]
  simp only [BitVec.getLsbD_and, BitVec.getLsbD_not, BitVec.getLsbD_ofNat, Nat.testBit_two_pow_sub_one]
  by_cases hi : i < 64
  · by_cases hki : k ≤ i
    · have : ¬ i < k := by omega
      simp [hi, hki, this]
    · have : i < k := by omega
      simp [hi, hki, this]
  · have : x.testBit i = false := Nat.testBit_lt_two_pow (Nat.lt_of_lt_of_le hx (Nat.pow_le_pow_right (by omega) (by omega)))
    by_cases hki : k ≤ i
    · have e2 : i - k + k = i := by omega
      simp [hi, hki, e2, this]
    · simp [hi, hki]
theorem and_pred_two {n : Nat} (h : 1 ≤ n) : (2 * n) &&& (2 * n - 1) = 2 * (n &&& (n - 1)) := by
  apply Nat.eq_of_testBit_eq
  intro i
  cases i with
  | zero => simp [Nat.testBit_zero]
  | succ i =>
    rw [Nat.testBit_and, Nat.testBit_succ, Nat.testBit_succ, Nat.testBit_succ]
    have e1 : 2 * n / 2 = n := by omega
    have e2 : (2 * n - 1) / 2 = n - 1 := by omega
    have e3 : 2 * (n &&& (n - 1)) / 2 = n &&& (n - 1) := by omega
    rw [e1, e2, e3, Nat.testBit_and]

theorem wrap64 {m : Nat} (h : m < 2 ^ 64) : IntKind.u64.wrap ((m : Nat) : Int) = m := by
  have : IntKind.u64.wrap ((m : Nat) : Int) = (m : Int) % 18446744073709551616 := by simp [IntKind.wrap, IntKind.bits, IntKind.signed]
  rw [this]; omega
theorem pow2_le {k : Nat} (hk : k ≤ 63) : (1 : Int) ≤ 2 ^ k ∧ (2 : Int) ^ k ≤ 9223372036854775808 := by
  have h1 : 2 ^ k ≤ 2 ^ 63 := Nat.pow_le_pow_right (by omega) hk
  have h2 : 0 < 2 ^ k := Nat.two_pow_pos k
  have e : ((2 ^ k : Nat) : Int) = (2 : Int) ^ k := by simp
  rw [← e]
  omega
theorem and_pow {k : Nat} (hk : k ≤ 63) : bitsV .u64 .and (2 ^ k) ((2 ^ k - 1) % 18446744073709551616) = 0 := by
  obtain ⟨h1, h2⟩ := pow2_le hk
  have e : (2 : Int) ^ k = ((2 ^ k : Nat) : Int) := by simp
  have e2 : ((2 : Int) ^ k - 1) % 18446744073709551616 = ((2 ^ k - 1 : Nat) : Int) := by
    have := Nat.two_pow_pos k
    omega
  show IntKind.u64.wrap ((BitVec.ofInt 64 (2 ^ k) &&& BitVec.ofInt 64 ((2 ^ k - 1) % 18446744073709551616)).toNat : Int) = 0
  rw [e2, e, BitVec.ofInt_natCast, BitVec.ofInt_natCast, BitVec.toNat_and, BitVec.toNat_ofNat, BitVec.toNat_ofNat]
  have a1 : 2 ^ k % 2 ^ 64 = 2 ^ k := Nat.mod_eq_of_lt (by omega)
  have a2 : (2 ^ k - 1) % 2 ^ 64 = 2 ^ k - 1 := Nat.mod_eq_of_lt (by omega)
  rw [a1, a2, Nat.and_two_pow_sub_one_eq_mod, Nat.mod_self]
  rfl
theorem andNot_pow {x : Int} {k : Nat} (hk : k ≤ 63) (hx : 0 ≤ x ∧ x < 18446744073709551616) : bitsV .u64 .andNot x ((2 ^ k - 1) % 18446744073709551616) = x - x % 2 ^ k := by
  obtain ⟨h1, h2⟩ := pow2_le hk
  obtain ⟨m, rfl⟩ := Int.eq_ofNat_of_zero_le hx.1
  have hm : m < 2 ^ 64 := by omega
  have e2 : ((2 : Int) ^ k - 1) % 18446744073709551616 = ((2 ^ k - 1 : Nat) : Int) := by
    have e : (2 : Int) ^ k = ((2 ^ k : Nat) : Int) := by simp
    have := Nat.two_pow_pos k
    omega
  show IntKind.u64.wrap ((BitVec.ofInt 64 (m : Int) &&& ~~~ BitVec.ofInt 64 ((2 ^ k - 1) % 18446744073709551616)).toNat : Int) = _
  rw [e2, BitVec.ofInt_natCast, BitVec.ofInt_natCast, and_not_pow hm]
  have hle : m % 2 ^ k ≤ m := Nat.mod_le _ _
  rw [wrap64 (by omega)]
  have e : (m : Int) % 2 ^ k = ((m % 2 ^ k : Nat) : Int) := by simp
  rw [e]; omega

theorem and64 {a b : Int} (ha : 0 ≤ a ∧ a < 32769) (hb : 0 ≤ b ∧ b < 32769) : bitsV .i64 .and a b = ((a.toNat &&& b.toNat : Nat) : Int) := by
  obtain ⟨m, rfl⟩ := Int.eq_ofNat_of_zero_le ha.1
  obtain ⟨l, rfl⟩ := Int.eq_ofNat_of_zero_le hb.1
  show IntKind.i64.wrap ((BitVec.ofInt 64 (m : Int) &&& BitVec.ofInt 64 (l : Int)).toNat : Int) = _
  rw [BitVec.ofInt_natCast, BitVec.ofInt_natCast, BitVec.toNat_and, BitVec.toNat_ofNat, BitVec.toNat_ofNat, Nat.mod_eq_of_lt (by omega), Nat.mod_eq_of_lt (by omega)]
  have hle : m &&& l ≤ m := Nat.and_le_left
  simp only [Int.toNat_natCast]
  generalize m &&& l = q at hle
  have : IntKind.i64.wrap ((q : Nat) : Int) = (if 9223372036854775808 ≤ (q : Int) % 18446744073709551616 then (q : Int) % 18446744073709551616 - 18446744073709551616 else (q : Int) % 18446744073709551616) := by
    simp [IntKind.wrap, IntKind.bits, IntKind.signed]
  rw [this]
  split <;> omega

def pw (n : Int) : Bool := match decide (1 ≤ n), decide (n ≤ 32768) with
  | true, true => n.toNat &&& (n.toNat - 1) == 0
  | _, _ => false
def powerF : List SV → (SV → Prop) → Prop := fun vs K => match vs with
  | [.raw (.int .i64 n)] => K (.raw (.bool (pw n)))
  | _ => False
theorem power_run (n : Int) (K : SV → Prop) (h : K (.raw (.bool (pw n)))) : cS 5 17 [.raw (.int .i64 n)] [] 0 (fun sv _ _ => flatV sv = true ∧ K sv) := by
  by_cases h1 : 1 ≤ n
  · by_cases h2 : n ≤ 32768
    · conv => whnf
      refine brOn (decide_eq_true h1) ?_
      conv => whnf
      refine brOn (decide_eq_true h2) ?_
      conv => whnf
      refine brOn (inR64_mk (by omega)) ?_
      conv => whnf
      refine ⟨rfl, ?_⟩
      show K (.raw (.bool (bitsV .i64 .and n (n - 1) == 0)))
      have e : (bitsV .i64 .and n (n - 1) == 0) = pw n := by
        rw [and64 (by omega) (by omega)]
        unfold pw
        rw [decide_eq_true h1, decide_eq_true h2]
        have : (n - 1).toNat = n.toNat - 1 := by omega
        rw [this]
        simp only
        generalize n.toNat &&& (n.toNat - 1) = q
        cases q <;> rfl
      rw [e]; exact h
    · conv => whnf
      refine brOn (decide_eq_true h1) ?_
      conv => whnf
      refine brOff (decide_eq_false h2) ?_
      conv => whnf
      refine ⟨rfl, ?_⟩
      show K (.raw (.bool false))
      have e : pw n = false := by unfold pw; rw [decide_eq_false h2]; cases decide (1 ≤ n) <;> rfl
      rw [e] at h; exact h
  · conv => whnf
    refine brOff (decide_eq_false h1) ?_
    conv => whnf
    refine ⟨rfl, ?_⟩
    show K (.raw (.bool false))
    have e : pw n = false := by unfold pw; rw [decide_eq_false h1]
    rw [e] at h; exact h
theorem power_ok : CallOk1 (C := C0) Try.prog 17 (flatF powerF) := flatF_ok (cS_ok 5) fun vs K hF => by
  unfold powerF at hF
  split at hF
  · exact ⟨rfl, power_run _ K hF⟩
  · exact hF.elim
theorem pw_two {n : Int} (h : 1 ≤ n ∧ n ≤ 16384) : pw n = pw (2 * n) := by
  unfold pw
  rw [decide_eq_true (show 1 ≤ n by omega), decide_eq_true (show n ≤ 32768 by omega), decide_eq_true (show 1 ≤ 2 * n by omega), decide_eq_true (show 2 * n ≤ 32768 by omega)]
  simp only
  have e : (2 * n).toNat = 2 * n.toNat := by omega
  rw [e, and_pred_two (by omega)]
  generalize n.toNat &&& (n.toNat - 1) = q
  cases q <;> rfl

/-- The least multiple that is not below. -/
def up (n t : Int) : Int := n + (t - 1) - (n + (t - 1)) % t
theorem up_mul (n t : Int) : up n t = t * ((n + (t - 1)) / t) := by
  unfold up
  have := Int.mul_ediv_add_emod (n + (t - 1)) t
  omega
theorem up_le {n t : Int} (ht : 0 < t) : n ≤ up n t ∧ up n t < n + t := by
  unfold up
  have h1 := Int.emod_nonneg (n + (t - 1)) (show t ≠ 0 by omega)
  have h2 := Int.emod_lt_of_pos (n + (t - 1)) ht
  omega
theorem mul_step {t q c : Int} (ht : 0 < t) (h : t * q < t * c) : t * q + t ≤ t * c := by
  have h1 : q < c := Int.lt_of_mul_lt_mul_left h (by omega)
  have h2 : t * (q + 1) ≤ t * c := Int.mul_le_mul_of_nonneg_left (by omega) (by omega)
  rw [Int.mul_add, Int.mul_one] at h2
  exact h2
theorem up_top {n t c : Int} (ht : 0 < t) (hc : t * c = 18446744073709551616) (h : up n t < 18446744073709551616) : up n t + (t - 1) < 18446744073709551616 := by
  rw [up_mul, ← hc] at h ⊢
  have := mul_step ht h
  omega
theorem up_up {n t : Int} (ht : 0 < t) : up (up n t) t = up n t := by
  have h1 := up_le (n := up n t) ht
  obtain ⟨q, h2⟩ : ∃ q, up n t = t * q := ⟨_, up_mul n t⟩
  obtain ⟨m, h3⟩ : ∃ m, up (up n t) t = t * m := ⟨_, up_mul (up n t) t⟩
  by_cases h : up n t < up (up n t) t
  · have h' : t * q < t * m := by rw [← h2, ← h3]; exact h
    have := mul_step ht h'
    rw [← h2, ← h3] at this
    omega
  · omega
theorem up_two {n t : Int} (ht : 0 < t) : up n t ≤ up n (2 * t) := by
  have h1 := up_le (n := n) ht
  have h2 := up_le (n := n) (t := 2 * t) (by omega)
  obtain ⟨q, h3⟩ : ∃ q, up n t = t * q := ⟨_, up_mul n t⟩
  obtain ⟨m, h4⟩ : ∃ m, up n (2 * t) = t * m := ⟨_, by rw [up_mul, Int.mul_comm 2 t, Int.mul_assoc]⟩
  by_cases h : up n (2 * t) < up n t
  · have h' : t * m < t * q := by rw [← h3, ← h4]; exact h
    have := mul_step ht h'
    rw [← h3, ← h4] at this
    omega
  · omega
def alignF : List SV → (SV → Prop) → Prop := fun vs K => match vs with
  | [.raw (.int .u64 n), .raw (.int .u64 t)] => 0 ≤ n ∧ n < 18446744073709551616 ∧ ∃ k : Nat, k ≤ 63 ∧ t = 2 ^ k ∧
    (n + (t - 1) < 18446744073709551616 → K (.tup [.raw (.int .u64 (up n t)), .raw (.int .i64 0)])) ∧ (¬ n + (t - 1) < 18446744073709551616 → K (.tup [.raw (.int .u64 0), .raw (.int .i64 2)]))
  | _ => False
theorem align_run (n t : Int) (k : Nat) (hk : k ≤ 63) (ht : t = 2 ^ k) (K : SV → Prop) (h1 : 0 ≤ n) (h2 : n < 18446744073709551616) (p1 : 1 ≤ t) (p2 : t ≤ 9223372036854775808)
    (e1 : bitsV .u64 .and t ((t - 1) % 18446744073709551616) = 0)
    (e2 : n + (t - 1) < 18446744073709551616 → bitsV .u64 .andNot ((n + (t - 1) % 18446744073709551616) % 18446744073709551616) ((t - 1) % 18446744073709551616) = up n t)
    (hA : n + (t - 1) < 18446744073709551616 → K (.tup [.raw (.int .u64 (up n t)), .raw (.int .i64 0)])) (hB : ¬ n + (t - 1) < 18446744073709551616 → K (.tup [.raw (.int .u64 0), .raw (.int .i64 2)])) :
    cS 5 16 [.raw (.int .u64 n), .raw (.int .u64 t)] [] 0 (fun sv _ _ => flatV sv = true ∧ K sv) := by
  conv => whnf
  refine brOff (beq_eq_false_iff_ne.2 (by omega)) ?_
  conv => whnf
  refine brOff (by simp [e1]) ?_
  conv => whnf
  by_cases h : n + (t - 1) < 18446744073709551616
  · refine brOff (decide_eq_false (by omega)) ?_
    conv => whnf
    refine ⟨rfl, ?_⟩
    show K (.tup [.raw (.int .u64 (bitsV .u64 .andNot ((n + (t - 1) % 18446744073709551616) % 18446744073709551616) ((t - 1) % 18446744073709551616))), .raw (.int .i64 0)])
    rw [e2 h]; exact hA h
  · refine brOn (decide_eq_true (by omega)) ?_
    conv => whnf
    exact ⟨rfl, hB h⟩
theorem align_ok : CallOk1 (C := C0) Try.prog 16 (flatF alignF) := flatF_ok (cS_ok 5) fun vs K hF => by
  unfold alignF at hF
  split at hF
  · rename_i n t
    obtain ⟨h1, h2, k, hk, ht, hA, hB⟩ := hF
    obtain ⟨p1, p2⟩ := pow2_le hk
    refine ⟨rfl, align_run n t k hk ht K h1 h2 (by omega) (by omega) (by rw [ht]; exact and_pow hk) (fun h => ?_) hA hB⟩
    have e : (n + (t - 1) % 18446744073709551616) % 18446744073709551616 = n + (t - 1) := by omega
    rw [e, ht]
    exact andNot_pow hk (by rw [← ht]; omega)
  · exact hF.elim
end Go.Proofs.Ytedhjmfobbmpoaa
