/-
  Chapter 1: Power, of the program and of the document. Own work; nothing here is trusted.
-/
import Derived.Test.YtedhjmfobbmpoaaCh01Forms4
namespace Go.Proofs.Ytedhjmfobbmpoaa
open Go Go.Sx Go.RowKit
set_option maxRecDepth 100000
set_option maxHeartbeats 4000000
set_option linter.unusedVariables false
set_option linter.unusedSimpArgs false
theorem odd_and (q : Nat) : (2 * q + 1) &&& (2 * q) = 2 * q := by
  apply Nat.eq_of_testBit_eq
  intro i
  cases i with
  | zero => simp [Nat.testBit_zero]
  | succ i =>
    rw [Nat.testBit_and, Nat.testBit_succ, Nat.testBit_succ]
    have e1 : (2 * q + 1) / 2 = q := by omega
    have e2 : 2 * q / 2 = q := by omega
    rw [e1, e2, Bool.and_self]
theorem pow_of_and : ∀ m : Nat, 1 ≤ m → m &&& (m - 1) = 0 → ∃ k, m = 2 ^ k := by
  intro m
  induction m using Nat.strongRecOn with
  | ind m ih =>
    intro h1 h
    rcases (show (∃ q, m = 2 * q) ∨ ∃ q, m = 2 * q + 1 from by
      rcases Nat.mod_two_eq_zero_or_one m with e | e
      · exact .inl ⟨m / 2, by omega⟩
      · exact .inr ⟨m / 2, by omega⟩) with ⟨q, rfl⟩ | ⟨q, rfl⟩
    · rw [and_pred_two (by omega)] at h
      obtain ⟨k, hk⟩ := ih q (by omega) (by omega) (by omega)
      exact ⟨k + 1, by rw [hk, Nat.pow_succ]; omega⟩
    · have : 2 * q + 1 - 1 = 2 * q := by omega
      rw [this, odd_and] at h
      exact ⟨0, by simp; omega⟩
theorem and_of_pow (k : Nat) : 2 ^ k &&& (2 ^ k - 1) = 0 := by rw [Nat.and_two_pow_sub_one_eq_mod, Nat.mod_self]
theorem pw_pow {n : Int} (h : pw n = true) : ∃ k : Nat, k ≤ 15 ∧ n = 2 ^ k := by
  unfold pw at h
  split at h
  · rename_i h1 h2
    have h1 := of_decide_eq_true h1
    have h2 := of_decide_eq_true h2
    have h := beq_iff_eq.1 h
    obtain ⟨k, hk⟩ := pow_of_and n.toNat (by omega) h
    have hk15 : k ≤ 15 := by
      by_cases hk' : k ≤ 15
      · exact hk'
      · have := Nat.pow_le_pow_right (show 0 < 2 by omega) (show 16 ≤ k by omega)
        omega
    refine ⟨k, hk15, ?_⟩
    have e : ((2 ^ k : Nat) : Int) = (2 : Int) ^ k := by simp
    rw [← e, ← hk]; omega
  · cases h
theorem FnOk.of2 {P : Program} {C : Tab} {call : CallF C Prop} (hc : CallP P call) {g : Nat} {F : List SV → Option SV} (h : ∀ vs v, F vs = some v → flatL vs = true ∧ flatV v = true ∧ call g vs [] 0 (fun sv _ _ => flatV sv = true ∧ sv = v)) : FnOk P g F := fun vs v hv => by
  obtain ⟨h1, h2, h3⟩ := h vs v hv
  refine ⟨h1, h2, fun w args hd => ?_⟩
  obtain ⟨g1, g2⟩ := hc g vs [] 0 _ w Own.no (fun _ => none) w args h3 (Rel.start w _ rfl) hd
  refine ⟨g1, g2.mono ?_⟩
  rintro e w' ⟨ρ', u, sv, hp', n', rfl, _, _, g3, g4, g5⟩
  have g5 : flatV sv = true ∧ sv = v := g5
  obtain ⟨_, rfl⟩ := g5
  exact ⟨u, rfl, by rw [den_flat _ ρ' sv h2]; exact g3, g4.below_start⟩
def powG : List SV → Option SV := fun vs => match vs with
  | [.raw (.int .i64 n)] => some (.raw (.bool (pw n)))
  | _ => none
theorem powP_ok : FnOk Try.prog 17 powG := FnOk.of2 (cS_ok 5) fun vs v hv => by
  unfold powG at hv
  split at hv
  · cases hv
    exact ⟨rfl, rfl, power_run _ _ rfl⟩
  · cases hv
abbrev cU1 := callS (C := C0) Try.prog noSpec noDraw (fun _ _ => 20)
theorem cU1_ok (d : Nat) : CallP Try.prog (cU1 d) := callS_sound plain noSpec_ok noDraw_ok d
theorem powR_run (n : Int) : cU1 5 27 [.raw (.int .i64 n)] [] 0 (fun sv _ _ => sv = .raw (.bool (pw n))) := by
  by_cases hn : pw n = true
  · obtain ⟨k, hk, rfl⟩ := pw_pow hn
    rw [hn]
    have : k = 0 ∨ k = 1 ∨ k = 2 ∨ k = 3 ∨ k = 4 ∨ k = 5 ∨ k = 6 ∨ k = 7 ∨ k = 8 ∨ k = 9 ∨ k = 10 ∨ k = 11 ∨ k = 12 ∨ k = 13 ∨ k = 14 ∨ k = 15 := by omega
    clear hn
    rcases this with rfl | rfl | rfl | rfl | rfl | rfl | rfl | rfl | rfl | rfl | rfl | rfl | rfl | rfl | rfl | rfl
    all_goals (conv => whnf)
    all_goals rfl
  · have hn : pw n = false := by simpa using hn
    have hne : ∀ k : Nat, k ≤ 15 → n ≠ ((2 ^ k : Nat) : Int) := fun k hk e => by
      have : pw n = true := by
        rw [e]
        have : k = 0 ∨ k = 1 ∨ k = 2 ∨ k = 3 ∨ k = 4 ∨ k = 5 ∨ k = 6 ∨ k = 7 ∨ k = 8 ∨ k = 9 ∨ k = 10 ∨ k = 11 ∨ k = 12 ∨ k = 13 ∨ k = 14 ∨ k = 15 := by omega
        rcases this with rfl | rfl | rfl | rfl | rfl | rfl | rfl | rfl | rfl | rfl | rfl | rfl | rfl | rfl | rfl | rfl <;> rfl
      rw [hn] at this; cases this
    have e0 := hne 0 (by omega)
    have e1 := hne 1 (by omega)
    have e2 := hne 2 (by omega)
    have e3 := hne 3 (by omega)
    have e4 := hne 4 (by omega)
    have e5 := hne 5 (by omega)
    have e6 := hne 6 (by omega)
    have e7 := hne 7 (by omega)
    have e8 := hne 8 (by omega)
    have e9 := hne 9 (by omega)
    have e10 := hne 10 (by omega)
    have e11 := hne 11 (by omega)
    have e12 := hne 12 (by omega)
    have e13 := hne 13 (by omega)
    have e14 := hne 14 (by omega)
    have e15 := hne 15 (by omega)
    rw [hn]
    clear hn hne
    simp only [Nat.reducePow] at e0 e1 e2 e3 e4 e5 e6 e7 e8 e9 e10 e11 e12 e13 e14 e15
    repeat' ((conv => whnf); first
      | exact rfl
      | refine brOff (beq_eq_false_iff_ne.2 (fun h => by omega)) ?_)
theorem powR_ok : FnOk Try.prog 27 powG := FnOk.of (cU1_ok 5) fun vs v hv => by
  unfold powG at hv
  split at hv
  · cases hv
    exact ⟨rfl, rfl, powR_run _⟩
  · cases hv
end Go.Proofs.Ytedhjmfobbmpoaa
