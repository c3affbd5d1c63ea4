/-
  The symbolic walk of SerialAligns. Own work; nothing here is trusted.
-/
import Derived.Test.YtedhjmfobbmpoaaCh01Align
namespace Go.Proofs.Ytedhjmfobbmpoaa
open Go Go.Sx Go.RowKit
set_option maxRecDepth 100000
set_option maxHeartbeats 4000000
set_option linter.unusedVariables false
set_option linter.unusedSimpArgs false
def sp4 : SpecF C0 Prop := spec1 16 (flatF alignF) (spec1 17 (flatF powerF) sp2)
theorem sp4_ok : SpecOk Try.prog sp4 := spec1_ok align_ok (spec1_ok power_ok sp2_ok)
abbrev cA := callS (C := C0) Try.prog sp4 noDraw (fun _ _ => 0)
theorem cA_ok (d : Nat) : CallP Try.prog (cA d) := callS_sound plain sp4_ok noDraw_ok d


theorem shl_one {r : Int} (h : 0 ≤ r ∧ r < 63) : shlV .u64 1 (r % 18446744073709551616) = 2 ^ r.toNat := by
  have e : r % 18446744073709551616 = r := by omega
  rw [e]
  show IntKind.u64.wrap (1 * 2 ^ (min r.toNat 64)) = _
  have e2 : min r.toNat 64 = r.toNat := by omega
  rw [e2, Int.one_mul]
  have e3 : (2 : Int) ^ r.toNat = ((2 ^ r.toNat : Nat) : Int) := by simp
  rw [e3]
  exact wrap64 (Nat.pow_lt_pow_right (by omega) (by omega))

theorem pow_dvd {k : Nat} (hk : k ≤ 63) : (2 : Int) ^ k * 2 ^ (64 - k) = 18446744073709551616 := by
  rw [← Int.pow_add]
  have : k + (64 - k) = 64 := by omega
  rw [this]; rfl

theorem aligns_run (n k s : Int) (h1 : 0 ≤ n) (h2 : n ≤ 18446744073709551615) : cA 10 5 [.raw (.int .u64 n), .raw (.int .i64 k), .raw (.int .i64 s)] [] 0 isT := by
  conv => whnf
  refine ⟨by omega, by omega, fun r hr1 hr2 => ?_⟩
  conv => whnf
  refine brOff (decide_eq_false (by omega)) ?_
  conv => whnf
  have hT := shl_one ⟨hr1, hr2⟩
  have hk : r.toNat ≤ 63 := by omega
  have hk1 : r.toNat + 1 ≤ 63 := by omega
  obtain ⟨p1, p2⟩ := pow2_le hk
  have p3 := (pow2_le hk1).2
  have pd := pow_dvd hk
  have hTs : (2 : Int) ^ r.toNat * 2 = 2 ^ (r.toNat + 1) := by rw [Int.pow_succ]
  rw [hT]
  generalize hT2 : (2 : Int) ^ r.toNat = T at *
  generalize hT3 : (2 : Int) ^ (r.toNat + 1) = T2 at *
  have e2 : 2 * T % 18446744073709551616 = T2 := by omega
  have u1 := up_le (n := n) (t := T) (by omega)
  have u4 := up_up (n := n) (t := T) (by omega)
  have u5 : (up n T).tmod T = 0 := by rw [up_mul]; exact Int.mul_tmod_right _ _
  have u6 : up n T ≤ up n (2 * T % 18446744073709551616) := by
    have := up_two (n := n) (t := T) (by omega)
    have e : 2 * T % 18446744073709551616 = 2 * T := by omega
    rw [e]; exact this
  refine ⟨by omega, by omega, r.toNat, hk, hT2.symm, fun hc => ?_, fun hc => ?_⟩
  · conv => whnf
    refine ⟨by omega, by omega, r.toNat, hk, hT2.symm, fun hc2 => ?_, fun hc2 => ?_⟩
    · conv => whnf
      refine ⟨by omega, by omega, r.toNat + 1, hk1, by rw [hT3]; exact e2, fun hc3 => ?_, fun hc3 => ?_⟩
      all_goals
        conv => whnf
        refine ⟨by omega, by omega, fun q hq1 hq2 => ?_⟩
        repeat' ((conv => whnf); first
          | refine ⟨by omega, by omega, ?_⟩ 
          |  (simp [pw_two (n := 1 + q) (by omega)]; done)
          | refine brOn (by first | exact decide_eq_true (by omega) | exact decide_eq_false (by omega) | exact inR64_mk (by omega) | exact inR64_off (by omega) | exact beq_iff_eq.2 (by omega) | exact beq_eq_false_iff_ne.2 (by omega) | (simp only [bne, Bool.not_eq_true', Bool.not_eq_false', decide_eq_true_eq, decide_eq_false_iff_not, beq_iff_eq, beq_eq_false_iff_ne]; omega) | (simp; done) | (simp; omega)) ?_
          | refine brOff (by first | exact decide_eq_true (by omega) | exact decide_eq_false (by omega) | exact inR64_mk (by omega) | exact inR64_off (by omega) | exact beq_iff_eq.2 (by omega) | exact beq_eq_false_iff_ne.2 (by omega) | (simp only [bne, Bool.not_eq_true', Bool.not_eq_false', decide_eq_true_eq, decide_eq_false_iff_not, beq_iff_eq, beq_eq_false_iff_ne]; omega) | (simp; done) | (simp; omega)) ?_
          | refine brR (fun h => ?_) (fun h => ?_)
          | refine brD (fun h => ?_) (fun h => ?_)
          | refine brE (fun h => ?_) (fun h => ?_)
          | refine brT (fun h => ?_) (fun h => ?_))
    · exact absurd (up_top (by omega) pd (by omega)) hc2
  · skip
    repeat' ((conv => whnf); first
      | (simp; done)
      | refine brOn (by first | exact decide_eq_true (by omega) | exact decide_eq_false (by omega) | exact inR64_mk (by omega) | exact inR64_off (by omega) | exact beq_iff_eq.2 (by omega) | exact beq_eq_false_iff_ne.2 (by omega) | (simp only [bne, Bool.not_eq_true', Bool.not_eq_false', decide_eq_true_eq, decide_eq_false_iff_not, beq_iff_eq, beq_eq_false_iff_ne]; omega) | (simp; done) | (simp; omega)) ?_
      | refine brOff (by first | exact decide_eq_true (by omega) | exact decide_eq_false (by omega) | exact inR64_mk (by omega) | exact inR64_off (by omega) | exact beq_iff_eq.2 (by omega) | exact beq_eq_false_iff_ne.2 (by omega) | (simp only [bne, Bool.not_eq_true', Bool.not_eq_false', decide_eq_true_eq, decide_eq_false_iff_not, beq_iff_eq, beq_eq_false_iff_ne]; omega) | (simp; done) | (simp; omega)) ?_
      | refine brR (fun h => ?_) (fun h => ?_)
      | refine brD (fun h => ?_) (fun h => ?_)
      | refine brE (fun h => ?_) (fun h => ?_)
      | refine brT (fun h => ?_) (fun h => ?_))

theorem SerialAligns_walk (a0 a1 a2 : Int) (w0 : (Lit.int .u64 a0).wf = true) (_ : (Lit.int .i64 a1).wf = true) (_ : (Lit.int .i64 a2).wf = true) (w : World) : Calls Try.prog 5 #[.int .u64 a0, .int .i64 a1, .int .i64 a2] w fun e w' => e = .returned (.bool true) ∧ Below w.heap.size w w' :=
  run_true (cA_ok 10) (args := [.int .u64 a0, .int .i64 a1, .int .i64 a2]) (aligns_run a0 a1 a2 (wf_u64 w0).1 (wf_u64 w0).2) w
end Go.Proofs.Ytedhjmfobbmpoaa
