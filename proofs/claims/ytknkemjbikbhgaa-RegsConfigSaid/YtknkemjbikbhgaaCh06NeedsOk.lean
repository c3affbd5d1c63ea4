/-
  Chapter 6: Needs as a specification; Pick. Own work; nothing here is trusted.
-/
import Derived.Test.YtknkemjbikbhgaaCh06Law
namespace Go.Proofs.Ytknkemjbikbhgaa
open Go Go.Sx Go.RowKit
set_option maxRecDepth 100000
set_option maxHeartbeats 8000000
set_option linter.unusedVariables false
set_option linter.unusedSimpArgs false

theorem needs2_run (s : Int) (K : SV → Prop) (h1 : 0 ≤ s) (h2 : s < 18446744073709551616) (hk : bitsV .u64 .andNot s 1156151538208 = 0) (h : K (.raw (.int .u64 (U (ndB 2 (V s)))))) :
    cH 5 19 [.raw (.int .i64 2), .raw (.int .u64 s)] [] 0 (fun sv _ _ => flatV sv = true ∧ K sv) := by
  conv => whnf
  refine brOff (by simp [hk]) ?_
  conv => whnf
  refine ⟨rfl, ?_⟩
  show K (.raw (.int .u64 (bitsV .u64 .andNot (bitsV .u64 .or s 4294967296) s)))
  rw [bNot, bOr, VU, v32]; exact h
theorem needs3_run (s : Int) (K : SV → Prop) (h1 : 0 ≤ s) (h2 : s < 18446744073709551616) (hk : bitsV .u64 .andNot s 1156151508999 = 0) (h : K (.raw (.int .u64 (U (ndB 3 (V s)))))) :
    cH 5 19 [.raw (.int .i64 3), .raw (.int .u64 s)] [] 0 (fun sv _ _ => flatV sv = true ∧ K sv) := by
  conv => whnf
  refine brOff (by simp [hk]) ?_
  conv => whnf
  refine ⟨rfl, ?_⟩
  show K (.raw (.int .u64 (bitsV .u64 .andNot (bitsV .u64 .or s 4294967296) s)))
  rw [bNot, bOr, VU, v32]; exact h
def needsF : List SV → (SV → Prop) → Prop := fun vs K => match vs with
  | [.raw (.int .i64 (.ofNat k)), .raw (.int .u64 s)] => 0 ≤ s ∧ s < 18446744073709551616 ∧ (k = 1 ∨ k = 2 ∨ k = 3) ∧ bitsV .u64 .andNot s (allOf k) = 0 ∧ K (.raw (.int .u64 (U (ndB k (V s)))))
  | _ => False
theorem needs_ok : CallOk1 (C := C6) Try.prog 19 (flatF needsF) := flatF_ok (cH_ok 5) fun vs K hF => by
  unfold needsF at hF
  split at hF
  · rename_i k s
    obtain ⟨h1, h2, hk, h3, h4⟩ := hF
    rcases hk with rfl | rfl | rfl
    · exact ⟨rfl, needs1_run s K h1 h2 h3 _ _ _ _ _ _ rfl rfl rfl rfl rfl rfl h4⟩
    · exact ⟨rfl, needs2_run s K h1 h2 h3 h4⟩
    · exact ⟨rfl, needs3_run s K h1 h2 h3 h4⟩
  · exact hF.elim
def pickF : List SV → (SV → Prop) → Prop := fun vs K => match vs with
  | [.raw (.int .i64 n), .raw (.int .i64 s)] => 1 ≤ s ∧ s ≤ 4611686018427387904 ∧ ∀ r, 0 ≤ r → r < s → K (.raw (.int .i64 r))
  | _ => False
theorem pick_ok : CallOk1 (C := C6) Try.prog 17 (flatF pickF) := flatF_ok (cS_ok 5) fun vs K hF => by
  unfold pickF at hF
  split at hF
  · rename_i n s
    obtain ⟨h1, h2, h3⟩ := hF
    refine ⟨rfl, ?_⟩
    have t1 := Int.emod_nonneg n (show s ≠ 0 by omega)
    have t2 := Int.emod_lt_of_pos n (show 0 < s by omega)
    have t3 := Int.tmod_lt_of_pos n (show 0 < s by omega)
    have t4 : -s < n.tmod s := by
      have := Int.tmod_lt_of_pos (-n) (show 0 < s by omega)
      rw [Int.neg_tmod] at this; omega
    repeat' ((conv => whnf); first
      | exact ⟨rfl, h3 _ (by omega) (by omega)⟩
      | refine brOn (by first | exact decide_eq_true (by omega) | exact decide_eq_false (by omega) | exact inR64_mk (by omega) | exact inR64_off (by omega) | exact beq_iff_eq.2 (by omega) | exact beq_eq_false_iff_ne.2 (by omega) | (simp only [bne, Bool.not_eq_true', Bool.not_eq_false', decide_eq_true_eq, decide_eq_false_iff_not, beq_iff_eq, beq_eq_false_iff_ne]; omega) | (simp; done) | (simp; omega)) ?_
      | refine brOff (by first | exact decide_eq_true (by omega) | exact decide_eq_false (by omega) | exact inR64_mk (by omega) | exact inR64_off (by omega) | exact beq_iff_eq.2 (by omega) | exact beq_eq_false_iff_ne.2 (by omega) | (simp only [bne, Bool.not_eq_true', Bool.not_eq_false', decide_eq_true_eq, decide_eq_false_iff_not, beq_iff_eq, beq_eq_false_iff_ne]; omega) | (simp; done) | (simp; omega)) ?_
      | refine brR (fun h => ?_) (fun h => ?_)
      | refine brD (fun h => ?_) (fun h => ?_)
      | refine brE (fun h => ?_) (fun h => ?_)
      | refine brT (fun h => ?_) (fun h => ?_))
  · exact hF.elim
def spN : SpecF C6 Prop := spec1 19 (flatF needsF) (spec1 17 (flatF pickF) spH)
theorem spN_ok : SpecOk Try.prog spN := spec1_ok needs_ok (spec1_ok pick_ok spH_ok)
abbrev cN := callS (C := C6) Try.prog spN noDraw (fun _ _ => 20)
theorem cN_ok (d : Nat) : CallP Try.prog (cN d) := callS_sound plain spN_ok noDraw_ok d
end Go.Proofs.Ytknkemjbikbhgaa
