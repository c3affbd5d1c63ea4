/-
  Chapter 1: what is common to its statements: the examples hold, and what Pick answers.
-/
import Derived.Test.YtedhjmfobbmpoaaSxFrame
import Derived.Test.YtedhjmfobbmpoaaProg
namespace Go.Proofs.Ytedhjmfobbmpoaa
open Go Go.Sx Go.RowKit
set_option maxRecDepth 100000
set_option maxHeartbeats 2000000
set_option linter.unusedVariables false
def C0 : Tab := fun t => match t with
  | 4 => cBool
  | _ => cInt .u64
theorem plain : Plain Try.prog := plain_of (by kernel_rfl)
abbrev cS := callS (C := C0) Try.prog noSpec noDraw (fun _ _ => 0)
theorem cS_ok (d : Nat) : CallP Try.prog (cS d) := callS_sound plain noSpec_ok noDraw_ok d
theorem lives_run : cS 10 10 [] [] 0 isT = (true = true) := by kernel_rfl
set_option maxRecDepth 100000 in
theorem lives_walk (w : World) : Calls Try.prog 10 #[] w fun e w' => e = .returned (.bool true) ∧ Below w.heap.size w w' :=
  run_true (cS_ok 10) (args := []) (cast lives_run.symm rfl) w
def sp1 : SpecF C0 Prop := spec1 10 (const0 (.bool true)) noSpec
theorem sp1_ok : SpecOk Try.prog sp1 := spec1_ok (const0_ok (by kernel_rfl) lives_walk) noSpec_ok
abbrev cL := callS (C := C0) Try.prog sp1 noDraw (fun _ _ => 0)
theorem cL_ok (d : Nat) : CallP Try.prog (cL d) := callS_sound plain sp1_ok noDraw_ok d
def pickF : List SV → (SV → Prop) → Prop := fun vs K => match vs with
  | [.raw (.int .i64 n), .raw (.int .i64 s)] => 1 ≤ s ∧ s ≤ 4611686018427387904 ∧ ∀ r, 0 ≤ r → r < s → K (.raw (.int .i64 r))
  | _ => False
theorem pick_ok : CallOk1 (C := C0) Try.prog 13 (flatF pickF) := flatF_ok (cS_ok 5) fun vs K hF => by
  unfold pickF at hF
  split at hF
  · rename_i n s
    obtain ⟨h1, h2, h3⟩ := hF
    refine ⟨rfl, ?_⟩
    have t1 := Int.emod_nonneg n (show s ≠ 0 by omega)
    have t2 := Int.emod_lt_of_pos n (show 0 < s by omega)
    have t3 := Int.tmod_lt_of_pos n (show 0 < s by omega)
    have t4 : -s < n.tmod s := by
      have := Int.tmod_lt_of_pos (-n) (show 0 < s by omega)
      rw [Int.neg_tmod] at this; omega
    repeat' ((conv => whnf); first
      | exact ⟨rfl, h3 _ (by omega) (by omega)⟩
      | refine brOn (by first | exact decide_eq_true (by omega) | exact decide_eq_false (by omega) | exact inR64_mk (by omega) | exact inR64_off (by omega) | exact beq_iff_eq.2 (by omega) | exact beq_eq_false_iff_ne.2 (by omega) | (simp only [bne, Bool.not_eq_true', Bool.not_eq_false', decide_eq_true_eq, decide_eq_false_iff_not, beq_iff_eq, beq_eq_false_iff_ne]; omega) | (simp; done) | (simp; omega)) ?_
      | refine brOff (by first | exact decide_eq_true (by omega) | exact decide_eq_false (by omega) | exact inR64_mk (by omega) | exact inR64_off (by omega) | exact beq_iff_eq.2 (by omega) | exact beq_eq_false_iff_ne.2 (by omega) | (simp only [bne, Bool.not_eq_true', Bool.not_eq_false', decide_eq_true_eq, decide_eq_false_iff_not, beq_iff_eq, beq_eq_false_iff_ne]; omega) | (simp; done) | (simp; omega)) ?_
      | refine brR (fun h => ?_) (fun h => ?_)
      | refine brD (fun h => ?_) (fun h => ?_)
      | refine brE (fun h => ?_) (fun h => ?_)
      | refine brT (fun h => ?_) (fun h => ?_))
  · exact hF.elim
def sp2 : SpecF C0 Prop := spec1 13 (flatF pickF) sp1
theorem sp2_ok : SpecOk Try.prog sp2 := spec1_ok pick_ok sp1_ok
abbrev cP := callS (C := C0) Try.prog sp2 noDraw (fun _ _ => 0)
theorem cP_ok (d : Nat) : CallP Try.prog (cP d) := callS_sound plain sp2_ok noDraw_ok d

end Go.Proofs.Ytedhjmfobbmpoaa
