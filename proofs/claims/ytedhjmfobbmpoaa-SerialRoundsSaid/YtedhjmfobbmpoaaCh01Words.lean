/-
  Chapter 1: what Word and Read answer. Own work; nothing here is trusted.
-/
import Derived.Test.YtedhjmfobbmpoaaCh01
namespace Go.Proofs.Ytedhjmfobbmpoaa
open Go Go.Sx Go.RowKit
set_option maxRecDepth 100000
set_option maxHeartbeats 2000000
set_option linter.unusedVariables false
set_option linter.unusedSimpArgs false


theorem and15 {x : Int} (h : 0 ≤ x ∧ x < 65536) : bitsV .u16 .and x 32767 = x % 32768 := by
  obtain ⟨m, rfl⟩ := Int.eq_ofNat_of_zero_le h.1
  have hm : m < 65536 := by omega
  have e : (BitVec.ofInt IntKind.u16.bits (m : Int) &&& BitVec.ofInt IntKind.u16.bits 32767).toNat = m % 32768 := by
    have e1 : (BitVec.ofInt IntKind.u16.bits (m : Int)).toNat = m := by
      show (BitVec.ofInt 16 (m : Int)).toNat = m
      rw [BitVec.toNat_ofInt]; omega
    have e2 : (BitVec.ofInt IntKind.u16.bits 32767).toNat = 2 ^ 15 - 1 := rfl
    rw [BitVec.toNat_and, e1, e2, Nat.and_two_pow_sub_one_eq_mod]
  show IntKind.u16.wrap _ = _
  rw [e]
  have : IntKind.u16.wrap ((m % 32768 : Nat) : Int) = ((m % 32768 : Nat) : Int) % 65536 := by simp [IntKind.wrap, IntKind.bits, IntKind.signed]
  rw [this]; omega

theorem or15 {x : Int} (h : 0 ≤ x ∧ x < 32768) : bitsV .u16 .or x 32768 = x + 32768 := by
  obtain ⟨m, rfl⟩ := Int.eq_ofNat_of_zero_le h.1
  have hm : m < 32768 := by omega
  have e : (BitVec.ofInt IntKind.u16.bits (m : Int) ||| BitVec.ofInt IntKind.u16.bits 32768).toNat = m + 32768 := by
    have e1 : (BitVec.ofInt IntKind.u16.bits (m : Int)).toNat = m := by
      show (BitVec.ofInt 16 (m : Int)).toNat = m
      rw [BitVec.toNat_ofInt]; omega
    have e2 : (BitVec.ofInt IntKind.u16.bits 32768).toNat = 2 ^ 15 := rfl
    rw [BitVec.toNat_or, e1, e2]
    have := Nat.two_pow_add_eq_or_of_lt (i := 15) (b := m) (by omega) 1
    rw [Nat.or_comm, ← Nat.mul_one (2 ^ 15), ← this]; omega
  show IntKind.u16.wrap _ = _
  rw [e]
  have : IntKind.u16.wrap ((m + 32768 : Nat) : Int) = ((m + 32768 : Nat) : Int) % 65536 := by simp [IntKind.wrap, IntKind.bits, IntKind.signed]
  rw [this]; omega

theorem shr15 {x : Int} : shrV .u16 x 15 = x / 32768 := by
  show x.fdiv (2 ^ (min (Int.toNat 15) IntKind.u16.bits)) = x / 32768
  have : ((2 : Int) ^ (min (Int.toNat 15) IntKind.u16.bits)) = 32768 := by decide
  rw [this, Int.fdiv_eq_ediv_of_nonneg _ (by omega)]

def wordF : List SV → (SV → Prop) → Prop := fun vs K => match vs with
  | [.agg [.raw (.int .i64 at'), .raw (.bool b)]] => 0 ≤ at' ∧ at' < 32768 ∧ Bool.rec (motive := fun _ => Prop) (K (.raw (.int .u16 at'))) (K (.raw (.int .u16 (at' + 32768)))) b
  | _ => False
theorem word_ok : CallOk1 (C := C0) Try.prog 20 (flatF wordF) := flatF_ok (cS_ok 5) fun vs K hF => by
  unfold wordF at hF
  split at hF
  · rename_i at' b
    obtain ⟨h1, h2, h3⟩ := hF
    refine ⟨rfl, ?_⟩
    have e : at' % 65536 = at' := by omega
    have e1 : bitsV .u16 .and (at' % 65536) 32767 = at' := by rw [e, and15 (by omega)]; omega
    cases b
    · conv => whnf
      refine ⟨rfl, ?_⟩
      show K (.raw (.int .u16 (bitsV .u16 .and (at' % 65536) 32767)))
      rw [e1]; exact h3
    · conv => whnf
      refine ⟨rfl, ?_⟩
      show K (.raw (.int .u16 (bitsV .u16 .or (bitsV .u16 .and (at' % 65536) 32767) 32768)))
      rw [e1, or15 (by omega)]; exact h3
  · exact hF.elim

def readF : List SV → (SV → Prop) → Prop := fun vs K => match vs with
  | [.raw (.int .u16 w), .raw (.int .i64 s)] => 0 ≤ w ∧ w < 65536 ∧ w % 32768 < s ∧ s ≤ 32768 ∧ K (.tup [.agg [.raw (.int .i64 (w % 32768)), .raw (.bool (w / 32768 == 1))], .raw (.int .i64 0)])
  | _ => False
theorem read_run (w s : Int) (K : SV → Prop) (h1 : 0 ≤ w) (h2 : w < 65536) (h3 : w % 32768 < s) (h4 : s ≤ 32768) (e : bitsV .u16 .and w 32767 = w % 32768) (e2 : shrV .u16 w 15 = w / 32768)
    (h5 : K (.tup [.agg [.raw (.int .i64 (w % 32768)), .raw (.bool (w / 32768 == 1))], .raw (.int .i64 0)])) : cS 5 21 [.raw (.int .u16 w), .raw (.int .i64 s)] [] 0 (fun sv _ _ => flatV sv = true ∧ K sv) := by
  repeat' ((conv => whnf); first
    | refine ⟨rfl, ?_⟩
    | refine brOn (by first | exact decide_eq_true (by omega) | exact decide_eq_false (by omega) | exact inR64_mk (by omega) | exact inR64_off (by omega) | exact beq_iff_eq.2 (by omega) | exact beq_eq_false_iff_ne.2 (by omega) | (simp only [bne, Bool.not_eq_true', Bool.not_eq_false', decide_eq_true_eq, decide_eq_false_iff_not, beq_iff_eq, beq_eq_false_iff_ne]; omega) | (simp; done) | (simp; omega)) ?_
    | refine brOff (by first | exact decide_eq_true (by omega) | exact decide_eq_false (by omega) | exact inR64_mk (by omega) | exact inR64_off (by omega) | exact beq_iff_eq.2 (by omega) | exact beq_eq_false_iff_ne.2 (by omega) | (simp only [bne, Bool.not_eq_true', Bool.not_eq_false', decide_eq_true_eq, decide_eq_false_iff_not, beq_iff_eq, beq_eq_false_iff_ne]; omega) | (simp; done) | (simp; omega)) ?_
    | refine brR (fun h => ?_) (fun h => ?_)
    | refine brD (fun h => ?_) (fun h => ?_)
    | refine brE (fun h => ?_) (fun h => ?_)
    | refine brT (fun h => ?_) (fun h => ?_))
  all_goals (show K (.tup [.agg [.raw (.int .i64 (bitsV .u16 .and w 32767)), .raw (.bool (shrV .u16 w 15 == 1))], .raw (.int .i64 0)]))
  all_goals (rw [e, e2]; exact h5)
theorem read_ok : CallOk1 (C := C0) Try.prog 21 (flatF readF) := flatF_ok (cS_ok 5) fun vs K hF => by
  unfold readF at hF
  split at hF
  · rename_i w s
    obtain ⟨h1, h2, h3, h4, h5⟩ := hF
    exact ⟨rfl, read_run w s K h1 h2 h3 h4 (and15 ⟨h1, h2⟩) shr15 h5⟩
  · exact hF.elim
end Go.Proofs.Ytedhjmfobbmpoaa
