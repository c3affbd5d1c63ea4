/-
  Chapter 6: sets of features as bit vectors; what Has answers. Own work; nothing here is trusted.
-/
import Derived.Test.YtknkemjbikbhgaaCh06
namespace Go.Proofs.Ytknkemjbikbhgaa
open Go Go.Sx Go.RowKit
set_option maxRecDepth 100000
set_option maxHeartbeats 4000000
set_option linter.unusedVariables false
set_option linter.unusedSimpArgs false

abbrev V (x : Int) : BitVec 64 := BitVec.ofInt 64 x
def U (v : BitVec 64) : Int := (v.toNat : Int)
theorem U_range (v : BitVec 64) : 0 ≤ U v ∧ U v < 18446744073709551616 := by
  unfold U; have := v.isLt; omega
theorem wrapU (v : BitVec 64) : IntKind.u64.wrap (v.toNat : Int) = U v := by
  have : IntKind.u64.wrap (v.toNat : Int) = (v.toNat : Int) % 18446744073709551616 := by simp [IntKind.wrap, IntKind.bits, IntKind.signed]
  rw [this]; unfold U; have := v.isLt; omega
theorem VU (v : BitVec 64) : V (U v) = v := by
  unfold U V; rw [BitVec.ofInt_natCast, BitVec.ofNat_toNat, BitVec.setWidth_eq]
theorem UV {x : Int} (h : 0 ≤ x ∧ x < 18446744073709551616) : U (V x) = x := by
  obtain ⟨m, rfl⟩ := Int.eq_ofNat_of_zero_le h.1
  unfold U V
  rw [BitVec.ofInt_natCast, BitVec.toNat_ofNat, Nat.mod_eq_of_lt (by omega)]
theorem bAnd (x y : Int) : bitsV .u64 .and x y = U (V x &&& V y) := wrapU _
theorem bOr (x y : Int) : bitsV .u64 .or x y = U (V x ||| V y) := wrapU _
theorem bNot (x y : Int) : bitsV .u64 .andNot x y = U (V x &&& ~~~ V y) := wrapU _
theorem U_eq {u v : BitVec 64} : U u = U v ↔ u = v := by
  constructor
  · intro h; rw [← VU u, ← VU v, h]
  · intro h; rw [h]
theorem U_zero {u : BitVec 64} : U u = 0 ↔ u = 0#64 := U_eq (v := 0#64)
theorem shl_lit (i : Nat) (h : i ≤ 63) : shlV .u64 1 (i : Int) = U (BitVec.twoPow 64 i) := by
  show IntKind.u64.wrap (1 * 2 ^ (min (i : Int).toNat 64)) = _
  have e2 : min (i : Int).toNat 64 = i := by omega
  rw [e2, Int.one_mul]
  have e3 : (2 : Int) ^ i = ((BitVec.twoPow 64 i).toNat : Int) := by
    rw [BitVec.toNat_twoPow_of_lt (by omega)]; simp
  rw [e3]; exact wrapU _
theorem shr_bit {x b : Int} (hx : 0 ≤ x ∧ x < 18446744073709551616) (hb : 0 ≤ b ∧ b ≤ 63) : (bitsV .u64 .and (shrV .u64 x b) 1 == 1) = (V x).getLsbD b.toNat := by
  obtain ⟨m, rfl⟩ := Int.eq_ofNat_of_zero_le hx.1
  obtain ⟨i, rfl⟩ := Int.eq_ofNat_of_zero_le hb.1
  have e1 : shrV .u64 (m : Int) (i : Int) = ((m / 2 ^ i : Nat) : Int) := by
    show (m : Int).fdiv (2 ^ (min (i : Int).toNat 64)) = _
    have e2 : min (i : Int).toNat 64 = i := by omega
    have e3 : (2 : Int) ^ i = ((2 ^ i : Nat) : Int) := by simp
    rw [e2, e3, Int.fdiv_eq_ediv_of_nonneg _ (Int.natCast_nonneg _)]
    rfl
  rw [e1, bAnd]
  have e4 : V ((m / 2 ^ i : Nat) : Int) &&& V 1 = BitVec.ofNat 64 ((m / 2 ^ i) % 2) := by
    apply BitVec.eq_of_toNat_eq
    show (BitVec.ofInt 64 ((m / 2 ^ i : Nat) : Int) &&& BitVec.ofInt 64 ((1 : Nat) : Int)).toNat = _
    rw [BitVec.ofInt_natCast, BitVec.ofInt_natCast, BitVec.toNat_and, BitVec.toNat_ofNat, BitVec.toNat_ofNat, BitVec.toNat_ofNat]
    have : m / 2 ^ i ≤ m := Nat.div_le_self _ _
    rw [Nat.mod_eq_of_lt (show m / 2 ^ i < 2 ^ 64 by omega)]
    have h1 : 1 % 2 ^ 64 = 2 ^ 1 - 1 := rfl
    rw [h1, Nat.and_two_pow_sub_one_eq_mod]
    omega
  rw [e4]
  have e5 : (V (m : Int)).getLsbD i = m.testBit i := by
    unfold V
    rw [BitVec.ofInt_natCast, BitVec.getLsbD_ofNat]
    have : i < 64 := by omega
    simp [this]
  show (U (BitVec.ofNat 64 (m / 2 ^ i % 2)) == 1) = (V (m : Int)).getLsbD i
  rw [e5, Nat.testBit_eq_decide_div_mod_eq]
  have : m / 2 ^ i % 2 < 2 := Nat.mod_lt _ (by omega)
  unfold U
  rw [BitVec.toNat_ofNat, Nat.mod_eq_of_lt (show m / 2 ^ i % 2 < 2 ^ 64 by omega)]
  generalize m / 2 ^ i % 2 = q at this
  match q, this with
  | 0, _ => rfl
  | 1, _ => rfl

def hasF : List SV → (SV → Prop) → Prop := fun vs K => match vs with
  | [.raw (.int .u64 x), .raw (.int .i64 (.ofNat b))] => 0 ≤ x ∧ x < 18446744073709551616 ∧ b ≤ 63 ∧ K (.raw (.bool ((V x).getLsbD b)))
  | _ => False
theorem has_run (x b : Int) (K : SV → Prop) (h1 : 0 ≤ x) (h2 : x < 18446744073709551616) (h3 : 0 ≤ b) (h4 : b ≤ 63) (e : (bitsV .u64 .and (shrV .u64 x b) 1 == 1) = (V x).getLsbD b.toNat) (h : K (.raw (.bool ((V x).getLsbD b.toNat)))) :
    cS 5 27 [.raw (.int .u64 x), .raw (.int .i64 b)] [] 0 (fun sv _ _ => flatV sv = true ∧ K sv) := by
  repeat' ((conv => whnf); first
    | refine ⟨rfl, ?_⟩
    | refine brOn (by first | exact decide_eq_true (by omega) | exact decide_eq_false (by omega) | exact inR64_mk (by omega) | exact inR64_off (by omega) | exact beq_iff_eq.2 (by omega) | exact beq_eq_false_iff_ne.2 (by omega) | (simp only [bne, Bool.not_eq_true', Bool.not_eq_false', decide_eq_true_eq, decide_eq_false_iff_not, beq_iff_eq, beq_eq_false_iff_ne]; omega) | (simp; done) | (simp; omega)) ?_
    | refine brOff (by first | exact decide_eq_true (by omega) | exact decide_eq_false (by omega) | exact inR64_mk (by omega) | exact inR64_off (by omega) | exact beq_iff_eq.2 (by omega) | exact beq_eq_false_iff_ne.2 (by omega) | (simp only [bne, Bool.not_eq_true', Bool.not_eq_false', decide_eq_true_eq, decide_eq_false_iff_not, beq_iff_eq, beq_eq_false_iff_ne]; omega) | (simp; done) | (simp; omega)) ?_
    | refine brR (fun h => ?_) (fun h => ?_)
    | refine brD (fun h => ?_) (fun h => ?_)
    | refine brE (fun h => ?_) (fun h => ?_)
    | refine brT (fun h => ?_) (fun h => ?_))
  all_goals (show K (.raw (.bool (bitsV .u64 .and (shrV .u64 x b) 1 == 1))))
  all_goals (rw [e]; exact h)
theorem has_ok : CallOk1 (C := C6) Try.prog 27 (flatF hasF) := flatF_ok (cS_ok 5) fun vs K hF => by
  unfold hasF at hF
  split at hF
  · rename_i x b
    obtain ⟨h1, h2, h3, h5⟩ := hF
    exact ⟨rfl, has_run x (Int.ofNat b) K h1 h2 (Int.natCast_nonneg b) (by simp only [Int.ofNat_eq_natCast]; omega) (shr_bit ⟨h1, h2⟩ ⟨Int.natCast_nonneg b, by simp only [Int.ofNat_eq_natCast]; omega⟩) h5⟩
  · exact hF.elim
end Go.Proofs.Ytknkemjbikbhgaa
