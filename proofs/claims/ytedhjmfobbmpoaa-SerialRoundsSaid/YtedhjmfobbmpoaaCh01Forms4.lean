/-
  Chapter 1: Word and Read, of the program and of the document. Own work; nothing here is trusted.
-/
import Derived.Test.YtedhjmfobbmpoaaCh01Forms3
namespace Go.Proofs.Ytedhjmfobbmpoaa
open Go Go.Sx Go.RowKit
set_option maxRecDepth 100000
set_option maxHeartbeats 4000000
set_option linter.unusedVariables false
set_option linter.unusedSimpArgs false
theorem and15i (a : Int) : bitsV .i64 .and a 32767 = a % 32768 := by
  show IntKind.i64.wrap ((BitVec.ofInt 64 a &&& BitVec.ofInt 64 ((32767 : Nat) : Int)).toNat : Int) = _
  rw [BitVec.toNat_and, BitVec.toNat_ofInt, BitVec.ofInt_natCast, BitVec.toNat_ofNat]
  have h1 : 32767 % 2 ^ 64 = 2 ^ 15 - 1 := rfl
  rw [h1, Nat.and_two_pow_sub_one_eq_mod]
  have e : (((a % ((2 ^ 64 : Nat) : Int)).toNat % 2 ^ 15 : Nat) : Int) = a % 32768 := by omega
  have hb : (a % ((2 ^ 64 : Nat) : Int)).toNat % 2 ^ 15 < 32768 := Nat.mod_lt _ (by omega)
  rw [← e]
  generalize (a % ((2 ^ 64 : Nat) : Int)).toNat % 2 ^ 15 = q at hb
  have : IntKind.i64.wrap ((q : Nat) : Int) = (if 9223372036854775808 ≤ (q : Int) % 18446744073709551616 then (q : Int) % 18446744073709551616 - 18446744073709551616 else (q : Int) % 18446744073709551616) := by
    simp [IntKind.wrap, IntKind.bits, IntKind.signed]
  rw [this]
  split <;> omega
theorem and16i (a : Int) : bitsV .i64 .and a 65535 = a % 65536 := by
  show IntKind.i64.wrap ((BitVec.ofInt 64 a &&& BitVec.ofInt 64 ((65535 : Nat) : Int)).toNat : Int) = _
  rw [BitVec.toNat_and, BitVec.toNat_ofInt, BitVec.ofInt_natCast, BitVec.toNat_ofNat]
  have h1 : 65535 % 2 ^ 64 = 2 ^ 16 - 1 := rfl
  rw [h1, Nat.and_two_pow_sub_one_eq_mod]
  have e : (((a % ((2 ^ 64 : Nat) : Int)).toNat % 2 ^ 16 : Nat) : Int) = a % 65536 := by omega
  have hb : (a % ((2 ^ 64 : Nat) : Int)).toNat % 2 ^ 16 < 65536 := Nat.mod_lt _ (by omega)
  rw [← e]
  generalize (a % ((2 ^ 64 : Nat) : Int)).toNat % 2 ^ 16 = q at hb
  have : IntKind.i64.wrap ((q : Nat) : Int) = (if 9223372036854775808 ≤ (q : Int) % 18446744073709551616 then (q : Int) % 18446744073709551616 - 18446744073709551616 else (q : Int) % 18446744073709551616) := by
    simp [IntKind.wrap, IntKind.bits, IntKind.signed]
  rw [this]
  split <;> omega

def wordV (a : Int) (b : Bool) : SV := match b with
  | true => .raw (.int .u16 (a % 32768 + 32768))
  | false => .raw (.int .u16 (a % 32768))
def wordG : List SV → Option SV := fun vs => match vs with
  | [.agg [.raw (.int .i64 a), .raw (.bool b)]] => some (wordV a b)
  | _ => none
theorem wordP_run (a : Int) (b : Bool) : cS 5 20 [.agg [.raw (.int .i64 a), .raw (.bool b)]] [] 0 (fun sv _ _ => sv = wordV a b) := by
  have e1 : bitsV .u16 .and (a % 65536) 32767 = a % 32768 := by rw [and15 (by omega)]; omega
  cases b
  · conv => whnf
    show SV.raw (.int .u16 (bitsV .u16 .and (a % 65536) 32767)) = SV.raw (.int .u16 (a % 32768))
    rw [e1]
  · conv => whnf
    show SV.raw (.int .u16 (bitsV .u16 .or (bitsV .u16 .and (a % 65536) 32767) 32768)) = SV.raw (.int .u16 (a % 32768 + 32768))
    rw [e1, or15 (by omega)]
theorem wordR_run (a : Int) (b : Bool) : cS 5 26 [.agg [.raw (.int .i64 a), .raw (.bool b)]] [] 0 (fun sv _ _ => sv = wordV a b) := by
  have e1 := and15i a
  cases b
  · conv => whnf
    show SV.raw (.int .u16 (bitsV .i64 .and a 32767 % 65536)) = SV.raw (.int .u16 (a % 32768))
    rw [e1]
    have : a % 32768 % 65536 = a % 32768 := by omega
    rw [this]
  · conv => whnf
    show SV.raw (.int .u16 ((bitsV .i64 .and a 32767 % 65536 + 32768) % 65536)) = SV.raw (.int .u16 (a % 32768 + 32768))
    rw [e1]
    have : (a % 32768 % 65536 + 32768) % 65536 = a % 32768 + 32768 := by omega
    rw [this]
theorem wordP_ok : FnOk Try.prog 20 wordG := FnOk.of (cS_ok 5) fun vs v hv => by
  unfold wordG at hv
  split at hv
  · rename_i a b
    cases hv
    exact ⟨rfl, by cases b <;> rfl, wordP_run a b⟩
  · cases hv
theorem wordR_ok : FnOk Try.prog 26 wordG := FnOk.of (cS_ok 5) fun vs v hv => by
  unfold wordG at hv
  split at hv
  · rename_i a b
    cases hv
    exact ⟨rfl, by cases b <;> rfl, wordR_run a b⟩
  · cases hv
end Go.Proofs.Ytedhjmfobbmpoaa
