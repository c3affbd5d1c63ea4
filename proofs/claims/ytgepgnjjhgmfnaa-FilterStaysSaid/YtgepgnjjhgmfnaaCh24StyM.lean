/-
  Chapter 24: FilterStays, its laws: a command twice is the command once. Own work; nothing here is trusted.
-/
import Derived.Test.YtgepgnjjhgmfnaaCh24StyL
import Derived.Test.YtgepgnjjhgmfnaaCh24Sty1
namespace Go.Proofs.Ytgepgnjjhgmfnaa
open Go Go.Sx Go.RowKit
set_option maxRecDepth 1000000
set_option maxHeartbeats 8000000
set_option linter.unusedVariables false
set_option linter.unusedSimpArgs false
theorem srt_len : ∀ (l : List Int) (c : Int), l.Pairwise (· < ·) → (∀ x ∈ l, c ≤ x ∧ x ≤ 4095) → l.length ≤ (4096 - c).toNat
  | [], c, _, _ => Nat.zero_le _
  | x :: l, c, h, hb => by
    obtain ⟨h1, h2⟩ := List.pairwise_cons.1 h
    have hx := hb x List.mem_cons_self
    have := srt_len l (x + 1) h2 fun y hy => ⟨by have := h1 y hy; omega, (hb y (List.mem_cons_of_mem _ hy)).2⟩
    simp only [List.length_cons]
    omega
theorem ok_sm {P : Fp} (h : okF P = true) : smF P = true := by
  obtain ⟨h1, h2, h3⟩ := okF_iff.1 h
  have := srt_len _ 0 h3.1 h3.2
  exact decide_eq_true ⟨by omega, by omega, by omega⟩
theorem ok_smX {P : Fp} (h : okF P = true) : smX P.2.2.2.1 P.2.2.2.2.1 P.2.2.2.2.2 = true := ok_sm (P := (mac0, false, false, P.2.2.2.1, P.2.2.2.2.1, P.2.2.2.2.2)) (okF_iff.2 (okF_iff.1 h))
def isT : Cm → Bool
  | .tb _ _ => true
  | _ => false
def isE : Cm → Bool
  | .er => true
  | _ => false
/-- What a command makes of a filter. -/
def apC (P : Fp) : Cm → Fp
  | .er => P
  | .pr b => (P.1, b, P.2.2.1, P.2.2.2.1, P.2.2.2.2.1, P.2.2.2.2.2)
  | .mn b => (P.1, P.2.1, b, P.2.2.2.1, P.2.2.2.2.1, P.2.2.2.2.2)
  | .mc m => (m, P.2.1, P.2.2.1, P.2.2.2.1, P.2.2.2.2.1, P.2.2.2.2.2)
  | .tb a b => (P.1, P.2.1, P.2.2.1, a.getD [], b.getD [], P.2.2.2.2.2)
  | .ad n => (P.1, P.2.1, P.2.2.1, P.2.2.2.1, P.2.2.2.2.1, addV P.2.2.2.2.2 n)
  | .rm n => (P.1, P.2.1, P.2.2.1, P.2.2.2.1, P.2.2.2.2.1, remV P.2.2.2.2.2 n)
theorem do_ad (P : Fp) (n : Int) : doC P (.ad n) = bif bsF P.2.2.2.2.2 n then .keep P.1 P.2.1 P.2.2.1 else .vl (insL P.2.2.2.2.2 (bsZ P.2.2.2.2.2 n).toNat [n]) := rfl
theorem do_rm (P : Fp) (n : Int) : doC P (.rm n) = bif bsF P.2.2.2.2.2 n then .vl (delL P.2.2.2.2.2 (bsZ P.2.2.2.2.2 n).toNat (bsZ P.2.2.2.2.2 n + 1).toNat) else .keep P.1 P.2.1 P.2.2.1 := rfl
theorem doK (P : Fp) (c : Cm) : Nat.beq (ocK (doC P c)) 3 = isT c := by
  cases c with
  | ad n => rw [do_ad]; cases bsF P.2.2.2.2.2 n <;> rfl
  | rm n => rw [do_rm]; cases bsF P.2.2.2.2.2 n <;> rfl
  | _ => rfl
theorem doE (P : Fp) (c : Cm) : ocE (doC P c) = bif isE c then 1 else 0 := by
  cases c with
  | ad n => rw [do_ad]; cases bsF P.2.2.2.2.2 n <;> rfl
  | rm n => rw [do_rm]; cases bsF P.2.2.2.2.2 n <;> rfl
  | _ => rfl
theorem doU (P : Fp) {c : Cm} (h : isT c = false) : fU P (doC P c) = apC P c := by
  cases c with
  | ad n =>
    show _ = (P.1, P.2.1, P.2.2.1, P.2.2.2.1, P.2.2.2.2.1, addV P.2.2.2.2.2 n)
    rw [do_ad]; unfold addV; cases bsF P.2.2.2.2.2 n <;> rfl
  | rm n =>
    show _ = (P.1, P.2.1, P.2.2.1, P.2.2.2.1, P.2.2.2.2.1, remV P.2.2.2.2.2 n)
    rw [do_rm]
    unfold remV
    cases bsF P.2.2.2.2.2 n with
    | false => rfl
    | true =>
      have h0 : 0 ≤ bsZ P.2.2.2.2.2 n := by rw [bsZ_eq]; omega
      have e : (bsZ P.2.2.2.2.2 n + 1).toNat = (bsZ P.2.2.2.2.2 n).toNat + 1 := by omega
      show fU P (Oc.vl (delL P.2.2.2.2.2 (bsZ P.2.2.2.2.2 n).toNat (bsZ P.2.2.2.2.2 n + 1).toNat)) = _
      rw [e]
      rfl
  | tb a b => cases h
  | _ => rfl
theorem apC_ok {P : Fp} {c : Cm} (h : okF P = true) (hc : cmG c) : okF (apC P c) = true := by
  obtain ⟨h1, h2, h3⟩ := okF_iff.1 h
  cases c with
  | er => exact h
  | pr b => exact okF_iff.2 ⟨h1, h2, h3⟩
  | mn b => exact okF_iff.2 ⟨h1, h2, h3⟩
  | mc m => exact okF_iff.2 ⟨h1, h2, h3⟩
  | tb a b => exact okF_iff.2 ⟨hc.1, hc.2, h3⟩
  | ad n => exact okF_iff.2 ⟨h1, h2, srt_addV h3 hc.1 (by have := hc.2; omega)⟩
  | rm n => exact okF_iff.2 ⟨h1, h2, srt_remV h3⟩
theorem apC_twice {P : Fp} {c : Cm} (h : okF P = true) : apC (apC P c) c = apC P c := by
  obtain ⟨h1, h2, h3⟩ := okF_iff.1 h
  cases c with
  | ad n =>
    have hb : bsF (addV P.2.2.2.2.2 n) n = true := (bsF_iff (pw_addV h3.1)).2 ((mem_addV h3.1).2 (.inl rfl))
    have e : addV (addV P.2.2.2.2.2 n) n = addV P.2.2.2.2.2 n := by
      generalize addV P.2.2.2.2.2 n = l at hb ⊢
      unfold addV; rw [hb]; rfl
    show (_, _, _, _, _, addV (addV P.2.2.2.2.2 n) n) = _
    rw [e]; rfl
  | rm n =>
    have hb : bsF (remV P.2.2.2.2.2 n) n = false := by
      cases hb : bsF (remV P.2.2.2.2.2 n) n with
      | false => rfl
      | true => exact absurd rfl ((mem_remV h3.1).1 ((bsF_iff (pw_remV h3.1)).1 hb)).2
    have e : remV (remV P.2.2.2.2.2 n) n = remV P.2.2.2.2.2 n := by
      generalize remV P.2.2.2.2.2 n = l at hb ⊢
      unfold remV; rw [hb]; rfl
    show (_, _, _, _, _, remV (remV P.2.2.2.2.2 n) n) = _
    rw [e]; rfl
  | _ => rfl
theorem cm_off {feats : Int} {bs : List Int} (h : hasB feats 17 = false) : cmO feats bs = .er := by
  unfold cmO; rw [h]; rfl
theorem cm_nil (feats : Int) : cmO feats [] = .er := by
  cases h : hasB feats 17 with
  | false => exact cm_off h
  | true => unfold cmO; rw [h]; rfl
theorem off_of {feats : Int} (h : (bitsV IntKind.u64 BinOp.and (shrV IntKind.u64 feats (17 : Int)) (1 : Int) == (0 : Int)) = true) : hasB feats 17 = false := by
  unfold hasB
  rw [beq_iff_eq] at h
  rw [h]; rfl
end Go.Proofs.Ytgepgnjjhgmfnaa
