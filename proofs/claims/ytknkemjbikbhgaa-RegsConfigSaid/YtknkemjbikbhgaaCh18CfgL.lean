/-
  Chapter 18: RegsConfig, its law: what changes make of registers. Own work; nothing here is trusted.
-/
import Derived.Test.YtknkemjbikbhgaaCh18Rd
namespace Go.Proofs.Ytknkemjbikbhgaa
open Go Go.Sx Go.RowKit
set_option maxRecDepth 1000000
set_option maxHeartbeats 8000000
set_option linter.unusedVariables false
set_option linter.unusedSimpArgs false
noncomputable section
/-- Registers behind a change and its acknowledgement. -/
def ackO (r : Rg) (m : Int) (bs : List Int) : Rg := wO 13 2 (opq (chF r m bs))
theorem ack_eq (r : Rg) (m : Int) (bs : List Int) : ackO r m bs = { chF r m bs with it := bitsV .u8 .andNot (bitsV .u8 .or r.it 2) 2 } := by
  unfold ackO wO
  simp only [opq_eq]
  unfold wF
  rw [if_neg (by decide), if_neg (by decide), if_neg (by decide), if_neg (by decide), if_neg (by decide), if_neg (by decide), if_neg (by decide), if_neg (by decide), if_pos rfl]
  rfl
theorem it_a : ∀ i : Fin 4, (bitsV .u64 .and (bitsV .u8 .or (i.val : Int) 2 % 18446744073709551616) 2 == 0) = false := by decide +kernel
theorem it_b : ∀ i : Fin 4, (bitsV .u64 .and (bitsV .u8 .andNot (bitsV .u8 .or (i.val : Int) 2) 2 % 18446744073709551616) 2 != 0) = false := by decide +kernel
theorem ack_f {r : Rg} {m : Int} {bs : List Int} (h : RI r) (hc : chB r m bs = true) : RI (ackO r m bs) ∧ rV (opq (chF r m bs)) = true ∧ (bitsV .u64 .and ((opq (chF r m bs)).it % 18446744073709551616) 2 == 0) = false ∧ (bitsV .u64 .and ((ackO r m bs).it % 18446744073709551616) 2 != 0) = false := by
  have h1 := (chF_I h hc).1
  have h2 : RI (ackO r m bs) := by unfold ackO wO; simp only [opq_eq]; exact wF_I h1 (by decide)
  have hv := vR_iff.1 h.v
  obtain ⟨i, hi⟩ := fin4 (show 0 ≤ r.it ∧ r.it ≤ 3 from ⟨h.it, hv.2.2.2.2.2.1⟩)
  refine ⟨h2, by rw [opq_eq]; exact h1.v, ?_, ?_⟩
  · rw [opq_eq]
    show (bitsV .u64 .and (bitsV .u8 .or r.it 2 % 18446744073709551616) 2 == 0) = false
    rw [hi]; exact it_a i
  · rw [ack_eq]
    show (bitsV .u64 .and (bitsV .u8 .andNot (bitsV .u8 .or r.it 2) 2 % 18446744073709551616) 2 != 0) = false
    rw [hi]; exact it_b i
/-- One change, and how many there were. -/
def cStep (x : Wt) (p : Rg × Nat) : Rg × Nat := if chB p.1 x.1.2.2.2 (bsW x) = true then (ackO p.1 x.1.2.2.2 (bsW x), p.2 + 1) else p
def rC (p : Rg × Nat) (l : List Wt) : Rg × Nat := l.foldl (fun p a => cStep a p) p
/-- What is known of registers behind changes. -/
structure RC (cf : List Int) (p : Rg × Nat) : Prop where
  i : RI p.1
  len : p.1.cf.length = cf.length
  ge : p.1.ge = ((p.2 : Int)) % 256
  nul : p.2 = 0 → p.1.cf = cf
theorem cStep_C {cf : List Int} {p : Rg × Nat} (x : Wt) (h : RC cf p) : RC cf (cStep x p) := by
  unfold cStep
  by_cases hc : chB p.1 x.1.2.2.2 (bsW x) = true
  · rw [if_pos hc]
    obtain ⟨h1, _⟩ := ack_f h.i hc
    refine ⟨h1, ?_, ?_, fun h0 => absurd h0 (Nat.succ_ne_zero _)⟩
    · show (ackO p.1 x.1.2.2.2 (bsW x)).cf.length = _
      rw [ack_eq]
      exact (chF_I h.i hc).2.trans h.len
    · show (ackO p.1 x.1.2.2.2 (bsW x)).ge = ((p.2 + 1 : Nat) : Int) % 256
      rw [ack_eq]
      show (p.1.ge + 1) % 256 = _
      rw [h.ge]; omega
  · rw [if_neg hc]; exact h
theorem cStep_n (x : Wt) (p : Rg × Nat) : cStep x p = p ∨ (cStep x p).2 = p.2 + 1 := by
  unfold cStep
  by_cases hc : chB p.1 x.1.2.2.2 (bsW x) = true
  · rw [if_pos hc]; exact .inr rfl
  · rw [if_neg hc]; exact .inl rfl
theorem rC_C {cf : List Int} {p : Rg × Nat} {l : List Wt} (h : RC cf p) : RC cf (rC p l) := by
  induction l generalizing p with
  | nil => exact h
  | cons a l ih => exact ih (cStep_C a h)
theorem rC_n (p : Rg × Nat) (l : List Wt) : p.2 ≤ (rC p l).2 ∧ (rC p l).2 ≤ p.2 + l.length ∧ ((rC p l).2 = p.2 → rC p l = p) := by
  induction l generalizing p with
  | nil => exact ⟨Nat.le_refl _, Nat.le_refl _, fun _ => rfl⟩
  | cons a l ih =>
    obtain ⟨g1, g2, g3⟩ := ih (cStep a p)
    have e : rC p (a :: l) = rC (cStep a p) l := rfl
    rw [e, List.length_cons]
    rcases cStep_n a p with h | h
    · rw [h] at g1 g2 g3 ⊢; exact ⟨g1, by omega, g3⟩
    · exact ⟨by omega, by omega, fun h0 => by omega⟩
theorem rC_step {p : Rg × Nat} {l : List Wt} {i : Nat} (hi : i < l.length) : rC p (l.take (i + 1)) = cStep (elW l (i : Int)) (rC p (l.take i)) := by
  unfold rC
  rw [List.take_add_one, List.getElem?_eq_getElem hi, List.foldl_append, elW_at hi]; rfl
theorem rC_app (p : Rg × Nat) (a b : List Wt) : rC p (a ++ b) = rC (rC p a) b := List.foldl_append
end
end Go.Proofs.Ytknkemjbikbhgaa
