/-
  Chapter 6: closed sets, in plain Lean; and what Needs answers for every kind. Own work; nothing here is trusted.
-/
import Derived.Test.YtknkemjbikbhgaaCh06Needs
namespace Go.Proofs.Ytknkemjbikbhgaa
open Go Go.Sx Go.RowKit
set_option maxRecDepth 100000
set_option maxHeartbeats 8000000
set_option linter.unusedVariables false
set_option linter.unusedSimpArgs false

def allOf : Nat → Int
  | 1 => 1156165107747
  | 2 => 1156151538208
  | 3 => 1156151508999
  | _ => 0
def ndB (k : Nat) (v : BitVec 64) : BitVec 64 := match k with
  | 1 => cl1 v &&& ~~~ v
  | _ => (v ||| BitVec.twoPow 64 32) &&& ~~~ v

structure Cl (k : Nat) (v : BitVec 64) : Prop where
  c32 : v.getLsbD 32 = true
  c18 : k = 1 → v.getLsbD 18 = true → v.getLsbD 17 = true
  c19 : k = 1 → v.getLsbD 19 = true → v.getLsbD 17 = true
  c22 : k = 1 → v.getLsbD 22 = true → v.getLsbD 17 = true
  c23 : k = 1 → v.getLsbD 23 = true → v.getLsbD 17 = true
  c5 : k = 1 → v.getLsbD 23 = true → v.getLsbD 5 = true
theorem Cl.or {k : Nat} {u v : BitVec 64} (hu : Cl k u) (hv : Cl k v) : Cl k (u ||| v) := by
  constructor <;> simp only [BitVec.getLsbD_or, Bool.or_eq_true]
  · exact .inl hu.c32
  · exact fun hk h => h.imp (hu.c18 hk) (hv.c18 hk)
  · exact fun hk h => h.imp (hu.c19 hk) (hv.c19 hk)
  · exact fun hk h => h.imp (hu.c22 hk) (hv.c22 hk)
  · exact fun hk h => h.imp (hu.c23 hk) (hv.c23 hk)
  · exact fun hk h => h.imp (hu.c5 hk) (hv.c5 hk)
theorem Cl.and {k : Nat} {u v : BitVec 64} (hu : Cl k u) (hv : Cl k v) : Cl k (u &&& v) := by
  constructor <;> simp only [BitVec.getLsbD_and, Bool.and_eq_true]
  · exact ⟨hu.c32, hv.c32⟩
  · exact fun hk h => ⟨hu.c18 hk h.1, hv.c18 hk h.2⟩
  · exact fun hk h => ⟨hu.c19 hk h.1, hv.c19 hk h.2⟩
  · exact fun hk h => ⟨hu.c22 hk h.1, hv.c22 hk h.2⟩
  · exact fun hk h => ⟨hu.c23 hk h.1, hv.c23 hk h.2⟩
  · exact fun hk h => ⟨hu.c5 hk h.1, hv.c5 hk h.2⟩
theorem nd_v1 {v : BitVec 64} (h : v.getLsbD 32 = true) : (v ||| BitVec.twoPow 64 32) &&& ~~~ v = 0#64 := by
  apply BitVec.eq_of_getLsbD_eq
  intro i hi
  simp only [BitVec.getLsbD_and, BitVec.getLsbD_or, BitVec.getLsbD_not, BitVec.getLsbD_twoPow, BitVec.getLsbD_zero]
  by_cases h32 : i = 32
  · subst h32; rw [h]; simp
  · have : ¬ 32 = i := fun e => h32 e.symm
    simp [this, hi]
theorem cl1_self {v : BitVec 64} (h : Cl 1 v) : cl1 v = v ||| BitVec.twoPow 64 32 := by
  have h1 := h.c18 rfl; have h2 := h.c19 rfl; have h3 := h.c22 rfl; have h4 := h.c23 rfl; have h5 := h.c5 rfl
  unfold cl1
  generalize v.getLsbD 18 = b18 at *
  generalize v.getLsbD 19 = b19 at *
  generalize v.getLsbD 22 = b22 at *
  generalize v.getLsbD 23 = b23 at *
  generalize v.getLsbD 17 = b17 at *
  generalize v.getLsbD 5 = b5 at *
  cases b18 <;> cases b19 <;> cases b22 <;> cases b23 <;> cases b17 <;> cases b5 <;> first | rfl | (exact absurd (h1 rfl) (by decide)) | (exact absurd (h2 rfl) (by decide)) | (exact absurd (h3 rfl) (by decide)) | (exact absurd (h4 rfl) (by decide)) | (exact absurd (h5 rfl) (by decide))
theorem nd_zero {k : Nat} {v : BitVec 64} (h : Cl k v) : ndB k v = 0#64 := by
  unfold ndB
  split
  · rw [cl1_self h]; exact nd_v1 h.c32
  · exact nd_v1 h.c32
theorem nd_closed (k : Nat) (v : BitVec 64) : Cl k (v ||| ndB k v) := by
  unfold ndB
  split
  · have key : ∀ i, i < 64 → (v ||| cl1 v &&& ~~~ v).getLsbD i = (v.getLsbD i || (cl1 v).getLsbD i) := fun i hi => by
      simp only [BitVec.getLsbD_and, BitVec.getLsbD_or, BitVec.getLsbD_not, hi, decide_true, Bool.true_and]
      cases v.getLsbD i <;> cases (cl1 v).getLsbD i <;> rfl
    have cl : ∀ i, (cl1 v).getLsbD i = (v.getLsbD i || (decide (i = 32) || (((v.getLsbD 18 || v.getLsbD 19 || v.getLsbD 22 || v.getLsbD 23) && !v.getLsbD 17) && decide (i = 17) || (v.getLsbD 23 && !v.getLsbD 5) && decide (i = 5)))) := fun i => by
      unfold cl1
      have e32 : decide (32 = i) = decide (i = 32) := by simp [eq_comm]
      have e17 : decide (17 = i) = decide (i = 17) := by simp [eq_comm]
      have e5 : decide (5 = i) = decide (i = 5) := by simp [eq_comm]
      generalize (v.getLsbD 18 || v.getLsbD 19 || v.getLsbD 22 || v.getLsbD 23) = p
      generalize v.getLsbD 17 = b17
      generalize v.getLsbD 23 = b23
      generalize v.getLsbD 5 = b5
      cases p <;> cases b17 <;> cases b23 <;> cases b5 <;> simp [BitVec.getLsbD_or, BitVec.getLsbD_twoPow, e32, e17, e5, Bool.or_assoc]
    constructor
    · rw [key 32 (by omega), cl]; simp
    · intro _ h; rw [key 18 (by omega), cl] at h; rw [key 17 (by omega), cl]
      simp at h ⊢; cases v[17] <;> simp_all
    · intro _ h; rw [key 19 (by omega), cl] at h; rw [key 17 (by omega), cl]
      simp at h ⊢; cases v[17] <;> simp_all
    · intro _ h; rw [key 22 (by omega), cl] at h; rw [key 17 (by omega), cl]
      simp at h ⊢; cases v[17] <;> simp_all
    · intro _ h; rw [key 23 (by omega), cl] at h; rw [key 17 (by omega), cl]
      simp at h ⊢; cases v[17] <;> simp_all
    · intro _ h; rw [key 23 (by omega), cl] at h; rw [key 5 (by omega), cl]
      simp at h ⊢; cases v[5] <;> simp_all
  · rename_i hk
    constructor
    · simp [BitVec.getLsbD_twoPow]
    all_goals exact fun h => absurd h hk

/-- Of the kind's bits alone. -/
def Kn (k : Nat) (v : BitVec 64) : Prop := v &&& ~~~ V (allOf k) = 0#64
theorem Kn_iff {k : Nat} {v : BitVec 64} : Kn k v ↔ ∀ i, v.getLsbD i = true → (V (allOf k)).getLsbD i = true := by
  unfold Kn
  constructor
  · intro h i hi
    have := congrArg (fun x => x.getLsbD i) h
    have hlt : i < 64 := by
      cases hd : decide (i < 64) with
      | true => exact of_decide_eq_true hd
      | false => rw [BitVec.getLsbD_of_ge v i (by simpa using hd)] at hi; cases hi
    simp only [BitVec.getLsbD_and, BitVec.getLsbD_not, BitVec.getLsbD_zero, hi, hlt, decide_true, Bool.true_and] at this
    cases hb : (V (allOf k)).getLsbD i with
    | true => rfl
    | false => rw [hb] at this; cases this
  · intro h
    apply BitVec.eq_of_getLsbD_eq
    intro i hi
    simp only [BitVec.getLsbD_and, BitVec.getLsbD_not, BitVec.getLsbD_zero]
    cases hv : v.getLsbD i with
    | false => rfl
    | true => rw [h i hv]; simp
theorem Kn.or {k : Nat} {u v : BitVec 64} (hu : Kn k u) (hv : Kn k v) : Kn k (u ||| v) := Kn_iff.2 fun i hi => by
  rw [BitVec.getLsbD_or, Bool.or_eq_true] at hi
  exact hi.elim (Kn_iff.1 hu i) (Kn_iff.1 hv i)
theorem Kn.and {k : Nat} {u : BitVec 64} (v : BitVec 64) (hu : Kn k u) : Kn k (u &&& v) := Kn_iff.2 fun i hi => by
  rw [BitVec.getLsbD_and, Bool.and_eq_true] at hi
  exact Kn_iff.1 hu i hi.1
theorem Kn.cut (k : Nat) (u : BitVec 64) : Kn k (u &&& V (allOf k)) := Kn_iff.2 fun i hi => by
  rw [BitVec.getLsbD_and, Bool.and_eq_true] at hi
  exact hi.2
theorem Kn.nd {k : Nat} {v : BitVec 64} (hk : k = 1 ∨ k = 2 ∨ k = 3) (h : Kn k v) : Kn k (ndB k v) := by
  have t32 : Kn k (BitVec.twoPow 64 32) := by rcases hk with rfl | rfl | rfl <;> (unfold Kn; decide)
  unfold ndB
  split
  · have t17 : Kn 1 (BitVec.twoPow 64 17) := by unfold Kn; decide
    have t5 : Kn 1 (BitVec.twoPow 64 5) := by unfold Kn; decide
    refine Kn.and _ ?_
    unfold cl1
    split
    · exact ((h.or t32).or t17).or t5
    · exact (h.or t32).or t17
    · exact (h.or t32).or t5
    · exact h.or t32
  · exact Kn.and _ (h.or t32)
end Go.Proofs.Ytknkemjbikbhgaa
