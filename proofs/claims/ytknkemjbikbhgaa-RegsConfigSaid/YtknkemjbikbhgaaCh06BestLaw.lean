/-
  Chapter 6: the best set, in plain Lean. Own work; nothing here is trusted.
-/
import Derived.Test.YtknkemjbikbhgaaCh06NeedsOk
namespace Go.Proofs.Ytknkemjbikbhgaa
open Go Go.Sx Go.RowKit
set_option maxRecDepth 100000
set_option linter.unusedVariables false
set_option linter.unusedSimpArgs false
def cutB (b : Nat) (v : BitVec 64) : BitVec 64 := match v.getLsbD b with
  | true => v &&& ~~~ BitVec.twoPow 64 b
  | false => v
def best1 (v : BitVec 64) : BitVec 64 := match v.getLsbD 17, v.getLsbD 5 with
  | true, true => v
  | true, false => cutB 23 v
  | false, _ => cutB 23 (cutB 22 (cutB 19 (cutB 18 v)))
theorem cutB_bit (b : Nat) (v : BitVec 64) (i : Nat) : (cutB b v).getLsbD i = (v.getLsbD i && !decide (i = b)) := by
  unfold cutB
  split
  · rename_i h
    rw [BitVec.getLsbD_and, BitVec.getLsbD_not, BitVec.getLsbD_twoPow]
    by_cases hi : i < 64
    · by_cases e : i = b
      · subst e; simp [hi]
      · have : ¬ b = i := fun h => e h.symm
        simp [hi, e, this]
    · rw [BitVec.getLsbD_of_ge v i (by omega)]; simp
  · rename_i h
    by_cases e : i = b
    · subst e; rw [h]; simp
    · simp [e]
def bsB (k : Nat) (v : BitVec 64) : BitVec 64 := match k with
  | 1 => best1 v
  | _ => v
def Sub (u v : BitVec 64) : Prop := ∀ i, u.getLsbD i = true → v.getLsbD i = true
theorem best1_sub (v : BitVec 64) : Sub (best1 v) v := fun i h => by
  unfold best1 at h
  split at h
  · exact h
  · rw [cutB_bit] at h; simp at h; exact h.1
  · simp only [cutB_bit, Bool.and_eq_true] at h; exact h.1.1.1.1
theorem best1_cl {v : BitVec 64} (h32 : v.getLsbD 32 = true) : Cl 1 (best1 v) := by
  unfold best1
  split
  · rename_i h17 h5
    exact ⟨h32, fun _ _ => h17, fun _ _ => h17, fun _ _ => h17, fun _ _ => h17, fun _ _ => h5⟩
  · rename_i h17 h5
    constructor <;> simp only [cutB_bit]
    · rw [h32]; rfl
    · intro _ _; rw [h17]; rfl
    · intro _ _; rw [h17]; rfl
    · intro _ _; rw [h17]; rfl
    · intro _ _; rw [h17]; rfl
    · intro _ h; simp at h
  · constructor <;> simp only [cutB_bit]
    · rw [h32]; rfl
    · intro _ h; simp at h
    · intro _ h; simp at h
    · intro _ h; simp at h
    · intro _ h; simp at h
    · intro _ h; simp at h
theorem best1_max {u v : BitVec 64} (hu : Cl 1 u) (hs : Sub u v) : Sub u (best1 v) := fun i hi => by
  have hv := hs i hi
  unfold best1
  split
  · exact hv
  · rename_i h17 h5
    rw [cutB_bit, hv]
    by_cases e : i = 23
    · subst e
      have := hs 5 (hu.c5 rfl hi)
      rw [h5] at this; cases this
    · simp [e]
  · rename_i h17
    simp only [cutB_bit, hv]
    have n17 : ∀ j, (j = 18 ∨ j = 19 ∨ j = 22 ∨ j = 23) → i ≠ j := fun j hj e => by
      subst e
      have : u.getLsbD 17 = true := by
        rcases hj with rfl | rfl | rfl | rfl
        · exact hu.c18 rfl hi
        · exact hu.c19 rfl hi
        · exact hu.c22 rfl hi
        · exact hu.c23 rfl hi
      have := hs 17 this
      rw [h17] at this; cases this
    simp [n17 18 (by simp), n17 19 (by simp), n17 22 (by simp), n17 23 (by simp)]
theorem sub_eq {u v : BitVec 64} (h1 : Sub u v) (h2 : Sub v u) : u = v := by
  apply BitVec.eq_of_getLsbD_eq
  intro i _
  cases hu : u.getLsbD i with
  | true => exact (h1 i hu).symm
  | false =>
    cases hv : v.getLsbD i with
    | true => rw [h2 i hv] at hu; cases hu
    | false => rfl
theorem bs_sub (k : Nat) (v : BitVec 64) : Sub (bsB k v) v := by
  unfold bsB; split
  · exact best1_sub v
  · exact fun _ h => h
theorem cl_other {k : Nat} (hk : ¬ k = 1) {v : BitVec 64} (h32 : v.getLsbD 32 = true) : Cl k v := ⟨h32, fun h => absurd h hk, fun h => absurd h hk, fun h => absurd h hk, fun h => absurd h hk, fun h => absurd h hk⟩
theorem bs_cl {k : Nat} {v : BitVec 64} (h32 : v.getLsbD 32 = true) : Cl k (bsB k v) := by
  unfold bsB; split
  · exact best1_cl h32
  · rename_i h; exact cl_other h h32
theorem bs_max {k : Nat} {u v : BitVec 64} (hu : Cl k u) (hs : Sub u v) : Sub u (bsB k v) := by
  unfold bsB; split
  · exact best1_max hu hs
  · exact hs
theorem bs_self {k : Nat} {v : BitVec 64} (h : Cl k v) : bsB k v = v := sub_eq (bs_sub k v) (bs_max h fun _ h => h)
theorem sub_not {u v : BitVec 64} (h : Sub u v) : u &&& ~~~ v = 0#64 := by
  apply BitVec.eq_of_getLsbD_eq
  intro i hi
  simp only [BitVec.getLsbD_and, BitVec.getLsbD_not, BitVec.getLsbD_zero]
  cases hu : u.getLsbD i with
  | false => rfl
  | true => rw [h i hu]; simp
theorem not_sub {u v : BitVec 64} (h : u &&& ~~~ v = 0#64) : Sub u v := fun i hi => by
  have := congrArg (fun x => x.getLsbD i) h
  have hlt : i < 64 := by
    cases hd : decide (i < 64) with
    | true => exact of_decide_eq_true hd
    | false => rw [BitVec.getLsbD_of_ge u i (by simpa using hd)] at hi; cases hi
  simp only [BitVec.getLsbD_and, BitVec.getLsbD_not, BitVec.getLsbD_zero, hi, hlt, decide_true, Bool.true_and] at this
  cases hb : v.getLsbD i with
  | true => rfl
  | false => rw [hb] at this; cases this
theorem sub_and {u a b : BitVec 64} : Sub u (a &&& b) ↔ Sub u a ∧ Sub u b := by
  constructor
  · intro h
    exact ⟨fun i hi => by have := h i hi; rw [BitVec.getLsbD_and, Bool.and_eq_true] at this; exact this.1, fun i hi => by have := h i hi; rw [BitVec.getLsbD_and, Bool.and_eq_true] at this; exact this.2⟩
  · intro h i hi; rw [BitVec.getLsbD_and, h.1 i hi, h.2 i hi]; rfl
end Go.Proofs.Ytknkemjbikbhgaa
