/-
  Chapter 7: StatusGoes, the rules its rounds ask for, in plain Lean. Own work; nothing here is trusted.
-/
import Derived.Test.YtknkemjbikbhgaaCh07Goes
namespace Go.Proofs.Ytknkemjbikbhgaa
open Go Go.Sx Go.RowKit
set_option maxRecDepth 1000000
set_option maxHeartbeats 8000000
set_option linter.unusedVariables false
/-- How far a status is. -/
structure Stg (b8 b4 b2 : Bool) (S : Int) : Prop where
  c8 : (bitsV .u8 .and S 8 != 0) = b8
  d8 : (bitsV .u8 .and S 8 == 0) = !b8
  c4 : (bitsV .u8 .and S 4 != 0) = b4
  c2 : (bitsV .u8 .and S 2 != 0) = b2
  d1 : b2 = true → (bitsV .u8 .and S 1 == 0) = false
  h8 : hb S 8 = b8
  h4 : hb S 4 = b4
  h2 : hb S 2 = b2
  r : (hb S 4 && (!hb S 64 && !hb S 128)) = (bitsV .u8 .and S 196 == 4)
theorem stg {S : Int} (h : S ∈ valid12) : Stg false false false S ∨ Stg false false true S ∨ Stg true false true S ∨ Stg true true true S := by
  simp only [valid12, List.mem_cons, List.not_mem_nil, or_false] at h
  rcases h with rfl | rfl | rfl | rfl | rfl | rfl | rfl | rfl | rfl | rfl | rfl | rfl
  · exact .inl (by constructor <;> decide)
  · exact .inl (by constructor <;> decide)
  · exact .inr (.inl (by constructor <;> decide))
  · exact .inr (.inr (.inl (by constructor <;> decide)))
  · exact .inr (.inr (.inr (by constructor <;> decide)))
  · exact .inr (.inr (.inr (by constructor <;> decide)))
  · exact .inl (by constructor <;> decide)
  · exact .inl (by constructor <;> decide)
  · exact .inr (.inl (by constructor <;> decide))
  · exact .inr (.inr (.inl (by constructor <;> decide)))
  · exact .inr (.inr (.inr (by constructor <;> decide)))
  · exact .inr (.inr (.inr (by constructor <;> decide)))
theorem w_law1 : ∀ s ∈ valid12, ∀ acc : Bool, ∀ w : Fin 256, (bitsV .u8 .andNot s (sI acc (w.val : Int) s) != 0) = false ∧ (bitsV .u8 .andNot (bitsV .u8 .andNot (sI acc (w.val : Int) s) s) (w.val : Int) != 0) = false := by decide +kernel
theorem w_law2 : ∀ s ∈ valid12, ∀ acc gz b1 b2 b8 b4 b128 : Bool, ckC acc gz s = true → stB acc b1 b2 b8 b4 b128 s ∈ valid12 ∧ ckC acc gz (stB acc b1 b2 b8 b4 b128 s) = true ∧ (hbC s 4 = true → hbC (stB acc b1 b2 b8 b4 b128 s) 4 = true) := by decide +kernel
theorem w_law3 : ∀ s ∈ valid12, ∀ acc gz acc' gz' : Bool, ckC acc gz s = true → hbC s 2 = true → hbC s 8 = false → ckC acc' gz' s = true := by decide +kernel
theorem w_law4 : ∀ s ∈ valid12, ∀ acc gz : Bool, ckC acc gz s = true → hbC s 4 = true → bitsV .u8 .or s 64 ∈ valid12 ∧ ckC acc gz (bitsV .u8 .or s 64) = true ∧ hbC (bitsV .u8 .or s 64) 4 = true := by decide +kernel
theorem w_law5 : ∀ s ∈ valid12, ∀ acc gz : Bool, ckC acc gz s = true → hbC s 8 = true → acc = true := by decide +kernel
theorem w_law6 : ∀ s ∈ valid12, (bitsV .u8 .andNot s s != 0) = false := by decide +kernel
theorem rok_kn {k o g s : Int} (h : rokB k o g s = true) : knI k o = true ∧ hasI o 32 = true ∧ ckC (acI k o g) (g != 0) s = true := by
  obtain ⟨_, _, hc⟩ := rokB_iff.1 h
  obtain ⟨h1, h2⟩ : knI k o = true ∧ hasI o 32 = true := by
    have h := hc
    unfold ckB at h
    simp only [Bool.and_eq_true] at h
    exact ⟨h.1, h.2.1⟩
  exact ⟨h1, h2, by rw [← ckB_C h1 h2]; exact hc⟩
theorem rok_of {k o g s g' s' : Int} (h : rokB k o g s = true) (hg : rng64 g' = true) (hc : ckC (acI k o g') (g' != 0) s' = true) : rokB k o g' s' = true := by
  obtain ⟨ho, _, _⟩ := rokB_iff.1 h
  obtain ⟨h1, h2, _⟩ := rok_kn h
  exact rokB_iff.2 ⟨ho, hg, by rw [ckB_C h1 h2]; exact hc⟩
theorem rok_g {k o g s : Int} (h : rokB k o g s = true) : rng64 g = true := (rokB_iff.1 h).2.1
theorem rok_0 {k o g s : Int} (h : rokB k o g s = true) : rokB k o 0 0 = true := rok_of h (by decide) (by cases acI k o 0 <;> decide)
theorem rok_write {k o g s w : Int} (hv : s ∈ valid12) (h : rokB k o g s = true) : rokB k o g (sI (acI k o g) w s) = true ∧ sI (acI k o g) w s ∈ valid12 ∧ (hb s 4 = true → hb (sI (acI k o g) w s) 4 = true) := by
  obtain ⟨h1, h2, hc⟩ := rok_kn h
  obtain ⟨e1, e2, e3⟩ := w_law2 s hv (acI k o g) (g != 0) (hb w 1) (hb w 2) (hb w 8) (hb w 4) (hb w 128) hc
  exact ⟨rok_of h (rok_g h) e2, e1, e3⟩
theorem rok_ask {k o g s set : Int} (hv : s ∈ valid12) (h : rokB k o g s = true) (hs : rng64 set = true) (h2 : hb s 2 = true) (h8 : hb s 8 = false) : rokB k o set s = true := by
  obtain ⟨_, _, hc⟩ := rok_kn h
  exact rok_of h hs (w_law3 s hv _ _ _ _ hc h2 h8)
theorem rok_brk {k o g s : Int} (hv : s ∈ valid12) (h : rokB k o g s = true) (h4 : hb s 4 = true) : rokB k o g (bitsV .u8 .or s 64) = true ∧ bitsV .u8 .or s 64 ∈ valid12 ∧ hb (bitsV .u8 .or s 64) 4 = true := by
  obtain ⟨_, _, hc⟩ := rok_kn h
  obtain ⟨e1, e2, e3⟩ := w_law4 s hv _ _ hc h4
  exact ⟨rok_of h (rok_g h) e2, e1, e3⟩
theorem rok_acc {k o g s : Int} (hv : s ∈ valid12) (h : rokB k o g s = true) (h8 : hb s 8 = true) : acI k o g = true := by
  obtain ⟨_, _, hc⟩ := rok_kn h
  exact w_law5 s hv _ _ hc h8
theorem w_bits {acc : Bool} {s w : Int} (hv : s ∈ valid12) (hw : 0 ≤ w ∧ w < 256) : (bitsV .u8 .andNot s (sI acc w s) != 0) = false ∧ (bitsV .u8 .andNot (bitsV .u8 .andNot (sI acc w s) s) w != 0) = false := by
  obtain ⟨n, rfl⟩ := Int.eq_ofNat_of_zero_le hw.1
  exact w_law1 s hv acc ⟨n, by omega⟩
end Go.Proofs.Ytknkemjbikbhgaa
