/-
  The symbolic walk of FeatBest. Own work; nothing here is trusted.
-/
import Derived.Test.YtknkemjbikbhgaaCh06BestOk
import Derived.Test.YtknkemjbikbhgaaFeatSetsWalk
namespace Go.Proofs.Ytknkemjbikbhgaa
open Go Go.Sx Go.RowKit
set_option maxRecDepth 100000
set_option maxHeartbeats 8000000
set_option linter.unusedVariables false
set_option linter.unusedSimpArgs false
abbrev w1 : Int := shlV .u64 1 (32 % 18446744073709551616)
theorem sh32 : V w1 = BitVec.twoPow 64 32 := (congrArg V (shl_lit 32 (by omega))).trans (VU _)
abbrev bst (k : Nat) (a b : Int) : Int := U (bsB k (both k a b))
abbrev oth (k : Nat) (a b c : Int) : Int := bitsV .u64 .and (bitsV .u64 .and (bitsV .u64 .and c a) (bitsV .u64 .or b w1)) (allOf k)
abbrev otf (k : Nat) (a b c : Int) : Int := bitsV .u64 .or (oth k a b c) (U (ndB k (V (oth k a b c))))
theorem V_bst (k : Nat) (a b : Int) : V (bst k a b) = bsB k (both k a b) := VU _
theorem V_wish (b : Int) : V (bitsV .u64 .or b w1) = V b ||| BitVec.twoPow 64 32 := by rw [bOr, VU, sh32]
theorem all32 {k : Nat} (hk : k = 1 ∨ k = 2 ∨ k = 3) : (V (allOf k)).getLsbD 32 = true := by rcases hk with rfl | rfl | rfl <;> decide
theorem both32 {k : Nat} (hk : k = 1 ∨ k = 2 ∨ k = 3) {a : Int} (b : Int) (h : (V a).getLsbD 32 = true) : (both k a b).getLsbD 32 = true := by
  unfold both
  rw [BitVec.getLsbD_and, BitVec.getLsbD_and, BitVec.getLsbD_or, h, all32 hk, BitVec.getLsbD_twoPow]
  simp
theorem cl_bst {k : Nat} (hk : k = 1 ∨ k = 2 ∨ k = 3) {a : Int} (b : Int) (h : (V a).getLsbD 32 = true) : Cl k (V (bst k a b)) := by
  rw [V_bst]; exact bs_cl (both32 hk b h)
theorem sub_bst (k : Nat) (a b : Int) : Sub (V (bst k a b)) (V a) ∧ Sub (V (bst k a b)) (V b ||| BitVec.twoPow 64 32) ∧ Sub (V (bst k a b)) (V (allOf k)) := by
  have h : Sub (V (bst k a b)) ((V a &&& (V b ||| BitVec.twoPow 64 32)) &&& V (allOf k)) := by rw [V_bst]; exact bs_sub k _
  exact ⟨(sub_and.1 (sub_and.1 h).1).1, (sub_and.1 (sub_and.1 h).1).2, (sub_and.1 h).2⟩
theorem kn_bst (k : Nat) (a b : Int) : Kn k (V (bst k a b)) := sub_not (sub_bst k a b).2.2
theorem b6 (k : Nat) (a b : Int) : bitsV .u64 .andNot (bst k a b) a = 0 := by rw [bNot, U_zero]; exact sub_not (sub_bst k a b).1
theorem b7 (k : Nat) (a b : Int) : bitsV .u64 .andNot (bst k a b) (bitsV .u64 .or b w1) = 0 := by rw [bNot, U_zero, V_wish]; exact sub_not (sub_bst k a b).2.1
theorem b8 {k : Nat} (hk : k = 1 ∨ k = 2 ∨ k = 3) {a : Int} (b : Int) (h : (V a).getLsbD 32 = true) : U (bsB k (both k (bst k a b) b)) = bst k a b := by
  have e : both k (bst k a b) b = V (bst k a b) := by
    obtain ⟨h1, h2, h3⟩ := sub_bst k a b
    exact sub_eq (fun i hi => by unfold both at hi; rw [BitVec.getLsbD_and, BitVec.getLsbD_and, Bool.and_eq_true, Bool.and_eq_true] at hi; exact hi.1.1) (sub_and.2 ⟨sub_and.2 ⟨fun _ h => h, h2⟩, h3⟩)
  rw [e, bs_self (cl_bst hk b h)]
  exact UV (U_range _)
theorem kn_oth (k : Nat) (a b c : Int) : Kn k (V (oth k a b c)) := by
  show Kn k (V (bitsV .u64 .and _ (allOf k)))
  rw [bAnd, VU]; exact Kn.cut k _
theorem kn_otf {k : Nat} (hk : k = 1 ∨ k = 2 ∨ k = 3) (a b c : Int) : Kn k (V (otf k a b c)) := by
  show Kn k (V (bitsV .u64 .or (oth k a b c) (U (ndB k (V (oth k a b c))))))
  rw [bOr, VU, VU]; exact (kn_oth k a b c).or (Kn.nd hk (kn_oth k a b c))
theorem cl_otf (k : Nat) (a b c : Int) : Cl k (V (otf k a b c)) := by
  show Cl k (V (bitsV .u64 .or (oth k a b c) (U (ndB k (V (oth k a b c))))))
  rw [bOr, VU, VU]; exact nd_closed k _
theorem b9 {k : Nat} (hk : k = 1 ∨ k = 2 ∨ k = 3) (a b c : Int) (hA : bitsV .u64 .andNot (otf k a b c) a = 0) (hB : bitsV .u64 .andNot (otf k a b c) (bitsV .u64 .or b w1) = 0) : bitsV .u64 .andNot (otf k a b c) (bst k a b) = 0 := by
  rw [bNot, U_zero] at hA hB ⊢
  rw [V_wish] at hB
  rw [V_bst]
  exact sub_not (bs_max (cl_otf k a b c) (sub_and.2 ⟨sub_and.2 ⟨not_sub hA, not_sub hB⟩, not_sub (kn_otf hk a b c)⟩))
theorem b0 {a : Int} (h : (V a).getLsbD 32 = false) : bitsV .u64 .and a w1 = 0 := by
  rw [bAnd, U_zero, sh32]
  apply BitVec.eq_of_getLsbD_eq
  intro i hi
  rw [BitVec.getLsbD_and, BitVec.getLsbD_twoPow, BitVec.getLsbD_zero]
  by_cases e : i = 32
  · subst e; rw [h]; rfl
  · have : ¬ 32 = i := fun h => e h.symm
    simp [this]
theorem bne_z {x : Int} (h : x = 0) : (x != 0) = false := by rw [h]; rfl
theorem bestw_run (n a b c : Int) (h1 : 0 ≤ a) (h2 : a < 18446744073709551616) : cB 10 4 [.raw (.int .i64 n), .raw (.int .u64 a), .raw (.int .u64 b), .raw (.int .u64 c)] [] 0 isT := by
  conv => whnf
  refine ⟨by omega, by omega, fun r hr1 hr2 => ?_⟩
  have hr : r = 0 ∨ r = 1 ∨ r = 2 := by omega
  rcases hr with rfl | rfl | rfl
  · have k1 : (1 = 1 ∨ 1 = 2 ∨ 1 = 3) := by decide
    conv => whnf
    refine ⟨h1, h2, by decide, fun e => ?_, fun e => ?_⟩
    · have f1 := kn0 (kn_oth 1 a b c)
      have f2 := kn0 (kn_otf k1 a b c)
      have f3 := nd0 (cl_otf 1 a b c)
      have f4 := kn0 (kn_bst 1 a b)
      have f5 := nd0 (cl_bst k1 b e)
      have f6 := b6 1 a b
      have f7 := b7 1 a b
      have f8 := b8 k1 b e
      have f9 := b9 k1 a b c
      have e2 : (V (bst 1 a b)).getLsbD 32 = true := (cl_bst k1 b e).c32
      have ur := U_range (bsB 1 (both 1 a b))
      simp only [otf, oth, bst, allOf] at f1 f2 f3 f4 f5 f6 f7 f8 f9 e2
      conv => whnf
      repeat' ((conv => whnf); first
        | refine ⟨(bR _ _ _).1, (bR _ _ _).2, by decide, by assumption, ?_⟩
        | refine ⟨ur.1, ur.2, by decide, by assumption, ?_⟩
        | refine ⟨ur.1, ur.2, by decide, fun e3 => ?_, fun e3 => absurd (e2.symm.trans e3) (by decide)⟩
        | exact beq_self_eq_true _
        | exact beq_iff_eq.2 f8
        | refine brOff (bne_z (f9 (by assumption) (by assumption))) ?_
        | refine brOn (by first | (simp only [f2, f3, f4, f5, f6, f7, f8]; done) | (simp only [f2, f3, f4, f5, f6, f7, f8]; rfl)) ?_
        | refine brOff (by first | (simp only [f2, f3, f4, f5, f6, f7, f8]; done) | (simp only [f2, f3, f4, f5, f6, f7, f8]; rfl)) ?_
        | refine brE (fun g => ?_) (fun g => ?_))
    · have f0 := b0 e
      conv => whnf
      simp only [f0]; rfl
  · have k1 : (2 = 1 ∨ 2 = 2 ∨ 2 = 3) := by decide
    conv => whnf
    refine ⟨h1, h2, by decide, fun e => ?_, fun e => ?_⟩
    · have f1 := kn0 (kn_oth 2 a b c)
      have f2 := kn0 (kn_otf k1 a b c)
      have f3 := nd0 (cl_otf 2 a b c)
      have f4 := kn0 (kn_bst 2 a b)
      have f5 := nd0 (cl_bst k1 b e)
      have f6 := b6 2 a b
      have f7 := b7 2 a b
      have f8 := b8 k1 b e
      have f9 := b9 k1 a b c
      have e2 : (V (bst 2 a b)).getLsbD 32 = true := (cl_bst k1 b e).c32
      have ur := U_range (bsB 2 (both 2 a b))
      simp only [otf, oth, bst, allOf] at f1 f2 f3 f4 f5 f6 f7 f8 f9 e2
      conv => whnf
      repeat' ((conv => whnf); first
        | refine ⟨(bR _ _ _).1, (bR _ _ _).2, by decide, by assumption, ?_⟩
        | refine ⟨ur.1, ur.2, by decide, by assumption, ?_⟩
        | refine ⟨ur.1, ur.2, by decide, fun e3 => ?_, fun e3 => absurd (e2.symm.trans e3) (by decide)⟩
        | exact beq_self_eq_true _
        | exact beq_iff_eq.2 f8
        | refine brOff (bne_z (f9 (by assumption) (by assumption))) ?_
        | refine brOn (by first | (simp only [f2, f3, f4, f5, f6, f7, f8]; done) | (simp only [f2, f3, f4, f5, f6, f7, f8]; rfl)) ?_
        | refine brOff (by first | (simp only [f2, f3, f4, f5, f6, f7, f8]; done) | (simp only [f2, f3, f4, f5, f6, f7, f8]; rfl)) ?_
        | refine brE (fun g => ?_) (fun g => ?_))
    · have f0 := b0 e
      conv => whnf
      simp only [f0]; rfl
  · have k1 : (3 = 1 ∨ 3 = 2 ∨ 3 = 3) := by decide
    conv => whnf
    refine ⟨h1, h2, by decide, fun e => ?_, fun e => ?_⟩
    · have f1 := kn0 (kn_oth 3 a b c)
      have f2 := kn0 (kn_otf k1 a b c)
      have f3 := nd0 (cl_otf 3 a b c)
      have f4 := kn0 (kn_bst 3 a b)
      have f5 := nd0 (cl_bst k1 b e)
      have f6 := b6 3 a b
      have f7 := b7 3 a b
      have f8 := b8 k1 b e
      have f9 := b9 k1 a b c
      have e2 : (V (bst 3 a b)).getLsbD 32 = true := (cl_bst k1 b e).c32
      have ur := U_range (bsB 3 (both 3 a b))
      simp only [otf, oth, bst, allOf] at f1 f2 f3 f4 f5 f6 f7 f8 f9 e2
      conv => whnf
      repeat' ((conv => whnf); first
        | refine ⟨(bR _ _ _).1, (bR _ _ _).2, by decide, by assumption, ?_⟩
        | refine ⟨ur.1, ur.2, by decide, by assumption, ?_⟩
        | refine ⟨ur.1, ur.2, by decide, fun e3 => ?_, fun e3 => absurd (e2.symm.trans e3) (by decide)⟩
        | exact beq_self_eq_true _
        | exact beq_iff_eq.2 f8
        | refine brOff (bne_z (f9 (by assumption) (by assumption))) ?_
        | refine brOn (by first | (simp only [f2, f3, f4, f5, f6, f7, f8]; done) | (simp only [f2, f3, f4, f5, f6, f7, f8]; rfl)) ?_
        | refine brOff (by first | (simp only [f2, f3, f4, f5, f6, f7, f8]; done) | (simp only [f2, f3, f4, f5, f6, f7, f8]; rfl)) ?_
        | refine brE (fun g => ?_) (fun g => ?_))
    · have f0 := b0 e
      conv => whnf
      simp only [f0]; rfl

theorem FeatBest_walk (a0 a1 a2 a3 : Int) (_ : (Lit.int .i64 a0).wf = true) (w1' : (Lit.int .u64 a1).wf = true) (_ : (Lit.int .u64 a2).wf = true) (_ : (Lit.int .u64 a3).wf = true) (w : World) : Calls Try.prog 4 #[.int .i64 a0, .int .u64 a1, .int .u64 a2, .int .u64 a3] w fun e w' => e = .returned (.bool true) ∧ Below w.heap.size w w' :=
  run_true (cB_ok 10) (args := [.int .i64 a0, .int .u64 a1, .int .u64 a2, .int .u64 a3]) (bestw_run a0 a1 a2 a3 (wf_u64 w1').1 (by have := (wf_u64 w1').2; omega)) w
end Go.Proofs.Ytknkemjbikbhgaa
