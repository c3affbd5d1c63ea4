/-
  The symbolic walk of FeatSets. Own work; nothing here is trusted.
-/
import Derived.Test.YtknkemjbikbhgaaCh06NeedsOk
namespace Go.Proofs.Ytknkemjbikbhgaa
open Go Go.Sx Go.RowKit
set_option maxRecDepth 100000
set_option maxHeartbeats 8000000
set_option linter.unusedVariables false
set_option linter.unusedSimpArgs false

theorem kn0 {k : Nat} {x : Int} (h : Kn k (V x)) : bitsV .u64 .andNot x (allOf k) = 0 := by
  rw [bNot, U_zero]; exact h
theorem nd0 {k : Nat} {x : Int} (h : Cl k (V x)) : U (ndB k (V x)) = 0 := U_zero.2 (nd_zero h)
abbrev cutS (k : Nat) (a : Int) : Int := bitsV .u64 .and a (allOf k)
abbrev full (k : Nat) (a : Int) : Int := bitsV .u64 .or (cutS k a) (U (ndB k (V (cutS k a))))
theorem kn_cut (k : Nat) (a : Int) : Kn k (V (cutS k a)) := by
  show Kn k (V (bitsV .u64 .and a (allOf k)))
  rw [bAnd, VU]; exact Kn.cut k _
theorem kn_full {k : Nat} (hk : k = 1 ∨ k = 2 ∨ k = 3) (a : Int) : Kn k (V (full k a)) := by
  show Kn k (V (bitsV .u64 .or (cutS k a) (U (ndB k (V (cutS k a))))))
  rw [bOr, VU, VU]; exact (kn_cut k a).or (Kn.nd hk (kn_cut k a))
theorem cl_full (k : Nat) (a : Int) : Cl k (V (full k a)) := by
  show Cl k (V (bitsV .u64 .or (cutS k a) (U (ndB k (V (cutS k a))))))
  rw [bOr, VU, VU]; exact nd_closed k _
theorem kn_or {k : Nat} {x y : Int} (hx : Kn k (V x)) (hy : Kn k (V y)) : Kn k (V (bitsV .u64 .or x y)) := by rw [bOr, VU]; exact hx.or hy
theorem kn_and {k : Nat} {x : Int} (y : Int) (hx : Kn k (V x)) : Kn k (V (bitsV .u64 .and x y)) := by rw [bAnd, VU]; exact Kn.and _ hx
theorem cl_or {k : Nat} {x y : Int} (hx : Cl k (V x)) (hy : Cl k (V y)) : Cl k (V (bitsV .u64 .or x y)) := by rw [bOr, VU]; exact hx.or hy
theorem cl_and {k : Nat} {x y : Int} (hx : Cl k (V x)) (hy : Cl k (V y)) : Cl k (V (bitsV .u64 .and x y)) := by rw [bAnd, VU]; exact hx.and hy

theorem sets_run (n a b : Int) : cN 10 3 [.raw (.int .i64 n), .raw (.int .u64 a), .raw (.int .u64 b)] [] 0 isT := by
  conv => whnf
  refine ⟨by omega, by omega, fun r hr1 hr2 => ?_⟩
  have hr : r = 0 ∨ r = 1 ∨ r = 2 := by omega
  rcases hr with rfl | rfl | rfl
  · have f1 := kn0 (kn_cut 1 a)
    have f2 := kn0 (kn_cut 1 b)
    have f3 := kn0 (kn_full (k := 1) (by decide) a)
    have f4 := kn0 (kn_full (k := 1) (by decide) b)
    have f5 := nd0 (cl_full 1 a)
    have f6 := nd0 (cl_full 1 b)
    have f7 := kn0 (kn_or (kn_full (k := 1) (by decide) a) (kn_full (k := 1) (by decide) b))
    have f8 := nd0 (cl_or (cl_full 1 a) (cl_full 1 b))
    have f9 := kn0 (kn_and (full 1 b) (kn_full (k := 1) (by decide) a))
    have f10 := nd0 (cl_and (cl_full 1 a) (cl_full 1 b))
    simp only [full, cutS, allOf] at f1 f2 f3 f4 f5 f6 f7 f8 f9 f10
    repeat' ((conv => whnf); first
      | refine ⟨(bR _ _ _).1, (bR _ _ _).2, by decide, by assumption, ?_⟩
      | exact beq_self_eq_true _
      | refine brOn (by first | (simp only [f1, f2, f3, f4, f5, f6, f7, f8, f9, f10]; done) | (simp only [f1, f2, f3, f4, f5, f6, f7, f8, f9, f10]; rfl)) ?_
      | refine brOff (by first | (simp only [f1, f2, f3, f4, f5, f6, f7, f8, f9, f10]; done) | (simp only [f1, f2, f3, f4, f5, f6, f7, f8, f9, f10]; rfl)) ?_)
  · have f1 := kn0 (kn_cut 2 a)
    have f2 := kn0 (kn_cut 2 b)
    have f3 := kn0 (kn_full (k := 2) (by decide) a)
    have f4 := kn0 (kn_full (k := 2) (by decide) b)
    have f5 := nd0 (cl_full 2 a)
    have f6 := nd0 (cl_full 2 b)
    have f7 := kn0 (kn_or (kn_full (k := 2) (by decide) a) (kn_full (k := 2) (by decide) b))
    have f8 := nd0 (cl_or (cl_full 2 a) (cl_full 2 b))
    have f9 := kn0 (kn_and (full 2 b) (kn_full (k := 2) (by decide) a))
    have f10 := nd0 (cl_and (cl_full 2 a) (cl_full 2 b))
    simp only [full, cutS, allOf] at f1 f2 f3 f4 f5 f6 f7 f8 f9 f10
    repeat' ((conv => whnf); first
      | refine ⟨(bR _ _ _).1, (bR _ _ _).2, by decide, by assumption, ?_⟩
      | exact beq_self_eq_true _
      | refine brOn (by first | (simp only [f1, f2, f3, f4, f5, f6, f7, f8, f9, f10]; done) | (simp only [f1, f2, f3, f4, f5, f6, f7, f8, f9, f10]; rfl)) ?_
      | refine brOff (by first | (simp only [f1, f2, f3, f4, f5, f6, f7, f8, f9, f10]; done) | (simp only [f1, f2, f3, f4, f5, f6, f7, f8, f9, f10]; rfl)) ?_)
  · have f1 := kn0 (kn_cut 3 a)
    have f2 := kn0 (kn_cut 3 b)
    have f3 := kn0 (kn_full (k := 3) (by decide) a)
    have f4 := kn0 (kn_full (k := 3) (by decide) b)
    have f5 := nd0 (cl_full 3 a)
    have f6 := nd0 (cl_full 3 b)
    have f7 := kn0 (kn_or (kn_full (k := 3) (by decide) a) (kn_full (k := 3) (by decide) b))
    have f8 := nd0 (cl_or (cl_full 3 a) (cl_full 3 b))
    have f9 := kn0 (kn_and (full 3 b) (kn_full (k := 3) (by decide) a))
    have f10 := nd0 (cl_and (cl_full 3 a) (cl_full 3 b))
    simp only [full, cutS, allOf] at f1 f2 f3 f4 f5 f6 f7 f8 f9 f10
    repeat' ((conv => whnf); first
      | refine ⟨(bR _ _ _).1, (bR _ _ _).2, by decide, by assumption, ?_⟩
      | exact beq_self_eq_true _
      | refine brOn (by first | (simp only [f1, f2, f3, f4, f5, f6, f7, f8, f9, f10]; done) | (simp only [f1, f2, f3, f4, f5, f6, f7, f8, f9, f10]; rfl)) ?_
      | refine brOff (by first | (simp only [f1, f2, f3, f4, f5, f6, f7, f8, f9, f10]; done) | (simp only [f1, f2, f3, f4, f5, f6, f7, f8, f9, f10]; rfl)) ?_)

theorem FeatSets_walk (a0 a1 a2 : Int) (_ : (Lit.int .i64 a0).wf = true) (_ : (Lit.int .u64 a1).wf = true) (_ : (Lit.int .u64 a2).wf = true) (w : World) : Calls Try.prog 3 #[.int .i64 a0, .int .u64 a1, .int .u64 a2] w fun e w' => e = .returned (.bool true) ∧ Below w.heap.size w w' :=
  run_true (cN_ok 10) (args := [.int .i64 a0, .int .u64 a1, .int .u64 a2]) (sets_run a0 a1 a2) w
end Go.Proofs.Ytknkemjbikbhgaa
