/-
  The symbolic walk of StatusInits. Own work; nothing here is trusted.
-/
import Derived.Test.YtknkemjbikbhgaaCh07Inits
import Derived.Test.YtknkemjbikbhgaaSxOpen
namespace Go.Proofs.Ytknkemjbikbhgaa
open Go Go.Sx Go.RowKit
set_option maxRecDepth 1000000
set_option maxHeartbeats 8000000
set_option linter.unusedVariables false
set_option linter.unusedSimpArgs false
theorem inits_no (k o g s w : Int) : Tr.follow [false, true, true, true] (f9 8 [devV k o g s, .raw (.int .u64 w)] []) = some ([false,
  rng64 o && rng64 g,
  ckI k o g s != (0 : Int),
  rng64 o && rng64 g],
  (SV.raw (Value.bool (sel (inB k o g s) (0 : Int) (2 : Int) == (2 : Int))), [])) := by kernel_rfl
theorem inits_yes (k o g s w : Int) : Tr.follow [false, true, false, true, true, true, true, true, true, true, true, true, true, true, true, true, true, true, true, true, true, true, true, true, true, true, true, true, true, true, true, true, true, true, true, true, true, true, true, true, true, true, true, true, true, true, true, true, true, true] (f10 8 [devV k o g s, .raw (.int .u64 w)] []) = some ([false,
  rng64 o && rng64 g,
  ckI k o g s != (0 : Int),
  rng64 o && rng64 g && ckB k o g s,
  rng64 o,
  rng64 o && rng64 g && ckB k o g s,
  rng64 o && rng64 (0 : Int) && ckB k o (0 : Int) (0 : Int),
  rng64 o && rng64 (0 : Int) && ckB k o (0 : Int) (1 : Int),
  rng64 o && rng64 (0 : Int) && ckB k o (0 : Int) (3 : Int),
  rng64 o && rng64 (bsI k o w) && (ckB k o (bsI k o w) (3 : Int) && acI k o (bsI k o w)),
  rng64 o && rng64 (bsI k o w) && ckB k o (bsI k o w) (11 : Int),
  rng64 o && rng64 (bsI k o w) && ckB k o (bsI k o w) (15 : Int),
  rng64 o && rng64 (bsI k o w) && ckB k o (bsI k o w) (79 : Int),
  true,
  true,
  true,
  beI k o == (0 : Int),
  true,
  true,
  rng64 o && rng64 (bsI k o w) && ckB k o (bsI k o w) (15 : Int),
  true,
  true,
  true,
  true,
  true,
  bsI k o w == bsI k o w,
  true,
  true,
  true,
  k == k && (o == o && (bsI k o w == bsI k o w && ((15 : Int) == (15 : Int) && true))),
  true,
  true,
  true,
  true,
  true,
  rng64 o && rng64 (bsI k o w) && ckB k o (bsI k o w) (79 : Int),
  true,
  true,
  true,
  true,
  rng64 o && rng64 (bsI k o w) && ckB k o (bsI k o w) (79 : Int),
  true,
  true,
  k == k && (o == o && (bsI k o w == bsI k o w && ((79 : Int) == (79 : Int) && true))),
  true,
  true,
  true,
  true,
  true,
  true],
  (SV.raw (Value.bool (k == k && (o == o && (bsI k o w == bsI k o w && ((15 : Int) == (15 : Int) && true))))), [])) := by kernel_rfl
theorem inits_fn {k o g s w : Int} (ho : rng64 o = true) (hg : rng64 g = true) : Fn0 (C := C6) Try.prog 8 [devV k o g s, .raw (.int .u64 w)] [] (.raw (.bool true), []) := by
  cases hck : ckB k o g s with
  | false =>
    refine fnC_ok (sp := sf8) (ls := noLs) (unr := fun _ _ => 20) (d := 10) plain mixed sf8_ok noLs_ok ?_
    have e : inB k o g s = false := by unfold inB; rw [hck]; rfl
    rw [Tr.follow_get (inits_no k o g s w) (by rw [ho, hg, (ckI_eq k o g s).2, hck]; rfl), e]; rfl
  | true =>
    obtain ⟨h1, h2⟩ : knI k o = true ∧ hasI o 32 = true := by
      have h := hck
      unfold ckB at h
      simp only [Bool.and_eq_true] at h
      exact ⟨h.1, h.2.1⟩
    obtain ⟨_, hbe⟩ := chn_ok w hck
    obtain ⟨ha, _⟩ := ac_best w hbe
    have c0 : ckB k o 0 0 = true := ck_lit h1 h2 (by cases acI k o 0 <;> decide)
    have c1 : ckB k o 0 1 = true := ck_lit h1 h2 (by cases acI k o 0 <;> decide)
    have c3 : ckB k o 0 3 = true := ck_lit h1 h2 (by cases acI k o 0 <;> decide)
    have b3 : ckB k o (bsI k o w) 3 = true := ck_lit h1 h2 (by rw [ha]; cases (bsI k o w != 0) <;> decide)
    have b11 : ckB k o (bsI k o w) 11 = true := ck_lit h1 h2 (by rw [ha]; cases (bsI k o w != 0) <;> decide)
    have b15 : ckB k o (bsI k o w) 15 = true := ck_lit h1 h2 (by rw [ha]; cases (bsI k o w != 0) <;> decide)
    have b79 : ckB k o (bsI k o w) 79 = true := ck_lit h1 h2 (by rw [ha]; cases (bsI k o w != 0) <;> decide)
    have hB := rng_bsI k o w
    have h0 : rng64 0 = true := by decide
    have hbI : (beI k o == 0) = true := by unfold beI; rw [hbe]; rfl
    refine fnC_ok (sp := sf9) (ls := noLs) (unr := fun _ _ => 20) (d := 10) plain mixed sf9_ok noLs_ok ?_
    have hp := inits_yes k o g s w
    simp only [ho, hg, hck, c0, c1, c3, b3, b11, b15, b79, hB, ha, h0, hbI, (ckI_eq k o g s).2, beq_self_eq_true, Bool.and_self, Bool.not_true] at hp
    exact Tr.follow_get hp rfl
theorem StatusInits_walk (a0 b0 c0 d0 a1 : Int) (_ : (Lit.int .i64 a0).wf = true) (hb0 : (Lit.int .u64 b0).wf = true) (hc0 : (Lit.int .u64 c0).wf = true) (hd0 : (Lit.int .u8 d0).wf = true) (_ : (Lit.int .u64 a1).wf = true) (w : World) :
    Calls Try.prog 8 #[.agg #[.int .i64 a0, .int .u64 b0, .int .u64 c0, .int .u8 d0], .int .u64 a1] w fun e w' => e = .returned (.bool true) ∧ Below w.heap.size w w' :=
  run_flat (C := C6) (args := [devV a0 b0 c0 d0, .raw (.int .u64 a1)]) (vals := [.agg #[.int .i64 a0, .int .u64 b0, .int .u64 c0, .int .u8 d0], .int .u64 a1])
    (inits_fn (rng64_iff.2 (by have := wf_u64 hb0; omega)) (rng64_iff.2 (by have := wf_u64 hc0; omega))) rfl
end Go.Proofs.Ytknkemjbikbhgaa
