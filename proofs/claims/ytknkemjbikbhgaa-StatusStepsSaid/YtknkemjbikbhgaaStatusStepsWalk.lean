/-
  The symbolic walk of StatusSteps. Own work; nothing here is trusted.
-/
import Derived.Test.YtknkemjbikbhgaaCh07Law
import Derived.Test.YtknkemjbikbhgaaSxOpen
namespace Go.Proofs.Ytknkemjbikbhgaa
open Go Go.Sx Go.RowKit
set_option maxRecDepth 1000000
set_option maxHeartbeats 8000000
set_option linter.unusedVariables false
set_option linter.unusedSimpArgs false
theorem steps_form (k o g s w : Int) : (f6 7 [devV k o g s, .raw (.int .u8 w)] []).get =

  bro (rng64 o && rng64 g)
    (bro (ckI k o g s != (0 : Int)) (some (SV.raw (Value.bool true), []))
      (bro (w == (0 : Int)) (some (SV.raw (Value.bool true), []))
        (bro (isBits [(1 : Int), (2 : Int), (8 : Int), (4 : Int), (128 : Int)] && (decide (k = k) && decide (o = o)))
          (bro (rng64 o && rng64 g)
            (bro (rng64 o && rng64 g)
              (bro
                (k == k &&
                  (o == o &&
                    (wrG k o g s w == (fin8 k o w (5 : Nat) (0 : Nat) (g, s)).fst &&
                      (wrI k o g s w == (fin8 k o w (5 : Nat) (0 : Nat) (g, s)).snd && true))))
                (bro (rng64 o && rng64 (wrG k o g s w))
                  (bro
                    (k == k &&
                      (o == o &&
                        (wrG k o (wrG k o g s w) (wrI k o g s w) w == wrG k o g s w &&
                          (wrI k o (wrG k o g s w) (wrI k o g s w) w == wrI k o g s w && true))))
                    (bro (rng64 o && rng64 (wrG k o g s w))
                      (bro (rng64 o && rng64 g)
                        (bro
                          (k == k &&
                            (o == o &&
                              (wrG k o (wrG k o g s w) (wrI k o g s w) (0 : Int) == wrG k o g s (0 : Int) &&
                                (wrI k o (wrG k o g s w) (wrI k o g s w) (0 : Int) == wrI k o g s (0 : Int) && true))))
                          (bro (rng64 o && rng64 (wrG k o g s w))
                            (some (SV.raw (Value.bool (ckI k o (wrG k o g s w) (wrI k o g s w) == (0 : Int))), []))
                            none)
                          (some (SV.raw (Value.bool false), [])))
                        none)
                      none)
                    (some (SV.raw (Value.bool false), [])))
                  none)
                (some (SV.raw (Value.bool false), [])))
              none)
            none)
          none)))
    none := by kernel_rfl
theorem ckB_parts {k o g s : Int} (h : ckB k o g s = true) : knI k o = true ∧ hasI o 32 = true := by
  unfold ckB at h
  simp only [Bool.and_eq_true] at h
  exact ⟨h.1, h.2.1⟩
theorem wrI_zero {k o g x : Int} (h : ckB k o g x = true) : wrI k o g x 0 = 0 := by unfold wrI; rw [h]; rfl
theorem steps_run {k o g s w : Int} (ho : rng64 o = true) (hg : rng64 g = true) (hs : 0 ≤ s ∧ s < 256) : (f6 7 [devV k o g s, .raw (.int .u8 w)] []).get = some (.raw (.bool true), []) := by
  rw [steps_form]
  have hG : rng64 (wrG k o g s w) = true := rng_wrG hg
  have hbits : isBits [(1 : Int), (2 : Int), (8 : Int), (4 : Int), (128 : Int)] = true := by decide
  simp only [ho, hg, hG, hbits, decide_true, Bool.and_self, Bool.true_and, bro_true, beq_self_eq_true]
  cases hck : ckB k o g s with
  | false =>
    have : (ckI k o g s != 0) = true := by unfold ckI; rw [hck]; rfl
    rw [this]; rfl
  | true =>
    have e1 : (ckI k o g s != 0) = false := by unfold ckI; rw [hck]; rfl
    rw [e1, bro_false]
    by_cases hw : w = 0
    · rw [beq_iff_eq.2 hw]; rfl
    · rw [beq_eq_false_iff_ne.2 hw, bro_false]
      obtain ⟨h1, h2⟩ := ckB_parts hck
      have hv : s ∈ valid12 := by
        have := ck_valid ⟨s.toNat, by omega⟩ (acI k o g) (g != 0)
        have es : ((s.toNat : Nat) : Int) = s := by omega
        simp only [es] at this
        rw [ckB_C h1 h2] at hck
        exact this hck
      obtain ⟨l1, l2, l3⟩ := law7 s hv (acI k o g) (g != 0) (hb w 1) (hb w 2) (hb w 8) (hb w 4) (hb w 128) (by rw [← ckB_C h1 h2]; exact hck)
      have eI := wrI_C (g := g) (s := s) h1 h2 hw
      have eG : wrG k o g s w = g := wrG_C hw
      have e2 : wrI k o g (wrI k o g s w) w = wrI k o g s w := by rw [wrI_C (g := g) h1 h2 hw, eI]; exact l2
      have e3 : ckB k o g (wrI k o g s w) = true := by rw [ckB_C h1 h2, eI]; exact l3
      have e4 : ckI k o g (wrI k o g s w) = 0 := by unfold ckI; rw [e3]
      have e5 : wrG k o g (wrI k o g s w) 0 = 0 := by unfold wrG; rw [e3]; rfl
      have e6 : wrI k o g (wrI k o g s w) 0 = 0 := wrI_zero e3
      have e7 : wrG k o g s 0 = 0 := by unfold wrG; rw [hck]; rfl
      have e8 : wrI k o g s 0 = 0 := by unfold wrI; rw [hck]; rfl
      rw [fin8_C h1 h2, l1, ← eI, eG]
      simp only [wrG_C hw, e2, e4, e5, e6, e7, e8, beq_self_eq_true, Bool.and_self, bro_true]
theorem StatusSteps_walk (a0 b0 c0 d0 a1 : Int) (_ : (Lit.int .i64 a0).wf = true) (hb0 : (Lit.int .u64 b0).wf = true) (hc0 : (Lit.int .u64 c0).wf = true) (hd0 : (Lit.int .u8 d0).wf = true) (_ : (Lit.int .u8 a1).wf = true) (w : World) :
    Calls Try.prog 7 #[.agg #[.int .i64 a0, .int .u64 b0, .int .u64 c0, .int .u8 d0], .int .u8 a1] w fun e w' => e = .returned (.bool true) ∧ Below w.heap.size w w' :=
  run_flat (C := C6) (args := [devV a0 b0 c0 d0, .raw (.int .u8 a1)]) (vals := [.agg #[.int .i64 a0, .int .u64 b0, .int .u64 c0, .int .u8 d0], .int .u8 a1])
    (fnC_ok (sp := sf4) (ls := l7) (unr := fun g _ => match g with | 7 => 0 | _ => 20) (d := 10) plain mixed sf4_ok l7_ok (steps_run (rng64_iff.2 (by have := wf_u64 hb0; omega)) (rng64_iff.2 (by have := wf_u64 hc0; omega)) (by have := wf_u8 hd0; omega))) rfl
end Go.Proofs.Ytknkemjbikbhgaa
