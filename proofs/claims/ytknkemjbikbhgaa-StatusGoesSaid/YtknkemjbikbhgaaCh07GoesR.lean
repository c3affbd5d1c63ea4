/-
  Chapter 7: StatusGoes, one round (printed by a program of our own). Own work; nothing here is trusted.
-/
import Derived.Test.YtknkemjbikbhgaaCh07GoesP
import Derived.Test.YtknkemjbikbhgaaCh07GoesLaw
namespace Go.Proofs.Ytknkemjbikbhgaa
open Go Go.Sx Go.RowKit
set_option maxRecDepth 1000000
set_option maxHeartbeats 8000000
set_option linter.unusedVariables false
set_option linter.unusedSimpArgs false
noncomputable section
/-- One act, on the Guest and the status. -/
def stG (k o : Int) (a : Int × Int × Int × Bool) (x : Int × Int) : Int × Int :=
  (sel (a.1 % 3 == 2) (sel (hb (sel (a.2.2.2 && hb x.2 4) (bitsV .u8 .or x.2 64) x.2) 2 && (!hb (sel (a.2.2.2 && hb x.2 4) (bitsV .u8 .or x.2 64) x.2) 8 && a.2.2.1 != x.1)) a.2.2.1 x.1) (sel (a.2.1 == 0) 0 x.1),
   sel (a.1 % 3 == 2) (sel (a.2.2.2 && hb x.2 4) (bitsV .u8 .or x.2 64) x.2) (sel (a.2.1 == 0) 0 (sI (acI k o x.1) a.2.1 (sel (a.2.2.2 && hb x.2 4) (bitsV .u8 .or x.2 64) x.2))))
theorem g_round {own full : Bool} {ts : List (Int × Int × Int × Bool)} {k o g s : Int} {n : Nat} (hn : n < ts.length) (hl : ts.length ≤ 60) (hw : 0 ≤ (actAt ts (n : Int)).2.1 ∧ (actAt ts (n : Int)).2.1 < 256)
    (hset : rng64 (actAt ts (n : Int)).2.2.1 = true) (h : rokB k o g s = true) (hv : s ∈ valid12) :
    (gRound own full ts k o g s (n : Int)).get = some (.normal, gSt own full ts k o (stG k o (actAt ts (n : Int)) (g, s)).1 (stG k o (actAt ts (n : Int)) (g, s)).2 ((n + 1 : Nat) : Int)) ∧
      rokB k o (stG k o (actAt ts (n : Int)) (g, s)).1 (stG k o (actAt ts (n : Int)) (g, s)).2 = true ∧ (stG k o (actAt ts (n : Int)) (g, s)).2 ∈ valid12 := by
  have e1 : decide ((n : Int) < (ts.length : Int)) = true := decide_eq_true (by omega)
  have e2 : Sx.inB (n : Int) ts.length = true := inB_mk ⟨by omega, by omega⟩
  have e3 : decide (((n : Int)).toNat < ts.length) = true := decide_eq_true hn
  have e4 : inR64 ((n : Int) + 1) = true := inR64_mk (by omega)
  have ek : (k != k) = false := bne_self_eq_false' k
  have eo : (o != o) = false := bne_self_eq_false' o
  have eg : (g != g) = false := bne_self_eq_false' g
  have e80 : ((8 : Int) == 0) = false := rfl
  have hg := rok_g h
  generalize ha : actAt ts (n : Int) = a at hw hset ⊢
  cases hbr : a.2.2.2 with
  | false =>
    have h0 := h
    have v0 := hv
    cases hs : (a.1 % 3 == 2) with
    | true =>
      cases hc : (hb s 2 && (!hb s 8 && a.2.2.1 != g)) with
      | true =>
        have hc' := hc
        simp only [Bool.and_eq_true, Bool.not_eq_true'] at hc'
        obtain ⟨c2, c8, c3⟩ := hc'
        rcases stg v0 with st | st | st | st
        · rw [st.h2] at c2; cases c2
        · have hr := rok_ask v0 h0 hset c2 c8
          have hp := gp_0 own full ts k o g s (n : Int)
          rw [ha] at hp
          simp only [st.r] at hp
          simp only [e1, e2, e3, e4, ek, eo, eg, e80, hbr, hs, h0, w_law6 _ v0, h, c2, c8, hr, c3, st.c8, st.d8, st.c4, st.c2, st.r, st.d1 rfl, beq_self_eq_true, Bool.not_true, Bool.not_false, Bool.true_and, Bool.and_true] at hp
          have hst : stG k o a (g, s) = (a.2.2.1, s) := by
            unfold stG; simp only [hbr, hs, hc, Bool.false_and, Bool.true_and, sel_true, sel_false]
          rw [hst]
          exact ⟨Tr.follow_get hp rfl, hr, v0⟩
        · rw [st.h8] at c8; cases c8
        · rw [st.h8] at c8; cases c8
      | false =>
        rcases stg v0 with st | st | st | st
        · skip
          have hp := gp_1 own full ts k o g s (n : Int)
          rw [ha] at hp
          simp only [st.r] at hp
          simp only [e1, e2, e3, e4, ek, eo, eg, e80, hbr, hs, h0, w_law6 _ v0, h, hc, st.c8, st.d8, st.c4, st.c2, st.r, beq_self_eq_true, Bool.not_true, Bool.not_false, Bool.true_and, Bool.and_true] at hp
          have hst : stG k o a (g, s) = (g, s) := by
            unfold stG; simp only [hbr, hs, hc, Bool.false_and, Bool.true_and, sel_true, sel_false]
          rw [hst]
          exact ⟨Tr.follow_get hp rfl, h0, v0⟩
        · skip
          have hp := gp_2 own full ts k o g s (n : Int)
          rw [ha] at hp
          simp only [st.r] at hp
          simp only [e1, e2, e3, e4, ek, eo, eg, e80, hbr, hs, h0, w_law6 _ v0, h, hc, st.c8, st.d8, st.c4, st.c2, st.r, st.d1 rfl, beq_self_eq_true, Bool.not_true, Bool.not_false, Bool.true_and, Bool.and_true] at hp
          have hst : stG k o a (g, s) = (g, s) := by
            unfold stG; simp only [hbr, hs, hc, Bool.false_and, Bool.true_and, sel_true, sel_false]
          rw [hst]
          exact ⟨Tr.follow_get hp rfl, h0, v0⟩
        · have hac := rok_acc v0 h0 st.h8
          have hp := gp_3 own full ts k o g s (n : Int)
          rw [ha] at hp
          simp only [st.r] at hp
          simp only [e1, e2, e3, e4, ek, eo, eg, e80, hbr, hs, h0, w_law6 _ v0, h, hc, hac, hg, st.c8, st.d8, st.c4, st.c2, st.r, st.d1 rfl, beq_self_eq_true, Bool.not_true, Bool.not_false, Bool.true_and, Bool.and_true] at hp
          have hst : stG k o a (g, s) = (g, s) := by
            unfold stG; simp only [hbr, hs, hc, Bool.false_and, Bool.true_and, sel_true, sel_false]
          rw [hst]
          exact ⟨Tr.follow_get hp rfl, h0, v0⟩
        · have hac := rok_acc v0 h0 st.h8
          have hp := gp_4 own full ts k o g s (n : Int)
          rw [ha] at hp
          simp only [st.r] at hp
          simp only [e1, e2, e3, e4, ek, eo, eg, e80, hbr, hs, h0, w_law6 _ v0, h, hc, hac, hg, st.c8, st.d8, st.c4, st.c2, st.r, st.d1 rfl, beq_self_eq_true, Bool.not_true, Bool.not_false, Bool.true_and, Bool.and_true] at hp
          have hst : stG k o a (g, s) = (g, s) := by
            unfold stG; simp only [hbr, hs, hc, Bool.false_and, Bool.true_and, sel_true, sel_false]
          rw [hst]
          exact ⟨Tr.follow_get hp rfl, h0, v0⟩
    | false =>
      cases hw0 : (a.2.1 == 0) with
      | true =>
        have hr := rok_0 h0
        have hp := gp_9 own full ts k o g s (n : Int)
        rw [ha] at hp
        simp only [e1, e2, e3, e4, ek, eo, eg, e80, hbr, hs, h0, w_law6 _ v0, h, hw0, hr, beq_self_eq_true, Bool.not_true, Bool.not_false, Bool.true_and, Bool.and_true] at hp
        have hst : stG k o a (g, s) = (0, 0) := by
          unfold stG; simp only [hbr, hs, hw0, Bool.false_and, Bool.true_and, sel_true, sel_false]
        rw [hst]
        exact ⟨Tr.follow_get hp rfl, hr, (by decide)⟩
      | false =>
        obtain ⟨r1, v1, m1⟩ := rok_write (w := a.2.1) v0 h0
        obtain ⟨b1, b2⟩ := w_bits (acc := acI k o g) (w := a.2.1) v0 hw
        generalize hSI : sI (acI k o g) a.2.1 s = S1 at r1 v1 m1 b1 b2
        rcases stg v1 with st | st | st | st
        · skip
          have hp := gp_5 own full ts k o g s (n : Int)
          rw [ha] at hp
          rw [hSI] at hp
          simp only [st.r] at hp
          simp only [e1, e2, e3, e4, ek, eo, eg, e80, hbr, hs, h0, w_law6 _ v0, h, hw0, r1, b1, b2, st.c8, st.d8, st.c4, st.c2, st.r, beq_self_eq_true, Bool.not_true, Bool.not_false, Bool.true_and, Bool.and_true] at hp
          have hst : stG k o a (g, s) = (g, S1) := by
            unfold stG; simp only [hbr, hs, hw0, hSI, Bool.false_and, Bool.true_and, sel_true, sel_false]
          rw [hst]
          exact ⟨Tr.follow_get hp rfl, r1, v1⟩
        · skip
          have hp := gp_6 own full ts k o g s (n : Int)
          rw [ha] at hp
          rw [hSI] at hp
          simp only [st.r] at hp
          simp only [e1, e2, e3, e4, ek, eo, eg, e80, hbr, hs, h0, w_law6 _ v0, h, hw0, r1, b1, b2, st.c8, st.d8, st.c4, st.c2, st.r, st.d1 rfl, beq_self_eq_true, Bool.not_true, Bool.not_false, Bool.true_and, Bool.and_true] at hp
          have hst : stG k o a (g, s) = (g, S1) := by
            unfold stG; simp only [hbr, hs, hw0, hSI, Bool.false_and, Bool.true_and, sel_true, sel_false]
          rw [hst]
          exact ⟨Tr.follow_get hp rfl, r1, v1⟩
        · have hac := rok_acc v1 r1 st.h8
          have hp := gp_7 own full ts k o g s (n : Int)
          rw [ha] at hp
          rw [hSI] at hp
          simp only [st.r] at hp
          simp only [e1, e2, e3, e4, ek, eo, eg, e80, hbr, hs, h0, w_law6 _ v0, h, hw0, r1, b1, b2, hac, hg, st.c8, st.d8, st.c4, st.c2, st.r, st.d1 rfl, beq_self_eq_true, Bool.not_true, Bool.not_false, Bool.true_and, Bool.and_true] at hp
          have hst : stG k o a (g, s) = (g, S1) := by
            unfold stG; simp only [hbr, hs, hw0, hSI, Bool.false_and, Bool.true_and, sel_true, sel_false]
          rw [hst]
          exact ⟨Tr.follow_get hp rfl, r1, v1⟩
        · have hac := rok_acc v1 r1 st.h8
          have hp := gp_8 own full ts k o g s (n : Int)
          rw [ha] at hp
          rw [hSI] at hp
          simp only [st.r] at hp
          simp only [e1, e2, e3, e4, ek, eo, eg, e80, hbr, hs, h0, w_law6 _ v0, h, hw0, r1, b1, b2, hac, hg, st.c8, st.d8, st.c4, st.c2, st.r, st.d1 rfl, beq_self_eq_true, Bool.not_true, Bool.not_false, Bool.true_and, Bool.and_true] at hp
          have hst : stG k o a (g, s) = (g, S1) := by
            unfold stG; simp only [hbr, hs, hw0, hSI, Bool.false_and, Bool.true_and, sel_true, sel_false]
          rw [hst]
          exact ⟨Tr.follow_get hp rfl, r1, v1⟩
  | true =>
    cases h4 : hb s 4 with
    | false =>
      have q4 : (bitsV .u8 .and s 4 != 0) = false := h4
      have h0 := h
      have v0 := hv
      cases hs : (a.1 % 3 == 2) with
      | true =>
        cases hc : (hb s 2 && (!hb s 8 && a.2.2.1 != g)) with
        | true =>
          have hc' := hc
          simp only [Bool.and_eq_true, Bool.not_eq_true'] at hc'
          obtain ⟨c2, c8, c3⟩ := hc'
          rcases stg v0 with st | st | st | st
          · rw [st.h2] at c2; cases c2
          · have hr := rok_ask v0 h0 hset c2 c8
            have hp := gp_10 own full ts k o g s (n : Int)
            rw [ha] at hp
            simp only [st.r] at hp
            simp only [e1, e2, e3, e4, ek, eo, eg, e80, hbr, hs, h0, w_law6 _ v0, h, h4, q4, c2, c8, hr, c3, st.c8, st.d8, st.c4, st.c2, st.r, st.d1 rfl, beq_self_eq_true, Bool.not_true, Bool.not_false, Bool.true_and, Bool.and_true] at hp
            have hst : stG k o a (g, s) = (a.2.2.1, s) := by
              unfold stG; simp only [hbr, h4, hs, hc, Bool.false_and, Bool.true_and, sel_true, sel_false]
            rw [hst]
            exact ⟨Tr.follow_get hp rfl, hr, v0⟩
          · rw [st.h8] at c8; cases c8
          · rw [st.h8] at c8; cases c8
        | false =>
          rcases stg v0 with st | st | st | st
          · skip
            have hp := gp_11 own full ts k o g s (n : Int)
            rw [ha] at hp
            simp only [st.r] at hp
            simp only [e1, e2, e3, e4, ek, eo, eg, e80, hbr, hs, h0, w_law6 _ v0, h, h4, q4, hc, st.c8, st.d8, st.c4, st.c2, st.r, beq_self_eq_true, Bool.not_true, Bool.not_false, Bool.true_and, Bool.and_true] at hp
            have hst : stG k o a (g, s) = (g, s) := by
              unfold stG; simp only [hbr, h4, hs, hc, Bool.false_and, Bool.true_and, sel_true, sel_false]
            rw [hst]
            exact ⟨Tr.follow_get hp rfl, h0, v0⟩
          · skip
            have hp := gp_12 own full ts k o g s (n : Int)
            rw [ha] at hp
            simp only [st.r] at hp
            simp only [e1, e2, e3, e4, ek, eo, eg, e80, hbr, hs, h0, w_law6 _ v0, h, h4, q4, hc, st.c8, st.d8, st.c4, st.c2, st.r, st.d1 rfl, beq_self_eq_true, Bool.not_true, Bool.not_false, Bool.true_and, Bool.and_true] at hp
            have hst : stG k o a (g, s) = (g, s) := by
              unfold stG; simp only [hbr, h4, hs, hc, Bool.false_and, Bool.true_and, sel_true, sel_false]
            rw [hst]
            exact ⟨Tr.follow_get hp rfl, h0, v0⟩
          · have hac := rok_acc v0 h0 st.h8
            have hp := gp_13 own full ts k o g s (n : Int)
            rw [ha] at hp
            simp only [st.r] at hp
            simp only [e1, e2, e3, e4, ek, eo, eg, e80, hbr, hs, h0, w_law6 _ v0, h, h4, q4, hc, hac, hg, st.c8, st.d8, st.c4, st.c2, st.r, st.d1 rfl, beq_self_eq_true, Bool.not_true, Bool.not_false, Bool.true_and, Bool.and_true] at hp
            have hst : stG k o a (g, s) = (g, s) := by
              unfold stG; simp only [hbr, h4, hs, hc, Bool.false_and, Bool.true_and, sel_true, sel_false]
            rw [hst]
            exact ⟨Tr.follow_get hp rfl, h0, v0⟩
          · rw [st.h4] at h4; cases h4
      | false =>
        cases hw0 : (a.2.1 == 0) with
        | true =>
          have hr := rok_0 h0
          have hp := gp_18 own full ts k o g s (n : Int)
          rw [ha] at hp
          simp only [e1, e2, e3, e4, ek, eo, eg, e80, hbr, hs, h0, w_law6 _ v0, h, h4, q4, hw0, hr, beq_self_eq_true, Bool.not_true, Bool.not_false, Bool.true_and, Bool.and_true] at hp
          have hst : stG k o a (g, s) = (0, 0) := by
            unfold stG; simp only [hbr, h4, hs, hw0, Bool.false_and, Bool.true_and, sel_true, sel_false]
          rw [hst]
          exact ⟨Tr.follow_get hp rfl, hr, (by decide)⟩
        | false =>
          obtain ⟨r1, v1, m1⟩ := rok_write (w := a.2.1) v0 h0
          obtain ⟨b1, b2⟩ := w_bits (acc := acI k o g) (w := a.2.1) v0 hw
          generalize hSI : sI (acI k o g) a.2.1 s = S1 at r1 v1 m1 b1 b2
          rcases stg v1 with st | st | st | st
          · skip
            have hp := gp_14 own full ts k o g s (n : Int)
            rw [ha] at hp
            rw [hSI] at hp
            simp only [st.r] at hp
            simp only [e1, e2, e3, e4, ek, eo, eg, e80, hbr, hs, h0, w_law6 _ v0, h, h4, q4, hw0, r1, b1, b2, st.c8, st.d8, st.c4, st.c2, st.r, beq_self_eq_true, Bool.not_true, Bool.not_false, Bool.true_and, Bool.and_true] at hp
            have hst : stG k o a (g, s) = (g, S1) := by
              unfold stG; simp only [hbr, h4, hs, hw0, hSI, Bool.false_and, Bool.true_and, sel_true, sel_false]
            rw [hst]
            exact ⟨Tr.follow_get hp rfl, r1, v1⟩
          · skip
            have hp := gp_15 own full ts k o g s (n : Int)
            rw [ha] at hp
            rw [hSI] at hp
            simp only [st.r] at hp
            simp only [e1, e2, e3, e4, ek, eo, eg, e80, hbr, hs, h0, w_law6 _ v0, h, h4, q4, hw0, r1, b1, b2, st.c8, st.d8, st.c4, st.c2, st.r, st.d1 rfl, beq_self_eq_true, Bool.not_true, Bool.not_false, Bool.true_and, Bool.and_true] at hp
            have hst : stG k o a (g, s) = (g, S1) := by
              unfold stG; simp only [hbr, h4, hs, hw0, hSI, Bool.false_and, Bool.true_and, sel_true, sel_false]
            rw [hst]
            exact ⟨Tr.follow_get hp rfl, r1, v1⟩
          · have hac := rok_acc v1 r1 st.h8
            have hp := gp_16 own full ts k o g s (n : Int)
            rw [ha] at hp
            rw [hSI] at hp
            simp only [st.r] at hp
            simp only [e1, e2, e3, e4, ek, eo, eg, e80, hbr, hs, h0, w_law6 _ v0, h, h4, q4, hw0, r1, b1, b2, hac, hg, st.c8, st.d8, st.c4, st.c2, st.r, st.d1 rfl, beq_self_eq_true, Bool.not_true, Bool.not_false, Bool.true_and, Bool.and_true] at hp
            have hst : stG k o a (g, s) = (g, S1) := by
              unfold stG; simp only [hbr, h4, hs, hw0, hSI, Bool.false_and, Bool.true_and, sel_true, sel_false]
            rw [hst]
            exact ⟨Tr.follow_get hp rfl, r1, v1⟩
          · have hac := rok_acc v1 r1 st.h8
            have hp := gp_17 own full ts k o g s (n : Int)
            rw [ha] at hp
            rw [hSI] at hp
            simp only [st.r] at hp
            simp only [e1, e2, e3, e4, ek, eo, eg, e80, hbr, hs, h0, w_law6 _ v0, h, h4, q4, hw0, r1, b1, b2, hac, hg, st.c8, st.d8, st.c4, st.c2, st.r, st.d1 rfl, beq_self_eq_true, Bool.not_true, Bool.not_false, Bool.true_and, Bool.and_true] at hp
            have hst : stG k o a (g, s) = (g, S1) := by
              unfold stG; simp only [hbr, h4, hs, hw0, hSI, Bool.false_and, Bool.true_and, sel_true, sel_false]
            rw [hst]
            exact ⟨Tr.follow_get hp rfl, r1, v1⟩
    | true =>
      have q4 : (bitsV .u8 .and s 4 != 0) = true := h4
      obtain ⟨h0, v0, x4⟩ := rok_brk hv h h4
      cases hs : (a.1 % 3 == 2) with
      | true =>
        cases hc : (hb (bitsV .u8 .or s 64) 2 && (!hb (bitsV .u8 .or s 64) 8 && a.2.2.1 != g)) with
        | true =>
          have hc' := hc
          simp only [Bool.and_eq_true, Bool.not_eq_true'] at hc'
          obtain ⟨c2, c8, c3⟩ := hc'
          rcases stg v0 with st | st | st | st
          · rw [st.h2] at c2; cases c2
          · rw [st.h4] at x4; cases x4
          · rw [st.h8] at c8; cases c8
          · rw [st.h8] at c8; cases c8
        | false =>
          rcases stg v0 with st | st | st | st
          · rw [st.h4] at x4; cases x4
          · rw [st.h4] at x4; cases x4
          · rw [st.h4] at x4; cases x4
          · have hac := rok_acc v0 h0 st.h8
            have hp := gp_19 own full ts k o g s (n : Int)
            rw [ha] at hp
            simp only [st.r] at hp
            simp only [e1, e2, e3, e4, ek, eo, eg, e80, hbr, hs, h0, w_law6 _ v0, h, h4, q4, hc, hac, hg, st.c8, st.d8, st.c4, st.c2, st.r, st.d1 rfl, beq_self_eq_true, Bool.not_true, Bool.not_false, Bool.true_and, Bool.and_true] at hp
            have hst : stG k o a (g, s) = (g, (bitsV .u8 .or s 64)) := by
              unfold stG; simp only [hbr, h4, hs, hc, Bool.false_and, Bool.true_and, sel_true, sel_false]
            rw [hst]
            exact ⟨Tr.follow_get hp rfl, h0, v0⟩
      | false =>
        cases hw0 : (a.2.1 == 0) with
        | true =>
          have hr := rok_0 h0
          have hp := gp_21 own full ts k o g s (n : Int)
          rw [ha] at hp
          simp only [e1, e2, e3, e4, ek, eo, eg, e80, hbr, hs, h0, w_law6 _ v0, h, h4, q4, hw0, hr, beq_self_eq_true, Bool.not_true, Bool.not_false, Bool.true_and, Bool.and_true] at hp
          have hst : stG k o a (g, s) = (0, 0) := by
            unfold stG; simp only [hbr, h4, hs, hw0, Bool.false_and, Bool.true_and, sel_true, sel_false]
          rw [hst]
          exact ⟨Tr.follow_get hp rfl, hr, (by decide)⟩
        | false =>
          obtain ⟨r1, v1, m1⟩ := rok_write (w := a.2.1) v0 h0
          obtain ⟨b1, b2⟩ := w_bits (acc := acI k o g) (w := a.2.1) v0 hw
          generalize hSI : sI (acI k o g) a.2.1 (bitsV .u8 .or s 64) = S1 at r1 v1 m1 b1 b2
          rcases stg v1 with st | st | st | st
          · have := m1 x4; rw [st.h4] at this; cases this
          · have := m1 x4; rw [st.h4] at this; cases this
          · have := m1 x4; rw [st.h4] at this; cases this
          · have hac := rok_acc v1 r1 st.h8
            have hp := gp_20 own full ts k o g s (n : Int)
            rw [ha] at hp
            rw [hSI] at hp
            simp only [st.r] at hp
            simp only [e1, e2, e3, e4, ek, eo, eg, e80, hbr, hs, h0, w_law6 _ v0, h, h4, q4, hw0, r1, b1, b2, hac, hg, st.c8, st.d8, st.c4, st.c2, st.r, st.d1 rfl, beq_self_eq_true, Bool.not_true, Bool.not_false, Bool.true_and, Bool.and_true] at hp
            have hst : stG k o a (g, s) = (g, S1) := by
              unfold stG; simp only [hbr, h4, hs, hw0, hSI, Bool.false_and, Bool.true_and, sel_true, sel_false]
            rw [hst]
            exact ⟨Tr.follow_get hp rfl, r1, v1⟩
end
end Go.Proofs.Ytknkemjbikbhgaa
