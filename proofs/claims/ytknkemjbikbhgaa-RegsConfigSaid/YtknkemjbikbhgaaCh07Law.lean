/-
  Chapter 7: the rules of a status, in plain Lean. Own work; nothing here is trusted.
-/
import Derived.Test.YtknkemjbikbhgaaCh07Steps
namespace Go.Proofs.Ytknkemjbikbhgaa
open Go Go.Sx Go.RowKit
set_option maxRecDepth 1000000
set_option maxHeartbeats 8000000
set_option linter.unusedVariables false
set_option linter.unusedSimpArgs false
def hbC (s b : Int) : Bool := bitsV .u8 .and s b != 0
theorem hb_C (s b : Int) : hb s b = hbC s b := rfl
def selC (c : Bool) (a b : Int) : Int := match c with
  | true => a
  | false => b
theorem sel_C (c : Bool) (a b : Int) : sel c a b = selC c a b := by cases c <;> rfl
/-- All rules, the word's bits as they are. -/
def stB (acc b1 b2 b8 b4 b128 : Bool) (s : Int) : Int :=
  let s := selC b1 (selC (!hbC s 1) (bitsV .u8 .or s 1) s) s
  let s := selC b2 (selC (!hbC s 2) (selC (hbC s 1) (bitsV .u8 .or s 2) s) s) s
  let s := selC b8 (selC (!hbC s 8) (selC (hbC s 2) (selC acc (bitsV .u8 .or s 8) s) s) s) s
  let s := selC b4 (selC (!hbC s 4) (selC (hbC s 8) (bitsV .u8 .or s 4) s) s) s
  selC b128 (selC (!hbC s 128) (bitsV .u8 .or s 128) s) s
theorem wrS_B (acc : Bool) (w s : Int) : wrS acc w s = stB acc (hb w 1) (hb w 2) (hb w 8) (hb w 4) (hb w 128) s := by
  simp only [wrS, fin7, stW, sel_C, hb_C, stB]
def ckC (acc gz : Bool) (s : Int) : Bool := !(bitsV .u8 .andNot s 207 != 0) && (!(hbC s 2 && !hbC s 1) && (!(hbC s 8 && !(hbC s 2 && acc)) && (!(hbC s 4 && !hbC s 8) && (!(hbC s 64 && !hbC s 4) && !(!hbC s 2 && gz)))))
theorem ckB_C {k o g s : Int} (h1 : knI k o = true) (h2 : hasI o 32 = true) : ckB k o g s = ckC (acI k o g) (g != 0) s := by
  unfold ckB ckC
  rw [h1, h2]; rfl
def valid12 : List Int := [0, 1, 3, 11, 15, 79, 128, 129, 131, 139, 143, 207]
theorem ck_valid : ∀ (n : Fin 256) (acc gz : Bool), ckC acc gz (n.val : Int) = true → (n.val : Int) ∈ valid12 := by decide +kernel
def wI (acc gz b1 b2 b8 b4 b128 : Bool) (s : Int) : Int := selC (ckC acc gz s) (stB acc b1 b2 b8 b4 b128 s) s
def seqI (acc gz b1 b2 b8 b4 b128 : Bool) (s : Int) : Int :=
  let s := selC b1 (wI acc gz true false false false false s) s
  let s := selC b2 (wI acc gz false true false false false s) s
  let s := selC b8 (wI acc gz false false true false false s) s
  let s := selC b4 (wI acc gz false false false true false s) s
  selC b128 (wI acc gz false false false false true s) s
theorem law7 : ∀ s ∈ valid12, ∀ acc gz b1 b2 b8 b4 b128 : Bool, ckC acc gz s = true →
    seqI acc gz b1 b2 b8 b4 b128 s = wI acc gz b1 b2 b8 b4 b128 s ∧ wI acc gz b1 b2 b8 b4 b128 (wI acc gz b1 b2 b8 b4 b128 s) = wI acc gz b1 b2 b8 b4 b128 s ∧ ckC acc gz (wI acc gz b1 b2 b8 b4 b128 s) = true := by decide +kernel
theorem wrI_C {k o g s w : Int} (h1 : knI k o = true) (h2 : hasI o 32 = true) (hw : w ≠ 0) : wrI k o g s w = wI (acI k o g) (g != 0) (hb w 1) (hb w 2) (hb w 8) (hb w 4) (hb w 128) s := by
  unfold wrI wI
  rw [ckB_C h1 h2, beq_eq_false_iff_ne.2 hw, sel_false, wrS_B, sel_C]
theorem wrG_C {k o g s w : Int} (hw : w ≠ 0) : wrG k o g s w = g := by
  unfold wrG
  rw [beq_eq_false_iff_ne.2 hw, sel_false]
  cases ckB k o g s <;> rfl
theorem fin8_C {k o g s w : Int} (h1 : knI k o = true) (h2 : hasI o 32 = true) : fin8 k o w 5 0 (g, s) = (g, seqI (acI k o g) (g != 0) (hb w 1) (hb w 2) (hb w 8) (hb w 4) (hb w 128) s) := by
  have st : ∀ (i : Nat) (b : Int) (s : Int), b ≠ 0 → bitI i = b → stP k o w i (g, s) = (g, selC (hb w b) (wI (acI k o g) (g != 0) (hb b 1) (hb b 2) (hb b 8) (hb b 4) (hb b 128) s) s) := fun i b s hb0 hbi => by
    unfold stP
    rw [hbi, wrG_C hb0, wrI_C h1 h2 hb0]
    cases hb w b <;> rfl
  simp only [fin8]
  rw [st 0 1 _ (by decide) rfl, st 1 2 _ (by decide) rfl, st 2 8 _ (by decide) rfl, st 3 4 _ (by decide) rfl, st 4 128 _ (by decide) rfl]
  rfl
end Go.Proofs.Ytknkemjbikbhgaa
