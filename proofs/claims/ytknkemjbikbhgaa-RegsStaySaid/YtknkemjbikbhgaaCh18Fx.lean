/-
  Chapter 18: the reference's Fixed, of states that may be. Own work; nothing here is trusted.
-/
import Derived.Test.YtknkemjbikbhgaaCh18Fx0
namespace Go.Proofs.Ytknkemjbikbhgaa
open Go Go.Sx Go.RowKit
set_option maxRecDepth 1000000
set_option maxHeartbeats 8000000
set_option linter.unusedVariables false
set_option linter.unusedSimpArgs false
noncomputable section
theorem fr_tree (rg : Int → Bool) (k o g s : Int) : (fF rg 51 [devV k o g s] []).get =
  bro (allI k != (0 : Int)) (bro (!bitsV IntKind.u64 BinOp.andNot o (allI k) == (0 : Int)) (some (SV.tup [SV.raw (Value.int IntKind.u64 (0 : Int)), SV.raw (Value.bool false)], [])) (bro (rg o) (bro (!hasI o (Int.toNat (32 : Int))) (some (SV.tup [SV.raw (Value.int IntKind.u64 (0 : Int)), SV.raw (Value.bool false)], [])) (bro (bitsV IntKind.u8 BinOp.and s (48 : Int) != (0 : Int)) (some (SV.tup [SV.raw (Value.int IntKind.u64 (0 : Int)), SV.raw (Value.bool false)], [])) (bro (rng64 g) (bro (bitsV IntKind.u8 BinOp.and s (2 : Int) != (0 : Int)) (bro (!bitsV IntKind.u8 BinOp.and s (1 : Int) != (0 : Int)) (some (SV.tup [SV.raw (Value.int IntKind.u64 (0 : Int)), SV.raw (Value.bool false)], [])) (bro (bitsV IntKind.u8 BinOp.and s (8 : Int) != (0 : Int)) (bro (!bitsV IntKind.u8 BinOp.and s (2 : Int) != (0 : Int)) (some (SV.tup [SV.raw (Value.int IntKind.u64 (0 : Int)), SV.raw (Value.bool false)], [])) (bro (!acRB k o g) (some (SV.tup [SV.raw (Value.int IntKind.u64 (0 : Int)), SV.raw (Value.bool false)], [])) (bro (bitsV IntKind.u8 BinOp.and s (4 : Int) != (0 : Int)) (bro (!bitsV IntKind.u8 BinOp.and s (8 : Int) != (0 : Int)) (some (SV.tup [SV.raw (Value.int IntKind.u64 (0 : Int)), SV.raw (Value.bool false)], [])) (bro (bitsV IntKind.u8 BinOp.and s (64 : Int) != (0 : Int)) (bro (!bitsV IntKind.u8 BinOp.and s (4 : Int) != (0 : Int)) (some (SV.tup [SV.raw (Value.int IntKind.u64 (0 : Int)), SV.raw (Value.bool false)], [])) (bro (!bitsV IntKind.u8 BinOp.and s (2 : Int) != (0 : Int)) (bro (g != (0 : Int)) (some (SV.tup [SV.raw (Value.int IntKind.u64 (0 : Int)), SV.raw (Value.bool false)], [])) (bro (!bitsV IntKind.u8 BinOp.and s (8 : Int) != (0 : Int)) (some (SV.tup [SV.raw (Value.int IntKind.u64 (0 : Int)), SV.raw (Value.bool false)], [])) (some (SV.tup [SV.raw (Value.int IntKind.u64 g), SV.raw (Value.bool true)], [])))) (bro (!bitsV IntKind.u8 BinOp.and s (8 : Int) != (0 : Int)) (some (SV.tup [SV.raw (Value.int IntKind.u64 (0 : Int)), SV.raw (Value.bool false)], [])) (some (SV.tup [SV.raw (Value.int IntKind.u64 g), SV.raw (Value.bool true)], []))))) (bro (!bitsV IntKind.u8 BinOp.and s (2 : Int) != (0 : Int)) (bro (g != (0 : Int)) (some (SV.tup [SV.raw (Value.int IntKind.u64 (0 : Int)), SV.raw (Value.bool false)], [])) (bro (!bitsV IntKind.u8 BinOp.and s (8 : Int) != (0 : Int)) (some (SV.tup [SV.raw (Value.int IntKind.u64 (0 : Int)), SV.raw (Value.bool false)], [])) (some (SV.tup [SV.raw (Value.int IntKind.u64 g), SV.raw (Value.bool true)], [])))) (bro (!bitsV IntKind.u8 BinOp.and s (8 : Int) != (0 : Int)) (some (SV.tup [SV.raw (Value.int IntKind.u64 (0 : Int)), SV.raw (Value.bool false)], [])) (some (SV.tup [SV.raw (Value.int IntKind.u64 g), SV.raw (Value.bool true)], [])))))) (bro (bitsV IntKind.u8 BinOp.and s (64 : Int) != (0 : Int)) (bro (!bitsV IntKind.u8 BinOp.and s (4 : Int) != (0 : Int)) (some (SV.tup [SV.raw (Value.int IntKind.u64 (0 : Int)), SV.raw (Value.bool false)], [])) (bro (!bitsV IntKind.u8 BinOp.and s (2 : Int) != (0 : Int)) (bro (g != (0 : Int)) (some (SV.tup [SV.raw (Value.int IntKind.u64 (0 : Int)), SV.raw (Value.bool false)], [])) (bro (!bitsV IntKind.u8 BinOp.and s (8 : Int) != (0 : Int)) (some (SV.tup [SV.raw (Value.int IntKind.u64 (0 : Int)), SV.raw (Value.bool false)], [])) (some (SV.tup [SV.raw (Value.int IntKind.u64 g), SV.raw (Value.bool true)], [])))) (bro (!bitsV IntKind.u8 BinOp.and s (8 : Int) != (0 : Int)) (some (SV.tup [SV.raw (Value.int IntKind.u64 (0 : Int)), SV.raw (Value.bool false)], [])) (some (SV.tup [SV.raw (Value.int IntKind.u64 g), SV.raw (Value.bool true)], []))))) (bro (!bitsV IntKind.u8 BinOp.and s (2 : Int) != (0 : Int)) (bro (g != (0 : Int)) (some (SV.tup [SV.raw (Value.int IntKind.u64 (0 : Int)), SV.raw (Value.bool false)], [])) (bro (!bitsV IntKind.u8 BinOp.and s (8 : Int) != (0 : Int)) (some (SV.tup [SV.raw (Value.int IntKind.u64 (0 : Int)), SV.raw (Value.bool false)], [])) (some (SV.tup [SV.raw (Value.int IntKind.u64 g), SV.raw (Value.bool true)], [])))) (bro (!bitsV IntKind.u8 BinOp.and s (8 : Int) != (0 : Int)) (some (SV.tup [SV.raw (Value.int IntKind.u64 (0 : Int)), SV.raw (Value.bool false)], [])) (some (SV.tup [SV.raw (Value.int IntKind.u64 g), SV.raw (Value.bool true)], [])))))))) (bro (bitsV IntKind.u8 BinOp.and s (4 : Int) != (0 : Int)) (bro (!bitsV IntKind.u8 BinOp.and s (8 : Int) != (0 : Int)) (some (SV.tup [SV.raw (Value.int IntKind.u64 (0 : Int)), SV.raw (Value.bool false)], [])) (bro (bitsV IntKind.u8 BinOp.and s (64 : Int) != (0 : Int)) (bro (!bitsV IntKind.u8 BinOp.and s (4 : Int) != (0 : Int)) (some (SV.tup [SV.raw (Value.int IntKind.u64 (0 : Int)), SV.raw (Value.bool false)], [])) (bro (!bitsV IntKind.u8 BinOp.and s (2 : Int) != (0 : Int)) (bro (g != (0 : Int)) (some (SV.tup [SV.raw (Value.int IntKind.u64 (0 : Int)), SV.raw (Value.bool false)], [])) (bro (!bitsV IntKind.u8 BinOp.and s (8 : Int) != (0 : Int)) (some (SV.tup [SV.raw (Value.int IntKind.u64 (0 : Int)), SV.raw (Value.bool false)], [])) (some (SV.tup [SV.raw (Value.int IntKind.u64 g), SV.raw (Value.bool true)], [])))) (bro (!bitsV IntKind.u8 BinOp.and s (8 : Int) != (0 : Int)) (some (SV.tup [SV.raw (Value.int IntKind.u64 (0 : Int)), SV.raw (Value.bool false)], [])) (some (SV.tup [SV.raw (Value.int IntKind.u64 g), SV.raw (Value.bool true)], []))))) (bro (!bitsV IntKind.u8 BinOp.and s (2 : Int) != (0 : Int)) (bro (g != (0 : Int)) (some (SV.tup [SV.raw (Value.int IntKind.u64 (0 : Int)), SV.raw (Value.bool false)], [])) (bro (!bitsV IntKind.u8 BinOp.and s (8 : Int) != (0 : Int)) (some (SV.tup [SV.raw (Value.int IntKind.u64 (0 : Int)), SV.raw (Value.bool false)], [])) (some (SV.tup [SV.raw (Value.int IntKind.u64 g), SV.raw (Value.bool true)], [])))) (bro (!bitsV IntKind.u8 BinOp.and s (8 : Int) != (0 : Int)) (some (SV.tup [SV.raw (Value.int IntKind.u64 (0 : Int)), SV.raw (Value.bool false)], [])) (some (SV.tup [SV.raw (Value.int IntKind.u64 g), SV.raw (Value.bool true)], [])))))) (bro (bitsV IntKind.u8 BinOp.and s (64 : Int) != (0 : Int)) (bro (!bitsV IntKind.u8 BinOp.and s (4 : Int) != (0 : Int)) (some (SV.tup [SV.raw (Value.int IntKind.u64 (0 : Int)), SV.raw (Value.bool false)], [])) (bro (!bitsV IntKind.u8 BinOp.and s (2 : Int) != (0 : Int)) (bro (g != (0 : Int)) (some (SV.tup [SV.raw (Value.int IntKind.u64 (0 : Int)), SV.raw (Value.bool false)], [])) (bro (!bitsV IntKind.u8 BinOp.and s (8 : Int) != (0 : Int)) (some (SV.tup [SV.raw (Value.int IntKind.u64 (0 : Int)), SV.raw (Value.bool false)], [])) (some (SV.tup [SV.raw (Value.int IntKind.u64 g), SV.raw (Value.bool true)], [])))) (bro (!bitsV IntKind.u8 BinOp.and s (8 : Int) != (0 : Int)) (some (SV.tup [SV.raw (Value.int IntKind.u64 (0 : Int)), SV.raw (Value.bool false)], [])) (some (SV.tup [SV.raw (Value.int IntKind.u64 g), SV.raw (Value.bool true)], []))))) (bro (!bitsV IntKind.u8 BinOp.and s (2 : Int) != (0 : Int)) (bro (g != (0 : Int)) (some (SV.tup [SV.raw (Value.int IntKind.u64 (0 : Int)), SV.raw (Value.bool false)], [])) (bro (!bitsV IntKind.u8 BinOp.and s (8 : Int) != (0 : Int)) (some (SV.tup [SV.raw (Value.int IntKind.u64 (0 : Int)), SV.raw (Value.bool false)], [])) (some (SV.tup [SV.raw (Value.int IntKind.u64 g), SV.raw (Value.bool true)], [])))) (bro (!bitsV IntKind.u8 BinOp.and s (8 : Int) != (0 : Int)) (some (SV.tup [SV.raw (Value.int IntKind.u64 (0 : Int)), SV.raw (Value.bool false)], [])) (some (SV.tup [SV.raw (Value.int IntKind.u64 g), SV.raw (Value.bool true)], [])))))))) (bro (bitsV IntKind.u8 BinOp.and s (8 : Int) != (0 : Int)) (bro (!bitsV IntKind.u8 BinOp.and s (2 : Int) != (0 : Int)) (some (SV.tup [SV.raw (Value.int IntKind.u64 (0 : Int)), SV.raw (Value.bool false)], [])) (bro (!acRB k o g) (some (SV.tup [SV.raw (Value.int IntKind.u64 (0 : Int)), SV.raw (Value.bool false)], [])) (bro (bitsV IntKind.u8 BinOp.and s (4 : Int) != (0 : Int)) (bro (!bitsV IntKind.u8 BinOp.and s (8 : Int) != (0 : Int)) (some (SV.tup [SV.raw (Value.int IntKind.u64 (0 : Int)), SV.raw (Value.bool false)], [])) (bro (bitsV IntKind.u8 BinOp.and s (64 : Int) != (0 : Int)) (bro (!bitsV IntKind.u8 BinOp.and s (4 : Int) != (0 : Int)) (some (SV.tup [SV.raw (Value.int IntKind.u64 (0 : Int)), SV.raw (Value.bool false)], [])) (bro (!bitsV IntKind.u8 BinOp.and s (2 : Int) != (0 : Int)) (bro (g != (0 : Int)) (some (SV.tup [SV.raw (Value.int IntKind.u64 (0 : Int)), SV.raw (Value.bool false)], [])) (bro (!bitsV IntKind.u8 BinOp.and s (8 : Int) != (0 : Int)) (some (SV.tup [SV.raw (Value.int IntKind.u64 (0 : Int)), SV.raw (Value.bool false)], [])) (some (SV.tup [SV.raw (Value.int IntKind.u64 g), SV.raw (Value.bool true)], [])))) (bro (!bitsV IntKind.u8 BinOp.and s (8 : Int) != (0 : Int)) (some (SV.tup [SV.raw (Value.int IntKind.u64 (0 : Int)), SV.raw (Value.bool false)], [])) (some (SV.tup [SV.raw (Value.int IntKind.u64 g), SV.raw (Value.bool true)], []))))) (bro (!bitsV IntKind.u8 BinOp.and s (2 : Int) != (0 : Int)) (bro (g != (0 : Int)) (some (SV.tup [SV.raw (Value.int IntKind.u64 (0 : Int)), SV.raw (Value.bool false)], [])) (bro (!bitsV IntKind.u8 BinOp.and s (8 : Int) != (0 : Int)) (some (SV.tup [SV.raw (Value.int IntKind.u64 (0 : Int)), SV.raw (Value.bool false)], [])) (some (SV.tup [SV.raw (Value.int IntKind.u64 g), SV.raw (Value.bool true)], [])))) (bro (!bitsV IntKind.u8 BinOp.and s (8 : Int) != (0 : Int)) (some (SV.tup [SV.raw (Value.int IntKind.u64 (0 : Int)), SV.raw (Value.bool false)], [])) (some (SV.tup [SV.raw (Value.int IntKind.u64 g), SV.raw (Value.bool true)], [])))))) (bro (bitsV IntKind.u8 BinOp.and s (64 : Int) != (0 : Int)) (bro (!bitsV IntKind.u8 BinOp.and s (4 : Int) != (0 : Int)) (some (SV.tup [SV.raw (Value.int IntKind.u64 (0 : Int)), SV.raw (Value.bool false)], [])) (bro (!bitsV IntKind.u8 BinOp.and s (2 : Int) != (0 : Int)) (bro (g != (0 : Int)) (some (SV.tup [SV.raw (Value.int IntKind.u64 (0 : Int)), SV.raw (Value.bool false)], [])) (bro (!bitsV IntKind.u8 BinOp.and s (8 : Int) != (0 : Int)) (some (SV.tup [SV.raw (Value.int IntKind.u64 (0 : Int)), SV.raw (Value.bool false)], [])) (some (SV.tup [SV.raw (Value.int IntKind.u64 g), SV.raw (Value.bool true)], [])))) (bro (!bitsV IntKind.u8 BinOp.and s (8 : Int) != (0 : Int)) (some (SV.tup [SV.raw (Value.int IntKind.u64 (0 : Int)), SV.raw (Value.bool false)], [])) (some (SV.tup [SV.raw (Value.int IntKind.u64 g), SV.raw (Value.bool true)], []))))) (bro (!bitsV IntKind.u8 BinOp.and s (2 : Int) != (0 : Int)) (bro (g != (0 : Int)) (some (SV.tup [SV.raw (Value.int IntKind.u64 (0 : Int)), SV.raw (Value.bool false)], [])) (bro (!bitsV IntKind.u8 BinOp.and s (8 : Int) != (0 : Int)) (some (SV.tup [SV.raw (Value.int IntKind.u64 (0 : Int)), SV.raw (Value.bool false)], [])) (some (SV.tup [SV.raw (Value.int IntKind.u64 g), SV.raw (Value.bool true)], [])))) (bro (!bitsV IntKind.u8 BinOp.and s (8 : Int) != (0 : Int)) (some (SV.tup [SV.raw (Value.int IntKind.u64 (0 : Int)), SV.raw (Value.bool false)], [])) (some (SV.tup [SV.raw (Value.int IntKind.u64 g), SV.raw (Value.bool true)], [])))))))) (bro (bitsV IntKind.u8 BinOp.and s (4 : Int) != (0 : Int)) (bro (!bitsV IntKind.u8 BinOp.and s (8 : Int) != (0 : Int)) (some (SV.tup [SV.raw (Value.int IntKind.u64 (0 : Int)), SV.raw (Value.bool false)], [])) (bro (bitsV IntKind.u8 BinOp.and s (64 : Int) != (0 : Int)) (bro (!bitsV IntKind.u8 BinOp.and s (4 : Int) != (0 : Int)) (some (SV.tup [SV.raw (Value.int IntKind.u64 (0 : Int)), SV.raw (Value.bool false)], [])) (bro (!bitsV IntKind.u8 BinOp.and s (2 : Int) != (0 : Int)) (bro (g != (0 : Int)) (some (SV.tup [SV.raw (Value.int IntKind.u64 (0 : Int)), SV.raw (Value.bool false)], [])) (bro (!bitsV IntKind.u8 BinOp.and s (8 : Int) != (0 : Int)) (some (SV.tup [SV.raw (Value.int IntKind.u64 (0 : Int)), SV.raw (Value.bool false)], [])) (some (SV.tup [SV.raw (Value.int IntKind.u64 g), SV.raw (Value.bool true)], [])))) (bro (!bitsV IntKind.u8 BinOp.and s (8 : Int) != (0 : Int)) (some (SV.tup [SV.raw (Value.int IntKind.u64 (0 : Int)), SV.raw (Value.bool false)], [])) (some (SV.tup [SV.raw (Value.int IntKind.u64 g), SV.raw (Value.bool true)], []))))) (bro (!bitsV IntKind.u8 BinOp.and s (2 : Int) != (0 : Int)) (bro (g != (0 : Int)) (some (SV.tup [SV.raw (Value.int IntKind.u64 (0 : Int)), SV.raw (Value.bool false)], [])) (bro (!bitsV IntKind.u8 BinOp.and s (8 : Int) != (0 : Int)) (some (SV.tup [SV.raw (Value.int IntKind.u64 (0 : Int)), SV.raw (Value.bool false)], [])) (some (SV.tup [SV.raw (Value.int IntKind.u64 g), SV.raw (Value.bool true)], [])))) (bro (!bitsV IntKind.u8 BinOp.and s (8 : Int) != (0 : Int)) (some (SV.tup [SV.raw (Value.int IntKind.u64 (0 : Int)), SV.raw (Value.bool false)], [])) (some (SV.tup [SV.raw (Value.int IntKind.u64 g), SV.raw (Value.bool true)], [])))))) (bro (bitsV IntKind.u8 BinOp.and s (64 : Int) != (0 : Int)) (bro (!bitsV IntKind.u8 BinOp.and s (4 : Int) != (0 : Int)) (some (SV.tup [SV.raw (Value.int IntKind.u64 (0 : Int)), SV.raw (Value.bool false)], [])) (bro (!bitsV IntKind.u8 BinOp.and s (2 : Int) != (0 : Int)) (bro (g != (0 : Int)) (some (SV.tup [SV.raw (Value.int IntKind.u64 (0 : Int)), SV.raw (Value.bool false)], [])) (bro (!bitsV IntKind.u8 BinOp.and s (8 : Int) != (0 : Int)) (some (SV.tup [SV.raw (Value.int IntKind.u64 (0 : Int)), SV.raw (Value.bool false)], [])) (some (SV.tup [SV.raw (Value.int IntKind.u64 g), SV.raw (Value.bool true)], [])))) (bro (!bitsV IntKind.u8 BinOp.and s (8 : Int) != (0 : Int)) (some (SV.tup [SV.raw (Value.int IntKind.u64 (0 : Int)), SV.raw (Value.bool false)], [])) (some (SV.tup [SV.raw (Value.int IntKind.u64 g), SV.raw (Value.bool true)], []))))) (bro (!bitsV IntKind.u8 BinOp.and s (2 : Int) != (0 : Int)) (bro (g != (0 : Int)) (some (SV.tup [SV.raw (Value.int IntKind.u64 (0 : Int)), SV.raw (Value.bool false)], [])) (bro (!bitsV IntKind.u8 BinOp.and s (8 : Int) != (0 : Int)) (some (SV.tup [SV.raw (Value.int IntKind.u64 (0 : Int)), SV.raw (Value.bool false)], [])) (some (SV.tup [SV.raw (Value.int IntKind.u64 g), SV.raw (Value.bool true)], [])))) (bro (!bitsV IntKind.u8 BinOp.and s (8 : Int) != (0 : Int)) (some (SV.tup [SV.raw (Value.int IntKind.u64 (0 : Int)), SV.raw (Value.bool false)], [])) (some (SV.tup [SV.raw (Value.int IntKind.u64 g), SV.raw (Value.bool true)], [])))))))) (none)))) (none))) (some (SV.tup [SV.raw (Value.int IntKind.u64 (0 : Int)), SV.raw (Value.bool false)], [])) := by kernel_rfl
theorem acRB_true {k o g : Int} (hg : rng64 g = true) (ha : acI k o g = true) : acRB k o g = true := by
  have e := acRB_get (k := k) (o := o) hg
  unfold acI at ha
  simp only [Bool.and_eq_true, beq_iff_eq] at ha
  obtain ⟨hk, hn, ho⟩ := ha
  obtain ⟨j, hj, rfl, hall⟩ := knI_cases hk
  have ea := allI_kd hj
  have hc : Cl j (V g) := cl_of (by have := U_zero.1 hn; exact this)
  have en := need_ok hj hc
  have hp := ac_path rng64 64 (j : Int) o g
  rw [ea.1, hall, hg, en, ho, show (allOf j != 0) = true by rw [← ea.1]; simpa using ea.2] at hp
  have h1 := Tr.follow_get hp rfl
  rw [e] at h1
  have h2 := Option.some.inj h1
  simp only [Prod.mk.injEq, SV.raw.injEq, Value.bool.injEq, and_true] at h2
  rw [h2]; rfl
abbrev fxY (g : Int) : SV × List (SO C6) := (.tup [.raw (.int .u64 g), .raw (.bool true)], [])
abbrev fxN : SV × List (SO C6) := (.tup [.raw (.int .u64 0), .raw (.bool false)], [])
theorem fxR {k o g s : Int} (h : rokB k o g s = true) (hs : s ∈ valid12) : (fF rng64 51 [devV k o g s] []).get = bro (hb s 8) (some (fxY g)) (some fxN) := by
  obtain ⟨ho, hg, hc⟩ := rokB_iff.1 h
  obtain ⟨hk, h32, _⟩ := rok_kn h
  obtain ⟨j, hj, rfl, hall⟩ := knI_cases hk
  have ea := allI_kd hj
  have a1 : (allI (j : Int) != 0) = true := by simpa using ea.2
  have a2 : (bitsV IntKind.u64 BinOp.andNot o (allI (j : Int)) == 0) = true := by rw [ea.1, hall]; rfl
  have a6 : hb s 8 = true → acRB (j : Int) o g = true := fun h8 => acRB_true hg (rok_acc hs h h8)
  rw [fr_tree, a1, a2, ho, hg]
  show bro true (bro (!true) _ (bro true (bro (!hasI o 32) _ _) _)) _ = _
  rw [h32]
  generalize acRB (j : Int) o g = A at a6 ⊢
  generalize (g != (0 : Int)) = G
  cases h8 : hb s 8 with
  | true =>
    have hA := a6 h8
    clear a6
    subst hA
    simp only [valid12, List.mem_cons, List.not_mem_nil, or_false] at hs
    rcases hs with rfl | rfl | rfl | rfl | rfl | rfl | rfl | rfl | rfl | rfl | rfl | rfl
    · exact absurd h8 (by decide)
    · exact absurd h8 (by decide)
    · exact absurd h8 (by decide)
    · cases G <;> (show _ = _) <;> kernel_rfl
    · cases G <;> (show _ = _) <;> kernel_rfl
    · cases G <;> (show _ = _) <;> kernel_rfl
    · exact absurd h8 (by decide)
    · exact absurd h8 (by decide)
    · exact absurd h8 (by decide)
    · cases G <;> (show _ = _) <;> kernel_rfl
    · cases G <;> (show _ = _) <;> kernel_rfl
    · cases G <;> (show _ = _) <;> kernel_rfl
  | false =>
    simp only [valid12, List.mem_cons, List.not_mem_nil, or_false] at hs
    rcases hs with rfl | rfl | rfl | rfl | rfl | rfl | rfl | rfl | rfl | rfl | rfl | rfl
    · cases G <;> cases A <;> kernel_rfl
    · cases G <;> cases A <;> kernel_rfl
    · cases G <;> cases A <;> kernel_rfl
    · exact absurd h8 (by decide)
    · exact absurd h8 (by decide)
    · exact absurd h8 (by decide)
    · cases G <;> cases A <;> kernel_rfl
    · cases G <;> cases A <;> kernel_rfl
    · cases G <;> cases A <;> kernel_rfl
    · exact absurd h8 (by decide)
    · exact absurd h8 (by decide)
    · exact absurd h8 (by decide)
def fxRT : FnF C18 := fun args os => match args, os with
  | [.agg [.raw (.int .i64 k), .raw (.int .u64 o), .raw (.int .u64 g), .raw (.int .u8 s)]], [] => .br (cdec (rokB k o g s = true ∧ s ∈ valid12)) (.leaf (.tup [.raw (.int .u64 (sel (hb s 8) g 0)), .raw (.bool (hb s 8))], [])) .fail
  | _, _ => .fail
theorem fxRT_ok : ∀ args os r, (fxRT args os).get = some r → Fn0 Try.prog 51 args os r := fun args os r h => by
  unfold fxRT at h
  split at h
  · rename_i k o g s
    obtain ⟨h1, h2⟩ := Tr.get_ask.1 h
    obtain ⟨h3, h4⟩ := cdec_iff.1 h1
    refine fnC_ok (sp := sfF rng64) (ls := noLs) (unr := fun _ _ => 20) (d := 10) plain mixed sfF_ok noLs_ok ?_
    refine (fxR h3 h4).trans (Eq.trans ?_ h2)
    cases hb s 8 <;> rfl
  · cases h
end
end Go.Proofs.Ytknkemjbikbhgaa
