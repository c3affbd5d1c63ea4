/-
  Chapter 27: Read as a specification; a message and its bytes. Own work; nothing here is trusted.
-/
import Derived.Test.YtgegagndihffpaaCh27Back0
namespace Go.Proofs.Ytgegagndihffpaa
open Go Go.Sx Go.RowKit
set_option maxRecDepth 1000000
set_option maxHeartbeats 8000000
set_option linter.unusedVariables false
set_option linter.unusedSimpArgs false
noncomputable section
def idR (b : List Int) : Int := bitsV IntKind.u32 BinOp.or (bitsV IntKind.u32 BinOp.or (bitsV IntKind.u32 BinOp.or (bitsV IntKind.u32 BinOp.or (0 : Int) (shlV IntKind.u32 (b.getD (Int.toNat (0 : Int)) (0 : Int) % (4294967296 : Int)) ((8 : Int) * (0 : Int)))) (shlV IntKind.u32 (b.getD ((0 : Int) + (1 : Int)).toNat (0 : Int) % (4294967296 : Int)) ((8 : Int) * ((0 : Int) + (1 : Int))))) (shlV IntKind.u32 (b.getD ((0 : Int) + (1 : Int) + (1 : Int)).toNat (0 : Int) % (4294967296 : Int)) ((8 : Int) * ((0 : Int) + (1 : Int) + (1 : Int))))) (shlV IntKind.u32 (b.getD ((0 : Int) + (1 : Int) + (1 : Int) + (1 : Int)).toNat (0 : Int) % (4294967296 : Int)) ((8 : Int) * ((0 : Int) + (1 : Int) + (1 : Int) + (1 : Int))))
def evR (b : List Int) : Int := bitsV IntKind.u16 BinOp.or (b.getD (Int.toNat (4 : Int)) (0 : Int) % (65536 : Int)) (shlV IntKind.u16 (b.getD (Int.toNat (5 : Int)) (0 : Int) % (65536 : Int)) (8 : Int))
def vlR (b : List Int) : Int := bitsV IntKind.u16 BinOp.or (b.getD (Int.toNat (6 : Int)) (0 : Int) % (65536 : Int)) (shlV IntKind.u16 (b.getD (Int.toNat (7 : Int)) (0 : Int) % (65536 : Int)) (8 : Int))
def nmX (b : List Int) : ByteArray := strOf (List.map (fun x => x) (List.drop (intO (0 : Int) (some (8 : Int))).toNat (List.take (intO (b.length : Int) none).toNat b)))

theorem rd_s (f : Bool) (b : List Int) : Tr.follow [true] (fR f b) =
  some ([decide ((↑b.length : Int) < (8 : Int))],
  (SV.tup [SV.agg [SV.raw (Value.int IntKind.u32 (0 : Int)), SV.raw (Value.int IntKind.u16 (0 : Int)), SV.raw (Value.int IntKind.u16 (0 : Int)), SV.raw (Value.string ByteArray.empty)], SV.raw (Value.int IntKind.i64 (4 : Int))], [])) := by kernel_rfl
theorem rd_ok (f : Bool) (b : List Int) : Tr.follow [false, true, true, true, true, false, true, true, true, true, true, false, true, true, true, true, true, false, true, true, true, true, true, false, true, false, true, true, true, true, false, true, true, true, true, false, true, true, false] (fR f b) =
  some ([decide ((↑b.length : Int) < (8 : Int)),
  true,
  inB (0 : Int) b.length,
  decide (Int.toNat (0 : Int) < b.length),
  true,
  false,
  true,
  true,
  inB ((0 : Int) + (1 : Int)) b.length,
  decide (((0 : Int) + (1 : Int)).toNat < b.length),
  true,
  false,
  true,
  true,
  inB ((0 : Int) + (1 : Int) + (1 : Int)) b.length,
  decide (((0 : Int) + (1 : Int) + (1 : Int)).toNat < b.length),
  true,
  false,
  true,
  true,
  inB ((0 : Int) + (1 : Int) + (1 : Int) + (1 : Int)) b.length,
  decide (((0 : Int) + (1 : Int) + (1 : Int) + (1 : Int)).toNat < b.length),
  true,
  false,
  true,
  false,
  inB (4 : Int) b.length,
  decide (Int.toNat (4 : Int) < b.length),
  inB (5 : Int) b.length,
  decide (Int.toNat (5 : Int) < b.length),
  false,
  inB (6 : Int) b.length,
  decide (Int.toNat (6 : Int) < b.length),
  inB (7 : Int) b.length,
  decide (Int.toNat (7 : Int) < b.length),
  false,
  bOk (intO (0 : Int) (some (8 : Int))) (intO (↑b.length : Int) none) (↑b.length : Int),
  okM (evR b) (nmX b),
  false],
  (SV.tup [mS (idR b) (evR b) (vlR b) (nmX b), SV.raw (Value.int IntKind.i64 (0 : Int))], [])) := by kernel_rfl
theorem rd_bad (f : Bool) (b : List Int) : Tr.follow [false, true, true, true, true, false, true, true, true, true, true, false, true, true, true, true, true, false, true, true, true, true, true, false, true, false, true, true, true, true, false, true, true, true, true, false, true, false, true] (fR f b) =
  some ([decide ((↑b.length : Int) < (8 : Int)),
  true,
  inB (0 : Int) b.length,
  decide (Int.toNat (0 : Int) < b.length),
  true,
  false,
  true,
  true,
  inB ((0 : Int) + (1 : Int)) b.length,
  decide (((0 : Int) + (1 : Int)).toNat < b.length),
  true,
  false,
  true,
  true,
  inB ((0 : Int) + (1 : Int) + (1 : Int)) b.length,
  decide (((0 : Int) + (1 : Int) + (1 : Int)).toNat < b.length),
  true,
  false,
  true,
  true,
  inB ((0 : Int) + (1 : Int) + (1 : Int) + (1 : Int)) b.length,
  decide (((0 : Int) + (1 : Int) + (1 : Int) + (1 : Int)).toNat < b.length),
  true,
  false,
  true,
  false,
  inB (4 : Int) b.length,
  decide (Int.toNat (4 : Int) < b.length),
  inB (5 : Int) b.length,
  decide (Int.toNat (5 : Int) < b.length),
  false,
  inB (6 : Int) b.length,
  decide (Int.toNat (6 : Int) < b.length),
  inB (7 : Int) b.length,
  decide (Int.toNat (7 : Int) < b.length),
  false,
  bOk (intO (0 : Int) (some (8 : Int))) (intO (↑b.length : Int) none) (↑b.length : Int),
  okM (evR b) (nmX b),
  true],
  (SV.tup [SV.agg [SV.raw (Value.int IntKind.u32 (0 : Int)), SV.raw (Value.int IntKind.u16 (0 : Int)), SV.raw (Value.int IntKind.u16 (0 : Int)), SV.raw (Value.string ByteArray.empty)], SV.raw (Value.int IntKind.i64 (4 : Int))], [])) := by kernel_rfl

/-- A message out of bytes. -/
def readR (b : List Int) : Mg × Int := if (b.length : Int) < 8 then ((0, 0, 0, ByteArray.empty), 4) else if okM (evR b) (nmX b) = true then ((idR b, evR b, vlR b, nmX b), 0) else ((0, 0, 0, ByteArray.empty), 4)
def readT : FnF C27 := fun args os => match args, os with
  | [.h 0], [.sl false f 5 b] => .br (decide (b.length ≤ 100000)) (.leaf (.tup [mS (readR b).1.1 (readR b).1.2.1 (readR b).1.2.2.1 (readR b).1.2.2.2, .raw (.int .i64 (readR b).2)], [])) .fail
  | _, _ => .fail
theorem readT_ok : ∀ args os r, (readT args os).get = some r → Fn0 Try.prog 16 args os r := fun args os r h => by
  unfold readT at h
  split at h
  · rename_i f b
    obtain ⟨hl, h2⟩ := Tr.get_ask.1 h
    simp only [Tr.get, Option.some.injEq] at h2
    subst h2
    change List Int at b
    have hl : b.length ≤ 100000 := of_decide_eq_true hl
    refine fnC_ok (sp := sfR) (ls := noLs) (unr := fun _ _ => 20) (d := 10) plain mixed sfR_ok noLs_ok ?_
    generalize hG : readR b = G
    unfold readR at hG
    by_cases h8 : (b.length : Int) < 8
    · rw [if_pos h8] at hG; subst hG
      exact Tr.follow_get (rd_s f b) (by simp only [decide_eq_true h8])
    · rw [if_neg h8] at hG
      have e0 := decide_eq_false h8
      have ib : ∀ i : Int, 0 ≤ i → i < 8 → Sx.inB i b.length = true := fun i h1 h2 => inB_mk ⟨h1, by omega⟩
      have il : ∀ i : Int, 0 ≤ i → i < 8 → decide (i.toNat < b.length) = true := fun i h1 h2 => decide_eq_true (by omega)
      have hbo : bOk (intO (0 : Int) (some (8 : Int))) (intO (b.length : Int) none) (b.length : Int) = true := bOk_mk (by simp only [intO_some, intO_none]; omega)
      by_cases hm : okM (evR b) (nmX b) = true
      · rw [if_pos hm] at hG; subst hG
        exact Tr.follow_get (rd_ok f b) (by
          rw [e0, ib 0 (by decide) (by decide), ib (0 + 1) (by decide) (by decide), ib (0 + 1 + 1) (by decide) (by decide), ib (0 + 1 + 1 + 1) (by decide) (by decide), ib 4 (by decide) (by decide), ib 5 (by decide) (by decide), ib 6 (by decide) (by decide), ib 7 (by decide) (by decide), il 0 (by decide) (by decide), il (0 + 1) (by decide) (by decide), il (0 + 1 + 1) (by decide) (by decide), il (0 + 1 + 1 + 1) (by decide) (by decide), il 4 (by decide) (by decide), il 5 (by decide) (by decide), il 6 (by decide) (by decide), il 7 (by decide) (by decide), hbo, hm])
      · rw [if_neg hm] at hG; subst hG
        have hm : okM (evR b) (nmX b) = false := by simpa using hm
        exact Tr.follow_get (rd_bad f b) (by
          rw [e0, ib 0 (by decide) (by decide), ib (0 + 1) (by decide) (by decide), ib (0 + 1 + 1) (by decide) (by decide), ib (0 + 1 + 1 + 1) (by decide) (by decide), ib 4 (by decide) (by decide), ib 5 (by decide) (by decide), ib 6 (by decide) (by decide), ib 7 (by decide) (by decide), il 0 (by decide) (by decide), il (0 + 1) (by decide) (by decide), il (0 + 1 + 1) (by decide) (by decide), il (0 + 1 + 1 + 1) (by decide) (by decide), il 4 (by decide) (by decide), il 5 (by decide) (by decide), il 6 (by decide) (by decide), il 7 (by decide) (by decide), hbo, hm])
  · cases h
/-! ### numbers and their bytes -/
abbrev isB8 (x : Int) : Prop := 0 ≤ x ∧ x < 256
theorem or_add (n : Nat) {x z i : Nat} (hx : x < 2 ^ i) (hy : z * 2 ^ i + x < 2 ^ n) : (BitVec.ofInt n (x : Int) ||| BitVec.ofInt n ((z * 2 ^ i : Nat) : Int)).toNat = x + z * 2 ^ i := by
  rw [BitVec.toNat_or, BitVec.toNat_ofInt, BitVec.toNat_ofInt]
  have e1 : ((x : Int) % ((2 ^ n : Nat) : Int)).toNat = x := by
    rw [← Int.natCast_emod, Int.toNat_natCast, Nat.mod_eq_of_lt (by omega)]
  have e2 : (((z * 2 ^ i : Nat) : Int) % ((2 ^ n : Nat) : Int)).toNat = z * 2 ^ i := by
    rw [← Int.natCast_emod, Int.toNat_natCast, Nat.mod_eq_of_lt (by omega)]
  rw [e1, e2, Nat.or_comm, ← Nat.shiftLeft_eq, ← Nat.shiftLeft_add_eq_or_of_lt hx, Nat.add_comm]
theorem or32 {x z : Nat} (i : Nat) (hx : x < 2 ^ i) (hy : z * 2 ^ i + x < 2 ^ 32) : bitsV .u32 .or (x : Int) ((z * 2 ^ i : Nat) : Int) = ((x + z * 2 ^ i : Nat) : Int) := by
  show IntKind.u32.wrap ((BitVec.ofInt 32 (x : Int) ||| BitVec.ofInt 32 ((z * 2 ^ i : Nat) : Int)).toNat : Int) = _
  rw [or_add 32 hx hy]
  show (((x + z * 2 ^ i : Nat) : Int) % 4294967296) = _
  omega
theorem or16 {x z : Nat} (i : Nat) (hx : x < 2 ^ i) (hy : z * 2 ^ i + x < 2 ^ 16) : bitsV .u16 .or (x : Int) ((z * 2 ^ i : Nat) : Int) = ((x + z * 2 ^ i : Nat) : Int) := by
  show IntKind.u16.wrap ((BitVec.ofInt 16 (x : Int) ||| BitVec.ofInt 16 ((z * 2 ^ i : Nat) : Int)).toNat : Int) = _
  rw [or_add 16 hx hy]
  show (((x + z * 2 ^ i : Nat) : Int) % 65536) = _
  omega
end
end Go.Proofs.Ytgegagndihffpaa
