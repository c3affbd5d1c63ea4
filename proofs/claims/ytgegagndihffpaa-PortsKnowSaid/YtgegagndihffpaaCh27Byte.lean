/-
  Chapter 27: a message's bytes as a specification. Own work; nothing here is trusted.
-/
import Derived.Test.YtgegagndihffpaaCh27Byte0
namespace Go.Proofs.Ytgegagndihffpaa
open Go Go.Sx Go.RowKit
set_option maxRecDepth 1000000
set_option maxHeartbeats 8000000
set_option linter.unusedVariables false
set_option linter.unusedSimpArgs false
noncomputable section

theorem by_e1 (a b c : Int) (s : ByteArray) : Tr.follow [true, true, true, true, true, true, true, true, true, true, true, true] (f0 14 [.agg [.raw (.int .u32 a), .raw (.int .u16 b), .raw (.int .u16 c), .raw (.string s)]] []) =
  some ([decide ((7 : Int) < b),
  true,
  true,
  true,
  true,
  true,
  true,
  true,
  true,
  true,
  true,
  true],
  (SV.tup [SV.raw (Value.slice none (0 : Nat) (0 : Nat)), SV.raw (Value.int IntKind.i64 (2 : Int))], [])) := by kernel_rfl
theorem by_e2 (a b c : Int) (s : ByteArray) : Tr.follow [false, false, false, false, true, true, true, false, true, true, true, true, true, true] (f0 14 [.agg [.raw (.int .u32 a), .raw (.int .u16 b), .raw (.int .u16 c), .raw (.string s)]] []) =
  some ([decide ((7 : Int) < b),
  false,
  false,
  false,
  b != (7 : Int),
  true,
  true,
  false,
  !s.toList == ByteArray.empty.toList,
  true,
  true,
  true,
  true,
  true],
  (SV.tup [SV.raw (Value.slice none (0 : Nat) (0 : Nat)), SV.raw (Value.int IntKind.i64 (2 : Int))], [])) := by kernel_rfl
theorem by_e3 (a b c : Int) (s : ByteArray) : Tr.follow [false, false, false, false, false, false, false, false, false, false, false, false, false, true] (f0 14 [.agg [.raw (.int .u32 a), .raw (.int .u16 b), .raw (.int .u16 c), .raw (.string s)]] []) =
  some ([decide ((7 : Int) < b),
  false,
  false,
  false,
  b != (7 : Int),
  false,
  false,
  false,
  false,
  false,
  false,
  false,
  false,
  decide ((64 : Int) < (↑s.size : Int))],
  (SV.tup [SV.raw (Value.slice none (0 : Nat) (0 : Nat)), SV.raw (Value.int IntKind.i64 (2 : Int))], [])) := by kernel_rfl
theorem by_e4 (a b c : Int) (s : ByteArray) : Tr.follow [false, false, false, false, true, true, true, false, false, false, false, false, true] (f0 14 [.agg [.raw (.int .u32 a), .raw (.int .u16 b), .raw (.int .u16 c), .raw (.string s)]] []) =
  some ([decide ((7 : Int) < b),
  false,
  false,
  false,
  b != (7 : Int),
  true,
  true,
  false,
  !s.toList == ByteArray.empty.toList,
  false,
  false,
  false,
  decide ((64 : Int) < (↑s.size : Int))],
  (SV.tup [SV.raw (Value.slice none (0 : Nat) (0 : Nat)), SV.raw (Value.int IntKind.i64 (2 : Int))], [])) := by kernel_rfl
theorem by_o1 (a b c : Int) (s : ByteArray) : Tr.follow [false, false, false, false, false, false, false, false, false, false, false, false, false, false, true, true, false, true, true, false, true, true, true, true, false, true, true, true, true, false, true, true, true, true, false, true, true, false, false, false, true, true] (f0 14 [.agg [.raw (.int .u32 a), .raw (.int .u16 b), .raw (.int .u16 c), .raw (.string s)]] []) =
  some ([decide ((7 : Int) < b),
  false,
  false,
  false,
  b != (7 : Int),
  false,
  false,
  false,
  false,
  false,
  false,
  false,
  false,
  decide ((64 : Int) < (↑s.size : Int)),
  inR64 ((8 : Int) + (↑s.size : Int)),
  decide ((0 : Int) ≤ (0 : Int)) && (decide ((0 : Int) ≤ (8 : Int) + (↑s.size : Int)) && (decide ((↑Try.prog.types[(5 : Nat)].bytes : Int) * ((8 : Int) + (↑s.size : Int)) ≤ (281474976710656 : Int)) && decide ((8 : Int) + (↑s.size : Int) ≤ (9223372036854775807 : Int)))),
  decide ((0 : Int) = (8 : Int) + (↑s.size : Int)),
  true,
  true,
  false,
  true,
  true,
  true,
  true,
  false,
  true,
  true,
  true,
  true,
  false,
  true,
  true,
  true,
  true,
  false,
  true,
  true,
  false,
  false,
  false,
  true,
  roomB (((List.replicate (Int.toNat (0 : Int)) (0 : Int) : List Int) ++ [shrV IntKind.u32 a ((8 : Int) * (0 : Int)) % (256 : Int)] ++ [shrV IntKind.u32 a ((8 : Int) * ((0 : Int) + (1 : Int))) % (256 : Int)] ++ [shrV IntKind.u32 a ((8 : Int) * ((0 : Int) + (1 : Int) + (1 : Int))) % (256 : Int)] ++ [shrV IntKind.u32 a ((8 : Int) * ((0 : Int) + (1 : Int) + (1 : Int) + (1 : Int))) % (256 : Int)] ++ [b % (256 : Int), shrV IntKind.u16 b (8 : Int) % (256 : Int), c % (256 : Int), shrV IntKind.u16 c (8 : Int) % (256 : Int)]).length + (strL (fun x : Int => x) s).length) Try.prog.types[(5 : Nat)].bytes],
  (.tup [.h 0, .raw (.int .i64 0)], [.sl true false 5 (msgL a b c s)])) := by kernel_rfl
theorem by_o2 (a b c : Int) (s : ByteArray) : Tr.follow [false, false, false, false, true, true, true, false, false, false, false, false, false, true, true, false, true, true, false, true, true, true, true, false, true, true, true, true, false, true, true, true, true, false, true, true, false, false, false, true, true] (f0 14 [.agg [.raw (.int .u32 a), .raw (.int .u16 b), .raw (.int .u16 c), .raw (.string s)]] []) =
  some ([decide ((7 : Int) < b),
  false,
  false,
  false,
  b != (7 : Int),
  true,
  true,
  false,
  !s.toList == ByteArray.empty.toList,
  false,
  false,
  false,
  decide ((64 : Int) < (↑s.size : Int)),
  inR64 ((8 : Int) + (↑s.size : Int)),
  decide ((0 : Int) ≤ (0 : Int)) && (decide ((0 : Int) ≤ (8 : Int) + (↑s.size : Int)) && (decide ((↑Try.prog.types[(5 : Nat)].bytes : Int) * ((8 : Int) + (↑s.size : Int)) ≤ (281474976710656 : Int)) && decide ((8 : Int) + (↑s.size : Int) ≤ (9223372036854775807 : Int)))),
  decide ((0 : Int) = (8 : Int) + (↑s.size : Int)),
  true,
  true,
  false,
  true,
  true,
  true,
  true,
  false,
  true,
  true,
  true,
  true,
  false,
  true,
  true,
  true,
  true,
  false,
  true,
  true,
  false,
  false,
  false,
  true,
  roomB (((List.replicate (Int.toNat (0 : Int)) (0 : Int) : List Int) ++ [shrV IntKind.u32 a ((8 : Int) * (0 : Int)) % (256 : Int)] ++ [shrV IntKind.u32 a ((8 : Int) * ((0 : Int) + (1 : Int))) % (256 : Int)] ++ [shrV IntKind.u32 a ((8 : Int) * ((0 : Int) + (1 : Int) + (1 : Int))) % (256 : Int)] ++ [shrV IntKind.u32 a ((8 : Int) * ((0 : Int) + (1 : Int) + (1 : Int) + (1 : Int))) % (256 : Int)] ++ [b % (256 : Int), shrV IntKind.u16 b (8 : Int) % (256 : Int), c % (256 : Int), shrV IntKind.u16 c (8 : Int) % (256 : Int)]).length + (strL (fun x : Int => x) s).length) Try.prog.types[(5 : Nat)].bytes],
  (.tup [.h 0, .raw (.int .i64 0)], [.sl true false 5 (msgL a b c s)])) := by kernel_rfl

theorem bytes5 : Try.prog.types[(5 : Nat)].bytes = 1 := by kernel_rfl
def bytT : FnF C27 := fun args os => match args, os with
  | [.agg [.raw (.int .u32 a), .raw (.int .u16 b), .raw (.int .u16 c), .raw (.string s)]], [] => .br (okM b s) (.leaf (.tup [.h 0, .raw (.int .i64 0)], [.sl true false 5 (msgL a b c s)])) (.leaf (.tup [.raw (.slice none 0 0), .raw (.int .i64 2)], []))
  | _, _ => .fail
theorem strL_len (s : ByteArray) : (strL (fun x : Int => x) s).length = s.size := by
  unfold strL; rw [List.length_map, Array.length_toList]; rfl
theorem bytT_ok : ∀ args os r, (bytT args os).get = some r → Fn0 Try.prog 14 args os r := fun args os r h => by
  unfold bytT at h
  split at h
  · rename_i a b c s
    refine fnC_ok (sp := noSp) (ls := noLs) (unr := fun _ _ => 20) (d := 10) plain mixed noSp_ok noLs_ok (Eq.trans ?_ h)
    by_cases h7 : 7 < b
    · have e1 := decide_eq_true h7
      rw [show okM b s = false by unfold okM; rw [e1]; rfl]
      exact Tr.follow_get (by_e1 a b c s) (by rw [e1])
    · have e1 := decide_eq_false h7
      by_cases h64 : (64 : Int) < (s.size : Int)
      · have e2 := decide_eq_true h64
        rw [show okM b s = false by unfold okM; rw [e2]; simp]
        cases hb : b != 7 with
        | false => exact Tr.follow_get (by_e3 a b c s) (by rw [e1, e2, hb])
        | true =>
          cases hs : s.toList == ByteArray.empty.toList with
          | true => exact Tr.follow_get (by_e4 a b c s) (by rw [e1, e2, hb, hs]; rfl)
          | false => exact Tr.follow_get (by_e2 a b c s) (by rw [e1, hb, hs]; rfl)
      · have e2 := decide_eq_false h64
        have n0 : (0 : Int) ≤ (s.size : Int) := by omega
        have f1 : inR64 (8 + (s.size : Int)) = true := inR64_mk (by omega)
        have f2 : (decide ((0 : Int) ≤ 0) && (decide ((0 : Int) ≤ 8 + (s.size : Int)) && (decide ((Try.prog.types[(5 : Nat)].bytes : Int) * (8 + (s.size : Int)) ≤ 281474976710656) && decide (8 + (s.size : Int) ≤ 9223372036854775807)))) = true := by
          rw [bytes5]
          simp only [Bool.and_eq_true, decide_eq_true_eq]
          omega
        have f3 := decide_eq_false (show ¬ (0 : Int) = 8 + (s.size : Int) by omega)
        have room : ∀ n : Nat, n ≤ 1000 → roomB n Try.prog.types[(5 : Nat)].bytes = true := fun n hn => decide_eq_true (by rw [bytes5]; omega)
        have sl : (strL (fun x : Int => x) s).length ≤ 64 := by rw [strL_len]; omega
        cases hb : b != 7 with
        | false =>
          rw [show okM b s = true by unfold okM; rw [e1, e2, hb]; rfl]
          refine Tr.follow_get (by_o1 a b c s) ?_
          simp only [List.cons.injEq, and_true]
          and_intros <;> first
            | trivial | rfl | exact e1 | exact e2 | exact f1 | exact f2 | exact f3 | exact hb
            | exact room _ (by simp; try omega)
            | (rw [hb]; done)
        | true =>
          cases hs : s.toList == ByteArray.empty.toList with
          | true =>
            rw [show okM b s = true by unfold okM; rw [e1, e2, hb, hs]; rfl]
            refine Tr.follow_get (by_o2 a b c s) ?_
            simp only [List.cons.injEq, and_true]
            and_intros <;> first
              | trivial | rfl | exact e1 | exact e2 | exact f1 | exact f2 | exact f3 | exact hb
              | exact room _ (by simp; try omega)
              | (rw [hs]; rfl)
          | false =>
            rw [show okM b s = false by unfold okM; rw [e1, hb, hs]; rfl]
            exact Tr.follow_get (by_e2 a b c s) (by rw [e1, hb, hs]; rfl)
  · cases h
end
end Go.Proofs.Ytgegagndihffpaa
