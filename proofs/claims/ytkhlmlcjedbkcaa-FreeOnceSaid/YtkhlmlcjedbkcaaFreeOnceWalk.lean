/-
  The symbolic walk of FreeOnce. Own work; nothing here is trusted.
-/
import Derived.Test.YtkhlmlcjedbkcaaCh08OnceL
namespace Go.Proofs.Ytkhlmlcjedbkcaa
open Go Go.Sx Go.RowKit
set_option maxRecDepth 1000000
set_option maxHeartbeats 8000000
set_option linter.unusedVariables false
noncomputable section

theorem of_nil (size : Int) : Tr.follow [false, false, true, true, true, false, false] (fnC C8 Try.prog sfF noLs (fun _ _ => 20) 10 5 [.raw (.int .i64 size), .raw (.slice none 0 0)] []) =
  some ([false,
  false,
  true,
  inR64 ((1 : Int) + size % (300 : Int)),
  decide ((1 : Int) ≤ (1 : Int) + size % (300 : Int) ∧ (1 : Int) + size % (300 : Int) ≤ (1000 : Int)),
  false,
  false],
  (SV.raw (Value.bool true), [])) := by kernel_rfl
theorem of_long (f : Bool) (size : Int) (l : List Int) : Tr.follow [false, true] (fnC C8 Try.prog sfF lsN un5 10 5 [.raw (.int .i64 size), .h 0] [.sl false f 3 l]) =
  some ([false,
  decide ((100 : Int) < (↑l.length : Int))],
  (SV.raw (Value.bool true), [])) := by kernel_rfl
theorem of_slB (f : Bool) (size : Int) (l : List Int) : Tr.follow [false, false, true, true, true, false, true, true, true, true] (fnC C8 Try.prog sfF lsN un5 10 5 [.raw (.int .i64 size), .h 0] [.sl false f 3 l]) =
  some ([false,
  decide ((100 : Int) < (↑l.length : Int)),
  true,
  inR64 ((1 : Int) + size % (300 : Int)),
  decide ((1 : Int) ≤ (1 : Int) + size % (300 : Int) ∧ (1 : Int) + size % (300 : Int) ≤ (1000 : Int)),
  false,
  (1 : Int) + size % (300 : Int) == (1 : Int) + size % (300 : Int),
  goodB ((1 : Int) + size % (300 : Int)) (upto ((1 : Int) + size % (300 : Int)).toNat),
  decide (l.length ≤ (100 : Nat)),
  isB (List.foldl (stepS (upto ((1 : Int) + size % (300 : Int)).toNat)) none l)],
  (SV.raw (Value.bool true), [])) := by kernel_rfl
theorem of_slA (f : Bool) (size : Int) (l : List Int) : Tr.follow [false, false, true, true, true, false, true, true, true, false] (fnC C8 Try.prog sfF lsN un5 10 5 [.raw (.int .i64 size), .h 0] [.sl false f 3 l]) =
  some ([false,
  decide ((100 : Int) < (↑l.length : Int)),
  true,
  inR64 ((1 : Int) + size % (300 : Int)),
  decide ((1 : Int) ≤ (1 : Int) + size % (300 : Int) ∧ (1 : Int) + size % (300 : Int) ≤ (1000 : Int)),
  false,
  (1 : Int) + size % (300 : Int) == (1 : Int) + size % (300 : Int),
  goodB ((1 : Int) + size % (300 : Int)) (upto ((1 : Int) + size % (300 : Int)).toNat),
  decide (l.length ≤ (100 : Nat)),
  isB (List.foldl (stepS (upto ((1 : Int) + size % (300 : Int)).toNat)) none l)],
  (SV.raw (Value.bool true), [])) := by kernel_rfl

theorem good_upto {n : Int} (h : 1 ≤ n ∧ n ≤ 300) : goodB n (upto n.toNat) = true := by
  unfold goodB
  rw [Bool.and_eq_true]
  refine ⟨okF_iff.2 ⟨⟨h.1, h.2, by rw [upto_len]; omega⟩, fun x hx => by have := upto_in _ x hx; omega, upto_nodup _⟩, decide_eq_true (by rw [upto_len]; omega)⟩
theorem once_nil (a : Int) : Fn0 (C := C8) Try.prog 5 [.raw (.int .i64 a), .raw (.slice none 0 0)] [] (.raw (.bool true), []) := by
  refine fnC_ok (sp := sfF) (ls := noLs) (unr := fun _ _ => 20) (d := 10) plain mixed sfF_ok noLs_ok ?_
  have hp := of_nil a
  simp only [inR64_mk (r := 1 + a % 300) (by omega), decide_eq_true (show 1 ≤ 1 + a % 300 ∧ 1 + a % 300 ≤ 1000 by omega)] at hp
  exact Tr.follow_get hp rfl
theorem once_sl {f : Bool} {l : List Int} (a : Int) : Fn0 (C := C8) Try.prog 5 [.raw (.int .i64 a), .h 0] [.sl false f 3 l] (.raw (.bool true), []) := by
  refine fnC_ok (sp := sfF) (ls := lsN) (unr := un5) (d := 10) plain mixed sfF_ok lsN_ok ?_
  by_cases hl : 100 < (l.length : Int)
  · exact Tr.follow_get (of_long f a l) (by rw [decide_eq_true hl])
  · have e1 := decide_eq_false hl
    have e2 : inR64 (1 + a % 300) = true := inR64_mk (by omega)
    have e3 := decide_eq_true (show 1 ≤ 1 + a % 300 ∧ 1 + a % 300 ≤ 1000 by omega)
    have e4 := good_upto (n := 1 + a % 300) (by omega)
    have e5 := decide_eq_true (show l.length ≤ 100 by omega)
    cases hb : isB (l.foldl (stepS (upto (1 + a % 300).toNat)) none) with
    | true =>
      have hp := of_slB f a l
      simp only [e1, e2, e3, e4, e5, hb, beq_self_eq_true] at hp
      exact Tr.follow_get hp rfl
    | false =>
      have hp := of_slA f a l
      simp only [e1, e2, e3, e4, e5, hb, beq_self_eq_true] at hp
      exact Tr.follow_get hp rfl
theorem FreeOnce_walk (a0 : Int) (v1 : Value) (W : World) (_ : (Lit.int .i64 a0).wf = true) {p : Int → Prop} (h1 : SArg (C8 3) p W v1) :
    Calls Try.prog 5 #[.int .i64 a0, v1] W fun e w' => e = .returned (.bool true) ∧ Below W.heap.size W w' := by
  rcases h1 with rfl | ⟨a, cap, ts, rfl, hl, hc, _, hb⟩
  · exact run_flat (C := C8) (args := [.raw (.int .i64 a0), .raw (.slice none 0 0)]) (vals := [.int .i64 a0, .slice none 0 0]) (once_nil a0) rfl
  · exact run_one (C := C8) (e := 3) (args := [.raw (.int .i64 a0), .h 0]) (vals := [.int .i64 a0, .slice (some a) ts.length cap]) (once_sl a0) hl hc hb rfl
end
end Go.Proofs.Ytkhlmlcjedbkcaa
