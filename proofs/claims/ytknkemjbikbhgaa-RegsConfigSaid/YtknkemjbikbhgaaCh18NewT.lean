/-
  Chapter 18: New as a specification. Own work; nothing here is trusted.
-/
import Derived.Test.YtknkemjbikbhgaaCh18New
namespace Go.Proofs.Ytknkemjbikbhgaa
open Go Go.Sx Go.RowKit
set_option maxRecDepth 1000000
set_option maxHeartbeats 8000000
set_option linter.unusedVariables false
set_option linter.unusedSimpArgs false
noncomputable section
theorem nn_tree (k o : Int) (f : Bool) (ls : List Int) (f2 : Bool) (cf : List Int) : (fN8 42 [.raw (.int .i64 k), .raw (.int .u64 o), .h 0, .h 1] [.sl false f 3 ls, .sl false f2 5 cf]).get =
  bro (rng64 o) (bro (nwB k o) (bro (roomB (([] : List Int).length + cf.length) Try.prog.types[(5 : Nat)].bytes) (bro (decide ((16 : Int) < (↑ls.length : Int))) (some (SV.tup [SV.agg [SV.raw (Value.int IntKind.i64 (0 : Int)), SV.raw (Value.int IntKind.u64 (0 : Int)), SV.raw (Value.int IntKind.u64 (0 : Int)), SV.raw (Value.int IntKind.u8 (0 : Int)), SV.raw (Value.int IntKind.i64 (0 : Int)), SV.raw (Value.int IntKind.i64 (0 : Int)), SV.raw (Value.slice none (0 : Nat) (0 : Nat)), SV.raw (Value.slice none (0 : Nat) (0 : Nat)), SV.raw (Value.int IntKind.u8 (0 : Int)), SV.raw (Value.int IntKind.u8 (0 : Int))], SV.raw (Value.int IntKind.i64 (2 : Int))], [])) (bro ((↑ls.length : Int) == (↑ls.length : Int)) (bro (decide (ls.length ≤ (1000 : Nat))) (bro (decide (ls.length = (0 : Nat))) (bro (rng64 o && rng64 (0 : Int)) (some (SV.tup [SV.agg [SV.raw (Value.int IntKind.i64 (0 : Int)), SV.raw (Value.int IntKind.u64 (0 : Int)), SV.raw (Value.int IntKind.u64 (0 : Int)), SV.raw (Value.int IntKind.u8 (0 : Int)), SV.raw (Value.int IntKind.i64 (0 : Int)), SV.raw (Value.int IntKind.i64 (0 : Int)), SV.raw (Value.slice none (0 : Nat) (0 : Nat)), SV.raw (Value.slice none (0 : Nat) (0 : Nat)), SV.raw (Value.int IntKind.u8 (0 : Int)), SV.raw (Value.int IntKind.u8 (0 : Int))], SV.raw (Value.int IntKind.i64 (2 : Int))], [])) (none)) (bro (rng64 o && rng64 (0 : Int)) (bro (decide ((opq (List.map mkQ ls)).length ≤ (1000 : Nat))) (bro (okG k o (0 : Int) (0 : Int) (0 : Int) (0 : Int) (0 : Int) (opq (List.map mkQ ls)) (([] : List Int) ++ cf).length) (some (SV.tup [SV.agg [SV.raw (Value.int IntKind.i64 k), SV.raw (Value.int IntKind.u64 o), SV.raw (Value.int IntKind.u64 (0 : Int)), SV.raw (Value.int IntKind.u8 (0 : Int)), SV.raw (Value.int IntKind.i64 (0 : Int)), SV.raw (Value.int IntKind.i64 (0 : Int)), SV.h (2 : Nat), SV.h (3 : Nat), SV.raw (Value.int IntKind.u8 (0 : Int)), SV.raw (Value.int IntKind.u8 (0 : Int))], SV.raw (Value.int IntKind.i64 (0 : Int))], [SO.sl true false (77 : Nat) (opq (List.map mkQ ls)), SO.sl true false (5 : Nat) (([] : List Int) ++ cf)])) (some (SV.tup [SV.agg [SV.raw (Value.int IntKind.i64 (0 : Int)), SV.raw (Value.int IntKind.u64 (0 : Int)), SV.raw (Value.int IntKind.u64 (0 : Int)), SV.raw (Value.int IntKind.u8 (0 : Int)), SV.raw (Value.int IntKind.i64 (0 : Int)), SV.raw (Value.int IntKind.i64 (0 : Int)), SV.raw (Value.slice none (0 : Nat) (0 : Nat)), SV.raw (Value.slice none (0 : Nat) (0 : Nat)), SV.raw (Value.int IntKind.u8 (0 : Int)), SV.raw (Value.int IntKind.u8 (0 : Int))], SV.raw (Value.int IntKind.i64 (2 : Int))], []))) (none)) (none))) (none)) (none))) (none)) (some (SV.tup [SV.agg [SV.raw (Value.int IntKind.i64 (0 : Int)), SV.raw (Value.int IntKind.u64 (0 : Int)), SV.raw (Value.int IntKind.u64 (0 : Int)), SV.raw (Value.int IntKind.u8 (0 : Int)), SV.raw (Value.int IntKind.i64 (0 : Int)), SV.raw (Value.int IntKind.i64 (0 : Int)), SV.raw (Value.slice none (0 : Nat) (0 : Nat)), SV.raw (Value.slice none (0 : Nat) (0 : Nat)), SV.raw (Value.int IntKind.u8 (0 : Int)), SV.raw (Value.int IntKind.u8 (0 : Int))], SV.raw (Value.int IntKind.i64 (2 : Int))], []))) (none) := by kernel_rfl
theorem nn_tree0 (k o : Int) (f : Bool) (ls : List Int) : (fN8 42 [.raw (.int .i64 k), .raw (.int .u64 o), .h 0, nlS] [.sl false f 3 ls]).get =
  bro (rng64 o) (bro (nwB k o) (bro (decide ((16 : Int) < (↑ls.length : Int))) (some (SV.tup [SV.agg [SV.raw (Value.int IntKind.i64 (0 : Int)), SV.raw (Value.int IntKind.u64 (0 : Int)), SV.raw (Value.int IntKind.u64 (0 : Int)), SV.raw (Value.int IntKind.u8 (0 : Int)), SV.raw (Value.int IntKind.i64 (0 : Int)), SV.raw (Value.int IntKind.i64 (0 : Int)), SV.raw (Value.slice none (0 : Nat) (0 : Nat)), SV.raw (Value.slice none (0 : Nat) (0 : Nat)), SV.raw (Value.int IntKind.u8 (0 : Int)), SV.raw (Value.int IntKind.u8 (0 : Int))], SV.raw (Value.int IntKind.i64 (2 : Int))], [])) (bro ((↑ls.length : Int) == (↑ls.length : Int)) (bro (decide (ls.length ≤ (1000 : Nat))) (bro (decide (ls.length = (0 : Nat))) (bro (rng64 o && rng64 (0 : Int)) (some (SV.tup [SV.agg [SV.raw (Value.int IntKind.i64 (0 : Int)), SV.raw (Value.int IntKind.u64 (0 : Int)), SV.raw (Value.int IntKind.u64 (0 : Int)), SV.raw (Value.int IntKind.u8 (0 : Int)), SV.raw (Value.int IntKind.i64 (0 : Int)), SV.raw (Value.int IntKind.i64 (0 : Int)), SV.raw (Value.slice none (0 : Nat) (0 : Nat)), SV.raw (Value.slice none (0 : Nat) (0 : Nat)), SV.raw (Value.int IntKind.u8 (0 : Int)), SV.raw (Value.int IntKind.u8 (0 : Int))], SV.raw (Value.int IntKind.i64 (2 : Int))], [])) (none)) (bro (rng64 o && rng64 (0 : Int)) (bro (decide ((opq (List.map mkQ ls)).length ≤ (1000 : Nat))) (bro (okG k o (0 : Int) (0 : Int) (0 : Int) (0 : Int) (0 : Int) (opq (List.map mkQ ls)) (0 : Nat)) (some (SV.tup [SV.agg [SV.raw (Value.int IntKind.i64 k), SV.raw (Value.int IntKind.u64 o), SV.raw (Value.int IntKind.u64 (0 : Int)), SV.raw (Value.int IntKind.u8 (0 : Int)), SV.raw (Value.int IntKind.i64 (0 : Int)), SV.raw (Value.int IntKind.i64 (0 : Int)), SV.h (1 : Nat), SV.raw (Value.slice none (0 : Nat) (0 : Nat)), SV.raw (Value.int IntKind.u8 (0 : Int)), SV.raw (Value.int IntKind.u8 (0 : Int))], SV.raw (Value.int IntKind.i64 (0 : Int))], [SO.sl true false (77 : Nat) (opq (List.map mkQ ls))])) (some (SV.tup [SV.agg [SV.raw (Value.int IntKind.i64 (0 : Int)), SV.raw (Value.int IntKind.u64 (0 : Int)), SV.raw (Value.int IntKind.u64 (0 : Int)), SV.raw (Value.int IntKind.u8 (0 : Int)), SV.raw (Value.int IntKind.i64 (0 : Int)), SV.raw (Value.int IntKind.i64 (0 : Int)), SV.raw (Value.slice none (0 : Nat) (0 : Nat)), SV.raw (Value.slice none (0 : Nat) (0 : Nat)), SV.raw (Value.int IntKind.u8 (0 : Int)), SV.raw (Value.int IntKind.u8 (0 : Int))], SV.raw (Value.int IntKind.i64 (2 : Int))], []))) (none)) (none))) (none)) (none))) (some (SV.tup [SV.agg [SV.raw (Value.int IntKind.i64 (0 : Int)), SV.raw (Value.int IntKind.u64 (0 : Int)), SV.raw (Value.int IntKind.u64 (0 : Int)), SV.raw (Value.int IntKind.u8 (0 : Int)), SV.raw (Value.int IntKind.i64 (0 : Int)), SV.raw (Value.int IntKind.i64 (0 : Int)), SV.raw (Value.slice none (0 : Nat) (0 : Nat)), SV.raw (Value.slice none (0 : Nat) (0 : Nat)), SV.raw (Value.int IntKind.u8 (0 : Int)), SV.raw (Value.int IntKind.u8 (0 : Int))], SV.raw (Value.int IntKind.i64 (2 : Int))], []))) (none) := by kernel_rfl
/-- New registers. -/
def nwR (k o : Int) (ls cf : List Int) : Rg := ⟨k, o, 0, 0, 0, 0, 0, 0, ls.map mkQ, cf⟩
def nwO (k o : Int) (ls cf : List Int) : Rg := opq (nwR k o ls cf)
def nwOk (k o : Int) (ls cf : List Int) : Bool := opq (rV (nwR k o ls cf))
abbrev nwNo : SV × List (SO C18) := (.tup [rgA 0 0 0 0 0 0 nlS nlS 0 0, .raw (.int .i64 2)], [])
def newT : FnF C18 := fun args os => match args, os with
  | [.raw (.int .i64 k), .raw (.int .u64 o), .h 0, .h 1], [.sl false f 3 ls, .sl false f2 5 cf] =>
    .br (rng64 o) (.br (decide (ls.length ≤ 1000 ∧ cf.length ≤ 1000)) (.br (nwOk k o ls cf) (.leaf (.tup [rA (nwO k o ls cf) (.h 2) (.h 3), .raw (.int .i64 0)], [SO.sl true false 77 (nwO k o ls cf).qs, SO.sl true false 5 (nwO k o ls cf).cf])) (.leaf nwNo)) .fail) .fail
  | [.raw (.int .i64 k), .raw (.int .u64 o), .h 0, .raw (.slice none 0 0)], [.sl false f 3 ls] =>
    .br (rng64 o) (.br (decide (ls.length ≤ 1000)) (.br (nwOk k o ls []) (.leaf (.tup [rA (nwO k o ls []) (.h 1) nlS, .raw (.int .i64 0)], [SO.sl true false 77 (nwO k o ls []).qs])) (.leaf nwNo)) .fail) .fail
  | _, _ => .fail
theorem nwOk_eq {k o : Int} {ls cf : List Int} (ho : rng64 o = true) : nwOk k o ls cf = (nwB k o && (!decide (16 < (ls.length : Int)) && (!decide (ls.length = 0) && okG k o 0 0 0 0 0 (ls.map mkQ) cf.length))) := by
  have e : nwOk k o ls cf = okG k o 0 0 0 0 0 (ls.map mkQ) cf.length := by
    unfold nwOk
    rw [opq_eq]
    show ((rng64 o && rng64 0) && okG k o 0 0 0 0 0 (ls.map mkQ) cf.length) = _
    rw [ho]; rfl
  rw [e]
  have hl : (ls.map mkQ).length = ls.length := List.length_map _
  cases hg : okG k o 0 0 0 0 0 (ls.map mkQ) cf.length with
  | false => simp
  | true =>
    unfold okG at hg
    rw [hl] at hg
    simp only [Bool.and_eq_true, Bool.not_eq_true', decide_eq_false_iff_not] at hg
    obtain ⟨h1, _, _, _, _, h2, h3, _⟩ := hg
    unfold nwB
    rw [h1, decide_eq_false h3, decide_eq_false (show ¬ ls.length = 0 by omega)]; rfl
theorem new_all {k o : Int} {f : Bool} {ls : List Int} {f2 : Bool} {cf : List Int} (ho : rng64 o = true) (hl : ls.length ≤ 1000) (hc : cf.length ≤ 1000) : (fN8 42 [.raw (.int .i64 k), .raw (.int .u64 o), .h 0, .h 1] [.sl false f 3 ls, .sl false f2 5 cf]).get =
    bro (nwOk k o ls cf) (some (.tup [rA (nwO k o ls cf) (.h 2) (.h 3), .raw (.int .i64 0)], [SO.sl true false 77 (nwO k o ls cf).qs, SO.sl true false 5 (nwO k o ls cf).cf])) (some nwNo) := by
  rw [nn_tree, ho, nwOk_eq ho, room5 (by simp; omega), beq_self_eq_true, decide_eq_true hl]
  unfold nwO
  simp only [opq_eq]
  rw [decide_eq_true (show (ls.map mkQ).length ≤ 1000 by rw [List.length_map]; exact hl)]
  show bro true (bro (nwB k o) (bro true (bro (decide (16 < (ls.length : Int))) _ (bro true (bro true (bro (decide (ls.length = 0)) _ (bro true (bro true (bro (okG k o 0 0 0 0 0 (ls.map mkQ) cf.length) _ _) _) _)) _) _)) _) _) _ = _
  cases nwB k o <;> cases decide (16 < (ls.length : Int)) <;> cases decide (ls.length = 0) <;> cases okG k o 0 0 0 0 0 (ls.map mkQ) cf.length <;> rfl
theorem new_all0 {k o : Int} {f : Bool} {ls : List Int} (ho : rng64 o = true) (hl : ls.length ≤ 1000) : (fN8 42 [.raw (.int .i64 k), .raw (.int .u64 o), .h 0, nlS] [.sl false f 3 ls]).get =
    bro (nwOk k o ls []) (some (.tup [rA (nwO k o ls []) (.h 1) nlS, .raw (.int .i64 0)], [SO.sl true false 77 (nwO k o ls []).qs])) (some nwNo) := by
  rw [nn_tree0, ho, nwOk_eq ho, beq_self_eq_true, decide_eq_true hl]
  unfold nwO
  simp only [opq_eq]
  rw [decide_eq_true (show (ls.map mkQ).length ≤ 1000 by rw [List.length_map]; exact hl)]
  show bro true (bro (nwB k o) (bro (decide (16 < (ls.length : Int))) _ (bro true (bro true (bro (decide (ls.length = 0)) _ (bro true (bro true (bro (okG k o 0 0 0 0 0 (ls.map mkQ) 0) _ _) _) _)) _) _)) _) _ = bro (nwB k o && (!decide (16 < (ls.length : Int)) && (!decide (ls.length = 0) && okG k o 0 0 0 0 0 (ls.map mkQ) 0))) _ _
  cases nwB k o <;> cases decide (16 < (ls.length : Int)) <;> cases decide (ls.length = 0) <;> cases okG k o 0 0 0 0 0 (ls.map mkQ) 0 <;> rfl
theorem newT_ok : ∀ args os r, (newT args os).get = some r → Fn0 Try.prog 42 args os r := fun args os r h => by
  unfold newT at h
  split at h
  · rename_i k o f ls f2 cf
    obtain ⟨h1, g1⟩ := Tr.get_ask.1 h
    obtain ⟨h2, g2⟩ := Tr.get_ask.1 g1
    have h2 : (ls : List Int).length ≤ 1000 ∧ (cf : List Int).length ≤ 1000 := of_decide_eq_true h2
    refine fnC_ok (sp := sfN) (ls := lsN8) (unr := unN8) (d := 10) plain mixed sfN_ok lsN8_ok ?_
    refine (new_all (f := f) (f2 := f2) h1 h2.1 h2.2).trans (Eq.trans ?_ g2)
    cases nwOk k o ls cf <;> rfl
  · rename_i k o f ls
    obtain ⟨h1, g1⟩ := Tr.get_ask.1 h
    obtain ⟨h2, g2⟩ := Tr.get_ask.1 g1
    have h2 : (ls : List Int).length ≤ 1000 := of_decide_eq_true h2
    refine fnC_ok (sp := sfN) (ls := lsN8) (unr := unN8) (d := 10) plain mixed sfN_ok lsN8_ok ?_
    refine (new_all0 (f := f) h1 h2).trans (Eq.trans ?_ g2)
    cases nwOk k o ls [] <;> rfl
  · cases h
end
end Go.Proofs.Ytknkemjbikbhgaa
