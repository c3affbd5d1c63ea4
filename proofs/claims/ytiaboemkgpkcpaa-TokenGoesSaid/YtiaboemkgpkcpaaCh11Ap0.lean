/-
  Chapter 11: TokenApart, what it stands on: Pick; the loop over the events of one token, states. Own work; nothing here is trusted.
-/
import Derived.Test.YtiaboemkgpkcpaaCh11RunT
namespace Go.Proofs.Ytiaboemkgpkcpaa
open Go Go.Sx Go.RowKit
set_option maxRecDepth 1000000
set_option maxHeartbeats 8000000
set_option linter.unusedVariables false
set_option linter.unusedSimpArgs false
noncomputable section
theorem pk_tree (n m : Int) : (fnC C11 Try.prog noSp noLs (fun _ _ => 20) 10 11 [.raw (.int .i64 n), .raw (.int .i64 m)] []).get =
  bro (decide (m < (1 : Int))) (some (SV.raw (Value.int IntKind.i64 (0 : Int)), [])) (bro (m == (0 : Int)) (none) (bro (decide (n.tmod m < (0 : Int))) (bro (inR64 (n.tmod m + m)) (some (SV.raw (Value.int IntKind.i64 (n.tmod m + m)), [])) (some (SV.raw (Value.int IntKind.i64 (IntKind.i64.wrap (n.tmod m + m))), []))) (some (SV.raw (Value.int IntKind.i64 (n.tmod m)), [])))) := by kernel_rfl
/-- A number below another one. -/
def pkM (n m : Int) : Int := if n.tmod m < 0 then n.tmod m + m else n.tmod m
theorem pkM_in (n : Int) {m : Int} (hm : 0 < m) : 0 ≤ pkM n m ∧ pkM n m < m := by
  unfold pkM
  have h1 := Int.tmod_lt_of_pos n hm
  have h2 : -m < n.tmod m := Int.lt_tmod_of_pos n hm
  split <;> omega
def pickT : FnF C11 := fun args os => match args, os with
  | [.raw (.int .i64 n), .raw (.int .i64 m)], [] => .br (decide (0 < m ∧ m ≤ 100000)) (.leaf (.raw (.int .i64 (pkM n m)), [])) .fail
  | _, _ => .fail
theorem pickT_ok : ∀ args os r, (pickT args os).get = some r → Fn0 Try.prog 11 args os r := fun args os r h => by
  unfold pickT at h
  split at h
  · rename_i n m
    obtain ⟨hm, h2⟩ := Tr.get_ask.1 h
    have hm : 0 < m ∧ m ≤ 100000 := of_decide_eq_true hm
    refine fnC_ok (sp := noSp) (ls := noLs) (unr := fun _ _ => 20) (d := 10) plain mixed noSp_ok noLs_ok (Eq.trans ?_ h2)
    refine (pk_tree n m).trans ?_
    have h1 := Int.tmod_lt_of_pos n hm.1
    have h3 : -m < n.tmod m := Int.lt_tmod_of_pos n hm.1
    rw [decide_eq_false (show ¬ m < 1 by omega), show (m == 0) = false from beq_eq_false_iff_ne.2 (by omega), bro_false, bro_false]
    show _ = some (SV.raw (.int .i64 (pkM n m)), [])
    unfold pkM
    by_cases ht : n.tmod m < 0
    · rw [decide_eq_true ht, if_pos ht, show inR64 (n.tmod m + m) = true from inR64_mk (by omega)]; rfl
    · rw [decide_eq_false ht, if_neg ht]; rfl
  · cases h
def livT : FnF C11 := fun args os => match args, os with
  | [], [] => .leaf (.raw (.bool true), [])
  | _, _ => .fail
theorem livT_ok : ∀ args os r, (livT args os).get = some r → Fn0 Try.prog 6 args os r := fun args os r h => by
  unfold livT at h
  split at h
  · simp only [Tr.get, Option.some.injEq] at h; subst h; exact lives_ok
  · cases h
def sfA : SpecT C11 := addS 6 (seeS livT) (addS 7 (seeS runT) (addS 8 (seeS stateT) (addS 11 (seeS pickT) (addS 12 (seeS sameT) noSp))))
theorem sfA_ok : SpecTOk Try.prog sfA := addS_ok (seeS_ok livT_ok) (addS_ok (seeS_ok runT_ok) (addS_ok (seeS_ok stateT_ok) (addS_ok (seeS_ok pickT_ok) (addS_ok (seeS_ok sameT_ok) noSp_ok))))
/-! ### the loop -/
abbrev oSl : List Nat := [0, 8, 10, 9, 5]
@[reducible] def oBx (f : Bool) (es T : List Tk) : List (SO C11) := [.sl false f 34 es, .box [.h 2] 26, .sl true false 47 T]
@[reducible] def oA (s : SV) (f : Bool) (es T : List Tk) (k K : Int) : List SV × List (SO C11) := ([s, .raw (.int .i64 k), .raw (.int .i64 K), .raw (.slice none 0 0), .h 1], oBx f es T)
@[reducible] def oB (s : SV) (f : Bool) (es T ls : List Tk) (k K : Int) : List SV × List (SO C11) := ([s, .raw (.int .i64 k), .raw (.int .i64 K), .h 3, .h 1], oBx f es T ++ [.sl true false 34 ls])
abbrev oRA (s : SV) (f : Bool) (es T : List Tk) (k K : Int) := roundG C11 Try.prog noSp noLs (fun _ _ => 20) 10 4 0 oSl ⟨(oA s f es T k K).1, 3, (oA s f es T k K).2⟩
abbrev oRB (s : SV) (f : Bool) (es T ls : List Tk) (k K : Int) := roundG C11 Try.prog noSp noLs (fun _ _ => 20) 10 4 0 oSl ⟨(oB s f es T ls k K).1, 3, (oB s f es T ls k K).2⟩
/-- All events, or the first ones. -/
@[reducible] def cutS (N : Nat) : SV := .vs 0 3 0 0 N none
end
end Go.Proofs.Ytiaboemkgpkcpaa
