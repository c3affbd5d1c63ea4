/-
  Chapter 18: registers as a record; copies. Own work; nothing here is trusted.
-/
import Derived.Test.YtknkemjbikbhgaaCh18ChkT
namespace Go.Proofs.Ytknkemjbikbhgaa
open Go Go.Sx Go.RowKit
set_option maxRecDepth 1000000
set_option maxHeartbeats 8000000
set_option linter.unusedVariables false
set_option linter.unusedSimpArgs false
noncomputable section
/-- What stands for a value without being unfolded. -/
def opq {α : Type} (a : α) : α := Classical.choose (⟨a, rfl⟩ : ∃ x, x = a)
theorem opq_eq {α : Type} (a : α) : opq a = a := Classical.choose_spec (⟨a, rfl⟩ : ∃ x, x = a)
/-- Registers. -/
structure Rg where
  k : Int
  o : Int
  g : Int
  s : Int
  se : Int
  at' : Int
  ge : Int
  it : Int
  qs : List Qe
  cf : List Int
abbrev rA (r : Rg) (x y : SV) : SV := rgA r.k r.o r.g r.s r.se r.at' x y r.ge r.it
abbrev rB (r : Rg) (x y : SV) : SO C18 := rgB r.k r.o r.g r.s r.se r.at' x y r.ge r.it
abbrev rV (r : Rg) : Bool := vR r.k r.o r.g r.s r.se r.at' r.it r.qs r.cf.length
def zA : SV := rgA 0 0 0 0 0 0 nlS nlS 0 0
theorem by77 : Try.prog.types[(77 : Nat)].bytes ≤ 64 := of_decide_eq_true (by kernel_rfl)
theorem by5 : Try.prog.types[(5 : Nat)].bytes ≤ 64 := of_decide_eq_true (by kernel_rfl)
theorem room77 {n : Nat} (h : n ≤ 100000) : roomB n Try.prog.types[(77 : Nat)].bytes = true := decide_eq_true (Nat.le_trans (Nat.mul_le_mul h by77) (by decide))
theorem room5 {n : Nat} (h : n ≤ 100000) : roomB n Try.prog.types[(5 : Nat)].bytes = true := decide_eq_true (Nat.le_trans (Nat.mul_le_mul h by5) (by decide))
theorem ow_tree (k o g s se at' ge it : Int) (f1 : Bool) (qs : List Qe) (f2 : Bool) (cf : List Int) : (fnC C18 Try.prog noSp noLs (fun _ _ => 20) 10 65 [rgA k o g s se at' (.h 0) (.h 1) ge it] [.sl false f1 77 qs, .sl false f2 5 cf]).get =
  bro (roomB (([] : List Qe).length + qs.length) Try.prog.types[(77 : Nat)].bytes) (bro (roomB (([] : List Int).length + cf.length) Try.prog.types[(5 : Nat)].bytes) (some (SV.agg [SV.raw (Value.int IntKind.i64 k), SV.raw (Value.int IntKind.u64 o), SV.raw (Value.int IntKind.u64 g), SV.raw (Value.int IntKind.u8 s), SV.raw (Value.int IntKind.i64 se), SV.raw (Value.int IntKind.i64 at'), SV.h (2 : Nat), SV.h (3 : Nat), SV.raw (Value.int IntKind.u8 ge), SV.raw (Value.int IntKind.u8 it)], [SO.sl true false (77 : Nat) (([] : List Qe) ++ qs), SO.sl true false (5 : Nat) (([] : List Int) ++ cf)])) (none)) (none) := by kernel_rfl
theorem cp_tree (k o g s se at' ge it : Int) (f1 : Bool) (qs : List Qe) (f2 : Bool) (cf : List Int) : (fnC C18 Try.prog noSp noLs (fun _ _ => 20) 10 47 [rgA k o g s se at' (.h 0) (.h 1) ge it] [.sl false f1 77 qs, .sl false f2 5 cf]).get =
  bro (roomB (([] : List Qe).length + qs.length) Try.prog.types[(77 : Nat)].bytes) (bro (roomB (([] : List Int).length + cf.length) Try.prog.types[(5 : Nat)].bytes) (some (SV.agg [SV.raw (Value.int IntKind.i64 k), SV.raw (Value.int IntKind.u64 o), SV.raw (Value.int IntKind.u64 g), SV.raw (Value.int IntKind.u8 s), SV.raw (Value.int IntKind.i64 se), SV.raw (Value.int IntKind.i64 at'), SV.h (2 : Nat), SV.h (3 : Nat), SV.raw (Value.int IntKind.u8 ge), SV.raw (Value.int IntKind.u8 it)], [SO.sl true false (77 : Nat) (([] : List Qe) ++ qs), SO.sl true false (5 : Nat) (([] : List Int) ++ cf)])) (none)) (none) := by kernel_rfl
theorem cp_tree0 (k o g s se at' ge it : Int) (f1 : Bool) (qs : List Qe) : (fnC C18 Try.prog noSp noLs (fun _ _ => 20) 10 47 [rgA k o g s se at' (.h 0) nlS ge it] [.sl false f1 77 qs]).get =
  bro (roomB (([] : List Qe).length + qs.length) Try.prog.types[(77 : Nat)].bytes) (some (SV.agg [SV.raw (Value.int IntKind.i64 k), SV.raw (Value.int IntKind.u64 o), SV.raw (Value.int IntKind.u64 g), SV.raw (Value.int IntKind.u8 s), SV.raw (Value.int IntKind.i64 se), SV.raw (Value.int IntKind.i64 at'), SV.h (1 : Nat), SV.h (2 : Nat), SV.raw (Value.int IntKind.u8 ge), SV.raw (Value.int IntKind.u8 it)], [SO.sl true false (77 : Nat) (([] : List Qe) ++ qs), SO.sl true false (5 : Nat) []])) (none) := by kernel_rfl
theorem on_tree (f2 : Bool) (cf : List Int) : (fnC C18 Try.prog noSp noLs (fun _ _ => 20) 10 43 [.h 0] [.sl false f2 5 cf]).get =
  bro (roomB (([] : List Int).length + cf.length) Try.prog.types[(5 : Nat)].bytes) (some (SV.h (1 : Nat), [SO.sl true false (5 : Nat) (([] : List Int) ++ cf)])) (none) := by kernel_rfl
theorem on_tree0 (a : Option Addr) : (fnC C18 Try.prog noSp noLs (fun _ _ => 20) 10 43 [.raw (.slice a 0 0)] []).get = some (.h 0, [.sl true false 5 []]) := by kernel_rfl
def copyL (k o g s se at' ge it : Int) (n : Nat) (qs : List Qe) (cf : List Int) : Tr (SV × List (SO C18)) := .br (decide (qs.length ≤ 1000)) (.br (decide (cf.length ≤ 1000)) (.leaf (rgA k o g s se at' (.h n) (.h (n + 1)) ge it, [.sl true false 77 qs, .sl true false 5 cf])) .fail) .fail
def ownT : FnF C18 := fun args os => match args, os with
  | [.agg [.raw (.int .i64 k), .raw (.int .u64 o), .raw (.int .u64 g), .raw (.int .u8 s), .raw (.int .i64 se), .raw (.int .i64 at'), .h 0, .h 1, .raw (.int .u8 ge), .raw (.int .u8 it)]], [.sl false f1 77 qs, .sl false f2 5 cf] => copyL k o g s se at' ge it 2 qs cf
  | _, _ => .fail
theorem copy_get {k o g s se at' ge it : Int} {n : Nat} {qs : List Qe} {cf : List Int} {r : SV × List (SO C18)} (h : (copyL k o g s se at' ge it n qs cf).get = some r) : qs.length ≤ 1000 ∧ cf.length ≤ 1000 ∧ some (rgA k o g s se at' (.h n) (.h (n + 1)) ge it, [SO.sl (C := C18) true false 77 qs, .sl true false 5 cf]) = some r := by
  unfold copyL at h
  obtain ⟨h1, g1⟩ := Tr.get_ask.1 h
  obtain ⟨h2, g2⟩ := Tr.get_ask.1 g1
  exact ⟨of_decide_eq_true h1, of_decide_eq_true h2, g2⟩
theorem ownT_ok : ∀ args os r, (ownT args os).get = some r → Fn0 Try.prog 65 args os r := fun args os r h => by
  unfold ownT at h
  split at h
  · rename_i k o g s se at' ge it f1 qs f2 cf
    obtain ⟨h1, h2, h3⟩ := copy_get h
    refine fnC_ok (sp := noSp) (ls := noLs) (unr := fun _ _ => 20) (d := 10) plain mixed noSp_ok noLs_ok ?_
    refine (ow_tree k o g s se at' ge it f1 qs f2 cf).trans (Eq.trans ?_ h3)
    rw [room77 (by simp; omega), room5 (by simp; omega)]
    rfl
  · cases h
def cpyT : FnF C18 := fun args os => match args, os with
  | [.agg [.raw (.int .i64 k), .raw (.int .u64 o), .raw (.int .u64 g), .raw (.int .u8 s), .raw (.int .i64 se), .raw (.int .i64 at'), .h 0, .h 1, .raw (.int .u8 ge), .raw (.int .u8 it)]], [.sl false f1 77 qs, .sl false f2 5 cf] => copyL k o g s se at' ge it 2 qs cf
  | [.agg [.raw (.int .i64 k), .raw (.int .u64 o), .raw (.int .u64 g), .raw (.int .u8 s), .raw (.int .i64 se), .raw (.int .i64 at'), .h 0, .raw (.slice none 0 0), .raw (.int .u8 ge), .raw (.int .u8 it)]], [.sl false f1 77 qs] => copyL k o g s se at' ge it 1 qs []
  | _, _ => .fail
theorem cpyT_ok : ∀ args os r, (cpyT args os).get = some r → Fn0 Try.prog 47 args os r := fun args os r h => by
  unfold cpyT at h
  split at h
  · rename_i k o g s se at' ge it f1 qs f2 cf
    obtain ⟨h1, h2, h3⟩ := copy_get h
    refine fnC_ok (sp := noSp) (ls := noLs) (unr := fun _ _ => 20) (d := 10) plain mixed noSp_ok noLs_ok ?_
    refine (cp_tree k o g s se at' ge it f1 qs f2 cf).trans (Eq.trans ?_ h3)
    rw [room77 (by simp; omega), room5 (by simp; omega)]
    rfl
  · rename_i k o g s se at' ge it f1 qs
    obtain ⟨h1, h2, h3⟩ := copy_get h
    refine fnC_ok (sp := noSp) (ls := noLs) (unr := fun _ _ => 20) (d := 10) plain mixed noSp_ok noLs_ok ?_
    refine (cp_tree0 k o g s se at' ge it f1 qs).trans (Eq.trans ?_ h3)
    rw [room77 (by simp; omega)]
    rfl
  · cases h
/-- Bytes in memory of their own. -/
def onT : FnF C18 := fun args os => match args, os with
  | [.h 0], [.sl false f2 5 cf] => .br (decide (cf.length ≤ 1000)) (.leaf (.h 1, [.sl true false 5 cf])) .fail
  | [.raw (.slice a 0 0)], [] => .leaf (.h 0, [.sl true false 5 []])
  | _, _ => .fail
theorem onT_ok : ∀ args os r, (onT args os).get = some r → Fn0 Try.prog 43 args os r := fun args os r h => by
  unfold onT at h
  split at h
  · rename_i f2 cf
    obtain ⟨h1, h3⟩ := Tr.get_ask.1 h
    change List Int at cf
    have h1 : (cf : List Int).length ≤ 1000 := of_decide_eq_true h1
    refine fnC_ok (sp := noSp) (ls := noLs) (unr := fun _ _ => 20) (d := 10) plain mixed noSp_ok noLs_ok ?_
    refine (on_tree f2 cf).trans (Eq.trans ?_ h3)
    rw [room5 (by simp; omega)]
    rfl
  · simp only [Tr.get, Option.some.injEq] at h
    subst h
    exact fnC_ok (sp := noSp) (ls := noLs) (unr := fun _ _ => 20) (d := 10) plain mixed noSp_ok noLs_ok (on_tree0 _)
  · cases h
end
end Go.Proofs.Ytknkemjbikbhgaa
