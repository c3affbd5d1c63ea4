/-
  Chapter 18: the reference's Accept, whatever it answers. Own work; nothing here is trusted.
-/
import Derived.Test.YtknkemjbikbhgaaCh18Law
namespace Go.Proofs.Ytknkemjbikbhgaa
open Go Go.Sx Go.RowKit
set_option maxRecDepth 1000000
set_option maxHeartbeats 8000000
set_option linter.unusedVariables false
set_option linter.unusedSimpArgs false
noncomputable section
def boolO (o : Option (SV × List (SO C6))) : Prop := ∃ v, o = some (.raw (.bool v), [])
theorem bool_i (v : Bool) : boolO (some (.raw (.bool v), [])) := ⟨v, rfl⟩
theorem bool_b {c : Bool} {x y : Option (SV × List (SO C6))} (hx : boolO x) (hy : boolO y) : boolO (bro c x y) := by cases c <;> assumption
theorem ac_tree (rg : Int → Bool) (N : Nat) (k o g : Int) : (f39 rg N 39 [.raw (.int .i64 k), .raw (.int .u64 o), .raw (.int .u64 g)] []).get =
  bro (allI k != (0 : Int)) (bro (bitsV IntKind.u64 BinOp.andNot g (allI k) == (0 : Int)) (bro (allI k != (0 : Int)) (bro (!bitsV IntKind.u64 BinOp.andNot g (allI k) == (0 : Int)) (some (SV.raw (Value.bool (bitsV IntKind.u64 BinOp.andNot g o == (0 : Int))), [])) (bro (rg g) (bro (bitsV IntKind.u64 BinOp.andNot (nF k g N (0 : Nat) (bitsV IntKind.u64 BinOp.or (0 : Int) (shlV IntKind.u64 (1 : Int) ([(32 : Int)].getD (Int.toNat (0 : Int)) (C6 (3 : Nat)).d % (18446744073709551616 : Int))))) g == (0 : Int)) (some (SV.raw (Value.bool (bitsV IntKind.u64 BinOp.andNot g o == (0 : Int))), [])) (some (SV.raw (Value.bool false), []))) (none))) (some (SV.raw (Value.bool (bitsV IntKind.u64 BinOp.andNot g o == (0 : Int))), []))) (some (SV.raw (Value.bool false), []))) (some (SV.raw (Value.bool false), [])) := by kernel_rfl
theorem ac_bool {k o g : Int} (hg : rng64 g = true) : boolO (f39 rng64 64 39 [.raw (.int .i64 k), .raw (.int .u64 o), .raw (.int .u64 g)] []).get := by
  rw [ac_tree, hg]
  simp only [bro_true]
  repeat' (first | exact bool_i _ | apply bool_b)
theorem ac_ex : ∃ f : Int → Int → Int → Bool, ∀ k o g, rng64 g = true → (f39 rng64 64 39 [.raw (.int .i64 k), .raw (.int .u64 o), .raw (.int .u64 g)] []).get = some (.raw (.bool (f k o g)), []) :=
  ⟨fun k o g => match @decide (rng64 g = true) (Classical.propDecidable _) with
    | true => if h : rng64 g = true then Classical.choose (ac_bool (k := k) (o := o) h) else false
    | false => false, fun k o g h => by
    simp only [@decide_eq_true (rng64 g = true) (Classical.propDecidable _) h, dif_pos h]
    exact Classical.choose_spec (ac_bool (k := k) (o := o) h)⟩
def acRB : Int → Int → Int → Bool := Classical.choose ac_ex
theorem acRB_get {k o g : Int} (h : rng64 g = true) : (f39 rng64 64 39 [.raw (.int .i64 k), .raw (.int .u64 o), .raw (.int .u64 g)] []).get = some (.raw (.bool (acRB k o g)), []) := Classical.choose_spec ac_ex k o g h
def acRT : FnF C6 := fun args os => match args, os with
  | [.raw (.int .i64 k), .raw (.int .u64 o), .raw (.int .u64 g)], [] => .br (rng64 g) (.leaf (.raw (.bool (acRB k o g)), [])) .fail
  | _, _ => .fail
theorem acRT_ok : ∀ args os r, (acRT args os).get = some r → Fn0 Try.prog 39 args os r := fun args os r h => by
  unfold acRT at h
  split at h
  · rename_i k o g
    obtain ⟨h1, h2⟩ := Tr.get_ask.1 h
    simp only [Tr.get, Option.some.injEq] at h2
    subst h2
    exact fnC_ok (sp := sf7 rng64) (ls := l78 rng64 64) (d := 10) plain mixed (sf7_ok rfl) (l78_ok rfl rfl) (acRB_get h1)
  · cases h
def sfF (rg : Int → Bool) : SpecT C6 := addS 38 (viewS allT) (addS 59 (viewS (hasRT rg)) (addS 39 (viewS acRT) noSp))
theorem sfF_ok : SpecTOk Try.prog (sfF rng64) := addS_ok (viewS_ok allRT_ok) (addS_ok (viewS_ok (hasRT_ok rfl)) (addS_ok (viewS_ok acRT_ok) noSp_ok))
abbrev fF (rg : Int → Bool) := fnC C6 Try.prog (sfF rg) noLs (fun _ _ => 20) 10
end
end Go.Proofs.Ytknkemjbikbhgaa
