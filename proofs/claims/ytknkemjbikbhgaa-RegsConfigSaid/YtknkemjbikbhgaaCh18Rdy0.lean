/-
  Chapter 18: registers, in plain. Own work; nothing here is trusted.
-/
import Derived.Test.YtknkemjbikbhgaaCh18Lay
namespace Go.Proofs.Ytknkemjbikbhgaa
open Go Go.Sx Go.RowKit
set_option maxRecDepth 1000000
set_option maxHeartbeats 8000000
set_option linter.unusedVariables false
set_option linter.unusedSimpArgs false
noncomputable section
abbrev Qe := Int × Int × Bool × Int × Int × Int
abbrev nlS : SV := .raw (.slice none 0 0)
abbrev rgA (k o g s se at' : Int) (x y : SV) (ge it : Int) : SV := .agg [.raw (.int .i64 k), .raw (.int .u64 o), .raw (.int .u64 g), .raw (.int .u8 s), .raw (.int .i64 se), .raw (.int .i64 at'), x, y, .raw (.int .u8 ge), .raw (.int .u8 it)]
abbrev quA (q : Qe) : SV := .agg [.raw (.int .i64 q.1), .raw (.int .i64 q.2.1), .raw (.bool q.2.2.1), .raw (.int .u64 q.2.2.2.1), .raw (.int .u64 q.2.2.2.2.1), .raw (.int .u64 q.2.2.2.2.2)]
def sf21 : SpecT C18 := addS 29 (viewS ckT4) noSp
theorem sf21_ok : SpecTOk Try.prog sf21 := addS_ok (viewS_ok ckT4_ok) noSp_ok
abbrev f21 := fnC C18 Try.prog sf21 noLs (fun _ _ => 20) 10
theorem fx_tree (k o g s : Int) : (f21 37 [devV k o g s] []).get =
  bro (rokB k o g s) (bro (!bitsV IntKind.u8 BinOp.and s (8 : Int) != (0 : Int)) (some (SV.tup [SV.raw (Value.int IntKind.u64 (0 : Int)), SV.raw (Value.bool false)], [])) (some (SV.tup [SV.raw (Value.int IntKind.u64 g), SV.raw (Value.bool true)], []))) (none) := by kernel_rfl
theorem nw_tree (k o : Int) : (fnC C18 Try.prog (addS 29 (viewS ckT) noSp) noLs (fun _ _ => 20) 10 36 [.raw (.int .i64 k), .raw (.int .u64 o)] []).get =
  bro (rng64 o && rng64 (0 : Int)) (bro (ckI k o (0 : Int) (0 : Int) != (0 : Int)) (some (SV.tup [SV.agg [SV.raw (Value.int IntKind.i64 (0 : Int)), SV.raw (Value.int IntKind.u64 (0 : Int)), SV.raw (Value.int IntKind.u64 (0 : Int)), SV.raw (Value.int IntKind.u8 (0 : Int))], SV.raw (Value.int IntKind.i64 (2 : Int))], [])) (some (SV.tup [SV.agg [SV.raw (Value.int IntKind.i64 k), SV.raw (Value.int IntKind.u64 o), SV.raw (Value.int IntKind.u64 (0 : Int)), SV.raw (Value.int IntKind.u8 (0 : Int))], SV.raw (Value.int IntKind.i64 (0 : Int))], []))) (none) := by kernel_rfl
def fixT : FnF C18 := fun args os => match args, os with
  | [.agg [.raw (.int .i64 k), .raw (.int .u64 o), .raw (.int .u64 g), .raw (.int .u8 s)]], [] => .br (rokB k o g s) (.br (hb s 8) (.leaf (.tup [.raw (.int .u64 g), .raw (.bool true)], [])) (.leaf (.tup [.raw (.int .u64 0), .raw (.bool false)], []))) .fail
  | _, _ => .fail
theorem fixT_ok : ∀ args os r, (fixT args os).get = some r → Fn0 Try.prog 37 args os r := fun args os r h => by
  unfold fixT at h
  split at h
  · rename_i k o g s
    obtain ⟨h1, h2⟩ := Tr.get_ask.1 h
    refine fnC_ok (sp := sf21) (ls := noLs) (unr := fun _ _ => 20) (d := 10) plain mixed sf21_ok noLs_ok ?_
    refine (fx_tree k o g s).trans (Eq.trans ?_ h2)
    rw [h1]
    show bro (!hb s 8) _ _ = _
    cases hb s 8 <;> rfl
  · cases h
/-- A device without status. -/
def nwB (k o : Int) : Bool := ckB k o 0 0
def nwT : FnF C18 := fun args os => match args, os with
  | [.raw (.int .i64 k), .raw (.int .u64 o)], [] => .br (rng64 o) (.br (nwB k o) (.leaf (.tup [devV k o 0 0, .raw (.int .i64 0)], [])) (.leaf (.tup [devV 0 0 0 0, .raw (.int .i64 2)], []))) .fail
  | _, _ => .fail
theorem nwT_ok : ∀ args os r, (nwT args os).get = some r → Fn0 Try.prog 36 args os r := fun args os r h => by
  unfold nwT at h
  split at h
  · rename_i k o
    obtain ⟨h1, h2⟩ := Tr.get_ask.1 h
    refine fnC_ok (sp := addS 29 (viewS ckT) noSp) (ls := noLs) (unr := fun _ _ => 20) (d := 10) plain mixed (addS_ok (viewS_ok ckT_ok) noSp_ok) noLs_ok ?_
    refine (nw_tree k o).trans (Eq.trans ?_ h2)
    rw [h1, show rng64 0 = true from by decide]
    unfold nwB ckI
    cases ckB k o 0 0 <;> rfl
  · cases h
def sf22 : SpecT C18 := addS 37 (viewS fixT) (addS 27 (viewS hasT) (addS 103 (viewS lyT) noSp))
theorem sf22_ok : SpecTOk Try.prog sf22 := addS_ok (viewS_ok fixT_ok) (addS_ok (viewS_ok hasT_ok) (addS_ok (viewS_ok lyT_ok) noSp_ok))
abbrev f22 := fnC C18 Try.prog sf22 noLs (fun _ _ => 20) 10
end
end Go.Proofs.Ytknkemjbikbhgaa
