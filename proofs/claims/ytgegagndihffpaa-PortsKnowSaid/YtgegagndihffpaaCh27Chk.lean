/-
  Chapter 27: Check as a specification. Own work; nothing here is trusted.
-/
import Derived.Test.YtgegagndihffpaaCh27Check
namespace Go.Proofs.Ytgegagndihffpaa
open Go Go.Sx Go.RowKit
set_option maxRecDepth 1000000
set_option maxHeartbeats 8000000
set_option linter.unusedVariables false
set_option linter.unusedSimpArgs false
noncomputable section
def lsK : LoopT C27 := Sx.addL 13 0 (loopS [1, 14, 15, 16, 2] [] kLoop) noLs
theorem lsK_ok : LoopTOk Try.prog lsK := addL_ok k_loop kLoop_ok noLs_ok
abbrev unK (g b : Nat) : Nat := match g, b with
  | 13, 0 => 0 | _, _ => 20
abbrev fK := fnC C27 Try.prog noSp lsK unK 10
abbrev f0 := fnC C27 Try.prog noSp noLs (fun _ _ => 20) 10
theorem chk_tree (full : Bool) (most : Int) (rdy : Bool) (ts : List Pt) : (fK 13 [.agg [.raw (.int .i64 most), .raw (.bool rdy), .h 0]] [.sl false full 46 ts]).get =
  bro (decide (most < (1 : Int))) (some (SV.raw (Value.int IntKind.i64 (2 : Int)), [])) (bro (decide ((32 : Int) < most)) (some (SV.raw (Value.int IntKind.i64 (2 : Int)), [])) (bro ((↑ts.length : Int) == (↑ts.length : Int)) (bro (decide (ts.length ≤ (100000 : Nat))) (bro (okAll most rdy ts) (some (SV.raw (Value.int IntKind.i64 (0 : Int)), [])) (some (SV.raw (Value.int IntKind.i64 (2 : Int)), []))) (none)) (none))) := by kernel_rfl
theorem chk_tree0 (most : Int) (rdy : Bool) : (f0 13 [.agg [.raw (.int .i64 most), .raw (.bool rdy), .raw (.slice none 0 0)]] []).get =
  bro (decide (most < (1 : Int))) (some (SV.raw (Value.int IntKind.i64 (2 : Int)), [])) (bro (decide ((32 : Int) < most)) (some (SV.raw (Value.int IntKind.i64 (2 : Int)), [])) (some (SV.raw (Value.int IntKind.i64 (0 : Int)), []))) := by kernel_rfl
/-- Ports that are valid. -/
def okP (most : Int) (rdy : Bool) (ts : List Pt) : Bool := !decide (most < 1) && (!decide (32 < most) && okAll most rdy ts)
def chkT : FnF C27 := fun args os => match args, os with
  | [.agg [.raw (.int .i64 most), .raw (.bool rdy), .h 0]], [.sl false full 46 ts] => .br (decide (ts.length ≤ 100000)) (.br (okP most rdy ts) (.leaf (.raw (.int .i64 0), [])) (.leaf (.raw (.int .i64 2), []))) .fail
  | [.agg [.raw (.int .i64 most), .raw (.bool rdy), .raw (.slice none 0 0)]], [] => .br (okP most rdy []) (.leaf (.raw (.int .i64 0), [])) (.leaf (.raw (.int .i64 2), []))
  | _, _ => .fail
theorem chkT_ok : ∀ args os r, (chkT args os).get = some r → Fn0 Try.prog 13 args os r := fun args os r h => by
  unfold chkT at h
  split at h
  · rename_i most rdy full ts
    obtain ⟨hl, h2⟩ := Tr.get_ask.1 h
    change List Pt at ts
    refine fnC_ok (sp := noSp) (ls := lsK) (unr := unK) (d := 10) plain mixed noSp_ok lsK_ok ?_
    refine (chk_tree full most rdy ts).trans (Eq.trans ?_ h2)
    have hl2 : decide ((ts : List Pt).length ≤ 100000) = true := hl
    rw [hl2, beq_self_eq_true]
    unfold okP
    cases decide (most < 1) <;> cases decide (32 < most) <;> cases okAll most rdy ts <;> rfl
  · rename_i most rdy
    refine fnC_ok (sp := noSp) (ls := noLs) (unr := fun _ _ => 20) (d := 10) plain mixed noSp_ok noLs_ok ?_
    refine (chk_tree0 most rdy).trans (Eq.trans ?_ h)
    unfold okP
    rw [show okAll most rdy [] = true from rfl]
    cases decide (most < 1) <;> cases decide (32 < most) <;> rfl
  · cases h
/-! ### Equal -/
abbrev qSlots : List Nat := [0, 1, 12, 13, 4]
abbrev qSt (o1 f1 o2 f2 : Bool) (ts us : List Pt) (k : Int) : List SV × List (SO C27) := ([.h 0, .h 1, .raw (.int .i64 (ts.length : Int)), .raw (.int .i64 k), .raw (.bool false)], [.sl o1 f1 46 ts, .sl o2 f2 46 us])
abbrev qRound (o1 f1 o2 f2 : Bool) (ts us : List Pt) (k : Int) := roundG C27 Try.prog noSp noLs (fun _ _ => 20) 10 36 0 qSlots ⟨(qSt o1 f1 o2 f2 ts us k).1, 2, (qSt o1 f1 o2 f2 ts us k).2⟩
/-! ### IndexFunc -/
abbrev iSlots : List Nat := [0, 1, 7, 8, 4]
/-- .. of a number, .. of a port that stands behind. -/
abbrev iStA (o f : Bool) (ts : List Pt) (id : Int) (k r : Int) : List SV × List (SO C27) := ([.h 0, .fn 39 [.h 1], .raw (.int .i64 (ts.length : Int)), .raw (.int .i64 k), .raw (.int .i64 r)], [.sl o f 46 ts, .box [.raw (.int .i64 id)] 3])
abbrev iRoundA (o f : Bool) (ts : List Pt) (id : Int) (k : Int) := roundG C27 Try.prog noSp noLs (fun _ _ => 20) 10 38 0 iSlots ⟨(iStA o f ts id k 0).1, 2, (iStA o f ts id k 0).2⟩
abbrev iStB (o f : Bool) (ts : List Pt) (x : Pt) (k r : Int) : List SV × List (SO C27) := ([.h 0, .fn 41 [.h 1], .raw (.int .i64 (ts.length : Int)), .raw (.int .i64 k), .raw (.int .i64 r)], [.sl o f 46 ts, .box [.raw (.int .i64 x.1), .raw (.string x.2.1), .raw (.bool x.2.2.1), .raw (.bool x.2.2.2.1), .raw (.bool x.2.2.2.2.1), .raw (.bool x.2.2.2.2.2)] 46])
abbrev iRoundB (o f : Bool) (ts : List Pt) (x : Pt) (k : Int) := roundG C27 Try.prog noSp noLs (fun _ _ => 20) 10 38 0 iSlots ⟨(iStB o f ts x k 0).1, 2, (iStB o f ts x k 0).2⟩
end
end Go.Proofs.Ytgegagndihffpaa
