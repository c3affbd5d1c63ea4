/-
  Chapter 8: the loops of the free list, as trees. Own work; nothing here is trusted.
-/
import Derived.Test.YtkhlmlcjedbkcaaCh08
import Derived.Test.YtkhlmlcjedbkcaaSxCanon
namespace Go.Proofs.Ytkhlmlcjedbkcaa
open Go Go.Sx Go.RowKit
set_option maxRecDepth 1000000
set_option maxHeartbeats 8000000
set_option linter.unusedVariables false
set_option linter.unusedSimpArgs false
noncomputable section
/-! ### Ints and Equal -/
abbrev eSlots : List Nat := [0, 1, 5, 4]
abbrev eSt (o1 f1 o2 f2 : Bool) (ts us : List Int) (i : Int) : List SV × List (SO C8) := ([.h 0, .h 1, .raw (.int .i64 i), .raw (.bool false)], [.sl o1 f1 3 ts, .sl o2 f2 3 us])
abbrev eRound (o1 f1 o2 f2 : Bool) (ts us : List Int) (i : Int) := roundG C8 Try.prog noSp noLs (fun _ _ => 20) 10 11 0 eSlots ⟨(eSt o1 f1 o2 f2 ts us i).1, 2, (eSt o1 f1 o2 f2 ts us i).2⟩
abbrev qSlots : List Nat := [0, 1, 12, 13, 4]
abbrev qSt (o1 f1 o2 f2 : Bool) (ts us : List Int) (i : Int) : List SV × List (SO C8) := ([.h 0, .h 1, .raw (.int .i64 (ts.length : Int)), .raw (.int .i64 i), .raw (.bool false)], [.sl o1 f1 3 ts, .sl o2 f2 3 us])
abbrev qRound (o1 f1 o2 f2 : Bool) (ts us : List Int) (i : Int) := roundG C8 Try.prog noSp noLs (fun _ _ => 20) 10 18 0 qSlots ⟨(qSt o1 f1 o2 f2 ts us i).1, 2, (qSt o1 f1 o2 f2 ts us i).2⟩
/-! ### New -/
abbrev nwSlots : List Nat := [15, 16, 4, 2, 3]
abbrev nwSt0 (n i : Int) : List SV × List (SO C8) := ([.raw (.int .i64 n), .raw (.int .i64 i), .h 0, .h 1, .raw (.int .i64 0)], [.box [.raw (.int .i64 n), .raw (.slice none 0 0)] 26, .box [.raw (.int .i64 0), .raw (.slice none 0 0)] 26])
abbrev nwSt1 (n i : Int) (f : Bool) (ts : List Int) : List SV × List (SO C8) := ([.raw (.int .i64 n), .raw (.int .i64 i), .h 0, .h 1, .raw (.int .i64 0)], [.box [.raw (.int .i64 n), .h 2] 26, .box [.raw (.int .i64 0), .raw (.slice none 0 0)] 26, .sl true f 3 ts])
abbrev nwRound0 (n i : Int) := roundG C8 Try.prog noSp noLs (fun _ _ => 20) 10 8 0 nwSlots ⟨(nwSt0 n i).1, 2, (nwSt0 n i).2⟩
abbrev nwRound1 (n i : Int) (f : Bool) (ts : List Int) := roundG C8 Try.prog noSp noLs (fun _ _ => 20) 10 8 0 nwSlots ⟨(nwSt1 n i f ts).1, 2, (nwSt1 n i f ts).2⟩
/-! ### bitmap -/
abbrev bSlots : List Nat := [1, 4, 29, 30, 31, 2, 3]
abbrev bSt (own full : Bool) (f : Bool) (size : Int) (ts m : List Int) (i : Int) : List SV × List (SO C8) := ([.h 0, .h 1, .h 2, .raw (.int .i64 (ts.length : Int)), .raw (.int .i64 i), .raw (.slice none 0 0), .raw (.bool false)], [.box [.raw (.int .i64 size), .h 2] 26, .sl true f 45 m, .sl own full 3 ts])
abbrev bRound (own full : Bool) (f : Bool) (size : Int) (ts m : List Int) (i : Int) := roundG C8 Try.prog noSp noLs (fun _ _ => 20) 10 17 0 bSlots ⟨(bSt own full f size ts m i).1, 3, (bSt own full f size ts m i).2⟩
/-! ### Give -/
abbrev aSlots : List Nat := [2, 4, 6, 1, 21, 22, 23, 5]
abbrev aSt (own full : Bool) (o2 f2 : Bool) (f : Bool) (size : Int) (ts us m : List Int) (i : Int) : List SV × List (SO C8) := ([.h 0, .h 1, .h 2, .h 3, .h 3, .raw (.int .i64 (us.length : Int)), .raw (.int .i64 i), .raw (.int .i64 0)], [.box [.raw (.int .i64 size), .h 4] 26, .box [.raw (.int .i64 0), .raw (.slice none 0 0)] 26, .sl true f 45 m, .sl o2 f2 3 us, .sl own full 3 ts])
abbrev aRound (own full : Bool) (o2 f2 : Bool) (f : Bool) (size : Int) (ts us m : List Int) (i : Int) := roundG C8 Try.prog noSp noLs (fun _ _ => 20) 10 10 0 aSlots ⟨(aSt own full o2 f2 f size ts us m i).1, 5, (aSt own full o2 f2 f size ts us m i).2⟩
abbrev cSlots : List Nat := [2, 4, 6, 1, 37, 38, 39, 5]
abbrev cSt (own full : Bool) (o2 f2 : Bool) (f : Bool) (size : Int) (ts us m : List Int) (i : Int) : List SV × List (SO C8) := ([.h 0, .h 1, .h 2, .h 3, .h 3, .raw (.int .i64 (us.length : Int)), .raw (.int .i64 i), .raw (.int .i64 0)], [.box [.raw (.int .i64 size), .h 4] 26, .box [.raw (.int .i64 0), .raw (.slice none 0 0)] 26, .sl true f 45 m, .sl o2 f2 3 us, .sl own full 3 ts])
abbrev cRound (own full : Bool) (o2 f2 : Bool) (f : Bool) (size : Int) (ts us m : List Int) (i : Int) := roundG C8 Try.prog noSp noLs (fun _ _ => 20) 10 10 2 cSlots ⟨(cSt own full o2 f2 f size ts us m i).1, 5, (cSt own full o2 f2 f size ts us m i).2⟩
end
end Go.Proofs.Ytkhlmlcjedbkcaa
