/-
  Chapter 6: FeatBits, its loops as trees. Own work; nothing here is trusted.
-/
import Derived.Test.YtknkemjbikbhgaaCh07Init
namespace Go.Proofs.Ytknkemjbikbhgaa
open Go Go.Sx Go.RowKit
set_option maxRecDepth 1000000
set_option maxHeartbeats 8000000
set_option linter.unusedVariables false
set_option linter.unusedSimpArgs false
noncomputable section
/-! ### With -/
def orB (s b : Int) : Int := bitsV .u64 .or s (shlV .u64 1 b)
def orF : List Int → Int → Int
  | [], s => s
  | b :: r, s => orF r (orB s b)
abbrev hSlots : List Nat := [8, 9, 10, 0, 4, 5]
abbrev hSt (own full : Bool) (ts : List Int) (i s : Int) : List SV × List (SO C6) := ([.h 0, .raw (.int .i64 (ts.length : Int)), .raw (.int .i64 i), .raw (.int .u64 s), .raw (.int .u64 0), .raw (.int .i64 0)], [.sl own full 3 ts])
abbrev hRound (own full : Bool) (ts : List Int) (i s : Int) := roundG C6 Try.prog noSp noLs (fun _ _ => 20) 10 25 0 hSlots ⟨(hSt own full ts i s).1, 1, (hSt own full ts i s).2⟩
/-! ### the first loop -/
def sf10 (rg : Int → Bool) : SpecT C6 := noSp
abbrev iSlots : List Nat := [1, 0, 2, 3, 8, 10, 11, 9]
abbrev iSt0 (own full : Bool) (ts : List Int) (set a b i : Int) (m : List (Int × Bool)) : List SV × List (SO C6) := ([.h 0, .raw (.int .u64 set), .raw (.int .i64 a), .raw (.int .i64 b), .raw (.bool false), .h 1, .raw (.int .i64 i), .raw (.slice none 0 0)], [.sl own full 3 ts, .mp .i64 4 m])
abbrev iSt1 (own full : Bool) (ts : List Int) (set a b i : Int) (m : List (Int × Bool)) (f2 : Bool) (us : List Int) : List SV × List (SO C6) := ([.h 0, .raw (.int .u64 set), .raw (.int .i64 a), .raw (.int .i64 b), .raw (.bool false), .h 1, .raw (.int .i64 i), .h 2], [.sl own full 3 ts, .mp .i64 4 m, .sl true f2 3 us])
def pk6T : FnF C6 := fun args os => match args, os with
  | [.raw (.int .i64 n), .raw (.int .i64 m)], [] => .br (decide (1 ≤ m ∧ m ≤ 4611686018427387904)) (.leaf (.raw (.int .i64 (n % m)), [])) .fail
  | _, _ => .fail
def sf11 : SpecT C6 := addS 17 (viewS pk6T) noSp
abbrev iRound0 (own full : Bool) (ts : List Int) (set a b i : Int) (m : List (Int × Bool)) := roundG C6 Try.prog sf11 noLs (fun _ _ => 20) 10 6 0 iSlots ⟨(iSt0 own full ts set a b i m).1, 2, (iSt0 own full ts set a b i m).2⟩
abbrev iRound1 (own full : Bool) (ts : List Int) (set a b i : Int) (m : List (Int × Bool)) (f2 : Bool) (us : List Int) := roundG C6 Try.prog sf11 noLs (fun _ _ => 20) 10 6 0 iSlots ⟨(iSt1 own full ts set a b i m f2 us).1, 2, (iSt1 own full ts set a b i m f2 us).2⟩
/-! ### the second loop -/
def hasT2 (rg : Int → Bool) : FnF C6 := fun args os => match args, os with
  | [.raw (.int .u64 x), .raw (.int .i64 b)], [] => .br (rg x) (.br (decide (0 ≤ b ∧ b < 64)) (.leaf (.raw (.bool (hasI x b.toNat)), [])) .fail) .fail
  | _, _ => .fail
def sf12 (rg : Int → Bool) : SpecT C6 := addS 27 (viewS (hasT2 rg)) noSp
abbrev jSlots : List Nat := [0, 13, 10, 15, 2, 3, 8]
abbrev jSt (set s k a b : Int) (m : List (Int × Bool)) : List SV × List (SO C6) := ([.raw (.int .u64 set), .raw (.int .u64 s), .h 0, .raw (.int .i64 k), .raw (.int .i64 a), .raw (.int .i64 b), .raw (.bool false)], [.mp .i64 4 m])
abbrev jRound (rg : Int → Bool) (set s k a b : Int) (m : List (Int × Bool)) := roundG C6 Try.prog (sf12 rg) noLs (fun _ _ => 20) 10 6 2 jSlots ⟨(jSt set s k a b m).1, 1, (jSt set s k a b m).2⟩
end
end Go.Proofs.Ytknkemjbikbhgaa
