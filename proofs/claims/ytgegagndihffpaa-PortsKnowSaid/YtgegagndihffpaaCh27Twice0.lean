/-
  Chapter 27: PortsTwice, what it stands on. Own work; nothing here is trusted.
-/
import Derived.Test.YtgegagndihffpaaCh27Guest
namespace Go.Proofs.Ytgegagndihffpaa
open Go Go.Sx Go.RowKit
set_option maxRecDepth 1000000
set_option maxHeartbeats 8000000
set_option linter.unusedVariables false
noncomputable section
def livT : FnF C27 := fun args os => match args, os with
  | [], [] => .leaf (.raw (.bool true), [])
  | _, _ => .fail
theorem livT_ok : ∀ args os r, (livT args os).get = some r → Fn0 Try.prog 8 args os r := fun args os r h => by
  unfold livT at h
  split at h
  · simp only [Tr.get, Option.some.injEq] at h; subst h; exact lives_ok
  · cases h
def sfW : SpecT C27 := addS 8 (seeS livT) (addS 13 (seeS chkT) (addS 19 (seeS lownT) (addS 24 (seeS knowT) (addS 25 (seeS sameT) (addS 20 (seeS addT) (addS 21 (seeS remT) (addS 26 (seeS openT) (addS 18 (seeS guestT) noSp))))))))
theorem sfW_ok : SpecTOk Try.prog sfW := addS_ok (seeS_ok livT_ok) (addS_ok (seeS_ok chkT_ok) (addS_ok (seeS_ok lownT_ok) (addS_ok (seeS_ok knowT_ok) (addS_ok (seeS_ok sameT_ok) (addS_ok (seeS_ok addT_ok) (addS_ok (seeS_ok remT_ok) (addS_ok (seeS_ok openT_ok) (addS_ok (seeS_ok guestT_ok) noSp_ok))))))))
abbrev fW := fnC C27 Try.prog sfW noLs (fun _ _ => 20) 10
abbrev mS (a b c : Int) (s : ByteArray) : SV := .agg [.raw (.int .u32 a), .raw (.int .u16 b), .raw (.int .u16 c), .raw (.string s)]
abbrev fW7 (f : Bool) (most : Int) (rdy : Bool) (ts : List Pt) (id : Int) (nm : ByteArray) (cons : Bool) (a b c : Int) (s : ByteArray) := fW 7 [pA most rdy (.h 0), .raw (.int .i64 id), .raw (.string nm), .raw (.bool cons), mS a b c s] [.sl false f 46 ts]
abbrev fW7n (most : Int) (rdy : Bool) (id : Int) (nm : ByteArray) (cons : Bool) (a b c : Int) (s : ByteArray) := fW 7 [pA most rdy nlS, .raw (.int .i64 id), .raw (.string nm), .raw (.bool cons), mS a b c s] []
abbrev insQ (ts : List Pt) (id : Int) (nm : ByteArray) (cons : Bool) : List Pt := insL ts (inAt ts id) [(id, nm, cons, false, false, false)]
abbrev opnQ (ts : List Pt) (id : Int) (nm : ByteArray) (cons : Bool) : List Pt := openL (insQ ts id nm cons) id true
abbrev delQ (ts : List Pt) (id : Int) (nm : ByteArray) (cons : Bool) : List Pt := delL (insQ ts id nm cons) (atI (insQ ts id nm cons) id).toNat (atI (insQ ts id nm cons) id + 1).toNat
abbrev gueQ (most : Int) (rdy : Bool) (ts : List Pt) (id : Int) (nm : ByteArray) (cons : Bool) := guestR most rdy (opnQ ts id nm cons) (id % 4294967296, 3, 1, ByteArray.empty)
end
end Go.Proofs.Ytgegagndihffpaa
