/-
  Chapter 18: whether a queue may be ready. Own work; nothing here is trusted.
-/
import Derived.Test.YtknkemjbikbhgaaCh18Rdy0
namespace Go.Proofs.Ytknkemjbikbhgaa
open Go Go.Sx Go.RowKit
set_option maxRecDepth 1000000
set_option maxHeartbeats 8000000
set_option linter.unusedVariables false
set_option linter.unusedSimpArgs false
noncomputable section
theorem rd_tree (k o g s se at' ge it : Int) (f1 f2 : Bool) (qs : List Qe) (cf : List Int) (q : Qe) : (f22 68 [rgA k o g s se at' (.h 0) (.h 1) ge it, quA q] [.sl false f1 77 qs, .sl false f2 5 cf]).get =
  bro (rokB k o g s) (bro (hb s (8 : Int)) (bro (rng64 g && Nat.ble (nat_lit 34) (63 : Nat)) (some (SV.raw (Value.bool (lyI (hasI g (nat_lit 34)) q.snd.fst q.snd.snd.snd.fst q.snd.snd.snd.snd.fst q.snd.snd.snd.snd.snd == (0 : Int))), [])) (none)) (some (SV.raw (Value.bool false), []))) (none) := by kernel_rfl
theorem rd_treeN (k o g s se at' ge it : Int) (f1 : Bool) (qs : List Qe) (q : Qe) : (f22 68 [rgA k o g s se at' (.h 0) nlS ge it, quA q] [.sl false f1 77 qs]).get =
  bro (rokB k o g s) (bro (hb s (8 : Int)) (bro (rng64 g && Nat.ble (nat_lit 34) (63 : Nat)) (some (SV.raw (Value.bool (lyI (hasI g (nat_lit 34)) q.snd.fst q.snd.snd.snd.fst q.snd.snd.snd.snd.fst q.snd.snd.snd.snd.snd == (0 : Int))), [])) (none)) (some (SV.raw (Value.bool false), []))) (none) := by kernel_rfl
/-- May a queue be ready? -/
def rdB (g s : Int) (q : Qe) : Bool := hb s 8 && (lyI (hasI g 34) q.2.1 q.2.2.2.1 q.2.2.2.2.1 q.2.2.2.2.2 == 0)
def rdyT : FnF C18 := fun args os => match args, os with
  | [.agg [.raw (.int .i64 k), .raw (.int .u64 o), .raw (.int .u64 g), .raw (.int .u8 s), .raw (.int .i64 se), .raw (.int .i64 at'), .h 0, .h 1, .raw (.int .u8 ge), .raw (.int .u8 it)], .agg [.raw (.int .i64 a), .raw (.int .i64 b), .raw (.bool c), .raw (.int .u64 d), .raw (.int .u64 e), .raw (.int .u64 f)]], [.sl false f1 77 qs, .sl false f2 5 cf] =>
    .br (rokB k o g s) (.leaf (.raw (.bool (rdB g s (a, b, c, d, e, f))), [])) .fail
  | [.agg [.raw (.int .i64 k), .raw (.int .u64 o), .raw (.int .u64 g), .raw (.int .u8 s), .raw (.int .i64 se), .raw (.int .i64 at'), .h 0, .raw (.slice none 0 0), .raw (.int .u8 ge), .raw (.int .u8 it)], .agg [.raw (.int .i64 a), .raw (.int .i64 b), .raw (.bool c), .raw (.int .u64 d), .raw (.int .u64 e), .raw (.int .u64 f)]], [.sl false f1 77 qs] =>
    .br (rokB k o g s) (.leaf (.raw (.bool (rdB g s (a, b, c, d, e, f))), [])) .fail
  | _, _ => .fail
theorem rdyT_ok : ∀ args os r, (rdyT args os).get = some r → Fn0 Try.prog 68 args os r := fun args os r h => by
  unfold rdyT at h
  split at h
  · rename_i k o g s se at' ge it a b c d e f f1 qs f2 cf
    obtain ⟨h1, h2⟩ := Tr.get_ask.1 h
    have hr := (rokB_iff.1 h1).2.1
    refine fnC_ok (sp := sf22) (ls := noLs) (unr := fun _ _ => 20) (d := 10) plain mixed sf22_ok noLs_ok ?_
    refine (rd_tree k o g s se at' ge it f1 f2 qs cf (a, b, c, d, e, f)).trans (Eq.trans ?_ h2)
    rw [h1, hr]
    unfold rdB
    cases hb s 8 <;> rfl
  · rename_i k o g s se at' ge it a b c d e f f1 qs
    obtain ⟨h1, h2⟩ := Tr.get_ask.1 h
    have hr := (rokB_iff.1 h1).2.1
    refine fnC_ok (sp := sf22) (ls := noLs) (unr := fun _ _ => 20) (d := 10) plain mixed sf22_ok noLs_ok ?_
    refine (rd_treeN k o g s se at' ge it f1 qs (a, b, c, d, e, f)).trans (Eq.trans ?_ h2)
    rw [h1, hr]
    unfold rdB
    cases hb s 8 <;> rfl
  · cases h
/-! ### Check's loop -/
def sf23 : SpecT C18 := addS 29 (seeS ckT) (addS 68 (seeS rdyT) noSp)
theorem sf23_ok : SpecTOk Try.prog sf23 := addS_ok (seeS_ok ckT_ok) (addS_ok (seeS_ok rdyT_ok) noSp_ok)
/-- The config, or nil. -/
abbrev CB := Option (Bool × List Int)
@[reducible] def cbH (n : Nat) : CB → SV
  | some _ => .h n
  | none => nlS
@[reducible] def cbO : CB → List (SO C18)
  | some (f, cf) => [.sl false f 5 cf]
  | none => []
@[reducible] def cbN (n : Nat) : CB → Nat
  | some _ => n + 1
  | none => n
abbrev rgB (k o g s se at' : Int) (x y : SV) (ge it : Int) : SO C18 := .box [.raw (.int .i64 k), .raw (.int .u64 o), .raw (.int .u64 g), .raw (.int .u8 s), .raw (.int .i64 se), .raw (.int .i64 at'), x, y, .raw (.int .u8 ge), .raw (.int .u8 it)] 64
abbrev kSlots : List Nat := [1, 53, 54, 55, 2]
@[reducible] def kSt (k o g s se at' ge it : Int) (f1 : Bool) (qs : List Qe) (cb : CB) (i a : Int) : List SV × List (SO C18) := match cb with
  | some (f2, cf) => ([.h 0, .h 1, .raw (.int .i64 (qs.length : Int)), .raw (.int .i64 i), .raw (.int .i64 a)], [rgB k o g s se at' (.h 1) (.h 2) ge it, .sl false f1 77 qs, .sl false f2 5 cf])
  | none => ([.h 0, .h 1, .raw (.int .i64 (qs.length : Int)), .raw (.int .i64 i), .raw (.int .i64 a)], [rgB k o g s se at' (.h 1) nlS ge it, .sl false f1 77 qs])
abbrev kRound (k o g s se at' ge it : Int) (f1 : Bool) (qs : List Qe) (cb : CB) (i : Int) := roundG C18 Try.prog sf23 noLs (fun _ _ => 20) 10 50 0 kSlots ⟨(kSt k o g s se at' ge it f1 qs cb i 0).1, cbN 2 cb, (kSt k o g s se at' ge it f1 qs cb i 0).2⟩
abbrev elQ (qs : List Qe) (i : Int) : Qe := qs.getD i.toNat (0, 0, false, 0, 0, 0)
end
end Go.Proofs.Ytknkemjbikbhgaa
