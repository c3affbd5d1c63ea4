/-
  Chapter 27: Know as a specification. Own work; nothing here is trusted.
-/
import Derived.Test.YtgegagndihffpaaCh27Know
namespace Go.Proofs.Ytgegagndihffpaa
open Go Go.Sx Go.RowKit
set_option maxRecDepth 1000000
set_option maxHeartbeats 8000000
set_option linter.unusedVariables false
set_option linter.unusedSimpArgs false
noncomputable section
theorem know_tree (f f2 : Bool) (most : Int) (rdy : Bool) (ts : List Pt) (ms : List Mg) : (fN 24 [pA most rdy (.h 0), .h 1] [.sl false f 46 ts, .sl false f2 38 ms]).get =
  bro (decide (ts.length ≤ (100000 : Nat))) (bro (decide (ts.length ≤ (100000 : Nat))) (bro (okP most rdy ts) (bro ((↑ms.length : Int) == (↑ms.length : Int)) (bro (smallK ts ms) (bro (isN (runK most ts ms)) (some (SV.agg [SV.raw (Value.int IntKind.i64 most), SV.raw (Value.bool rdy), SV.h (2 : Nat)], [SO.sl true false (46 : Nat) (runK most ts ms).snd])) (some (SV.agg [SV.raw (Value.int IntKind.i64 most), SV.raw (Value.bool rdy), SV.h (2 : Nat)], [SO.sl true false (46 : Nat) (runK most ts ms).snd]))) (none)) (none)) (some (SV.agg [SV.raw (Value.int IntKind.i64 most), SV.raw (Value.bool rdy), SV.h (2 : Nat)], [SO.sl true false (46 : Nat) ts]))) (none)) (none) := by kernel_rfl
theorem know_tree0 (f : Bool) (most : Int) (rdy : Bool) (ts : List Pt) : (fN0 24 [pA most rdy (.h 0), nlS] [.sl false f 46 ts]).get =
  bro (decide (ts.length ≤ (100000 : Nat))) (bro (decide (ts.length ≤ (100000 : Nat))) (bro (okP most rdy ts) (some (SV.agg [SV.raw (Value.int IntKind.i64 most), SV.raw (Value.bool rdy), SV.h (1 : Nat)], [SO.sl true false (46 : Nat) ts])) (some (SV.agg [SV.raw (Value.int IntKind.i64 most), SV.raw (Value.bool rdy), SV.h (1 : Nat)], [SO.sl true false (46 : Nat) ts]))) (none)) (none) := by kernel_rfl

/-- What is known after some messages. -/
def knowAll (most : Int) (rdy : Bool) (ts : List Pt) (ms : List Mg) : List Pt := match okP most rdy ts with
  | true => ms.foldl (knowL most) ts
  | false => ts
def knowT : FnF C27 := fun args os => match args, os with
  | [.agg [.raw (.int .i64 most), .raw (.bool rdy), .h 0], .h 1], [.sl false f 46 ts, .sl false f2 38 ms] => .br (smallK ts ms) (.leaf (.agg [.raw (.int .i64 most), .raw (.bool rdy), .h 2], [.sl true false 46 (knowAll most rdy ts ms)])) .fail
  | [.agg [.raw (.int .i64 most), .raw (.bool rdy), .h 0], .raw (.slice none 0 0)], [.sl false f 46 ts] => .br (decide (ts.length ≤ 100000)) (.leaf (.agg [.raw (.int .i64 most), .raw (.bool rdy), .h 1], [.sl true false 46 ts])) .fail
  | _, _ => .fail
theorem knowT_ok : ∀ args os r, (knowT args os).get = some r → Fn0 Try.prog 24 args os r := fun args os r h => by
  unfold knowT at h
  split at h
  · rename_i most rdy f ts f2 ms
    obtain ⟨hl, h2⟩ := Tr.get_ask.1 h
    simp only [Tr.get, Option.some.injEq] at h2
    subst h2
    change List Pt at ts
    change List Mg at ms
    have hl2 : smallK ts ms = true := hl
    have hlen : ts.length ≤ 300 := by
      unfold smallK at hl2
      rw [Bool.and_eq_true] at hl2
      exact (of_decide_eq_true hl2.1).2
    refine fnC_ok (sp := sfK2) (ls := lsN) (unr := unN) (d := 10) plain mixed sfK2_ok lsN_ok ?_
    refine (know_tree f f2 most rdy ts ms).trans ?_
    have hk : (runK most ts ms).2 = ms.foldl (knowL most) ts := runK_snd most ms (none, ts)
    rw [decide_eq_true (show ts.length ≤ 100000 by omega), beq_self_eq_true, hl2]
    unfold knowAll
    cases okP most rdy ts with
    | false => rfl
    | true =>
      refine Eq.trans ?_ (congrArg (fun l : List Pt => some ((SV.agg [.raw (.int .i64 most), .raw (.bool rdy), .h 2], [SO.sl true false 46 l]) : SV × List (SO C27))) hk)
      cases isN (runK most ts ms) <;> rfl
  · rename_i most rdy f ts
    obtain ⟨hl, h2⟩ := Tr.get_ask.1 h
    simp only [Tr.get, Option.some.injEq] at h2
    subst h2
    change List Pt at ts
    have hl2 : decide ((ts : List Pt).length ≤ 100000) = true := hl
    refine fnC_ok (sp := sfK2) (ls := noLs) (unr := fun _ _ => 20) (d := 10) plain mixed sfK2_ok noLs_ok ?_
    refine (know_tree0 f most rdy ts).trans ?_
    rw [hl2]
    cases okP most rdy ts <;> rfl
  · cases h
end
end Go.Proofs.Ytgegagndihffpaa
