/-
  Chapter 7: StatusGoes, its steps where a status is as it should be. Own work; nothing here is trusted.
-/
import Derived.Test.YtknkemjbikbhgaaCh07Acc
import Derived.Test.YtknkemjbikbhgaaCh06Bits2
namespace Go.Proofs.Ytknkemjbikbhgaa
open Go Go.Sx Go.RowKit
set_option maxRecDepth 1000000
set_option maxHeartbeats 8000000
set_option linter.unusedVariables false
set_option linter.unusedSimpArgs false
noncomputable section
def rokB (k o g s : Int) : Bool := rng64 o && (rng64 g && ckB k o g s)
theorem rokB_iff {k o g s : Int} : rokB k o g s = true ↔ rng64 o = true ∧ rng64 g = true ∧ ckB k o g s = true := by
  unfold rokB
  rw [Bool.and_eq_true, Bool.and_eq_true]
theorem rokB_r {k o g s : Int} (h : rokB k o g s = true) : (rng64 o && rng64 g) = true := by
  obtain ⟨h1, h2, _⟩ := rokB_iff.1 h
  rw [h1, h2]; rfl
/-- What a write makes of a status, in words of bits. -/
def sI (acc : Bool) (w s : Int) : Int := stB acc (hb w 1) (hb w 2) (hb w 8) (hb w 4) (hb w 128) s
def wrT4 : FnF C6 := fun args os => match args, os with
  | [.agg [.raw (.int .i64 k), .raw (.int .u64 o), .raw (.int .u64 g), .raw (.int .u8 s)], .raw (.int .u8 w)], [] => .br (rokB k o g s) (.br (w == 0) (.leaf (devV k o 0 0, [])) (.leaf (devV k o g (sI (acI k o g) w s), []))) .fail
  | _, _ => .fail
theorem wrT4_ok : ∀ args os r, (wrT4 args os).get = some r → Fn0 Try.prog 30 args os r := fun args os r h => by
  unfold wrT4 at h
  split at h
  · rename_i k o g s w
    obtain ⟨h1, h2⟩ := Tr.get_ask.1 h
    have hr := rokB_r h1
    obtain ⟨_, _, hc⟩ := rokB_iff.1 h1
    cases hw : (w == 0) with
    | true =>
      rw [hw] at h2
      simp only [Tr.get, Option.some.injEq] at h2
      subst h2
      have := wr_fn (k := k) (s := s) (w := w) hr
      unfold wrG wrI at this
      rw [hc, hw] at this
      exact this
    | false =>
      rw [hw] at h2
      simp only [Tr.get, Option.some.injEq] at h2
      subst h2
      exact wr_fn2 hr hc (by simpa using hw) rfl
  · cases h
def askT4 : FnF C6 := fun args os => match args, os with
  | [.agg [.raw (.int .i64 k), .raw (.int .u64 o), .raw (.int .u64 g), .raw (.int .u8 s)], .raw (.int .u64 set)], [] => .br (rokB k o g s) (.br (hb s 2 && (!hb s 8 && set != g)) (.leaf (devV k o set s, [])) (.leaf (devV k o g s, []))) .fail
  | _, _ => .fail
theorem askT4_ok : ∀ args os r, (askT4 args os).get = some r → Fn0 Try.prog 33 args os r := fun args os r h => by
  unfold askT4 at h
  split at h
  · rename_i k o g s set
    obtain ⟨h1, h2⟩ := Tr.get_ask.1 h
    have hr := rokB_r h1
    obtain ⟨_, _, hc⟩ := rokB_iff.1 h1
    refine askT_ok _ _ _ ?_
    show (Tr.br (rng64 o && rng64 g) _ _).get = _
    rw [hr]
    rw [← h2]
    show some (devV k o (asG k o g s set) s, []) = _
    unfold asG
    rw [hc]
    by_cases e : set = g
    · subst e
      cases hb s 2 <;> cases hb s 8 <;> simp [Tr.get, sel_false, sel_true]
    · have : (set != g) = true := by simpa using e
      rw [this]
      cases hb s 2 <;> cases hb s 8 <;> rfl
  · cases h
def brkT4 : FnF C6 := fun args os => match args, os with
  | [.agg [.raw (.int .i64 k), .raw (.int .u64 o), .raw (.int .u64 g), .raw (.int .u8 s)]], [] => .br (rokB k o g s) (.br (hb s 4) (.leaf (.tup [devV k o g (bitsV .u8 .or s 64), .raw (.int .i64 0)], [])) (.leaf (.tup [devV 0 0 0 0, .raw (.int .i64 8)], []))) .fail
  | _, _ => .fail
theorem brkT4_ok : ∀ args os r, (brkT4 args os).get = some r → Fn0 Try.prog 34 args os r := fun args os r h => by
  unfold brkT4 at h
  split at h
  · rename_i k o g s
    obtain ⟨h1, h2⟩ := Tr.get_ask.1 h
    have hr := rokB_r h1
    obtain ⟨_, _, hc⟩ := rokB_iff.1 h1
    refine brkT_ok _ _ _ ?_
    show (Tr.br (rng64 o && rng64 g) _ _).get = _
    rw [hr]
    rw [← h2]
    show some (SV.tup [devS (brB k o g s) k o g (bitsV .u8 .or s 64), .raw (.int .i64 (brE k o g s))], []) = _
    unfold brB brE
    rw [hc]
    cases hb s 4 <;> rfl
  · cases h
def rnT4 : FnF C6 := fun args os => match args, os with
  | [.agg [.raw (.int .i64 k), .raw (.int .u64 o), .raw (.int .u64 g), .raw (.int .u8 s)]], [] => .br (rokB k o g s) (.leaf (.raw (.bool (hb s 4 && (!hb s 64 && !hb s 128))), [])) .fail
  | _, _ => .fail
theorem rnT4_ok : ∀ args os r, (rnT4 args os).get = some r → Fn0 Try.prog 35 args os r := fun args os r h => by
  unfold rnT4 at h
  split at h
  · rename_i k o g s
    obtain ⟨h1, h2⟩ := Tr.get_ask.1 h
    simp only [Tr.get, Option.some.injEq] at h2
    subst h2
    have hr := rokB_r h1
    obtain ⟨_, _, hc⟩ := rokB_iff.1 h1
    refine rnT_ok _ _ _ ?_
    show (Tr.br (rng64 o && rng64 g) _ _).get = _
    rw [hr]
    show some (SV.raw (.bool (rnB k o g s)), []) = _
    unfold rnB
    rw [hc]; rfl
  · cases h
def ckT4 : FnF C6 := fun args os => match args, os with
  | [.agg [.raw (.int .i64 k), .raw (.int .u64 o), .raw (.int .u64 g), .raw (.int .u8 s)]], [] => .br (rokB k o g s) (.leaf (.raw (.int .i64 0), [])) .fail
  | _, _ => .fail
theorem ckT4_ok : ∀ args os r, (ckT4 args os).get = some r → Fn0 Try.prog 29 args os r := fun args os r h => by
  unfold ckT4 at h
  split at h
  · rename_i k o g s
    obtain ⟨h1, h2⟩ := Tr.get_ask.1 h
    simp only [Tr.get, Option.some.injEq] at h2
    subst h2
    obtain ⟨ho, hg, hc⟩ := rokB_iff.1 h1
    refine ckT_ok _ _ _ ?_
    show (Tr.br (rng64 o && rng64 g) _ _).get = _
    rw [rokB_r h1]
    show some (SV.raw (.int .i64 (ckI k o g s)), []) = _
    unfold ckI
    rw [hc]
  · cases h
def sf15 : SpecT C6 := addS 17 (viewS pk6T) (addS 29 (viewS ckT4) (addS 30 (viewS wrT4) (addS 33 (viewS askT4) (addS 34 (viewS brkT4) (addS 35 (viewS rnT4) (addS 39 (viewS acT4) noSp))))))
abbrev gSlots : List Nat := [2, 7, 0, 1, 9, 6]
abbrev gSt (own full : Bool) (ts : List (Int × Int × Int × Bool)) (k o g s i : Int) : List SV × List (SO C6) := ([.h 0, .h 1, .raw (.int .i64 k), .raw (.int .u64 o), .raw (.int .i64 i), .raw (.bool false)], [.sl own full 58 ts, .box [.raw (.int .i64 k), .raw (.int .u64 o), .raw (.int .u64 g), .raw (.int .u8 s)] 42])
abbrev gRound (own full : Bool) (ts : List (Int × Int × Int × Bool)) (k o g s i : Int) := roundG C6 Try.prog sf15 noLs (fun _ _ => 20) 10 10 0 gSlots ⟨(gSt own full ts k o g s i).1, 2, (gSt own full ts k o g s i).2⟩
end
end Go.Proofs.Ytknkemjbikbhgaa
