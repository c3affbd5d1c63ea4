/-
  Chapter 18: RegsConfig, its inner loop: specifications and states. Own work; nothing here is trusted.
-/
import Derived.Test.YtknkemjbikbhgaaCh18Rd
namespace Go.Proofs.Ytknkemjbikbhgaa
open Go Go.Sx Go.RowKit
set_option maxRecDepth 1000000
set_option maxHeartbeats 8000000
set_option linter.unusedVariables false
set_option linter.unusedSimpArgs false
noncomputable section
/-! ### Pick(n, 3) -/
theorem pk_n (n : Int) : Tr.follow [false, false, true, true] (fnC C18 Try.prog noSp noLs (fun _ _ => 20) 10 17 [.raw (.int .i64 n), .raw (.int .i64 3)] []) =
  some ([false,
  false,
  decide (n.tmod (3 : Int) < (0 : Int)),
  inR64 (n.tmod (3 : Int) + (3 : Int))],
  (SV.raw (Value.int IntKind.i64 (n.tmod (3 : Int) + (3 : Int))), [])) := by kernel_rfl
theorem pk_p (n : Int) : Tr.follow [false, false, false] (fnC C18 Try.prog noSp noLs (fun _ _ => 20) 10 17 [.raw (.int .i64 n), .raw (.int .i64 3)] []) =
  some ([false,
  false,
  decide (n.tmod (3 : Int) < (0 : Int))],
  (SV.raw (Value.int IntKind.i64 (n.tmod (3 : Int))), [])) := by kernel_rfl
def pk3 (n : Int) : Int := if n.tmod 3 < 0 then n.tmod 3 + 3 else n.tmod 3
theorem pk3_in (n : Int) : 0 ≤ pk3 n ∧ pk3 n < 3 := by
  unfold pk3
  have h1 := Int.tmod_lt_of_pos n (show (0 : Int) < 3 by decide)
  have h2 : -3 < n.tmod 3 := by
    exact Int.lt_tmod_of_pos n (show (0 : Int) < 3 by decide)
  split <;> omega
def pickT8 : FnF C18 := fun args os => match args, os with
  | [.raw (.int .i64 n), .raw (.int .i64 m)], [] => .br (decide (m = 3)) (.leaf (.raw (.int .i64 (opq (pk3 n))), [])) .fail
  | _, _ => .fail
theorem pickT8_ok : ∀ args os r, (pickT8 args os).get = some r → Fn0 Try.prog 17 args os r := fun args os r h => by
  unfold pickT8 at h
  split at h
  · rename_i n m
    obtain ⟨hm, h2⟩ := Tr.get_ask.1 h
    have hm : m = 3 := of_decide_eq_true hm
    subst hm
    simp only [Tr.get, Option.some.injEq] at h2
    subst h2
    refine fnC_ok (sp := noSp) (ls := noLs) (unr := fun _ _ => 20) (d := 10) plain mixed noSp_ok noLs_ok ?_
    have hi := pk3_in n
    rw [opq_eq]
    unfold pk3 at hi ⊢
    by_cases ht : n.tmod 3 < 0
    · rw [if_pos ht] at hi ⊢
      have k1 := decide_eq_true ht
      have k2 : inR64 (n.tmod 3 + 3) = true := inR64_mk (by omega)
      exact Tr.follow_get (pk_n n) (by simp only [k1, k2])
    · rw [if_neg ht] at hi ⊢
      have k1 := decide_eq_false ht
      exact Tr.follow_get (pk_p n) (by simp only [k1])
  · cases h
/-! ### the inner loop -/
def sfC8 : SpecT C18 := addS 43 (seeS onT) (addS 44 (seeS redT) (addS 45 (seeS chgT) (addS 46 (seeS wriT) noSp)))
theorem sfC8_ok : SpecTOk Try.prog sfC8 := addS_ok (seeS_ok onT_ok) (addS_ok (seeS_ok redT_ok) (addS_ok (seeS_ok chgT_ok) (addS_ok (seeS_ok wriT_ok) noSp_ok)))
abbrev cSl8 : List Nat := [2, 7, 12, 13, 15, 6, 14, 0, 1, 11, 9, 10]
abbrev cV8 (k c n e : Int) : List SV := [.h 0, .h 1, .raw (.int .i64 k), .raw (.int .i64 c), .raw (.int .i64 n), .raw (.bool false), .raw (.int .i64 e)]
abbrev OB := Option (Bool × List Int)
abbrev OG := Option (List Int)
@[reducible] def c8N (ob : OB) (og : OG) : Nat := match ob, og with
  | some _, some _ => 8
  | some _, none => 7
  | none, some _ => 7
  | none, none => 6
@[reducible] def c8A (fc : Bool) (cfg : List Int) (ob : OB) (og : OG) (ws : List Int) (gn e : Int) (l : List Wt) (r : Rg) (k c n : Int) : List SV × List (SO C18) := match ob, og with
  | some b, some got => (cV8 k c n e ++ [.h 2, .h 3, .h 4, .h 5, .raw (.int .u64 gn)], [.ss 71 4 5 l, rB r (.h 6) (.h 7), .sl false fc 5 cfg, .sl false b.1 3 b.2, .sl true false 5 got, .sl true false 5 ws, .sl true false 77 r.qs, .sl true false 5 r.cf])
  | some b, none => (cV8 k c n e ++ [.h 2, .h 3, nlS, .h 4, .raw (.int .u64 gn)], [.ss 71 4 5 l, rB r (.h 5) (.h 6), .sl false fc 5 cfg, .sl false b.1 3 b.2, .sl true false 5 ws, .sl true false 77 r.qs, .sl true false 5 r.cf])
  | none, some got => (cV8 k c n e ++ [.h 2, nlS, .h 3, .h 4, .raw (.int .u64 gn)], [.ss 71 4 5 l, rB r (.h 5) (.h 6), .sl false fc 5 cfg, .sl true false 5 got, .sl true false 5 ws, .sl true false 77 r.qs, .sl true false 5 r.cf])
  | none, none => (cV8 k c n e ++ [.h 2, nlS, nlS, .h 3, .raw (.int .u64 gn)], [.ss 71 4 5 l, rB r (.h 4) (.h 5), .sl false fc 5 cfg, .sl true false 5 ws, .sl true false 77 r.qs, .sl true false 5 r.cf])
@[reducible] def c8B (fc : Bool) (cfg : List Int) (ob : OB) (og : OG) (ws : List Int) (gn e : Int) (l : List Wt) (r x : Rg) (k c n : Int) : List SV × List (SO C18) := match ob, og with
  | some b, some got => (cV8 k c n e ++ [.h 2, .h 3, .h 4, .h 5, .raw (.int .u64 gn)], [.ss 71 4 5 l, rB x (.h 8) (.h 9), .sl false fc 5 cfg, .sl false b.1 3 b.2, .sl true false 5 got, .sl true false 5 ws, .sl true false 77 r.qs, .sl true false 5 r.cf, .sl true false 77 x.qs, .sl true false 5 x.cf])
  | some b, none => (cV8 k c n e ++ [.h 2, .h 3, nlS, .h 4, .raw (.int .u64 gn)], [.ss 71 4 5 l, rB x (.h 7) (.h 8), .sl false fc 5 cfg, .sl false b.1 3 b.2, .sl true false 5 ws, .sl true false 77 r.qs, .sl true false 5 r.cf, .sl true false 77 x.qs, .sl true false 5 x.cf])
  | none, some got => (cV8 k c n e ++ [.h 2, nlS, .h 3, .h 4, .raw (.int .u64 gn)], [.ss 71 4 5 l, rB x (.h 7) (.h 8), .sl false fc 5 cfg, .sl true false 5 got, .sl true false 5 ws, .sl true false 77 r.qs, .sl true false 5 r.cf, .sl true false 77 x.qs, .sl true false 5 x.cf])
  | none, none => (cV8 k c n e ++ [.h 2, nlS, nlS, .h 3, .raw (.int .u64 gn)], [.ss 71 4 5 l, rB x (.h 6) (.h 7), .sl false fc 5 cfg, .sl true false 5 ws, .sl true false 77 r.qs, .sl true false 5 r.cf, .sl true false 77 x.qs, .sl true false 5 x.cf])
abbrev c8R (ob : OB) (og : OG) (s : List SV × List (SO C18)) := roundG C18 Try.prog sfC8 noLs (fun _ _ => 20) 10 11 2 cSl8 ⟨s.1, c8N ob og, s.2⟩
end
end Go.Proofs.Ytknkemjbikbhgaa
