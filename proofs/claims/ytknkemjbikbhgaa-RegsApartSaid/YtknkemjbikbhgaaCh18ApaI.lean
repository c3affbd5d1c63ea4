/-
  Chapter 18: RegsApart, the inner loop. Own work; nothing here is trusted.
-/
import Derived.Test.YtknkemjbikbhgaaCh18Apa0
namespace Go.Proofs.Ytknkemjbikbhgaa
open Go Go.Sx Go.RowKit
set_option maxRecDepth 1000000
set_option maxHeartbeats 8000000
set_option linter.unusedVariables false
set_option linter.unusedSimpArgs false
noncomputable section
abbrev iV8 (i j : Int) : List SV := [.h 0, .h 1, .raw (.int .i64 i), .h 2, .raw (.int .i64 j), .raw (.bool false)]
@[reducible] def i8St (l : List Wt) (b : Bool) (r n : Rg) (i j : Int) : List SV × List (SO C18) := match b with
  | false => (iV8 i j, [.ss 71 4 5 l, rB r (.h 3) nlS, rB n (.h 4) (.h 5), .sl true false 77 r.qs, .sl true false 77 n.qs, .sl true false 5 n.cf])
  | true => (iV8 i j, [.ss 71 4 5 l, rB r (.h 3) (.h 4), rB n (.h 5) (.h 6), .sl true false 77 r.qs, .sl true false 5 r.cf, .sl true false 77 n.qs, .sl true false 5 n.cf])
@[reducible] def i8N : Bool → Nat
  | false => 6
  | true => 7
abbrev i8Rd (l : List Wt) (b : Bool) (r n : Rg) (i j : Int) := roundG C18 Try.prog noSp noLs (fun _ _ => 20) 10 12 3 iSl8 ⟨(i8St l b r n i j).1, i8N b, (i8St l b r n i j).2⟩
abbrev i8X (l : List Wt) (b : Bool) (r n : Rg) (i j : Int) : Option (Ex × List SV × List (SO C18)) := bro (inR64 (j + 1)) (some (.normal, i8St l b r n i (j + 1))) (some (.normal, i8St l b r n i (IntKind.i64.wrap (j + 1))))
theorem i8_tree (l : List Wt) (b : Bool) (r n : Rg) (i j : Int) : (i8Rd l b r n i j).get =
  bro (decide (j < (n.qs.length : Int))) (bro (j != r.at') (bro (Sx.inB j n.qs.length) (bro (decide (j.toNat < n.qs.length)) (bro (Sx.inB j r.qs.length) (bro (decide (j.toNat < r.qs.length)) (bro (neq (elQ n.qs j) (elQ r.qs j)) (some (.ret, i8St l b r n i j)) (i8X l b r n i j)) none) none) none) none) (i8X l b r n i j)) (some (.exit 3, i8St l b r n i j)) := by cases b <;> kernel_rfl
/-- All other queues are as they were. -/
structure Apt (r n : Rg) : Prop where
  len : n.qs.length = r.qs.length
  few : r.qs.length ≤ 1000
  el : ∀ j : Nat, (j : Int) ≠ r.at' → elQ n.qs (j : Int) = elQ r.qs (j : Int)
theorem neq_refl (x : Qe) : neq x x = false := by unfold neq; simp
theorem i8_round {l : List Wt} {b : Bool} {r n : Rg} {i : Int} (h : Apt r n) {j : Nat} (hj : j < n.qs.length) : (i8Rd l b r n i (j : Int)).get = some (.normal, i8St l b r n i ((j + 1 : Nat) : Int)) := by
  have hl := h.len
  have hf := h.few
  rw [i8_tree, decide_eq_true (show (j : Int) < (n.qs.length : Int) by omega), inB_mk (i := (j : Int)) (n := n.qs.length) ⟨by omega, by omega⟩, decide_eq_true (show ((j : Nat) : Int).toNat < n.qs.length by omega), inB_mk (i := (j : Int)) (n := r.qs.length) ⟨by omega, by omega⟩, decide_eq_true (show ((j : Nat) : Int).toNat < r.qs.length by omega)]
  unfold i8X
  rw [inR64_mk (r := (j : Int) + 1) (by omega)]
  by_cases he : (j : Int) = r.at'
  · rw [show ((j : Int) != r.at') = false by rw [he]; simp]; rfl
  · rw [h.el j he, neq_refl, show ((j : Int) != r.at') = true by simpa using he]; rfl
theorem i8_end {l : List Wt} {b : Bool} {r n : Rg} {i : Int} : (i8Rd l b r n i (n.qs.length : Int)).get = some (.exit 3, i8St l b r n i (n.qs.length : Int)) := by
  rw [i8_tree, decide_eq_false (Int.lt_irrefl _)]; rfl
theorem i8_loop : loopOf Try.prog 12 3 = some (((loopOf Try.prog 12 3).get!).1, (loopOf Try.prog 12 3).get!.2) := by kernel_rfl
theorem i8_run {l : List Wt} {b : Bool} {r n : Rg} {i : Int} (h : Apt r n) :
    Keeps (i8N b) (i8St l b r n i 0).2 (i8St l b r n i (n.qs.length : Int)).2 ∧ LoopRun Try.prog ((loopOf Try.prog 12 3).get!).1 (loopOf Try.prog 12 3).get!.2 (i8N b) (LI.st iSl8 ⟨(i8St l b r n i 0).1, i8N b, (i8St l b r n i 0).2⟩) fun x T => ∃ vs os, (x = .exit 3 ∧ (vs, os) = i8St l b r n i (n.qs.length : Int)) ∧ T = ⟨zipT iSl8 vs, numH 0 os, os.length⟩ := by
  constructor
  · cases b <;> exact Keeps.of3 (by simp [i8N]) rfl
  · refine loop_li (σ := Nat) (st := fun j => i8St l b r n i (j : Int)) (Inv := fun j => j ≤ n.qs.length) (μ := fun j => n.qs.length - j) (d := 10) (unr := fun _ _ => 20) (sp := noSp) (ls := noLs) plain mixed noSp_ok noLs_ok i8_loop (fun j hj => ?_) 0 (Nat.zero_le _)
    by_cases h5 : j < n.qs.length
    · exact ⟨_, i8_round h h5, fun _ => ⟨j + 1, by omega, by omega, rfl⟩, nofun⟩
    · obtain rfl : j = n.qs.length := by omega
      exact ⟨_, i8_end, nofun, fun _ => ⟨rfl, rfl⟩⟩
def i8Loop : LoopFn C18 := fun li => match li with
  | ⟨[.h 0, .h 1, .raw (.int .i64 i), .h 2, .raw (.int .i64 (.ofNat 0)), .raw (.bool false)], 6, [.ss 71 4 5 l, .box [.raw (.int .i64 k), .raw (.int .u64 o), .raw (.int .u64 g), .raw (.int .u8 s), .raw (.int .i64 se), .raw (.int .i64 at'), .h 3, .raw (.slice none 0 0), .raw (.int .u8 ge), .raw (.int .u8 it)] 64, .box [.raw (.int .i64 k2), .raw (.int .u64 o2), .raw (.int .u64 g2), .raw (.int .u8 s2), .raw (.int .i64 se2), .raw (.int .i64 at2), .h 4, .h 5, .raw (.int .u8 ge2), .raw (.int .u8 it2)] 64, .sl true false 77 qs, .sl true false 77 qs2, .sl true false 5 cf2]⟩ =>
    .br (cdec (Apt ⟨k, o, g, s, se, at', ge, it, qs, []⟩ ⟨k2, o2, g2, s2, se2, at2, ge2, it2, qs2, cf2⟩)) (.leaf (.exit 3, i8St l false ⟨k, o, g, s, se, at', ge, it, qs, []⟩ ⟨k2, o2, g2, s2, se2, at2, ge2, it2, qs2, cf2⟩ i ((qs2 : List Qe).length : Int))) .fail
  | ⟨[.h 0, .h 1, .raw (.int .i64 i), .h 2, .raw (.int .i64 (.ofNat 0)), .raw (.bool false)], 7, [.ss 71 4 5 l, .box [.raw (.int .i64 k), .raw (.int .u64 o), .raw (.int .u64 g), .raw (.int .u8 s), .raw (.int .i64 se), .raw (.int .i64 at'), .h 3, .h 4, .raw (.int .u8 ge), .raw (.int .u8 it)] 64, .box [.raw (.int .i64 k2), .raw (.int .u64 o2), .raw (.int .u64 g2), .raw (.int .u8 s2), .raw (.int .i64 se2), .raw (.int .i64 at2), .h 5, .h 6, .raw (.int .u8 ge2), .raw (.int .u8 it2)] 64, .sl true false 77 qs, .sl true false 5 cf, .sl true false 77 qs2, .sl true false 5 cf2]⟩ =>
    .br (cdec (Apt ⟨k, o, g, s, se, at', ge, it, qs, cf⟩ ⟨k2, o2, g2, s2, se2, at2, ge2, it2, qs2, cf2⟩)) (.leaf (.exit 3, i8St l true ⟨k, o, g, s, se, at', ge, it, qs, cf⟩ ⟨k2, o2, g2, s2, se2, at2, ge2, it2, qs2, cf2⟩ i ((qs2 : List Qe).length : Int))) .fail
  | _ => .fail
theorem i8Loop_ok : ∀ tm hp n x, (loopS iSl8 [] i8Loop tm hp n).get = some x → InLoop Try.prog ((loopOf Try.prog 12 3).get!).1 (loopOf Try.prog 12 3).get!.2 tm hp n fun e tm hp n => (e, tm, hp, n) = x := loopS_of fun li r h => by
  unfold i8Loop at h
  split at h
  · rename_i i l k o g s se at' ge it k2 o2 g2 s2 se2 at2 ge2 it2 qs qs2 cf2
    obtain ⟨h1, g1⟩ := Tr.get_ask.1 h
    have h1 := cdec_iff.1 h1
    simp only [Tr.get, Option.some.injEq] at g1
    subst g1
    exact i8_run (b := false) h1
  · rename_i i l k o g s se at' ge it k2 o2 g2 s2 se2 at2 ge2 it2 qs cf qs2 cf2
    obtain ⟨h1, g1⟩ := Tr.get_ask.1 h
    have h1 := cdec_iff.1 h1
    simp only [Tr.get, Option.some.injEq] at g1
    subst g1
    exact i8_run (b := true) h1
  · cases h
abbrev pR8 (l : List Wt) (s : List SV × List (SO C18)) := roundG C18 Try.prog sfP (Sx.addL 12 3 (loopS iSl8 [] i8Loop) noLs) unP 10 12 0 pSl ⟨s.1, 3, s.2⟩
end
end Go.Proofs.Ytknkemjbikbhgaa
