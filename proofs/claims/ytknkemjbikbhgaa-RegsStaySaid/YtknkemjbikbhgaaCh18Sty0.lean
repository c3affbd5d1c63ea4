/-
  Chapter 18: RegsStay, states of its loops; the inner one. Own work; nothing here is trusted.
-/
import Derived.Test.YtknkemjbikbhgaaCh18Don
import Derived.Test.YtknkemjbikbhgaaCh18Fx
namespace Go.Proofs.Ytknkemjbikbhgaa
open Go Go.Sx Go.RowKit
set_option maxRecDepth 1000000
set_option maxHeartbeats 8000000
set_option linter.unusedVariables false
set_option linter.unusedSimpArgs false
noncomputable section
abbrev ySl8 : List Nat := [3, 9, 11, 12, 14, 15, 16, 8]
abbrev y8St (l : List Wt) (r n : Rg) (fx rs : Bool) (i j : Int) : List SV × List (SO C18) := ([.h 0, .h 1, .raw (.int .i64 i), .h 2, .raw (.bool fx), .raw (.bool rs), .raw (.int .i64 j), .raw (.bool false)], [.ss 71 4 5 l, rB r (.h 3) (.h 4), rB n (.h 5) (.h 6), .sl true false 77 r.qs, .sl true false 5 r.cf, .sl true false 77 n.qs, .sl true false 5 n.cf])
abbrev y8Rd (l : List Wt) (r n : Rg) (fx rs : Bool) (i j : Int) := roundG C18 Try.prog noSp noLs (fun _ _ => 20) 10 13 2 ySl8 ⟨(y8St l r n fx rs i j).1, 7, (y8St l r n fx rs i j).2⟩
abbrev y8X (l : List Wt) (r n : Rg) (fx rs : Bool) (i j : Int) : Option (Ex × List SV × List (SO C18)) := bro (inR64 (j + 1)) (some (.normal, y8St l r n fx rs i (j + 1))) (some (.normal, y8St l r n fx rs i (IntKind.i64.wrap (j + 1))))
theorem y8_tree (l : List Wt) (r n : Rg) (fx rs : Bool) (i j : Int) : (y8Rd l r n fx rs i j).get =
  bro (decide (j < (n.qs.length : Int))) (bro (Sx.inB j r.qs.length) (bro (decide (j.toNat < r.qs.length)) (bro (Sx.inB j n.qs.length) (bro (decide (j.toNat < n.qs.length)) (bro (elQ n.qs j).2.2.1 (bro (!fx) (some (.ret, y8St l r n fx rs i j)) (bro ((elQ r.qs j).1 != (elQ n.qs j).1) (some (.ret, y8St l r n fx rs i j)) (bro (elQ r.qs j).2.2.1 (bro (!rs) (bro ((elQ r.qs j).2.1 != (elQ n.qs j).2.1) (some (.ret, y8St l r n fx rs i j)) (bro ((elQ r.qs j).2.2.2.1 != (elQ n.qs j).2.2.2.1) (some (.ret, y8St l r n fx rs i j)) (bro ((elQ r.qs j).2.2.2.2.1 != (elQ n.qs j).2.2.2.2.1) (some (.ret, y8St l r n fx rs i j)) (bro ((elQ r.qs j).2.2.2.2.2 != (elQ n.qs j).2.2.2.2.2) (some (.ret, y8St l r n fx rs i j)) (bro (!(elQ n.qs j).2.2.1) (bro (Sx.inB i l.length) (bro (decide (i.toNat < l.length)) (bro ((elW l i).1.2.1 != 8) (some (.ret, y8St l r n fx rs i j)) (y8X l r n fx rs i j)) none) none) (y8X l r n fx rs i j)))))) (y8X l r n fx rs i j)) (y8X l r n fx rs i j)))) (bro ((elQ r.qs j).1 != (elQ n.qs j).1) (some (.ret, y8St l r n fx rs i j)) (bro (elQ r.qs j).2.2.1 (bro (!rs) (bro ((elQ r.qs j).2.1 != (elQ n.qs j).2.1) (some (.ret, y8St l r n fx rs i j)) (bro ((elQ r.qs j).2.2.2.1 != (elQ n.qs j).2.2.2.1) (some (.ret, y8St l r n fx rs i j)) (bro ((elQ r.qs j).2.2.2.2.1 != (elQ n.qs j).2.2.2.2.1) (some (.ret, y8St l r n fx rs i j)) (bro ((elQ r.qs j).2.2.2.2.2 != (elQ n.qs j).2.2.2.2.2) (some (.ret, y8St l r n fx rs i j)) (bro (!(elQ n.qs j).2.2.1) (bro (Sx.inB i l.length) (bro (decide (i.toNat < l.length)) (bro ((elW l i).1.2.1 != 8) (some (.ret, y8St l r n fx rs i j)) (y8X l r n fx rs i j)) none) none) (y8X l r n fx rs i j)))))) (y8X l r n fx rs i j)) (y8X l r n fx rs i j)))) none) none) none) none) (some (.exit 2, y8St l r n fx rs i j)) := by kernel_rfl
/-- What an act does to the queues is allowed. -/
structure Sty (l : List Wt) (r n : Rg) (fx rs : Bool) (i : Int) : Prop where
  len : n.qs.length = r.qs.length
  few : r.qs.length ≤ 1000
  inn : 0 ≤ i ∧ i < (l.length : Int)
  rd : ∀ j : Nat, (elQ n.qs (j : Int)).2.2.1 = true → fx = true
  q : ∀ j : Nat, QR (rs = true) ((elW l i).1.2.1 = 8) (elQ r.qs (j : Int)) (elQ n.qs (j : Int))
theorem y8_round {l : List Wt} {r n : Rg} {fx rs : Bool} {i : Int} (h : Sty l r n fx rs i) {j : Nat} (hj : j < n.qs.length) : (y8Rd l r n fx rs i (j : Int)).get = some (.normal, y8St l r n fx rs i ((j + 1 : Nat) : Int)) := by
  have hl := h.len
  have hf := h.few
  have hi := h.inn
  obtain ⟨q1, q2⟩ := h.q j
  have hrd := h.rd j
  rw [y8_tree, decide_eq_true (show (j : Int) < (n.qs.length : Int) by omega), inB_mk (i := (j : Int)) (n := n.qs.length) ⟨by omega, by omega⟩, decide_eq_true (show ((j : Nat) : Int).toNat < n.qs.length by omega), inB_mk (i := (j : Int)) (n := r.qs.length) ⟨by omega, by omega⟩, decide_eq_true (show ((j : Nat) : Int).toNat < r.qs.length by omega), inB_mk (i := i) (n := l.length) hi, decide_eq_true (show i.toNat < l.length by omega)]
  unfold y8X
  rw [inR64_mk (r := (j : Int) + 1) (by omega)]
  generalize elQ r.qs (j : Int) = a at q1 q2 ⊢
  generalize elQ n.qs (j : Int) = b at q1 q2 hrd ⊢
  obtain ⟨a1, a2, a3, a4, a5, a6⟩ := a
  obtain ⟨b1, b2, b3, b4, b5, b6⟩ := b
  simp only at q1 q2 hrd ⊢
  subst q1
  have e1 : (a1 != a1) = false := by simp
  rw [e1]
  have key : bro a3 (bro (!rs) (bro (a2 != b2) (some (Ex.ret, y8St l r n fx rs i (j : Int))) (bro (a4 != b4) (some (.ret, y8St l r n fx rs i (j : Int))) (bro (a5 != b5) (some (.ret, y8St l r n fx rs i (j : Int))) (bro (a6 != b6) (some (.ret, y8St l r n fx rs i (j : Int))) (bro (!b3) (bro true (bro true (bro ((elW l i).1.2.1 != 8) (some (.ret, y8St l r n fx rs i (j : Int))) (bro true (some (.normal, y8St l r n fx rs i ((j : Int) + 1))) (some (.normal, y8St l r n fx rs i (IntKind.i64.wrap ((j : Int) + 1)))))) none) none) (bro true (some (.normal, y8St l r n fx rs i ((j : Int) + 1))) (some (.normal, y8St l r n fx rs i (IntKind.i64.wrap ((j : Int) + 1)))))))))) (bro true (some (.normal, y8St l r n fx rs i ((j : Int) + 1))) (some (.normal, y8St l r n fx rs i (IntKind.i64.wrap ((j : Int) + 1)))))) (bro true (some (.normal, y8St l r n fx rs i ((j : Int) + 1))) (some (.normal, y8St l r n fx rs i (IntKind.i64.wrap ((j : Int) + 1))))) = some (.normal, y8St l r n fx rs i ((j + 1 : Nat) : Int)) := by
    cases a3 with
    | false => rfl
    | true =>
      cases rs with
      | true => rfl
      | false =>
        obtain ⟨g1, g2, g3⟩ := q2 rfl (by decide)
        simp only [Prod.mk.injEq] at g2
        obtain ⟨h4, h5, h6⟩ := g2
        subst g1 h4 h5 h6
        have f : ∀ x : Int, (x != x) = false := fun x => by simp
        rw [f, f, f, f]
        cases b3 with
        | true => rfl
        | false =>
          have h8 : (elW l i).1.2.1 = 8 := by
            rcases g3 with g3 | g3
            · cases g3
            · exact g3
          rw [h8]; rfl
  cases b3 with
  | false => exact key
  | true =>
    have hfx := hrd rfl
    subst hfx
    exact key
theorem y8_end {l : List Wt} {r n : Rg} {fx rs : Bool} {i : Int} : (y8Rd l r n fx rs i (n.qs.length : Int)).get = some (.exit 2, y8St l r n fx rs i (n.qs.length : Int)) := by
  rw [y8_tree, decide_eq_false (Int.lt_irrefl _)]; rfl
theorem y8_loop : loopOf Try.prog 13 2 = some (((loopOf Try.prog 13 2).get!).1, (loopOf Try.prog 13 2).get!.2) := by kernel_rfl
theorem y8_run {l : List Wt} {r n : Rg} {fx rs : Bool} {i : Int} (h : Sty l r n fx rs i) :
    Keeps 7 (y8St l r n fx rs i 0).2 (y8St l r n fx rs i (n.qs.length : Int)).2 ∧ LoopRun Try.prog ((loopOf Try.prog 13 2).get!).1 (loopOf Try.prog 13 2).get!.2 7 (LI.st ySl8 ⟨(y8St l r n fx rs i 0).1, 7, (y8St l r n fx rs i 0).2⟩) fun x T => ∃ vs os, (x = .exit 2 ∧ (vs, os) = y8St l r n fx rs i (n.qs.length : Int)) ∧ T = ⟨zipT ySl8 vs, numH 0 os, os.length⟩ := by
  constructor
  · exact Keeps.of3 (Nat.le_refl 7) rfl
  · refine loop_li (σ := Nat) (st := fun j => y8St l r n fx rs i (j : Int)) (Inv := fun j => j ≤ n.qs.length) (μ := fun j => n.qs.length - j) (d := 10) (unr := fun _ _ => 20) (sp := noSp) (ls := noLs) plain mixed noSp_ok noLs_ok y8_loop (fun j hj => ?_) 0 (Nat.zero_le _)
    by_cases h5 : j < n.qs.length
    · exact ⟨_, y8_round h h5, fun _ => ⟨j + 1, by omega, by omega, rfl⟩, nofun⟩
    · obtain rfl : j = n.qs.length := by omega
      exact ⟨_, y8_end, nofun, fun _ => ⟨rfl, rfl⟩⟩
def y8Loop : LoopFn C18 := fun li => match li with
  | ⟨[.h 0, .h 1, .raw (.int .i64 i), .h 2, .raw (.bool fx), .raw (.bool rs), .raw (.int .i64 (.ofNat 0)), .raw (.bool false)], 7, [.ss 71 4 5 l, .box [.raw (.int .i64 k), .raw (.int .u64 o), .raw (.int .u64 g), .raw (.int .u8 s), .raw (.int .i64 se), .raw (.int .i64 at'), .h 3, .h 4, .raw (.int .u8 ge), .raw (.int .u8 it)] 64, .box [.raw (.int .i64 k2), .raw (.int .u64 o2), .raw (.int .u64 g2), .raw (.int .u8 s2), .raw (.int .i64 se2), .raw (.int .i64 at2), .h 5, .h 6, .raw (.int .u8 ge2), .raw (.int .u8 it2)] 64, .sl true false 77 qs, .sl true false 5 cf, .sl true false 77 qs2, .sl true false 5 cf2]⟩ =>
    .br (cdec (Sty l ⟨k, o, g, s, se, at', ge, it, qs, cf⟩ ⟨k2, o2, g2, s2, se2, at2, ge2, it2, qs2, cf2⟩ fx rs i)) (.leaf (.exit 2, y8St l ⟨k, o, g, s, se, at', ge, it, qs, cf⟩ ⟨k2, o2, g2, s2, se2, at2, ge2, it2, qs2, cf2⟩ fx rs i ((qs2 : List Qe).length : Int))) .fail
  | _ => .fail
theorem y8Loop_ok : ∀ tm hp n x, (loopS ySl8 [] y8Loop tm hp n).get = some x → InLoop Try.prog ((loopOf Try.prog 13 2).get!).1 (loopOf Try.prog 13 2).get!.2 tm hp n fun e tm hp n => (e, tm, hp, n) = x := loopS_of fun li r h => by
  unfold y8Loop at h
  split at h
  · rename_i i fx rs l k o g s se at' ge it k2 o2 g2 s2 se2 at2 ge2 it2 qs cf qs2 cf2
    obtain ⟨h1, g1⟩ := Tr.get_ask.1 h
    have h1 := cdec_iff.1 h1
    simp only [Tr.get, Option.some.injEq] at g1
    subst g1
    exact y8_run h1
  · cases h
/-! ### the outer loop -/
def sfY8 : SpecT C18 := addS 47 (seeS cpyT) (addS 49 (ownS donT) (addS 50 (seeS chkV) (addS 51 (seeS fxRT) noSp)))
theorem sfY8_ok : SpecTOk Try.prog sfY8 := addS_ok (seeS_ok cpyT_ok) (addS_ok (ownS_ok donT_ok) (addS_ok (seeS_ok chkV_ok) (addS_ok (seeS_ok fxRT_ok) noSp_ok)))
abbrev zSl8 : List Nat := [3, 9, 11, 8]
abbrev zV8 (i : Int) : List SV := [.h 0, .h 1, .raw (.int .i64 i), .raw (.bool false)]
abbrev z8A (l : List Wt) (r : Rg) (i : Int) : List SV × List (SO C18) := (zV8 i, [.ss 71 4 5 l, rB r (.h 2) (.h 3), .sl true false 77 r.qs, .sl true false 5 r.cf])
abbrev z8B (l : List Wt) (r n : Rg) (i : Int) : List SV × List (SO C18) := (zV8 i, [.ss 71 4 5 l, rB n (.h 4) (.h 5), .sl true false 77 r.qs, .sl true false 5 r.cf, .sl true false 77 n.qs, .sl true false 5 n.cf])
abbrev unZ8 (g b : Nat) : Nat := match g, b with
  | 13, 2 => 0 | _, _ => 20
abbrev z8R (s : List SV × List (SO C18)) := roundG C18 Try.prog sfY8 (Sx.addL 13 2 (loopS ySl8 [] y8Loop) noLs) unZ8 10 13 0 zSl8 ⟨s.1, 4, s.2⟩
end
end Go.Proofs.Ytknkemjbikbhgaa
