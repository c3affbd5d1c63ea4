/-
  Chapter 18: the guard of acts. Own work; nothing here is trusted.
-/
import Derived.Test.YtknkemjbikbhgaaCh18Sml0
namespace Go.Proofs.Ytknkemjbikbhgaa
open Go Go.Sx Go.RowKit
set_option maxRecDepth 1000000
set_option maxHeartbeats 8000000
set_option linter.unusedVariables false
set_option linter.unusedSimpArgs false
noncomputable section
abbrev mX (l : List Wt) (i : Int) : Option (Ex × List SV × List (SO C18)) := bro (inR64 (i + 1)) (some (.normal, mSt l (i + 1))) (some (.normal, mSt l (IntKind.i64.wrap (i + 1))))
theorem m_tree (l : List Wt) (i : Int) : (mRd l i).get =
  bro (decide (i < (l.length : Int))) (bro (Sx.inB i l.length) (bro (decide (i.toNat < l.length)) (bro (isNo (elW l i).2.1) (mX l i) (bro (decide ((300 : Int) < ((elW l i).2.2.length : Int))) (some (.ret, mSt l i)) (mX l i))) none) none) (some (.exit 0, mSt l i)) := by kernel_rfl
def mBad (l : List Wt) (j : Nat) : Bool := !isNo (elW l (j : Int)).2.1 && decide ((300 : Int) < ((elW l (j : Int)).2.2.length : Int))
theorem m_round {l : List Wt} (hl : l.length ≤ 1000) {j : Nat} (h : j < l.length) : (mRd l (j : Int)).get = bro (mBad l j) (some (.ret, mSt l (j : Int))) (some (.normal, mSt l ((j + 1 : Nat) : Int))) := by
  rw [m_tree, decide_eq_true (show (j : Int) < (l.length : Int) by omega), inB_mk (i := (j : Int)) (n := l.length) ⟨by omega, by omega⟩, decide_eq_true (show ((j : Nat) : Int).toNat < l.length by omega)]
  unfold mX mBad
  rw [inR64_mk (r := (j : Int) + 1) (by omega)]
  cases isNo (elW l (j : Int)).2.1 <;> cases decide ((300 : Int) < ((elW l (j : Int)).2.2.length : Int)) <;> rfl
theorem m_end {l : List Wt} : (mRd l (l.length : Int)).get = some (.exit 0, mSt l (l.length : Int)) := by
  rw [m_tree, decide_eq_false (Int.lt_irrefl _)]; rfl
theorem m_nil : (roundG C18 Try.prog noSp noLs (fun _ _ => 20) 10 41 0 mSl ⟨[nlS, .raw (.int .i64 0), .raw (.bool false)], 0, []⟩).get = some (.exit 0, ([nlS, .raw (.int .i64 0), .raw (.bool false)], [])) := by kernel_rfl
def mLoop : LoopFn C18 := fun li => match li with
  | ⟨[.h 0, .raw (.int .i64 (.ofNat 0)), .raw (.bool false)], 1, [.ss 71 4 5 l]⟩ =>
    .br (decide (l.length ≤ 1000)) (.br (noneP (mBad l) l.length) (.leaf (.exit 0, mSt l (l.length : Int))) (.leaf (.ret, mSt l ((fstP (mBad l) l.length : Nat) : Int)))) .fail
  | ⟨[.raw (.slice none 0 0), .raw (.int .i64 (.ofNat 0)), .raw (.bool false)], 0, []⟩ => .leaf (.exit 0, ([.raw (.slice none 0 0), .raw (.int .i64 0), .raw (.bool false)], []))
  | _ => .fail
theorem m_loop : loopOf Try.prog 41 0 = some (((loopOf Try.prog 41 0).get!).1, (loopOf Try.prog 41 0).get!.2) := by kernel_rfl
theorem m_run {l : List Wt} (hl : l.length ≤ 1000) {r : Ex × List SV × List (SO C18)} (h : (Tr.br (noneP (mBad l) l.length) (.leaf (.exit 0, mSt l (l.length : Int))) (.leaf (.ret, mSt l ((fstP (mBad l) l.length : Nat) : Int)))).get = some r) :
    Keeps 1 (mSt l 0).2 r.2.2 ∧ LoopRun Try.prog ((loopOf Try.prog 41 0).get!).1 (loopOf Try.prog 41 0).get!.2 1 (LI.st mSl ⟨(mSt l 0).1, 1, (mSt l 0).2⟩) fun x T => ∃ vs os, (x = r.1 ∧ (vs, os) = r.2) ∧ T = ⟨zipT mSl vs, numH 0 os, os.length⟩ := by
  constructor
  · have hr : r.2.2 = (mSt l 0).2 := by
      rcases Tr.get_br.1 h with ⟨_, hD⟩ | ⟨_, hD⟩ <;> (simp only [Tr.get, Option.some.injEq] at hD; subst hD; rfl)
    rw [hr]
    exact Keeps.of3 (Nat.le_refl 1) rfl
  · exact scan_li (stN := fun j => mSt l (j : Int)) (stR := fun j => mSt l (j : Int)) (p := mBad l) (n := l.length) plain mixed noSp_ok noLs_ok m_loop (fun j hj => m_round hl hj) m_end h
theorem m_none : LoopRun Try.prog ((loopOf Try.prog 41 0).get!).1 (loopOf Try.prog 41 0).get!.2 0 (LI.st mSl ⟨[.raw (.slice none 0 0), .raw (.int .i64 0), .raw (.bool false)], 0, ([] : List (SO C18))⟩) fun x T => ∃ vs os, (x = .exit 0 ∧ (vs, os) = ([SV.raw (.slice none 0 0), .raw (.int .i64 0), .raw (.bool false)], ([] : List (SO C18)))) ∧ T = ⟨zipT mSl vs, numH 0 os, os.length⟩ :=
  loop_li (σ := Unit) (st := fun _ => ([SV.raw (.slice none 0 0), .raw (.int .i64 0), .raw (.bool false)], ([] : List (SO C18)))) (Inv := fun _ => True) (μ := fun _ => 0) (d := 10) (unr := fun _ _ => 20) (sp := noSp) (ls := noLs) plain mixed noSp_ok noLs_ok m_loop (fun _ _ => ⟨_, m_nil, nofun, fun _ => ⟨rfl, rfl⟩⟩) () trivial
theorem mLoop_ok : ∀ tm hp n x, (loopS mSl [] mLoop tm hp n).get = some x → InLoop Try.prog ((loopOf Try.prog 41 0).get!).1 (loopOf Try.prog 41 0).get!.2 tm hp n fun e tm hp n => (e, tm, hp, n) = x := loopS_of fun li r h => by
  unfold mLoop at h
  split at h
  · rename_i l
    obtain ⟨h1, g1⟩ := Tr.get_ask.1 h
    exact m_run (of_decide_eq_true h1) g1
  · simp only [Tr.get, Option.some.injEq] at h
    subst h
    exact ⟨Keeps.of3 (Nat.le_refl 0) rfl, m_none⟩
  · cases h
def liv8 : FnF C18 := fun args os => match args, os with
  | [], [] => .leaf (.raw (.bool true), [])
  | _, _ => .fail
theorem liv8_ok : ∀ args os r, (liv8 args os).get = some r → Fn0 Try.prog 40 args os r := fun args os r h => by
  unfold liv8 at h
  split at h
  · simp only [Tr.get, Option.some.injEq] at h; subst h; exact lives18_ok
  · cases h
theorem by3 : Try.prog.types[(3 : Nat)].bytes ≤ 64 := of_decide_eq_true (by kernel_rfl)
theorem room3 {n : Nat} (h : n ≤ 100000) : roomB n Try.prog.types[(3 : Nat)].bytes = true := decide_eq_true (Nat.le_trans (Nat.mul_le_mul h by3) (by decide))
end
end Go.Proofs.Ytknkemjbikbhgaa
