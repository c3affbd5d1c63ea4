/-
  Chapter 27: the guard of acts. Own work; nothing here is trusted.
-/
import Derived.Test.YtgegagndihffpaaCh27Light0
import Derived.Test.YtgegagndihffpaaSxC
namespace Go.Proofs.Ytgegagndihffpaa
open Go Go.Sx Go.RowKit
set_option maxRecDepth 1000000
set_option maxHeartbeats 8000000
set_option linter.unusedVariables false
set_option linter.unusedSimpArgs false
noncomputable section
theorem g_tree (o : Bool) (f : Bool) (ls : List Ac) (K : Int) : (gRound o f ls K).get =
  bro (decide (K < (↑ls.length : Int))) (bro (inB K ls.length) (bro (decide (K.toNat < ls.length)) (bro (decide ((100 : Int) < (↑(elC ls K).snd.snd.fst.size : Int))) (some (Ex.ret, [SV.h (0 : Nat), SV.raw (Value.int IntKind.i64 K), SV.raw (Value.bool false)], [SO.sl o f (40 : Nat) ls])) (bro (inB K ls.length) (bro (decide (K.toNat < ls.length)) (bro (decide ((100 : Int) < (↑(elC ls K).snd.snd.snd.snd.snd.snd.snd.size : Int))) (some (Ex.ret, [SV.h (0 : Nat), SV.raw (Value.int IntKind.i64 K), SV.raw (Value.bool false)], [SO.sl o f (40 : Nat) ls])) (bro (inR64 (K + (1 : Int))) (some (Ex.normal, [SV.h (0 : Nat), SV.raw (Value.int IntKind.i64 (K + (1 : Int))), SV.raw (Value.bool false)], [SO.sl o f (40 : Nat) ls])) (some (Ex.normal, [SV.h (0 : Nat), SV.raw (Value.int IntKind.i64 (IntKind.i64.wrap (K + (1 : Int)))), SV.raw (Value.bool false)], [SO.sl o f (40 : Nat) ls])))) (none)) (none))) (none)) (none)) (some (Ex.exit (0 : Nat), [SV.h (0 : Nat), SV.raw (Value.int IntKind.i64 K), SV.raw (Value.bool false)], [SO.sl o f (40 : Nat) ls])) := by kernel_rfl

/-- What is looked for. -/
abbrev gP (o : Bool) (f : Bool) (ls : List Ac) (k : Nat) : Bool := decide ((100 : Int) < ((elC ls (k : Int)).2.2.1.size : Int)) || decide ((100 : Int) < ((elC ls (k : Int)).2.2.2.2.2.2.2.size : Int))
theorem g_round {o : Bool} {f : Bool} {ls : List Ac} {k : Nat} (hk : k < ls.length) (hl : ls.length ≤ 1000) :
    (gRound o f ls k).get = bro (gP o f ls k) (some (.ret, gSt o f ls (k : Int) false)) (some (.normal, gSt o f ls ((k + 1 : Nat) : Int) false)) := by
  rw [g_tree]
  have k1 := decide_eq_true (show (k : Int) < ((ls.length : Nat) : Int) by omega)
  have k4 : inR64 ((k : Int) + 1) = true := inR64_mk (by omega)
  have a0 : Sx.inB (k : Int) (ls.length) = true := inB_mk ⟨by omega, by omega⟩
  have b0 := decide_eq_true (show ((k : Nat) : Int).toNat < ls.length by omega)
  simp only [k1, k4, a0, b0, bro_true]
  unfold gP
  cases decide ((100 : Int) < ((elC ls (k : Int)).2.2.1.size : Int)) <;> cases decide ((100 : Int) < ((elC ls (k : Int)).2.2.2.2.2.2.2.size : Int)) <;> rfl
theorem g_end {o : Bool} {f : Bool} {ls : List Ac} : (gRound o f ls ((ls.length : Nat) : Int)).get = some (.exit 0, gSt o f ls ((ls.length : Nat) : Int) false) := by
  rw [g_tree, decide_eq_false (Int.lt_irrefl _)]; rfl
theorem g_loop : loopOf Try.prog 9 0 = some (((loopOf Try.prog 9 0).get!).1, (loopOf Try.prog 9 0).get!.2) := by kernel_rfl
def gLoop : LoopFn C27 := fun li => match li with
  | ⟨[.h 0, .raw (.int .i64 (.ofNat 0)), .raw (.bool false)], 1, [.sl o f 40 ls]⟩ =>
    .br (decide (ls.length ≤ 1000)) (.br (noneP (gP o f ls) (ls.length)) (.leaf (.exit 0, gSt o f ls ((ls.length : Nat) : Int) false)) (.leaf (.ret, gSt o f ls (fstP (gP o f ls) (ls.length) : Int) false))) .fail
  | _ => .fail
theorem gLoop_ok : ∀ tm hp n x, (loopS [0, 3, 2] [] gLoop tm hp n).get = some x → InLoop Try.prog ((loopOf Try.prog 9 0).get!).1 (loopOf Try.prog 9 0).get!.2 tm hp n fun e tm hp n => (e, tm, hp, n) = x := loopS_of fun li r h => by
  unfold gLoop at h
  split at h
  · rename_i o f ls
    obtain ⟨hl, hC⟩ := Tr.get_ask.1 h
    clear h
    change List Ac at ls
    have hl : ls.length ≤ 1000 := of_decide_eq_true hl
    have hr : r.2.2 = (gSt o f ls 0 false).2 := by
      rcases Tr.get_br.1 hC with ⟨_, hD⟩ | ⟨_, hD⟩ <;> (simp only [Tr.get, Option.some.injEq] at hD; subst hD; rfl)
    refine ⟨by rw [hr]; exact Keeps.of (Nat.le_refl 1) rfl (fun o ho => by cases ho), ?_⟩
    exact scan_li (n := ls.length) (stN := fun k => gSt o f ls (k : Int) false) (stR := fun k => gSt o f ls (k : Int) false) (p := gP o f ls) (d := 10) (unr := fun _ _ => 20) (sp := noSp) (ls := noLs) plain mixed noSp_ok noLs_ok g_loop (fun k hk => g_round hk hl) g_end hC
  · cases h
def lsL : LoopT C27 := (Sx.addL 9 0 (loopS [0, 3, 2] [] gLoop) noLs)
theorem lsL_ok : LoopTOk Try.prog lsL := (addL_ok g_loop gLoop_ok noLs_ok)
abbrev lsLu (g b : Nat) : Nat := match g, b with
  | 9, 0 => 0 | _, _ => 20
end
end Go.Proofs.Ytgegagndihffpaa
