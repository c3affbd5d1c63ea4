/-
  Chapter 18: New, its loop. Own work; nothing here is trusted.
-/
import Derived.Test.YtknkemjbikbhgaaCh18New0
namespace Go.Proofs.Ytknkemjbikbhgaa
open Go Go.Sx Go.RowKit
set_option maxRecDepth 1000000
set_option maxHeartbeats 8000000
set_option linter.unusedVariables false
set_option linter.unusedSimpArgs false
noncomputable section
abbrev mkQ (n : Int) : Qe := (n, 0, false, 0, 0, 0)
abbrev nN8 (k o : Int) (f : Bool) (ls : List Int) (cb : CB) (qs : List Qe) (i : Int) : Option (Ex × List SV × List (SO C18)) := some (.normal, nB8 k o f ls cb qs i)
theorem nA_tree (k o : Int) (f : Bool) (ls : List Int) (cb : CB) (i : Int) : (nRA8 k o f ls cb i).get =
  bro (decide (i < (ls.length : Int))) (bro (Sx.inB i ls.length) (bro (decide (i.toNat < ls.length)) (bro (inR64 (i + 1)) (nN8 k o f ls cb [mkQ (elB ls i)] (i + 1)) (nN8 k o f ls cb [mkQ (elB ls i)] (IntKind.i64.wrap (i + 1)))) none) none) (some (.exit 0, nA8 k o f ls cb i)) := by rcases cb with _ | ⟨f2, cf⟩ <;> kernel_rfl
theorem nB_tree (k o : Int) (f : Bool) (ls : List Int) (cb : CB) (qs : List Qe) (i : Int) : (nRB8 k o f ls cb qs i).get =
  bro (decide (i < (ls.length : Int))) (bro (Sx.inB i ls.length) (bro (decide (i.toNat < ls.length)) (bro (roomB (qs.length + [mkQ (elB ls i)].length) Try.prog.types[(77 : Nat)].bytes) (bro (inR64 (i + 1)) (nN8 k o f ls cb (qs ++ [mkQ (elB ls i)]) (i + 1)) (nN8 k o f ls cb (qs ++ [mkQ (elB ls i)]) (IntKind.i64.wrap (i + 1)))) none) none) none) (some (.exit 0, nB8 k o f ls cb qs i)) := by rcases cb with _ | ⟨f2, cf⟩ <;> kernel_rfl
@[reducible] def nSt8 (k o : Int) (f : Bool) (ls : List Int) (cb : CB) : Nat → List SV × List (SO C18)
  | 0 => nA8 k o f ls cb 0
  | i + 1 => nB8 k o f ls cb ((ls.take (i + 1)).map mkQ) ((i + 1 : Nat) : Int)
abbrev nR8 (k o : Int) (f : Bool) (ls : List Int) (cb : CB) (i : Nat) := roundG C18 Try.prog noSp noLs (fun _ _ => 20) 10 42 0 nSl8 ⟨(nSt8 k o f ls cb i).1, cbN 3 cb, (nSt8 k o f ls cb i).2⟩
theorem elB_at {ls : List Int} {i : Nat} (h : i < ls.length) : elB ls (i : Int) = ls[i] := by
  show ls.getD i _ = _
  rw [List.getD_eq_getElem?_getD, List.getElem?_eq_getElem h]; rfl
section
variable {k o : Int} {f : Bool} {ls : List Int} {cb : CB}
theorem n8_round (hl : ls.length ≤ 1000) {i : Nat} (h : i < ls.length) : (nR8 k o f ls cb i).get = some (.normal, nSt8 k o f ls cb (i + 1)) := by
  have k1 := decide_eq_true (show (i : Int) < (ls.length : Int) by omega)
  have k2 : Sx.inB (i : Int) ls.length = true := inB_mk ⟨by omega, by omega⟩
  have k3 := decide_eq_true (show ((i : Nat) : Int).toNat < ls.length by omega)
  have k4 : inR64 ((i : Int) + 1) = true := inR64_mk (by omega)
  have e : (ls.take (i + 1)).map mkQ = (ls.take i).map mkQ ++ [mkQ (elB ls (i : Int))] := by
    rw [List.take_add_one, List.getElem?_eq_getElem h, List.map_append, elB_at h]; rfl
  cases i with
  | zero =>
    refine (nA_tree k o f ls cb 0).trans ?_
    have e0 : (ls.take (0 + 1)).map mkQ = [mkQ (elB ls 0)] := e
    show bro (decide (((0 : Nat) : Int) < _)) (bro (Sx.inB ((0 : Nat) : Int) _) (bro (decide (((0 : Nat) : Int).toNat < _)) (bro (inR64 (((0 : Nat) : Int) + 1)) (nN8 k o f ls cb [mkQ (elB ls 0)] (0 + 1)) _) _) _) _ = some (.normal, nB8 k o f ls cb ((ls.take (0 + 1)).map mkQ) ((0 + 1 : Nat) : Int))
    rw [k1, k2, k3, k4, e0]; rfl
  | succ j =>
    refine (nB_tree k o f ls cb _ _).trans ?_
    have hlen : ((ls.take (j + 1)).map mkQ).length = j + 1 := by rw [List.length_map, List.length_take]; omega
    rw [k1, k2, k3, k4, room77 (by rw [hlen]; simp; omega)]
    show some (Ex.normal, nB8 k o f ls cb ((ls.take (j + 1)).map mkQ ++ [mkQ (elB ls ((j + 1 : Nat) : Int))]) _) = some (.normal, nB8 k o f ls cb ((ls.take (j + 1 + 1)).map mkQ) _)
    rw [e]; rfl
theorem n8_end : (nR8 k o f ls cb ls.length).get = some (.exit 0, nSt8 k o f ls cb ls.length) := by
  have k1 : decide ((ls.length : Int) < (ls.length : Int)) = false := decide_eq_false (Int.lt_irrefl _)
  cases hn : ls.length with
  | zero => 
    refine (nA_tree k o f ls cb 0).trans ?_
    rw [hn] at k1 ⊢
    have k1 : decide ((0 : Int) < ((0 : Nat) : Int)) = false := k1
    rw [k1]; rfl
  | succ j =>
    refine (nB_tree k o f ls cb _ _).trans ?_
    rw [hn] at k1 ⊢
    rw [k1]; rfl
end
theorem n8_loop : loopOf Try.prog 42 0 = some (((loopOf Try.prog 42 0).get!).1, (loopOf Try.prog 42 0).get!.2) := by kernel_rfl
def n8Leaf (k o : Int) (f : Bool) (ls : List Int) (cb : CB) : Tr (Ex × List SV × List (SO C18)) := .br (decide (ls.length = 0)) (.leaf (.exit 0, nA8 k o f ls cb 0)) (.leaf (.exit 0, nB8 k o f ls cb (opq (ls.map mkQ)) (ls.length : Int)))
theorem n8Leaf_get (k o : Int) (f : Bool) (ls : List Int) (cb : CB) : (n8Leaf k o f ls cb).get = some (.exit 0, nSt8 k o f ls cb ls.length) := by
  unfold n8Leaf
  rw [opq_eq]
  cases hn : ls.length with
  | zero => rfl
  | succ j =>
    have e : (ls.take (j + 1)) = ls := List.take_of_length_le (by omega)
    show some (Ex.exit 0, nB8 k o f ls cb (ls.map mkQ) _) = some (Ex.exit 0, nB8 k o f ls cb ((ls.take (j + 1)).map mkQ) _)
    rw [e]
def n8Loop : LoopFn C18 := fun li => match li with
  | ⟨[.h 0, .h 1, .h 2, .raw (.int .i64 n), .raw (.int .i64 (.ofNat 0)), .raw (.int .i64 (.ofNat 0))], 4, [.box [.raw (.int .i64 (.ofNat 0)), .raw (.int .u64 (.ofNat 0)), .raw (.int .u64 (.ofNat 0)), .raw (.int .u8 (.ofNat 0)), .raw (.int .i64 (.ofNat 0)), .raw (.int .i64 (.ofNat 0)), .raw (.slice none 0 0), .raw (.slice none 0 0), .raw (.int .u8 (.ofNat 0)), .raw (.int .u8 (.ofNat 0))] 64, .box [.raw (.int .i64 k), .raw (.int .u64 o), .raw (.int .u64 (.ofNat 0)), .raw (.int .u8 (.ofNat 0)), .raw (.int .i64 (.ofNat 0)), .raw (.int .i64 (.ofNat 0)), .raw (.slice none 0 0), .h 3, .raw (.int .u8 (.ofNat 0)), .raw (.int .u8 (.ofNat 0))] 64, .sl false f 3 ls, .sl true f2 5 cf]⟩ =>
    .br (n == (ls.length : Int)) (.br (decide (ls.length ≤ 1000)) (n8Leaf k o f ls (some (f2, cf))) .fail) .fail
  | ⟨[.h 0, .h 1, .h 2, .raw (.int .i64 n), .raw (.int .i64 (.ofNat 0)), .raw (.int .i64 (.ofNat 0))], 3, [.box [.raw (.int .i64 (.ofNat 0)), .raw (.int .u64 (.ofNat 0)), .raw (.int .u64 (.ofNat 0)), .raw (.int .u8 (.ofNat 0)), .raw (.int .i64 (.ofNat 0)), .raw (.int .i64 (.ofNat 0)), .raw (.slice none 0 0), .raw (.slice none 0 0), .raw (.int .u8 (.ofNat 0)), .raw (.int .u8 (.ofNat 0))] 64, .box [.raw (.int .i64 k), .raw (.int .u64 o), .raw (.int .u64 (.ofNat 0)), .raw (.int .u8 (.ofNat 0)), .raw (.int .i64 (.ofNat 0)), .raw (.int .i64 (.ofNat 0)), .raw (.slice none 0 0), .raw (.slice none 0 0), .raw (.int .u8 (.ofNat 0)), .raw (.int .u8 (.ofNat 0))] 64, .sl false f 3 ls]⟩ =>
    .br (n == (ls.length : Int)) (.br (decide (ls.length ≤ 1000)) (n8Leaf k o f ls none) .fail) .fail
  | _ => .fail
theorem n8_run {k o : Int} {f : Bool} {ls : List Int} {cb : CB} (hl : ls.length ≤ 1000) :
    Keeps (cbN 3 cb) (nSt8 k o f ls cb 0).2 (nSt8 k o f ls cb ls.length).2 ∧ LoopRun Try.prog ((loopOf Try.prog 42 0).get!).1 (loopOf Try.prog 42 0).get!.2 (cbN 3 cb) (LI.st nSl8 ⟨(nSt8 k o f ls cb 0).1, cbN 3 cb, (nSt8 k o f ls cb 0).2⟩) fun x T => ∃ vs os, (x = .exit 0 ∧ (vs, os) = nSt8 k o f ls cb ls.length) ∧ T = ⟨zipT nSl8 vs, numH 0 os, os.length⟩ := by
  constructor
  · cases ls.length <;> rcases cb with _ | ⟨f2, cf⟩ <;> exact Keeps.of3 (by simp [cbN]) rfl
  · refine loop_li (σ := Nat) (st := nSt8 k o f ls cb) (Inv := fun i => i ≤ ls.length) (μ := fun i => ls.length - i) (d := 10) (unr := fun _ _ => 20) (sp := noSp) (ls := noLs) plain mixed noSp_ok noLs_ok n8_loop (fun i hi => ?_) 0 (Nat.zero_le _)
    by_cases h5 : i < ls.length
    · exact ⟨_, n8_round hl h5, fun _ => ⟨i + 1, by omega, by omega, rfl⟩, nofun⟩
    · obtain rfl : i = ls.length := by omega
      exact ⟨_, n8_end, nofun, fun _ => ⟨rfl, rfl⟩⟩
theorem n8Loop_ok : ∀ tm hp n x, (loopS nSl8 [] n8Loop tm hp n).get = some x → InLoop Try.prog ((loopOf Try.prog 42 0).get!).1 (loopOf Try.prog 42 0).get!.2 tm hp n fun e tm hp n => (e, tm, hp, n) = x := loopS_of fun li r h => by
  unfold n8Loop at h
  split at h
  · rename_i n k o f ls f2 cf
    obtain ⟨hn0, g1⟩ := Tr.get_ask.1 h
    obtain ⟨hl, g2⟩ := Tr.get_ask.1 g1
    clear h g1
    have hn0 := eq_of_beq hn0
    subst hn0
    have hr := Option.some.inj (g2.symm.trans (n8Leaf_get _ _ _ _ _))
    subst hr
    exact n8_run (cb := some (f2, cf)) (of_decide_eq_true hl)
  · rename_i n k o f ls
    obtain ⟨hn0, g1⟩ := Tr.get_ask.1 h
    obtain ⟨hl, g2⟩ := Tr.get_ask.1 g1
    clear h g1
    have hn0 := eq_of_beq hn0
    subst hn0
    have hr := Option.some.inj (g2.symm.trans (n8Leaf_get _ _ _ _ _))
    subst hr
    exact n8_run (cb := none) (of_decide_eq_true hl)
  · cases h
def sfN : SpecT C18 := addS 36 (seeS nwT) (addS 50 (seeS chkT) noSp)
theorem sfN_ok : SpecTOk Try.prog sfN := addS_ok (seeS_ok nwT_ok) (addS_ok (seeS_ok chkT_ok) noSp_ok)
def lsN8 : LoopT C18 := Sx.addL 42 0 (loopS nSl8 [] n8Loop) noLs
theorem lsN8_ok : LoopTOk Try.prog lsN8 := addL_ok n8_loop n8Loop_ok noLs_ok
abbrev unN8 (g b : Nat) : Nat := match g, b with
  | 42, 0 => 0 | _, _ => 20
abbrev fN8 := fnC C18 Try.prog sfN lsN8 unN8 10
end
end Go.Proofs.Ytknkemjbikbhgaa
