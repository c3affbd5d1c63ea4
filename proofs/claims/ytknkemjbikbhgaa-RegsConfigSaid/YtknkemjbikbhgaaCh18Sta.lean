/-
  Chapter 18: the loop that forgets all queues. Own work; nothing here is trusted.
-/
import Derived.Test.YtknkemjbikbhgaaCh18Eq
namespace Go.Proofs.Ytknkemjbikbhgaa
open Go Go.Sx Go.RowKit
set_option maxRecDepth 1000000
set_option maxHeartbeats 8000000
set_option linter.unusedVariables false
set_option linter.unusedSimpArgs false
noncomputable section
abbrev vSl : List Nat := [0, 32, 33, 34]
abbrev vSt (f1 f2 : Bool) (r : Rg) (n : Int) (qs : List Qe) (i : Int) : List SV × List (SO C18) := ([.h 0, .h 1, .raw (.int .i64 n), .raw (.int .i64 i)], [rB r (.h 1) (.h 2), .sl true f1 77 qs, .sl true f2 5 r.cf])
abbrev vRd (f1 f2 : Bool) (r : Rg) (n : Int) (qs : List Qe) (i : Int) := roundG C18 Try.prog noSp noLs (fun _ _ => 20) 10 85 0 vSl ⟨(vSt f1 f2 r n qs i).1, 3, (vSt f1 f2 r n qs i).2⟩
abbrev vNm (f1 f2 : Bool) (r : Rg) (n : Int) (qs : List Qe) (i : Int) : Option (Ex × List SV × List (SO C18)) := some (.normal, vSt f1 f2 r n qs i)
abbrev zQ (q : Qe) : Qe := (q.1, 0, false, 0, 0, 0)
theorem v_tree (f1 f2 : Bool) (r : Rg) (n : Int) (qs : List Qe) (i : Int) : (vRd f1 f2 r n qs i).get =
  bro (decide (i < n)) (bro (Sx.inB i qs.length) (bro (decide (i.toNat < qs.length)) (bro (Sx.inB i qs.length) (bro (decide (i.toNat < qs.length)) (bro (inR64 (i + 1)) (vNm f1 f2 r n (qs.set i.toNat (zQ (elQ qs i))) (i + 1)) (vNm f1 f2 r n (qs.set i.toNat (zQ (elQ qs i))) (IntKind.i64.wrap (i + 1)))) none) none) none) none) (some (.exit 0, vSt f1 f2 r n qs i)) := by kernel_rfl
def clrQ (qs : List Qe) (i : Nat) : List Qe := (qs.take i).map zQ ++ qs.drop i
theorem clrQ_len (qs : List Qe) (i : Nat) (h : i ≤ qs.length) : (clrQ qs i).length = qs.length := by unfold clrQ; simp; omega
theorem clrQ_step {qs : List Qe} {i : Nat} (h : i < qs.length) : (clrQ qs i).set ((i : Nat) : Int).toNat (zQ (elQ (clrQ qs i) (i : Int))) = clrQ qs (i + 1) := by
  have e1 : ((i : Nat) : Int).toNat = i := rfl
  have hl : ((qs.take i).map zQ).length = i := by simp; omega
  have e2 : elQ (clrQ qs i) (i : Int) = qs[i] := by
    show (clrQ qs i).getD i _ = _
    unfold clrQ
    rw [List.getD_eq_getElem?_getD, List.getElem?_append_right (by omega), hl, Nat.sub_self, List.getElem?_drop, Nat.add_zero, List.getElem?_eq_getElem h]; rfl
  rw [e2, e1]
  unfold clrQ
  rw [List.set_append_right _ _ (by omega), hl, Nat.sub_self, List.drop_eq_getElem_cons h, List.set_cons_zero, List.take_add_one, List.getElem?_eq_getElem h, List.map_append, List.append_assoc]; rfl
theorem v_round {f1 f2 : Bool} {r : Rg} {qs : List Qe} (hl : qs.length ≤ 1000) {i : Nat} (h5 : i < qs.length) : (vRd f1 f2 r (qs.length : Int) (clrQ qs i) (i : Int)).get = some (.normal, vSt f1 f2 r (qs.length : Int) (clrQ qs (i + 1)) ((i + 1 : Nat) : Int)) := by
  rw [v_tree, decide_eq_true (show (i : Int) < (qs.length : Int) by omega), clrQ_len qs i (by omega), inB_mk (i := (i : Int)) (n := qs.length) ⟨by omega, by omega⟩, decide_eq_true (show ((i : Nat) : Int).toNat < qs.length by omega), inR64_mk (r := (i : Int) + 1) (by omega), clrQ_step h5]
  rfl
theorem v_end {f1 f2 : Bool} {r : Rg} {qs : List Qe} : (vRd f1 f2 r (qs.length : Int) (clrQ qs qs.length) (qs.length : Int)).get = some (.exit 0, vSt f1 f2 r (qs.length : Int) (opq (qs.map zQ)) (qs.length : Int)) := by
  have e : clrQ qs qs.length = opq (qs.map zQ) := by unfold clrQ; rw [opq_eq]; simp
  rw [e, v_tree, decide_eq_false (Int.lt_irrefl _)]; rfl
def vLoop : LoopFn C18 := fun li => match li with
  | ⟨[.h 0, .h 1, .raw (.int .i64 n), .raw (.int .i64 (.ofNat 0))], 3, [.box [.raw (.int .i64 k), .raw (.int .u64 o), .raw (.int .u64 g), .raw (.int .u8 s), .raw (.int .i64 se), .raw (.int .i64 at'), .h 1, .h 2, .raw (.int .u8 ge), .raw (.int .u8 it)] 64, .sl true f1 77 qs, .sl true f2 5 cf]⟩ =>
    .br (n == (qs.length : Int)) (.br (decide (qs.length ≤ 1000)) (.leaf (.exit 0, vSt f1 f2 ⟨k, o, g, s, se, at', ge, it, qs, cf⟩ (qs.length : Int) (opq (qs.map zQ)) (qs.length : Int))) .fail) .fail
  | _ => .fail
theorem v_loop : loopOf Try.prog 85 0 = some (((loopOf Try.prog 85 0).get!).1, (loopOf Try.prog 85 0).get!.2) := by kernel_rfl
theorem v_run {f1 f2 : Bool} {r : Rg} {qs : List Qe} (hl : qs.length ≤ 1000) : LoopRun Try.prog ((loopOf Try.prog 85 0).get!).1 (loopOf Try.prog 85 0).get!.2 3 (LI.st (vSl ++ []) ⟨(vSt f1 f2 r (qs.length : Int) qs 0).1, 3, (vSt f1 f2 r (qs.length : Int) qs 0).2⟩) fun x T => ∃ vs os, (x = .exit 0 ∧ (vs, os) = vSt f1 f2 r (qs.length : Int) (opq (qs.map zQ)) (qs.length : Int)) ∧ T = ⟨zipT (vSl ++ []) vs, numH 0 os, os.length⟩ :=
  loop_li (σ := Nat) (st := fun i => vSt f1 f2 r (qs.length : Int) (clrQ qs i) (i : Int)) (Inv := fun i => i ≤ qs.length) (μ := fun i => qs.length - i) (d := 10) (unr := fun _ _ => 20) (sp := noSp) (ls := noLs) plain mixed noSp_ok noLs_ok v_loop (fun i hi => by
    by_cases h5 : i < qs.length
    · exact ⟨_, v_round hl h5, fun _ => ⟨i + 1, by omega, by omega, rfl⟩, nofun⟩
    · obtain rfl : i = qs.length := by omega
      exact ⟨_, v_end, nofun, fun _ => ⟨rfl, rfl⟩⟩) 0 (Nat.zero_le _)
theorem vLoop_ok : ∀ tm hp n x, (loopS vSl [] vLoop tm hp n).get = some x → InLoop Try.prog ((loopOf Try.prog 85 0).get!).1 (loopOf Try.prog 85 0).get!.2 tm hp n fun e tm hp n => (e, tm, hp, n) = x := loopS_of fun li r h => by
  unfold vLoop at h
  split at h
  · rename_i n k o g s se at' ge it f1 qs f2 cf
    obtain ⟨hn0, g1⟩ := Tr.get_ask.1 h
    obtain ⟨hl, g2⟩ := Tr.get_ask.1 g1
    clear h g1
    have hn0 := eq_of_beq hn0
    subst hn0
    change List Qe at qs
    have hl : (qs : List Qe).length ≤ 1000 := of_decide_eq_true hl
    simp only [Tr.get, Option.some.injEq] at g2
    subst g2
    refine ⟨Keeps.of3 (Nat.le_refl 3) rfl, ?_⟩
    exact v_run (r := ⟨k, o, g, s, se, at', ge, it, qs, cf⟩) hl
  · cases h
def lsV : LoopT C18 := Sx.addL 85 0 (loopS vSl [] vLoop) noLs
theorem lsV_ok : LoopTOk Try.prog lsV := addL_ok v_loop vLoop_ok noLs_ok
abbrev unV (g b : Nat) : Nat := match g, b with
  | 85, 0 => 0 | _, _ => 20
def sfV : SpecT C18 := addS 50 (seeS chkV) (addS 65 (seeS ownT) (addS 30 (seeS wrT4) (addS 33 (seeS askT4) (addS 34 (seeS brkT4) (addS 68 (seeS rdyT) noSp)))))
theorem sfV_ok : SpecTOk Try.prog sfV := addS_ok (seeS_ok chkV_ok) (addS_ok (seeS_ok ownT_ok) (addS_ok (seeS_ok wrT4_ok) (addS_ok (seeS_ok askT4_ok) (addS_ok (seeS_ok brkT4_ok) (addS_ok (seeS_ok rdyT_ok) noSp_ok)))))
abbrev fV := fnC C18 Try.prog sfV lsV unV 20
abbrev fVw (r : Rg) (f1 f2 : Bool) (n w : Int) := fV 46 [rA r (.h 0) (.h 1), .raw (.int .i64 n), .raw (.int .u64 w)] [.sl false f1 77 r.qs, .sl false f2 5 r.cf]
end
end Go.Proofs.Ytknkemjbikbhgaa
