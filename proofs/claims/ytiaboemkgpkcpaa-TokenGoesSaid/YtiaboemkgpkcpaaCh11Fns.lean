/-
  Chapter 11: Check, the search, Same, isEvent as specifications. Own work; nothing here is trusted.
-/
import Derived.Test.YtiaboemkgpkcpaaCh11Bin
namespace Go.Proofs.Ytiaboemkgpkcpaa
open Go Go.Sx Go.RowKit
set_option maxRecDepth 1000000
set_option maxHeartbeats 8000000
set_option linter.unusedVariables false
set_option linter.unusedSimpArgs false
noncomputable section
theorem ck_tree (v : Lo Tk) : (fF 9 [.agg [hS v 0]] (obT v)).get =
  bro (((lo v).length : Int) == ((lo v).length : Int)) (bro (decide ((lo v).length ≤ (100000 : Nat))) (bro (noneP (badT (lo v)) (lo v).length) (some (SV.raw (Value.int IntKind.i64 (0 : Int)), [])) (some (SV.raw (Value.int IntKind.i64 (2 : Int)), []))) none) none := by cases v <;> kernel_rfl
theorem sa_tree (v w : Lo Tk) : (fF 12 [.agg [hS v 0], .agg [hS w (nx v 0)]] (obT v ++ obT w)).get =
  bro (((lo v).length : Int) != ((lo w).length : Int)) (some (SV.raw (Value.bool false), [])) (bro (((lo v).length : Int) == ((lo v).length : Int)) (bro (decide ((lo v).length ≤ (100000 : Nat) ∧ (lo w).length = (lo v).length)) (bro (noneP (neT (lo v) (lo w)) (lo v).length) (some (SV.raw (Value.bool true), [])) (some (SV.raw (Value.bool false), []))) none) none) := by cases v <;> cases w <;> kernel_rfl
theorem fi_tree (a b : Bool) (ts : List Tk) (x : Int) : (fF 16 [.agg [hS (some (a, b, ts)) 0], .raw (.int .i64 x)] (obT (some (a, b, ts)))).get =
  bro ((↑ts.length : Int) == (↑(ts).length : Int)) (bro ((↑ts.length : Int) == (↑(ts).length : Int)) (bro (decide ((ts).length ≤ (100000 : Nat))) (bro (decide ((↑(bsI (keys (ts)) x) : Int) < (↑(ts).length : Int))) (bro (inB (↑(bsI (keys (ts)) x) : Int) ts.length) (bro (decide ((↑(bsI (keys (ts)) x) : Int).toNat < ts.length)) (bro ((ts.getD (↑(bsI (keys (ts)) x) : Int).toNat tk0).fst != (ts.getD (↑(bsI (keys (ts)) x) : Int).toNat tk0).fst) (bro (x != x) (some (SV.tup [SV.raw (Value.int IntKind.i64 (↑(bsI (keys (ts)) x) : Int)), SV.raw (Value.bool true)], [])) (some (SV.tup [SV.raw (Value.int IntKind.i64 (↑(bsI (keys (ts)) x) : Int)), SV.raw (Value.bool false)], []))) (bro (x != x) (some (SV.tup [SV.raw (Value.int IntKind.i64 (↑(bsI (keys (ts)) x) : Int)), SV.raw (Value.bool false)], [])) (bro (decide ((ts.getD (↑(bsI (keys (ts)) x) : Int).toNat tk0).fst < x)) (some (SV.tup [SV.raw (Value.int IntKind.i64 (↑(bsI (keys (ts)) x) : Int)), SV.raw (Value.bool false)], [])) (bro (decide (x < (ts.getD (↑(bsI (keys (ts)) x) : Int).toNat tk0).fst)) (some (SV.tup [SV.raw (Value.int IntKind.i64 (↑(bsI (keys (ts)) x) : Int)), SV.raw (Value.bool false)], [])) (some (SV.tup [SV.raw (Value.int IntKind.i64 (↑(bsI (keys (ts)) x) : Int)), SV.raw (Value.bool true)], [])))))) (none)) (none)) (some (SV.tup [SV.raw (Value.int IntKind.i64 (↑(bsI (keys (ts)) x) : Int)), SV.raw (Value.bool false)], []))) (none)) (none)) (none) := by kernel_rfl
theorem ev_tree (k t w : Int) : (fF 18 [.agg [.raw (.int .i64 k), .raw (.int .i64 t), .raw (.int .u32 w)]] []).get =
  bro (decide ((1 : Int) ≤ k)) (bro (decide (k ≤ (4 : Int))) (bro (decide ((0 : Int) ≤ t)) (bro (decide ((3 : Int) ≤ k)) (some (SV.raw (Value.bool true), [])) (some (SV.raw (Value.bool (w == (0 : Int))), []))) (some (SV.raw (Value.bool false), []))) (some (SV.raw (Value.bool false), []))) (some (SV.raw (Value.bool false), [])) := by kernel_rfl

def okT (ts : List Tk) : Bool := noneP (badT ts) ts.length
/-- The place of a token, and whether it is there. -/
def bsZ (ts : List Tk) (x : Int) : Int := match ts with
  | [] => 0
  | y :: r => (bsI (keys (y :: r)) x : Int)
theorem bsZ_eq (ts : List Tk) (x : Int) : bsZ ts x = (bsI (keys ts) x : Int) := by cases ts <;> rfl
def fdB (ts : List Tk) (x : Int) : Bool := decide ((bsI (keys ts) x : Int) < (ts.length : Int)) && (ts.getD (bsI (keys ts) x) tk0).1 == x
def eqL {α : Type} [DecidableEq α] (ts us : List α) : Bool := decide (ts = us)
theorem eqL_self {α : Type} [DecidableEq α] (ts : List α) : eqL ts ts = true := decide_eq_true rfl
theorem eqL_off {α : Type} [DecidableEq α] {ts us : List α} (h : ts.length ≠ us.length) : eqL ts us = false := decide_eq_false fun e => h (by rw [e])
theorem eqK_iff {x y : Tk} : eqK x y = true ↔ x = y := by
  obtain ⟨a0, a1, a2⟩ := x
  obtain ⟨b0, b1, b2⟩ := y
  simp only [eqK, Bool.and_eq_true, beq_iff_eq, Bool.and_true, Prod.mk.injEq]
theorem elT_get {ts : List Tk} {k : Nat} (h : k < ts.length) : elT ts (k : Int) = ts[k] := by
  show ts.getD k tk0 = _
  rw [List.getD_eq_getElem?_getD, List.getElem?_eq_getElem h]; rfl
theorem eqL_tk {ts us : List Tk} (h : us.length = ts.length) : eqL ts us = noneP (neT ts us) ts.length := by
  rw [Bool.eq_iff_iff, noneP_iff]
  unfold eqL
  rw [decide_eq_true_iff]
  constructor
  · rintro rfl k hk
    unfold neT
    rw [eqK_iff.2 rfl]; rfl
  · intro hk
    refine List.ext_getElem h.symm fun i h1 h2 => ?_
    have := hk i h1
    unfold neT at this
    rw [elT_get h1, elT_get h2] at this
    exact eqK_iff.1 (by simpa using this)
/-- A list in a struct of its own. -/
def onT (args : List SV) (os : List (SO C11)) (k : List Tk → Nat → List SV → Tr (SV × List (SO C11))) : Tr (SV × List (SO C11)) := match args with
  | .agg [s] :: r => match decT s 0 os with
    | some (v, []) => withL v fun ts => k ts (nx v 0) r
    | _ => .fail
  | _ => .fail
theorem onT_eq {args : List SV} {os : List (SO C11)} {k : List Tk → Nat → List SV → Tr (SV × List (SO C11))} {r : SV × List (SO C11)} (h : (onT args os k).get = some r) : ∃ v a, args = .agg [hS v 0] :: a ∧ os = obT v ∧ (k (lo v) (nx v 0) a).get = some r := by
  unfold onT at h
  split at h
  · split at h
    · rename_i v hv
      obtain ⟨rfl, rfl⟩ := decT_eq hv
      rw [withL_eq] at h
      exact ⟨v, _, rfl, List.append_nil _, h⟩
    · cases h
  · cases h
def chkT : FnF C11 := fun args os => onT args os fun ts _ r => match r with
  | [] => .br (decide (ts.length ≤ 100000)) (.br (okT ts) (.leaf (.raw (.int .i64 0), [])) (.leaf (.raw (.int .i64 2), []))) .fail
  | _ => .fail
theorem chkT_ok : ∀ args os r, (chkT args os).get = some r → Fn0 Try.prog 9 args os r := fun args os r h => by
  obtain ⟨v, a, rfl, rfl, h1⟩ := onT_eq h
  clear h
  split at h1
  · obtain ⟨hl, h2⟩ := Tr.get_ask.1 h1
    refine fnC_ok (sp := noSp) (ls := lsB) (unr := unB) (d := 10) plain mixed noSp_ok lsB_ok (Eq.trans ?_ h2)
    have hT := ck_tree v
    rw [beq_self_eq_true, hl, bro_true, bro_true] at hT
    refine hT.trans ?_
    unfold okT
    cases noneP (badT (lo v)) (lo v).length <;> rfl
  · cases h1
def findT : FnF C11 := fun args os => onT args os fun ts _ r => match r with
  | [.raw (.int .i64 x)] => .br (decide (ts.length ≤ 100000)) (.leaf (.tup [.raw (.int .i64 (bsZ ts x)), .raw (.bool (fdB ts x))], [])) .fail
  | _ => .fail
theorem findT_ok : ∀ args os r, (findT args os).get = some r → Fn0 Try.prog 16 args os r := fun args os r h => by
  obtain ⟨v, a, rfl, rfl, h1⟩ := onT_eq h
  clear h
  split at h1
  · rename_i x
    obtain ⟨hl, h2⟩ := Tr.get_ask.1 h1
    refine fnC_ok (sp := noSp) (ls := lsB) (unr := unB) (d := 10) plain mixed noSp_ok lsB_ok (Eq.trans ?_ h2)
    rw [bsZ_eq]
    show _ = some (SV.tup [.raw (.int .i64 (bsI (keys (lo v)) x : Int)), .raw (.bool (fdB (lo v) x))], [])
    cases v with
    | none =>
      have h3 : (fF 16 [.agg [hS (none : Lo Tk) 0], .raw (.int .i64 x)] (obT none)).get = some (SV.tup [.raw (.int .i64 (bsI (keys []) x : Int)), .raw (.bool false)], []) := by kernel_rfl
      exact h3
    | some y =>
      obtain ⟨a, b, ts⟩ := y
      have hT := fi_tree a b ts x
      have hl' : decide (ts.length ≤ 100000) = true := hl
      rw [beq_self_eq_true, hl', bro_true, bro_true, bro_true] at hT
      refine hT.trans ?_
      show _ = some (SV.tup [.raw (.int .i64 (bsI (keys ts) x : Int)), .raw (.bool (fdB ts x))], [])
      unfold fdB
      have e : ((bsI (keys ts) x : Nat) : Int).toNat = bsI (keys ts) x := rfl
      rw [e]
      by_cases hlt : (bsI (keys ts) x : Int) < (ts.length : Int)
      · have k1 : Sx.inB ((bsI (keys ts) x : Nat) : Int) ts.length = true := inB_mk ⟨by omega, hlt⟩
        have k2 : decide (bsI (keys ts) x < ts.length) = true := decide_eq_true (by omega)
        simp only [k1, k2, decide_eq_true hlt, bro_true, bne_self_eq_false, bro_false, Bool.true_and]
        generalize (ts.getD (bsI (keys ts) x) tk0).1 = y
        by_cases h4 : y < x
        · rw [decide_eq_true h4, bro_true, show (y == x) = false from by rw [beq_eq_false_iff_ne]; omega]
        · rw [decide_eq_false h4, bro_false]
          by_cases h5 : x < y
          · rw [decide_eq_true h5, bro_true, show (y == x) = false from by rw [beq_eq_false_iff_ne]; omega]
          · rw [decide_eq_false h5, bro_false, show (y == x) = true from by rw [beq_iff_eq]; omega]
      · rw [decide_eq_false hlt, bro_false]; rfl
  · cases h1
def sameT : FnF C11 := fun args os => match args with
  | [.agg [s], .agg [t]] => match decT s 0 os with
    | some (v, os1) => match decT t (nx v 0) os1 with
      | some (w, []) => withL v fun a => withL w fun b => .br (decide (a.length ≤ 100000)) (.leaf (.raw (.bool (eqL a b)), [])) .fail
      | _ => .fail
    | _ => .fail
  | _ => .fail
theorem sameT_ok : ∀ args os r, (sameT args os).get = some r → Fn0 Try.prog 12 args os r := fun args os r h => by
  unfold sameT at h
  split at h
  · rename_i s t
    split at h
    · rename_i v os1 h1
      split at h
      · rename_i w h2
        obtain ⟨rfl, rfl⟩ := decT_eq h1
        obtain ⟨rfl, rfl⟩ := decT_eq h2
        simp only [withL_eq] at h
        obtain ⟨hl, h3⟩ := Tr.get_ask.1 h
        clear h h1 h2
        have hl : (lo v).length ≤ 100000 := of_decide_eq_true hl
        rw [List.append_nil]
        refine fnC_ok (sp := noSp) (ls := lsB) (unr := unB) (d := 10) plain mixed noSp_ok lsB_ok (Eq.trans ?_ h3)
        refine (sa_tree v w).trans ?_
        by_cases he : (lo w).length = (lo v).length
        · have k1 : (((lo v).length : Int) != ((lo w).length : Int)) = false := by rw [he]; exact bne_self_eq_false _
          have k2 : decide ((lo v).length ≤ 100000 ∧ (lo w).length = (lo v).length) = true := decide_eq_true ⟨hl, he⟩
          rw [eqL_tk he, k1, k2, beq_self_eq_true, bro_false, bro_true, bro_true]
          cases noneP (neT (lo v) (lo w)) (lo v).length <;> rfl
        · have k1 : (((lo v).length : Int) != ((lo w).length : Int)) = true := bne_iff_ne.2 fun e => he (by omega)
          rw [eqL_off fun e => he e.symm, k1]; rfl
      · cases h
    · cases h
  · cases h
/-- Events that may be. -/
def evB (e : Tk) : Bool := decide (1 ≤ e.1) && (decide (e.1 ≤ 4) && (decide (0 ≤ e.2.1) && (decide (3 ≤ e.1) || e.2.2 == 0)))
def isevT : FnF C11 := fun args os => match args, os with
  | [.agg [.raw (.int .i64 k), .raw (.int .i64 t), .raw (.int .u32 w)]], [] => .leaf (.raw (.bool (evB (k, t, w))), [])
  | _, _ => .fail
theorem isevT_ok : ∀ args os r, (isevT args os).get = some r → Fn0 Try.prog 18 args os r := fun args os r h => by
  unfold isevT at h
  split at h
  · rename_i k t w
    refine fnC_ok (sp := noSp) (ls := lsB) (unr := unB) (d := 10) plain mixed noSp_ok lsB_ok (Eq.trans ?_ h)
    refine (ev_tree k t w).trans ?_
    show _ = some (SV.raw (Value.bool (evB (k, t, w))), [])
    unfold evB
    simp only
    generalize decide (1 ≤ k) = b1
    generalize decide (k ≤ 4) = b2
    generalize decide (0 ≤ t) = b3
    generalize decide (3 ≤ k) = b4
    generalize (w == 0) = b5
    cases b1 <;> cases b2 <;> cases b3 <;> cases b4 <;> cases b5 <;> rfl
  · cases h
def sfP : SpecT C11 := addS 9 (seeS chkT) (addS 16 (seeS findT) (addS 18 (seeS isevT) spX))
theorem sfP_ok : SpecTOk Try.prog sfP := addS_ok (seeS_ok chkT_ok) (addS_ok (seeS_ok findT_ok) (addS_ok (seeS_ok isevT_ok) spX_ok))
abbrev fP (g : Nat) (args : List SV) (os : List (SO C11)) := fnC C11 Try.prog sfP lsB unB 10 g args os
abbrev evS (e : Tk) : SV := .agg [.raw (.int .i64 e.1), .raw (.int .i64 e.2.1), .raw (.int .u32 e.2.2)]
end
end Go.Proofs.Ytiaboemkgpkcpaa
