/-
  Chapter 24: FilterStays, what it stands on: bytes of one's own, Ctrl with one answer for all but addresses. Own work; nothing here is trusted.
-/
import Derived.Test.YtgepgnjjhgmfnaaCh24Same
import Derived.Test.YtgepgnjjhgmfnaaCh24CtrU
import Derived.Test.YtgepgnjjhgmfnaaCh24Pas0
namespace Go.Proofs.Ytgepgnjjhgmfnaa
open Go Go.Sx Go.RowKit
set_option maxRecDepth 1000000
set_option maxHeartbeats 8000000
set_option linter.unusedVariables false
set_option linter.unusedSimpArgs false
noncomputable section
theorem ob_n : (fnC C24 Try.prog noSp noLs (fun _ _ => 20) 10 14 [hS (none : Lo Int) 0] (obB none)).get = some (.h 0, [.sl true false 5 []]) := by kernel_rfl
theorem ob_s (a b : Bool) (l : List Int) : (fnC C24 Try.prog noSp noLs (fun _ _ => 20) 10 14 [hS (some (a, b, l)) 0] (obB (some (a, b, l)))).get = bro (roomB (([] : List Int).length + l.length) Try.prog.types[(5 : Nat)].bytes) (some (.h 1, [.sl true false 5 l])) none := by kernel_rfl
theorem ob_a (a : Option Addr) : (fnC C24 Try.prog noSp noLs (fun _ _ => 20) 10 14 [.raw (.slice a 0 0)] []).get = some (.h 0, [.sl true false 5 []]) := by kernel_rfl
theorem bytes5 : Try.prog.types[(5 : Nat)].bytes ≤ 1000 := by
  have h : Nat.ble Try.prog.types[(5 : Nat)].bytes 1000 = true := by kernel_rfl
  exact Nat.le_of_ble_eq_true h
theorem roomY {n : Nat} (h : n ≤ 200000) : roomB n Try.prog.types[(5 : Nat)].bytes = true := decide_eq_true (Nat.le_trans (Nat.mul_le_mul h bytes5) (by decide))
def ownbT : FnF C24 := fun args os => match args with
  | [.raw (.slice a 0 0)] => match os with
    | [] => .br (decide (([] : List Int).length ≤ 100000)) (.leaf (.h 0, [.sl true false 5 []])) .fail
    | _ => .fail
  | [s] => match decB s 0 os with
    | some (b, []) => withL b fun bs => .br (decide (bs.length ≤ 100000)) (.leaf (.h (nx b 0), [.sl true false 5 bs])) .fail
    | _ => .fail
  | _ => .fail
theorem ownbT_ok : ∀ args os r, (ownbT args os).get = some r → Fn0 Try.prog 14 args os r := fun args os r h => by
  unfold ownbT at h
  split at h
  · split at h
    · rename_i a _
      obtain ⟨_, h2⟩ := Tr.get_ask.1 h
      exact fnC_ok (sp := noSp) (ls := noLs) (unr := fun _ _ => 20) (d := 10) plain mixed noSp_ok noLs_ok (Eq.trans (ob_a a) h2)
    · cases h
  · split at h
    · rename_i s hs b hb
      obtain ⟨rfl, rfl⟩ := decB_eq hb
      rw [withL_eq] at h
      obtain ⟨hl, h2⟩ := Tr.get_ask.1 h
      have hl : (lo b).length ≤ 100000 := of_decide_eq_true hl
      refine fnC_ok (sp := noSp) (ls := noLs) (unr := fun _ _ => 20) (d := 10) plain mixed noSp_ok noLs_ok (Eq.trans ?_ h2)
      rw [List.append_nil]
      cases b with
      | none => exact ob_n
      | some x =>
        obtain ⟨a, b, l⟩ := x
        refine (ob_s a b l).trans ?_
        rw [roomY (by change l.length ≤ 100000 at hl; simp only [List.length_nil]; omega)]
        rfl
    · cases h
  · cases h
def ctrlX : FnF C24 := fun args os => match args with
  | [.raw (.int .u64 feats), .agg cs, s] => match decF cs 0 os with
    | some (((x0, x1, x2, x3, x4, x5), p, q, some (a1, b1, ol), some (a2, b2, gl), some (a, b, vl)), os1) => match decB s 3 os1 with
      | some (some (false, f, bs), []) => .br (smX ol gl vl) (.br (byB bs) (.br (Nat.beq (ocK (ctO feats ((x0, x1, x2, x3, x4, x5), p, q, ol, gl, vl) bs)) 3)
          (.br (ocX (ctO feats ((x0, x1, x2, x3, x4, x5), p, q, ol, gl, vl) bs)) (.br (ocY (ctO feats ((x0, x1, x2, x3, x4, x5), p, q, ol, gl, vl) bs))
            (.leaf (.tup [clnS ((x0, x1, x2, x3, x4, x5), p, q, none, none, some (a, b, vl)) 4, .raw (.int .u8 0)], clnO ((x0, x1, x2, x3, x4, x5), p, q, none, none, some (a, b, vl))))
            (.leaf (.tup [clnS ((x0, x1, x2, x3, x4, x5), p, q, none, some (true, false, ocG (ctO feats ((x0, x1, x2, x3, x4, x5), p, q, ol, gl, vl) bs)), some (a, b, vl)) 4, .raw (.int .u8 0)], clnO ((x0, x1, x2, x3, x4, x5), p, q, none, some (true, false, ocG (ctO feats ((x0, x1, x2, x3, x4, x5), p, q, ol, gl, vl) bs)), some (a, b, vl)))))
          (.br (ocY (ctO feats ((x0, x1, x2, x3, x4, x5), p, q, ol, gl, vl) bs))
            (.leaf (.tup [clnS ((x0, x1, x2, x3, x4, x5), p, q, some (true, false, ocO (ctO feats ((x0, x1, x2, x3, x4, x5), p, q, ol, gl, vl) bs)), none, some (a, b, vl)) 4, .raw (.int .u8 0)], clnO ((x0, x1, x2, x3, x4, x5), p, q, some (true, false, ocO (ctO feats ((x0, x1, x2, x3, x4, x5), p, q, ol, gl, vl) bs)), none, some (a, b, vl))))
            (.leaf (.tup [clnS ((x0, x1, x2, x3, x4, x5), p, q, some (true, false, ocO (ctO feats ((x0, x1, x2, x3, x4, x5), p, q, ol, gl, vl) bs)), some (true, false, ocG (ctO feats ((x0, x1, x2, x3, x4, x5), p, q, ol, gl, vl) bs)), some (a, b, vl)) 4, .raw (.int .u8 0)], clnO ((x0, x1, x2, x3, x4, x5), p, q, some (true, false, ocO (ctO feats ((x0, x1, x2, x3, x4, x5), p, q, ol, gl, vl) bs)), some (true, false, ocG (ctO feats ((x0, x1, x2, x3, x4, x5), p, q, ol, gl, vl) bs)), some (a, b, vl))))))
          (.leaf (.tup [clnS (ocM ((x0, x1, x2, x3, x4, x5), p, q, ol, gl, vl) (ctO feats ((x0, x1, x2, x3, x4, x5), p, q, ol, gl, vl) bs), ocP ((x0, x1, x2, x3, x4, x5), p, q, ol, gl, vl) (ctO feats ((x0, x1, x2, x3, x4, x5), p, q, ol, gl, vl) bs), ocQ ((x0, x1, x2, x3, x4, x5), p, q, ol, gl, vl) (ctO feats ((x0, x1, x2, x3, x4, x5), p, q, ol, gl, vl) bs), some (true, false, ol), some (true, false, gl), some (true, false, ocW ((x0, x1, x2, x3, x4, x5), p, q, ol, gl, vl) (ctO feats ((x0, x1, x2, x3, x4, x5), p, q, ol, gl, vl) bs))) 4, .raw (.int .u8 (ocE (ctO feats ((x0, x1, x2, x3, x4, x5), p, q, ol, gl, vl) bs)))],
            [.sl true false 22 ol, .sl true false 22 gl, .sl true false 3 (ocW ((x0, x1, x2, x3, x4, x5), p, q, ol, gl, vl) (ctO feats ((x0, x1, x2, x3, x4, x5), p, q, ol, gl, vl) bs))]))) .fail) .fail
      | _ => .fail
    | _ => .fail
  | _ => .fail
theorem ctrlX_ok : ∀ args os r, (ctrlX args os).get = some r → Fn0 Try.prog 12 args os r := fun args os r h => by
  refine ctrlT_ok args os r ?_
  unfold ctrlX at h
  unfold ctrlT
  split at h
  · rename_i feats cs s
    split at h
    · rename_i x0 x1 x2 x3 x4 x5 p q a1 b1 ol a2 b2 gl a b vl os1 hF
      split at h
      · rename_i f bs hB
        have hB' : decB s (fltN ((x0, x1, x2, x3, x4, x5), p, q, some (a1, b1, ol), some (a2, b2, gl), some (a, b, vl)) 0) os1 = some (some (false, f, bs), []) := hB
        simp only [hF, hB']
        simp only [withL_eq]
        obtain ⟨hs, h2⟩ := Tr.get_ask.1 h
        obtain ⟨hb, h3⟩ := Tr.get_ask.1 h2
        clear h h2
        refine Tr.get_ask.2 ⟨hs, Tr.get_ask.2 ⟨hb, ?_⟩⟩
        show (ctT _ p q (some (a1, b1, ol)) (some (a2, b2, gl)) (some (a, b, vl)) _ ((x0, x1, x2, x3, x4, x5), p, q, ol, gl, vl) (ctO feats ((x0, x1, x2, x3, x4, x5), p, q, ol, gl, vl) bs)).get = some r
        generalize ctO feats ((x0, x1, x2, x3, x4, x5), p, q, ol, gl, vl) bs = x at h3 ⊢
        cases x with
        | err => exact h3
        | keep m p' q' => exact h3
        | vl l => exact h3
        | tab a b => cases a <;> cases b <;> exact h3
      · cases h
    · cases h
  · cases h
def sfY : SpecT C24 := addS 9 (seeS livT) (addS 10 (seeS lightT) (addS 11 (seeS chkT) (addS 12 (seeS ctrlX) (addS 13 (seeS ownT) (addS 14 (seeS ownbT) (addS 15 (seeS sameT) noSp))))))
theorem sfY_ok : SpecTOk Try.prog sfY := addS_ok (seeS_ok livT_ok) (addS_ok (seeS_ok lightT_ok) (addS_ok (seeS_ok chkT_ok) (addS_ok (seeS_ok ctrlX_ok) (addS_ok (seeS_ok ownT_ok) (addS_ok (seeS_ok ownbT_ok) (addS_ok (seeS_ok filtT_ok) noSp_ok))))))
/-! ### the loop -/
/-- A list of byte strings, as it is told. -/
abbrev Bs := List ((C24 33).α × Option (Addr × Nat) × List (C24 5).α)
abbrev ySl : List Nat := [3, 1, 2, 7, 6]
@[reducible] def yA (F : Fv) (feats : Int) (l : Bs) (K : Int) (R : Bool) : List SV × List (SO C24) := ([.h 0, .raw (.int .u64 feats), .h 1, .raw (.int .i64 K), .raw (.bool R)], .box (fltC F 2) 26 :: .ss 33 0 5 l :: fltO F)
@[reducible] def yB (F G : Fv) (feats : Int) (l : Bs) (K : Int) (R : Bool) : List SV × List (SO C24) := ([.h 0, .raw (.int .u64 feats), .h 1, .raw (.int .i64 K), .raw (.bool R)], .box (fltC G (fltN F 2)) 26 :: .ss 33 0 5 l :: (fltO F ++ fltO G))
abbrev yRA (F : Fv) (feats : Int) (l : Bs) (K : Int) := roundG C24 Try.prog sfY noLs (fun _ _ => 20) 10 3 0 ySl ⟨(yA F feats l K false).1, fltN F 2, (yA F feats l K false).2⟩
abbrev yRB (F G : Fv) (feats : Int) (l : Bs) (K : Int) := roundG C24 Try.prog sfY noLs (fun _ _ => 20) 10 3 0 ySl ⟨(yB F G feats l K false).1, fltN F 2, (yB F G feats l K false).2⟩
end
end Go.Proofs.Ytgepgnjjhgmfnaa
