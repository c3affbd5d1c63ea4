/-
  Chapter 24: light, Check, own as specifications. Own work; nothing here is trusted.
-/
import Derived.Test.YtgepgnjjhgmfnaaCh24Fns0
namespace Go.Proofs.Ytgepgnjjhgmfnaa
open Go Go.Sx Go.RowKit
set_option maxRecDepth 1000000
set_option maxHeartbeats 8000000
set_option linter.unusedVariables false
set_option linter.unusedSimpArgs false
noncomputable section

theorem ck_1 (m : Mac) (p q : Bool) (o g : Lo Mac) (v : Lo Int) : Tr.follow [true, true, true, true, true, true] (f24C (m, p, q, o, g, v)) =
  some ([decide ((32 : Int) < (↑(lo o).length : Int)),
  true,
  true,
  true,
  true,
  true],
  (SV.raw (Value.int IntKind.i64 (2 : Int)), [])) := by cases o <;> cases g <;> cases v <;> kernel_rfl
theorem ck_2 (m : Mac) (p q : Bool) (o g : Lo Mac) (v : Lo Int) : Tr.follow [false, false, false, false, true] (f24C (m, p, q, o, g, v)) =
  some ([decide ((32 : Int) < (↑(lo o).length : Int)),
  false,
  false,
  false,
  decide ((32 : Int) < (↑(lo g).length : Int))],
  (SV.raw (Value.int IntKind.i64 (2 : Int)), [])) := by cases o <;> cases g <;> cases v <;> kernel_rfl
theorem ck_ok (m : Mac) (p q : Bool) (o g : Lo Mac) (v : Lo Int) : Tr.follow [false, false, false, false, false, true, true, true] (f24C (m, p, q, o, g, v)) =
  some ([decide ((32 : Int) < (↑(lo o).length : Int)),
  false,
  false,
  false,
  decide ((32 : Int) < (↑(lo g).length : Int)),
  (↑(lo v).length : Int) == (↑(lo v).length : Int),
  decide ((lo v).length ≤ (100000 : Nat)),
  noneP (badV (lo v)) (lo v).length],
  (SV.raw (Value.int IntKind.i64 (0 : Int)), [])) := by cases o <;> cases g <;> cases v <;> kernel_rfl
theorem ck_bad (m : Mac) (p q : Bool) (o g : Lo Mac) (v : Lo Int) : Tr.follow [false, false, false, false, false, true, true, false] (f24C (m, p, q, o, g, v)) =
  some ([decide ((32 : Int) < (↑(lo o).length : Int)),
  false,
  false,
  false,
  decide ((32 : Int) < (↑(lo g).length : Int)),
  (↑(lo v).length : Int) == (↑(lo v).length : Int),
  decide ((lo v).length ≤ (100000 : Nat)),
  noneP (badV (lo v)) (lo v).length],
  (SV.raw (Value.int IntKind.i64 (2 : Int)), [])) := by cases o <;> cases g <;> cases v <;> kernel_rfl
theorem li_1 (m : Mac) (p q : Bool) (o g : Lo Mac) (v : Lo Int) : Tr.follow [false, false, false, false, false, false, false, false, false, false] (f24L (m, p, q, o, g, v)) =
  some ([decide ((↑(lo o).length : Int) ≤ (60 : Int)),
  false,
  false,
  false,
  false,
  false,
  false,
  false,
  false,
  false],
  (SV.raw (Value.bool false), [])) := by cases o <;> cases g <;> cases v <;> kernel_rfl
theorem li_2 (m : Mac) (p q : Bool) (o g : Lo Mac) (v : Lo Int) : Tr.follow [true, true, true, true, false, false, false, false, false] (f24L (m, p, q, o, g, v)) =
  some ([decide ((↑(lo o).length : Int) ≤ (60 : Int)),
  true,
  true,
  true,
  decide ((↑(lo g).length : Int) ≤ (60 : Int)),
  false,
  false,
  false,
  false],
  (SV.raw (Value.bool false), [])) := by cases o <;> cases g <;> cases v <;> kernel_rfl
theorem li_3 (m : Mac) (p q : Bool) (o g : Lo Mac) (v : Lo Int) : Tr.follow [true, true, true, true, true, true, true, true] (f24L (m, p, q, o, g, v)) =
  some ([decide ((↑(lo o).length : Int) ≤ (60 : Int)),
  true,
  true,
  true,
  decide ((↑(lo g).length : Int) ≤ (60 : Int)),
  true,
  true,
  true],
  (SV.raw (Value.bool (decide ((↑(lo v).length : Int) ≤ (60 : Int)))), [])) := by cases o <;> cases g <;> cases v <;> kernel_rfl
theorem li_ok (m : Mac) (p q : Bool) (o g : Lo Mac) (v : Lo Int) : Tr.follow [true, true, true, true, true, true, true, true] (f24L (m, p, q, o, g, v)) =
  some ([decide ((↑(lo o).length : Int) ≤ (60 : Int)),
  true,
  true,
  true,
  decide ((↑(lo g).length : Int) ≤ (60 : Int)),
  true,
  true,
  true],
  (SV.raw (Value.bool (decide ((↑(lo v).length : Int) ≤ (60 : Int)))), [])) := by cases o <;> cases g <;> cases v <;> kernel_rfl
theorem ow (m : Mac) (p q : Bool) (o g : Lo Mac) (v : Lo Int) : Tr.follow [true, true, true] (f24O (m, p, q, o, g, v)) =
  some ([roomB (([] : List Mac).length + (lo o).length) Try.prog.types[(22 : Nat)].bytes,
  roomB (([] : List Mac).length + (lo g).length) Try.prog.types[(22 : Nat)].bytes,
  roomB (([] : List Int).length + (lo v).length) Try.prog.types[(3 : Nat)].bytes],
  (.agg (fltL m p q (.h (fltN (m, p, q, o, g, v) 0)) (.h (fltN (m, p, q, o, g, v) 0 + 1)) (.h (fltN (m, p, q, o, g, v) 0 + 2))), [.sl true false 22 (lo o), .sl true false 22 (lo g), .sl true false 3 (lo v)])) := by cases o <;> cases g <;> cases v <;> kernel_rfl

/-- A filter by its lists. -/
abbrev Fp := Mac × Bool × Bool × List Mac × List Mac × List Int
abbrev plF (F : Fv) : Fp := (F.1, F.2.1, F.2.2.1, lo F.2.2.2.1, lo F.2.2.2.2.1, lo F.2.2.2.2.2)
/-- Filters that are valid. -/
def okF (F : Fp) : Bool := !decide ((32 : Int) < (F.2.2.2.1.length : Int)) && (!decide ((32 : Int) < (F.2.2.2.2.1.length : Int)) && noneP (badV F.2.2.2.2.2) F.2.2.2.2.2.length)
def liF (F : Fp) : Bool := decide ((F.2.2.2.1.length : Int) ≤ 60) && (decide ((F.2.2.2.2.1.length : Int) ≤ 60) && decide ((F.2.2.2.2.2.length : Int) ≤ 60))
def smF (F : Fp) : Bool := decide (F.2.2.2.1.length ≤ 100000 ∧ F.2.2.2.2.1.length ≤ 100000 ∧ F.2.2.2.2.2.length ≤ 100000)
def withL {α β : Type} (o : Lo α) (k : List α → β) : β := match o with
  | none => k []
  | some (_, _, l) => k l
theorem withL_eq {α β : Type} (o : Lo α) (k : List α → β) : withL o k = k (lo o) := by cases o <;> rfl
def onF (args : List SV) (os : List (SO C24)) (k : Fp → Nat → Tr (SV × List (SO C24))) : Tr (SV × List (SO C24)) := match args with
  | [.agg cs] => match decF cs 0 os with
    | some (((x0, x1, x2, x3, x4, x5), p, q, o, g, v), []) => withL o fun ol => withL g fun gl => withL v fun vl => k ((x0, x1, x2, x3, x4, x5), p, q, ol, gl, vl) (fltN ((x0, x1, x2, x3, x4, x5), p, q, o, g, v) 0)
    | _ => .fail
  | _ => .fail
theorem onF_eq {args : List SV} {os : List (SO C24)} {k : Fp → Nat → Tr (SV × List (SO C24))} {r : SV × List (SO C24)} (h : (onF args os k).get = some r) : ∃ F, args = [.agg (fltC F 0)] ∧ os = fltO F ∧ (k (plF F) (fltN F 0)).get = some r := by
  unfold onF at h
  split at h
  · split at h
    · rename_i hF
      obtain ⟨rfl, rfl⟩ := decF_eq hF
      simp only [withL_eq] at h
      exact ⟨_, rfl, List.append_nil _, h⟩
    · cases h
  · cases h
def chkT : FnF C24 := fun args os => onF args os fun F _ => .br (smF F) (.br (okF F) (.leaf (.raw (.int .i64 0), [])) (.leaf (.raw (.int .i64 2), []))) .fail
def lightT : FnF C24 := fun args os => onF args os fun F _ => .leaf (.raw (.bool (liF F)), [])
def ownT : FnF C24 := fun args os => onF args os fun F n => .br (smF F) (.leaf (.agg (fltL F.1 F.2.1 F.2.2.1 (.h n) (.h (n + 1)) (.h (n + 2))), [.sl true false 22 F.2.2.2.1, .sl true false 22 F.2.2.2.2.1, .sl true false 3 F.2.2.2.2.2])) .fail
theorem chkT_ok : ∀ args os r, (chkT args os).get = some r → Fn0 Try.prog 11 args os r := fun args os r h => by
  obtain ⟨F, rfl, rfl, h1⟩ := onF_eq h
  clear h
  obtain ⟨m, p, q, o, g, v⟩ := F
  obtain ⟨hs, h2⟩ := Tr.get_ask.1 h1
  refine fnC_ok (sp := noSp) (ls := lsF) (unr := unF) (d := 10) plain mixed noSp_ok lsF_ok (Eq.trans ?_ h2)
  have hs : (lo o).length ≤ 100000 ∧ (lo g).length ≤ 100000 ∧ (lo v).length ≤ 100000 := of_decide_eq_true hs
  have k1 : decide ((lo v).length ≤ 100000) = true := decide_eq_true hs.2.2
  have k2 : (((lo v).length : Int) == ((lo v).length : Int)) = true := beq_self_eq_true _
  unfold okF
  simp only
  cases h1 : decide ((32 : Int) < ((lo o).length : Int)) with
  | true => exact Tr.follow_get (ck_1 m p q o g v) (by simp only [h1])
  | false =>
    cases h2 : decide ((32 : Int) < ((lo g).length : Int)) with
    | true => exact Tr.follow_get (ck_2 m p q o g v) (by simp only [h1, h2])
    | false =>
      cases h3 : noneP (badV (lo v)) (lo v).length with
      | true => exact Tr.follow_get (ck_ok m p q o g v) (by simp only [h1, h2, h3, k1, k2])
      | false => exact Tr.follow_get (ck_bad m p q o g v) (by simp only [h1, h2, h3, k1, k2])
theorem lightT_ok : ∀ args os r, (lightT args os).get = some r → Fn0 Try.prog 10 args os r := fun args os r h => by
  obtain ⟨F, rfl, rfl, h1⟩ := onF_eq h
  clear h
  obtain ⟨m, p, q, o, g, v⟩ := F
  refine fnC_ok (sp := noSp) (ls := lsF) (unr := unF) (d := 10) plain mixed noSp_ok lsF_ok (Eq.trans ?_ h1)
  unfold liF
  simp only
  cases h1 : decide (((lo o).length : Int) ≤ 60) with
  | false => exact Tr.follow_get (li_1 m p q o g v) (by simp only [h1])
  | true =>
    cases h2 : decide (((lo g).length : Int) ≤ 60) with
    | false => exact Tr.follow_get (li_2 m p q o g v) (by simp only [h1, h2])
    | true => exact Tr.follow_get (li_3 m p q o g v) (by simp only [h1, h2])
theorem bytes22 : Try.prog.types[(22 : Nat)].bytes ≤ 1000 := by
  have h : Nat.ble Try.prog.types[(22 : Nat)].bytes 1000 = true := by kernel_rfl
  exact Nat.le_of_ble_eq_true h
theorem bytes3 : Try.prog.types[(3 : Nat)].bytes ≤ 1000 := by
  have h : Nat.ble Try.prog.types[(3 : Nat)].bytes 1000 = true := by kernel_rfl
  exact Nat.le_of_ble_eq_true h
theorem roomM {n : Nat} (h : n ≤ 200000) : roomB n Try.prog.types[(22 : Nat)].bytes = true := decide_eq_true (Nat.le_trans (Nat.mul_le_mul h bytes22) (by decide))
theorem roomI {n : Nat} (h : n ≤ 200000) : roomB n Try.prog.types[(3 : Nat)].bytes = true := decide_eq_true (Nat.le_trans (Nat.mul_le_mul h bytes3) (by decide))
theorem ownT_ok : ∀ args os r, (ownT args os).get = some r → Fn0 Try.prog 13 args os r := fun args os r h => by
  obtain ⟨F, rfl, rfl, h1⟩ := onF_eq h
  clear h
  obtain ⟨m, p, q, o, g, v⟩ := F
  obtain ⟨hs, h2⟩ := Tr.get_ask.1 h1
  refine fnC_ok (sp := noSp) (ls := lsF) (unr := unF) (d := 10) plain mixed noSp_ok lsF_ok (Eq.trans ?_ h2)
  have hs : (lo o).length ≤ 100000 ∧ (lo g).length ≤ 100000 ∧ (lo v).length ≤ 100000 := of_decide_eq_true hs
  exact Tr.follow_get (ow m p q o g v) (by rw [roomM (show ([] : List Mac).length + (lo o).length ≤ 200000 by simp; omega), roomM (show ([] : List Mac).length + (lo g).length ≤ 200000 by simp; omega), roomI (show ([] : List Int).length + (lo v).length ≤ 200000 by simp; omega)])
def sfP : SpecT C24 := addS 11 (seeS chkT) noSp
theorem sfP_ok : SpecTOk Try.prog sfP := addS_ok (seeS_ok chkT_ok) noSp_ok
abbrev f24P (feats : Int) (F : Fv) (x : Rv) := fnC C24 Try.prog sfP lsF unF 10 16 [.raw (.int .u64 feats), .agg (fltC F 0), .agg (frmC x (fltN F 0))] (fltO F ++ obB x.2.2.2.2)
end
end Go.Proofs.Ytgepgnjjhgmfnaa
