/-
  Chapter 24: the program's own copy of a filter as a specification. Own work; nothing here is trusted.
-/
import Derived.Test.YtgepgnjjhgmfnaaCh24Fns
namespace Go.Proofs.Ytgepgnjjhgmfnaa
open Go Go.Sx Go.RowKit
set_option maxRecDepth 1000000
set_option maxHeartbeats 8000000
set_option linter.unusedVariables false
set_option linter.unusedSimpArgs false
noncomputable section
@[reducible] def cpM (o : Lo Mac) : List (SO C24) := match o with
  | none => []
  | some x => [.sl true false 22 x.2.2]
@[reducible] def cpI (o : Lo Int) : List (SO C24) := match o with
  | none => []
  | some x => [.sl true false 3 x.2.2]
/-- A copy, its lists numbered from n on. -/
@[reducible] def clnS (F : Fv) (n : Nat) : SV := .agg (fltC F n)
@[reducible] def clnO (F : Fv) : List (SO C24) := cpM F.2.2.2.1 ++ (cpM F.2.2.2.2.1 ++ cpI F.2.2.2.2.2)
theorem cl_0 (m : Mac) (p q : Bool) (a1 b1 a2 b2 a3 b3 : Bool) (OS GS : List Mac) (VS : List Int) : Tr.follow [true, true, true] (fnC C24 Try.prog noSp noLs (fun _ _ => 20) 10 36 [.agg (fltC (m, p, q, none, none, none) 0)] (fltO (m, p, q, none, none, none))) =
  some ([true,
  true,
  true],
  (clnS (m, p, q, none, none, none) (fltN (m, p, q, none, none, none) 0), clnO (m, p, q, none, none, none))) := by kernel_rfl
theorem cl_1 (m : Mac) (p q : Bool) (a1 b1 a2 b2 a3 b3 : Bool) (OS GS : List Mac) (VS : List Int) : Tr.follow [false, true, true, true] (fnC C24 Try.prog noSp noLs (fun _ _ => 20) 10 36 [.agg (fltC (m, p, q, some (a1, b1, OS), none, none) 0)] (fltO (m, p, q, some (a1, b1, OS), none, none))) =
  some ([false,
  roomB (([] : List Mac).length + OS.length) Try.prog.types[(22 : Nat)].bytes,
  true,
  true],
  (clnS (m, p, q, some (a1, b1, OS), none, none) (fltN (m, p, q, some (a1, b1, OS), none, none) 0), clnO (m, p, q, some (a1, b1, OS), none, none))) := by kernel_rfl
theorem cl_2 (m : Mac) (p q : Bool) (a1 b1 a2 b2 a3 b3 : Bool) (OS GS : List Mac) (VS : List Int) : Tr.follow [true, false, true, true] (fnC C24 Try.prog noSp noLs (fun _ _ => 20) 10 36 [.agg (fltC (m, p, q, none, some (a2, b2, GS), none) 0)] (fltO (m, p, q, none, some (a2, b2, GS), none))) =
  some ([true,
  false,
  roomB (([] : List Mac).length + GS.length) Try.prog.types[(22 : Nat)].bytes,
  true],
  (clnS (m, p, q, none, some (a2, b2, GS), none) (fltN (m, p, q, none, some (a2, b2, GS), none) 0), clnO (m, p, q, none, some (a2, b2, GS), none))) := by kernel_rfl
theorem cl_3 (m : Mac) (p q : Bool) (a1 b1 a2 b2 a3 b3 : Bool) (OS GS : List Mac) (VS : List Int) : Tr.follow [false, true, false, true, true] (fnC C24 Try.prog noSp noLs (fun _ _ => 20) 10 36 [.agg (fltC (m, p, q, some (a1, b1, OS), some (a2, b2, GS), none) 0)] (fltO (m, p, q, some (a1, b1, OS), some (a2, b2, GS), none))) =
  some ([false,
  roomB (([] : List Mac).length + OS.length) Try.prog.types[(22 : Nat)].bytes,
  false,
  roomB (([] : List Mac).length + GS.length) Try.prog.types[(22 : Nat)].bytes,
  true],
  (clnS (m, p, q, some (a1, b1, OS), some (a2, b2, GS), none) (fltN (m, p, q, some (a1, b1, OS), some (a2, b2, GS), none) 0), clnO (m, p, q, some (a1, b1, OS), some (a2, b2, GS), none))) := by kernel_rfl
theorem cl_4 (m : Mac) (p q : Bool) (a1 b1 a2 b2 a3 b3 : Bool) (OS GS : List Mac) (VS : List Int) : Tr.follow [true, true, false, true] (fnC C24 Try.prog noSp noLs (fun _ _ => 20) 10 36 [.agg (fltC (m, p, q, none, none, some (a3, b3, VS)) 0)] (fltO (m, p, q, none, none, some (a3, b3, VS)))) =
  some ([true,
  true,
  false,
  roomB (([] : List Int).length + VS.length) Try.prog.types[(3 : Nat)].bytes],
  (clnS (m, p, q, none, none, some (a3, b3, VS)) (fltN (m, p, q, none, none, some (a3, b3, VS)) 0), clnO (m, p, q, none, none, some (a3, b3, VS)))) := by kernel_rfl
theorem cl_5 (m : Mac) (p q : Bool) (a1 b1 a2 b2 a3 b3 : Bool) (OS GS : List Mac) (VS : List Int) : Tr.follow [false, true, true, false, true] (fnC C24 Try.prog noSp noLs (fun _ _ => 20) 10 36 [.agg (fltC (m, p, q, some (a1, b1, OS), none, some (a3, b3, VS)) 0)] (fltO (m, p, q, some (a1, b1, OS), none, some (a3, b3, VS)))) =
  some ([false,
  roomB (([] : List Mac).length + OS.length) Try.prog.types[(22 : Nat)].bytes,
  true,
  false,
  roomB (([] : List Int).length + VS.length) Try.prog.types[(3 : Nat)].bytes],
  (clnS (m, p, q, some (a1, b1, OS), none, some (a3, b3, VS)) (fltN (m, p, q, some (a1, b1, OS), none, some (a3, b3, VS)) 0), clnO (m, p, q, some (a1, b1, OS), none, some (a3, b3, VS)))) := by kernel_rfl
theorem cl_6 (m : Mac) (p q : Bool) (a1 b1 a2 b2 a3 b3 : Bool) (OS GS : List Mac) (VS : List Int) : Tr.follow [true, false, true, false, true] (fnC C24 Try.prog noSp noLs (fun _ _ => 20) 10 36 [.agg (fltC (m, p, q, none, some (a2, b2, GS), some (a3, b3, VS)) 0)] (fltO (m, p, q, none, some (a2, b2, GS), some (a3, b3, VS)))) =
  some ([true,
  false,
  roomB (([] : List Mac).length + GS.length) Try.prog.types[(22 : Nat)].bytes,
  false,
  roomB (([] : List Int).length + VS.length) Try.prog.types[(3 : Nat)].bytes],
  (clnS (m, p, q, none, some (a2, b2, GS), some (a3, b3, VS)) (fltN (m, p, q, none, some (a2, b2, GS), some (a3, b3, VS)) 0), clnO (m, p, q, none, some (a2, b2, GS), some (a3, b3, VS)))) := by kernel_rfl
theorem cl_7 (m : Mac) (p q : Bool) (a1 b1 a2 b2 a3 b3 : Bool) (OS GS : List Mac) (VS : List Int) : Tr.follow [false, true, false, true, false, true] (fnC C24 Try.prog noSp noLs (fun _ _ => 20) 10 36 [.agg (fltC (m, p, q, some (a1, b1, OS), some (a2, b2, GS), some (a3, b3, VS)) 0)] (fltO (m, p, q, some (a1, b1, OS), some (a2, b2, GS), some (a3, b3, VS)))) =
  some ([false,
  roomB (([] : List Mac).length + OS.length) Try.prog.types[(22 : Nat)].bytes,
  false,
  roomB (([] : List Mac).length + GS.length) Try.prog.types[(22 : Nat)].bytes,
  false,
  roomB (([] : List Int).length + VS.length) Try.prog.types[(3 : Nat)].bytes],
  (clnS (m, p, q, some (a1, b1, OS), some (a2, b2, GS), some (a3, b3, VS)) (fltN (m, p, q, some (a1, b1, OS), some (a2, b2, GS), some (a3, b3, VS)) 0), clnO (m, p, q, some (a1, b1, OS), some (a2, b2, GS), some (a3, b3, VS)))) := by kernel_rfl
def cloneT : FnF C24 := fun args os => match args with
  | [.agg cs] => match decF cs 0 os with
    | some (((x0, x1, x2, x3, x4, x5), p, q, o, g, v), []) => withL o fun ol => withL g fun gl => withL v fun vl => .br (smF ((x0, x1, x2, x3, x4, x5), p, q, ol, gl, vl)) (.leaf (clnS ((x0, x1, x2, x3, x4, x5), p, q, o, g, v) (fltN ((x0, x1, x2, x3, x4, x5), p, q, o, g, v) 0), clnO ((x0, x1, x2, x3, x4, x5), p, q, o, g, v))) .fail
    | _ => .fail
  | _ => .fail
theorem cloneT_ok : ∀ args os r, (cloneT args os).get = some r → Fn0 Try.prog 36 args os r := fun args os r h => by
  unfold cloneT at h
  split at h
  · split at h
    · rename_i x0 x1 x2 x3 x4 x5 p q o g v hF
      obtain ⟨rfl, rfl⟩ := decF_eq hF
      simp only [withL_eq] at h
      obtain ⟨hs, h2⟩ := Tr.get_ask.1 h
      have hs : (lo o).length ≤ 100000 ∧ (lo g).length ≤ 100000 ∧ (lo v).length ≤ 100000 := of_decide_eq_true hs
      clear h hF
      rw [List.append_nil]
      refine fnC_ok (sp := noSp) (ls := noLs) (unr := fun _ _ => 20) (d := 10) plain mixed noSp_ok noLs_ok (Eq.trans ?_ h2)
      have r1 : ∀ l : List Mac, l.length ≤ 100000 → roomB (([] : List Mac).length + l.length) Try.prog.types[(22 : Nat)].bytes = true := fun l hl => roomM (by simp; omega)
      have r2 : ∀ l : List Int, l.length ≤ 100000 → roomB (([] : List Int).length + l.length) Try.prog.types[(3 : Nat)].bytes = true := fun l hl => roomI (by simp; omega)
      cases o with
      | none =>
        cases g with
        | none =>
          cases v with
          | none => exact Tr.follow_get (cl_0 (x0, x1, x2, x3, x4, x5) p q false false false false false false [] [] []) rfl
          | some v => obtain ⟨a3, b3, VS⟩ := v; exact Tr.follow_get (cl_4 (x0, x1, x2, x3, x4, x5) p q false false false false a3 b3 [] [] VS) (by rw [r2 VS hs.2.2])
        | some g =>
          obtain ⟨a2, b2, GS⟩ := g
          cases v with
          | none => exact Tr.follow_get (cl_2 (x0, x1, x2, x3, x4, x5) p q false false a2 b2 false false [] GS []) (by rw [r1 GS hs.2.1])
          | some v => obtain ⟨a3, b3, VS⟩ := v; exact Tr.follow_get (cl_6 (x0, x1, x2, x3, x4, x5) p q false false a2 b2 a3 b3 [] GS VS) (by rw [r1 GS hs.2.1, r2 VS hs.2.2])
      | some o =>
        obtain ⟨a1, b1, OS⟩ := o
        cases g with
        | none =>
          cases v with
          | none => exact Tr.follow_get (cl_1 (x0, x1, x2, x3, x4, x5) p q a1 b1 false false false false OS [] []) (by rw [r1 OS hs.1])
          | some v => obtain ⟨a3, b3, VS⟩ := v; exact Tr.follow_get (cl_5 (x0, x1, x2, x3, x4, x5) p q a1 b1 false false a3 b3 OS [] VS) (by rw [r1 OS hs.1, r2 VS hs.2.2])
        | some g =>
          obtain ⟨a2, b2, GS⟩ := g
          cases v with
          | none => exact Tr.follow_get (cl_3 (x0, x1, x2, x3, x4, x5) p q a1 b1 a2 b2 false false OS GS []) (by rw [r1 OS hs.1, r1 GS hs.2.1])
          | some v => obtain ⟨a3, b3, VS⟩ := v; exact Tr.follow_get (cl_7 (x0, x1, x2, x3, x4, x5) p q a1 b1 a2 b2 a3 b3 OS GS VS) (by rw [r1 OS hs.1, r1 GS hs.2.1, r2 VS hs.2.2])
    · cases h
  · cases h
end
end Go.Proofs.Ytgepgnjjhgmfnaa
