/-
  Chapter 24: lists that may be nil, filters, frames: how they stand among arguments. Own work; nothing here is trusted.
-/
import Derived.Test.YtgepgnjjhgmfnaaCh24Spec
import Derived.Test.YtgepgnjjhgmfnaaSxC
namespace Go.Proofs.Ytgepgnjjhgmfnaa
open Go Go.Sx Go.RowKit
set_option maxRecDepth 1000000
set_option maxHeartbeats 8000000
set_option linter.unusedVariables false
set_option linter.unusedSimpArgs false
noncomputable section
abbrev Mac := Int × Int × Int × Int × Int × Int
abbrev mac0 : Mac := (0, 0, 0, 0, 0, 0)
/-- Elements at a place. -/
abbrev elI (ts : List Int) (k : Int) : Int := ts.getD k.toNat 0
abbrev elA (ts : List Mac) (k : Int) : Mac := ts.getD k.toNat mac0
abbrev nlS : SV := .raw (.slice none 0 0)
abbrev macL (m : Mac) : List SV := [.raw (.int .u8 m.1), .raw (.int .u8 m.2.1), .raw (.int .u8 m.2.2.1), .raw (.int .u8 m.2.2.2.1), .raw (.int .u8 m.2.2.2.2.1), .raw (.int .u8 m.2.2.2.2.2)]
/-- A list that may be nil. -/
abbrev Lo (α : Type) := Option (Bool × Bool × List α)
@[reducible] def hS {α : Type} (o : Lo α) (k : Nat) : SV := match o with
  | none => .raw (.slice none 0 0)
  | some _ => .h k
@[reducible] def nx {α : Type} (o : Lo α) (k : Nat) : Nat := match o with
  | none => k
  | some _ => k + 1
@[reducible] def lo {α : Type} (o : Lo α) : List α := match o with
  | none => []
  | some x => x.2.2
@[reducible] def obM (o : Lo Mac) : List (SO C24) := match o with
  | none => []
  | some x => [.sl x.1 x.2.1 22 x.2.2]
@[reducible] def obI (o : Lo Int) : List (SO C24) := match o with
  | none => []
  | some x => [.sl x.1 x.2.1 3 x.2.2]
@[reducible] def obB (o : Lo Int) : List (SO C24) := match o with
  | none => []
  | some x => [.sl x.1 x.2.1 5 x.2.2]
/-- Views. -/
@[reducible] def vw {α : Type} (o : Lo α) : Lo α := match o with
  | none => none
  | some x => some (false, x.2.1, x.2.2)
def decM (s : SV) (k : Nat) (os : List (SO C24)) : Option (Lo Mac × List (SO C24)) := match s with
  | .raw (.slice none 0 0) => some (none, os)
  | .h i => match Nat.beq i k with
    | true => match os with
      | .sl a b 22 ts :: r => some (some (a, b, ts), r)
      | _ => none
    | false => none
  | _ => none
def decI (s : SV) (k : Nat) (os : List (SO C24)) : Option (Lo Int × List (SO C24)) := match s with
  | .raw (.slice none 0 0) => some (none, os)
  | .h i => match Nat.beq i k with
    | true => match os with
      | .sl a b 3 ts :: r => some (some (a, b, ts), r)
      | _ => none
    | false => none
  | _ => none
def decB (s : SV) (k : Nat) (os : List (SO C24)) : Option (Lo Int × List (SO C24)) := match s with
  | .raw (.slice none 0 0) => some (none, os)
  | .h i => match Nat.beq i k with
    | true => match os with
      | .sl a b 5 ts :: r => some (some (a, b, ts), r)
      | _ => none
    | false => none
  | _ => none
theorem decM_eq {s : SV} {k : Nat} {os r : List (SO C24)} {o : Lo Mac} (h : decM s k os = some (o, r)) : s = hS o k ∧ os = obM o ++ r := by
  unfold decM at h
  split at h
  · cases h; exact ⟨rfl, rfl⟩
  · split at h
    · rename_i i hi
      split at h
      · cases h
        have := Nat.eq_of_beq_eq_true hi
        subst this
        exact ⟨rfl, rfl⟩
      · cases h
    · cases h
  · cases h
theorem decI_eq {s : SV} {k : Nat} {os r : List (SO C24)} {o : Lo Int} (h : decI s k os = some (o, r)) : s = hS o k ∧ os = obI o ++ r := by
  unfold decI at h
  split at h
  · cases h; exact ⟨rfl, rfl⟩
  · split at h
    · rename_i i hi
      split at h
      · cases h
        have := Nat.eq_of_beq_eq_true hi
        subst this
        exact ⟨rfl, rfl⟩
      · cases h
    · cases h
  · cases h
theorem decB_eq {s : SV} {k : Nat} {os r : List (SO C24)} {o : Lo Int} (h : decB s k os = some (o, r)) : s = hS o k ∧ os = obB o ++ r := by
  unfold decB at h
  split at h
  · cases h; exact ⟨rfl, rfl⟩
  · split at h
    · rename_i i hi
      split at h
      · cases h
        have := Nat.eq_of_beq_eq_true hi
        subst this
        exact ⟨rfl, rfl⟩
      · cases h
    · cases h
  · cases h
def u8D : SV → Option Int
  | .raw (.int .u8 x) => some x
  | _ => none
def i64D : SV → Option Int
  | .raw (.int .i64 x) => some x
  | _ => none
def u16D : SV → Option Int
  | .raw (.int .u16 x) => some x
  | _ => none
def blD : SV → Option Bool
  | .raw (.bool x) => some x
  | _ => none
theorem u8D_eq {s : SV} {x : Int} (h : u8D s = some x) : s = .raw (.int .u8 x) := by
  unfold u8D at h; split at h <;> cases h; rfl
theorem i64D_eq {s : SV} {x : Int} (h : i64D s = some x) : s = .raw (.int .i64 x) := by
  unfold i64D at h; split at h <;> cases h; rfl
theorem u16D_eq {s : SV} {x : Int} (h : u16D s = some x) : s = .raw (.int .u16 x) := by
  unfold u16D at h; split at h <;> cases h; rfl
theorem blD_eq {s : SV} {x : Bool} (h : blD s = some x) : s = .raw (.bool x) := by
  unfold blD at h; split at h <;> cases h; rfl
def macD (a0 a1 a2 a3 a4 a5 : SV) : Option Mac := (u8D a0).bind fun x0 => (u8D a1).bind fun x1 => (u8D a2).bind fun x2 => (u8D a3).bind fun x3 => (u8D a4).bind fun x4 => (u8D a5).bind fun x5 => some (x0, x1, x2, x3, x4, x5)
theorem macD_eq {a0 a1 a2 a3 a4 a5 : SV} {m : Mac} (h : macD a0 a1 a2 a3 a4 a5 = some m) : [a0, a1, a2, a3, a4, a5] = macL m := by
  unfold macD at h
  simp only [Option.bind_eq_some_iff] at h
  obtain ⟨x0, h0, x1, h1, x2, h2, x3, h3, x4, h4, x5, h5, h6⟩ := h
  cases h6
  rw [u8D_eq h0, u8D_eq h1, u8D_eq h2, u8D_eq h3, u8D_eq h4, u8D_eq h5]
/-- A filter. -/
abbrev Fv := Mac × Bool × Bool × Lo Mac × Lo Mac × Lo Int
abbrev fltL (m : Mac) (p q : Bool) (o g v : SV) : List SV := [.raw (.int .u8 m.1), .raw (.int .u8 m.2.1), .raw (.int .u8 m.2.2.1), .raw (.int .u8 m.2.2.2.1), .raw (.int .u8 m.2.2.2.2.1), .raw (.int .u8 m.2.2.2.2.2), .raw (.bool p), .raw (.bool q), o, g, v]
def fltD (cs : List SV) : Option (Mac × Bool × Bool × SV × SV × SV) := match cs with
  | [a0, a1, a2, a3, a4, a5, b0, b1, o, g, v] => (macD a0 a1 a2 a3 a4 a5).bind fun m => (blD b0).bind fun p => (blD b1).bind fun q => some (m, p, q, o, g, v)
  | _ => none
theorem fltD_eq {cs : List SV} {m : Mac} {p q : Bool} {o g v : SV} (h : fltD cs = some (m, p, q, o, g, v)) : cs = fltL m p q o g v := by
  unfold fltD at h
  split at h
  · simp only [Option.bind_eq_some_iff] at h
    obtain ⟨m', h0, p', h1, q', h2, h3⟩ := h
    cases h3
    have := macD_eq h0
    simp only [macL, List.cons.injEq, and_true] at this
    obtain ⟨rfl, rfl, rfl, rfl, rfl, rfl⟩ := this
    rw [blD_eq h1, blD_eq h2]
  · cases h
/-- A filter among arguments, its lists numbered from k on. -/
@[reducible] def fltC (F : Fv) (k : Nat) : List SV := fltL F.1 F.2.1 F.2.2.1 (hS F.2.2.2.1 k) (hS F.2.2.2.2.1 (nx F.2.2.2.1 k)) (hS F.2.2.2.2.2 (nx F.2.2.2.2.1 (nx F.2.2.2.1 k)))
@[reducible] def fltO (F : Fv) : List (SO C24) := obM F.2.2.2.1 ++ (obM F.2.2.2.2.1 ++ obI F.2.2.2.2.2)
@[reducible] def fltN (F : Fv) (k : Nat) : Nat := nx F.2.2.2.2.2 (nx F.2.2.2.2.1 (nx F.2.2.2.1 k))
def decF (cs : List SV) (k : Nat) (os : List (SO C24)) : Option (Fv × List (SO C24)) := match fltD cs with
  | some ((x0, x1, x2, x3, x4, x5), p, q, so, sg, sv) => match decM so k os with
    | some (o, os1) => match decM sg (nx o k) os1 with
      | some (g, os2) => match decI sv (nx g (nx o k)) os2 with
        | some (v, os3) => some (((x0, x1, x2, x3, x4, x5), p, q, o, g, v), os3)
        | none => none
      | none => none
    | none => none
  | none => none
theorem decF_eq {cs : List SV} {k : Nat} {os r : List (SO C24)} {F : Fv} (h : decF cs k os = some (F, r)) : cs = fltC F k ∧ os = fltO F ++ r := by
  unfold decF at h
  split at h
  · rename_i h0
    split at h
    · rename_i h1
      split at h
      · rename_i h2
        split at h
        · rename_i h3
          cases h
          obtain ⟨rfl, rfl⟩ := decM_eq h1
          obtain ⟨rfl, rfl⟩ := decM_eq h2
          obtain ⟨rfl, rfl⟩ := decI_eq h3
          exact ⟨fltD_eq h0, by simp [fltO]⟩
        · cases h
      · cases h
    · cases h
  · cases h
/-- A frame. -/
abbrev Rv := Mac × Mac × Int × Int × Lo Int
@[reducible] def frmC (x : Rv) (k : Nat) : List SV := [.raw (.int .u8 x.1.1), .raw (.int .u8 x.1.2.1), .raw (.int .u8 x.1.2.2.1), .raw (.int .u8 x.1.2.2.2.1), .raw (.int .u8 x.1.2.2.2.2.1), .raw (.int .u8 x.1.2.2.2.2.2), .raw (.int .u8 x.2.1.1), .raw (.int .u8 x.2.1.2.1), .raw (.int .u8 x.2.1.2.2.1), .raw (.int .u8 x.2.1.2.2.2.1), .raw (.int .u8 x.2.1.2.2.2.2.1), .raw (.int .u8 x.2.1.2.2.2.2.2), .raw (.int .i64 x.2.2.1), .raw (.int .u16 x.2.2.2.1), hS x.2.2.2.2 k]
def decR (cs : List SV) (k : Nat) (os : List (SO C24)) : Option (Rv × List (SO C24)) := match cs with
  | [a0, a1, a2, a3, a4, a5, c0, c1, c2, c3, c4, c5, vl, ty, d] => match macD a0 a1 a2 a3 a4 a5 with
    | some (x0, x1, x2, x3, x4, x5) => match macD c0 c1 c2 c3 c4 c5 with
      | some (y0, y1, y2, y3, y4, y5) => match i64D vl with
        | some v => match u16D ty with
          | some t => match decB d k os with
            | some (w, r) => some (((x0, x1, x2, x3, x4, x5), (y0, y1, y2, y3, y4, y5), v, t, w), r)
            | none => none
          | none => none
        | none => none
      | none => none
    | none => none
  | _ => none
theorem decR_eq {cs : List SV} {k : Nat} {os r : List (SO C24)} {x : Rv} (h : decR cs k os = some (x, r)) : cs = frmC x k ∧ os = obB x.2.2.2.2 ++ r := by
  unfold decR at h
  split at h
  · split at h
    · rename_i h0
      split at h
      · rename_i h1
        split at h
        · rename_i h2
          split at h
          · rename_i h3
            split at h
            · rename_i h4
              cases h
              obtain ⟨rfl, rfl⟩ := decB_eq h4
              have e0 := macD_eq h0
              have e1 := macD_eq h1
              simp only [macL, List.cons.injEq, and_true] at e0 e1
              obtain ⟨rfl, rfl, rfl, rfl, rfl, rfl⟩ := e0
              obtain ⟨rfl, rfl, rfl, rfl, rfl, rfl⟩ := e1
              rw [i64D_eq h2, u16D_eq h3]
              exact ⟨rfl, rfl⟩
            · cases h
          · cases h
        · cases h
      · cases h
    · cases h
  · cases h
theorem keeps_same {nb : Nat} {os : List (SO C24)} (h : nb = os.length) : Keeps nb os os := by
  subst h
  exact Keeps.of (Nat.le_refl _) rfl (fun o ho => by rw [List.drop_length] at ho; cases ho)
/-! ### Check's loop -/
abbrev cSlots : List Nat := [1, 16, 17, 18, 2]
@[reducible] def cSt (m : Mac) (p q : Bool) (o g : Lo Mac) (v : Lo Int) (K R : Int) : List SV × List (SO C24) := ([.h 0, hS v 1, .raw (.int .i64 ((lo v).length : Int)), .raw (.int .i64 K), .raw (.int .i64 R)], .box (fltL m p q (hS o (nx v 1)) (hS g (nx o (nx v 1))) (hS v 1)) 26 :: (obI v ++ (obM o ++ obM g)))
abbrev cNb (o g : Lo Mac) (v : Lo Int) : Nat := nx g (nx o (nx v 1))
abbrev cRound (m : Mac) (p q : Bool) (o g : Lo Mac) (v : Lo Int) (K : Int) := roundG C24 Try.prog noSp noLs (fun _ _ => 20) 10 11 0 cSlots ⟨(cSt m p q o g v K 0).1, cNb o g v, (cSt m p q o g v K 0).2⟩
/-! ### Index -/
@[reducible] def iSt (v : Lo Int) (x K R : Int) : List SV × List (SO C24) := ([hS v 0, .raw (.int .i64 x), .raw (.int .i64 ((lo v).length : Int)), .raw (.int .i64 K), .raw (.int .i64 R)], obI v)
abbrev iRound (v : Lo Int) (x K : Int) := roundG C24 Try.prog noSp noLs (fun _ _ => 20) 10 63 0 [0, 1, 7, 8, 4] ⟨(iSt v x K 0).1, nx v 0, (iSt v x K 0).2⟩
@[reducible] def aSt (v : Lo Mac) (x : Mac) (K R : Int) : List SV × List (SO C24) := ([hS v 0, .h (nx v 0), .raw (.int .i64 ((lo v).length : Int)), .raw (.int .i64 K), .raw (.int .i64 R)], obM v ++ [.box (macL x) 22])
abbrev aRound (v : Lo Mac) (x : Mac) (K : Int) := roundG C24 Try.prog noSp noLs (fun _ _ => 20) 10 64 0 [0, 3, 7, 8, 4] ⟨(aSt v x K 0).1, nx v 0 + 1, (aSt v x K 0).2⟩
end
end Go.Proofs.Ytgepgnjjhgmfnaa
