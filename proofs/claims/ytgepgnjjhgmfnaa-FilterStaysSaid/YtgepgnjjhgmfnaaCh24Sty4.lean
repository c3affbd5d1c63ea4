/-
  Chapter 24: FilterStays, its loop. Own work; nothing here is trusted.
-/
import Derived.Test.YtgepgnjjhgmfnaaCh24Sty3
namespace Go.Proofs.Ytgepgnjjhgmfnaa
open Go Go.Sx Go.RowKit
set_option maxRecDepth 1000000
set_option maxHeartbeats 8000000
set_option linter.unusedVariables false
set_option linter.unusedSimpArgs false
noncomputable section
abbrev plV (F : Fv) : Fp := (F.1, F.2.1, F.2.2.1, lo F.2.2.2.1, lo F.2.2.2.2.1, lo F.2.2.2.2.2)
def yObj (F : Fv) (l : Bs) : Option Gx → List (SO C24)
  | none => .box (fltC F 2) 26 :: .ss 33 0 5 l :: fltO F
  | some G => .box (fltC (gv G) (fltN F 2)) 26 :: .ss 33 0 5 l :: (fltO F ++ fltO (gv G))
def yCel (F : Fv) : Option Gx → List SV
  | none => fltC F 2
  | some G => fltC (gv G) (fltN F 2)
def yTl (F : Fv) : Option Gx → List (SO C24)
  | none => fltO F
  | some G => fltO F ++ fltO (gv G)
@[reducible] def ySt (F : Fv) (feats : Int) (l : Bs) (x : Nat × Option Gx) (R : Bool) : List SV × List (SO C24) :=
  ([.h 0, .raw (.int .u64 feats), .h 1, .raw (.int .i64 (x.1 : Int)), .raw (.bool R)], .box (yCel F x.2) 26 :: .ss 33 0 5 l :: yTl F x.2)
abbrev yR (F : Fv) (feats : Int) (l : Bs) (x : Nat × Option Gx) := roundG C24 Try.prog sfY noLs (fun _ _ => 20) 10 3 0 ySl ⟨(ySt F feats l x false).1, fltN F 2, (ySt F feats l x false).2⟩
def curX (F : Fv) : Option Gx → Fp
  | none => plV F
  | some G => plX G
def lgE (e : (C24 33).α × Option (Addr × Nat) × List (C24 5).α) : Bool := !isNo e.2.1 && decide ((1000 : Int) < (e.2.2.length : Int))
theorem eB_at {l : Bs} {k : Nat} (h : k < l.length) : eB l (k : Int) = l[k].2.2 := by
  show (List.getD l k _).2.2 = _
  rw [List.getD_eq_getElem?_getD, List.getElem?_eq_getElem h]; rfl
theorem eN_at {l : Bs} {k : Nat} (h : k < l.length) : eN l (k : Int) = isNo l[k].2.1 := by
  show isNo (List.getD l k _).2.1 = _
  rw [List.getD_eq_getElem?_getD, List.getElem?_eq_getElem h]; rfl
theorem y_go {F : Fv} {feats : Int} {l : Bs} {x : Nat × Option Gx} (hk : x.1 < l.length) (hk2 : l.length ≤ 100000) (hok : okF (curX F x.2) = true) (hb : byB (eB l (x.1 : Int)) = true) (hL : eN l (x.1 : Int) = false → (eB l (x.1 : Int)).length ≤ 1000) :
    ∃ G : Gx, (yR F feats l x).get = some (.normal, ySt F feats l (x.1 + 1, some G) false) ∧ okF (curX F (some G)) = true := by
  obtain ⟨k, X⟩ := x
  obtain ⟨m, p, q, o, g, v⟩ := F
  cases X with
  | none => exact ya_go m p q o g v feats l k hk (by omega) hok hb hL
  | some G =>
    obtain ⟨m1, p1, q1, a, b, vs⟩ := G
    exact yb_go m p q o g v m1 p1 q1 a b vs feats l k hk (by omega) hok hb hL
theorem y_end {F : Fv} {feats : Int} {l : Bs} {x : Nat × Option Gx} (hk : x.1 = l.length) : (yR F feats l x).get = some (.exit 0, ySt F feats l x false) := by
  obtain ⟨k, X⟩ := x
  obtain ⟨m, p, q, o, g, v⟩ := F
  have hk : k = l.length := hk
  have k1 : decide ((k : Int) < (l.length : Int)) = false := decide_eq_false (by omega)
  cases X with
  | none => exact Tr.follow_get (ya_end m p q o g v feats l k) (by rw [k1])
  | some G =>
    obtain ⟨m1, p1, q1, a, b, vs⟩ := G
    exact Tr.follow_get (yb_end m p q o g v m1 p1 q1 a b vs feats l k) (by rw [k1])
theorem y_long {F : Fv} {feats : Int} {l : Bs} {x : Nat × Option Gx} (hk : x.1 < l.length) (hn : eN l (x.1 : Int) = false) (hL : decide ((1000 : Int) < ((eB l (x.1 : Int)).length : Int)) = true) : (yR F feats l x).get = some (.ret, ySt F feats l x true) := by
  obtain ⟨k, X⟩ := x
  obtain ⟨m, p, q, o, g, v⟩ := F
  have hk : k < l.length := hk
  have hn : eN l (k : Int) = false := hn
  have hL : decide ((1000 : Int) < ((eB l (k : Int)).length : Int)) = true := hL
  have k1 := decide_eq_true (show (k : Int) < (l.length : Int) by omega)
  have k2 : Sx.inB (k : Int) l.length = true := inB_mk ⟨by omega, by omega⟩
  have k3 := decide_eq_true (show ((k : Nat) : Int).toNat < l.length by omega)
  cases X with
  | none => exact Tr.follow_get (ya_long m p q o g v feats l k) (by simp only [k1, k2, k3, hn, hL])
  | some G =>
    obtain ⟨m1, p1, q1, a, b, vs⟩ := G
    exact Tr.follow_get (yb_long m p q o g v m1 p1 q1 a b vs feats l k) (by simp only [k1, k2, k3, hn, hL])
open Classical in
/-- The filter after so many rounds. -/
def runY (F : Fv) (feats : Int) (l : Bs) : Nat → Option Gx
  | 0 => none
  | k + 1 => if h : ∃ G : Gx, (yR F feats l (k, runY F feats l k)).get = some (.normal, ySt F feats l (k + 1, some G) false) ∧ okF (curX F (some G)) = true then some (Classical.choose h) else none
def lgI (l : Bs) : Nat := l.findIdx lgE
def yOut (F : Fv) (feats : Int) (l : Bs) : Ex × List SV × List (SO C24) := bif decide (lgI l < l.length) then (.ret, ySt F feats l (lgI l, runY F feats l (lgI l)) true) else (.exit 0, ySt F feats l (l.length, runY F feats l l.length) false)
theorem y_loop : loopOf Try.prog 3 0 = some (((loopOf Try.prog 3 0).get!).1, (loopOf Try.prog 3 0).get!.2) := by kernel_rfl
def byA (l : Bs) : Bool := l.all fun e => byB e.2.2
theorem byA_at {l : Bs} (h : byA l = true) {k : Nat} (hk : k < l.length) : byB (eB l (k : Int)) = true := by
  rw [eB_at hk]
  exact List.all_eq_true.1 h _ (List.getElem_mem hk)
theorem y_run {F : Fv} {feats : Int} {l : Bs} (hok : okF (plV F) = true) (hb : byA l = true) (hl : l.length ≤ 100000) :
    LoopRun Try.prog ((loopOf Try.prog 3 0).get!).1 (loopOf Try.prog 3 0).get!.2 (fltN F 2) (LI.st ySl ⟨(ySt F feats l (0, none) false).1, fltN F 2, (ySt F feats l (0, none) false).2⟩) fun x T => ∃ vs os, (x = (yOut F feats l).1 ∧ (vs, os) = (yOut F feats l).2) ∧ T = ⟨zipT ySl vs, numH 0 os, os.length⟩ := by
  refine loop_li (σ := Nat × Option Gx) (st := fun x => ySt F feats l x false) (Inv := fun x => x.1 ≤ l.length ∧ (∀ j (h : j < l.length), j < x.1 → lgE l[j] = false) ∧ x.2 = runY F feats l x.1 ∧ okF (curX F x.2) = true) (μ := fun x => l.length - x.1) (d := 10) (unr := fun _ _ => 20) (sp := sfY) (ls := noLs) plain mixed sfY_ok noLs_ok y_loop (fun x hx => ?_) (0, none) ⟨Nat.zero_le _, fun _ _ h => absurd h (Nat.not_lt_zero _), rfl, hok⟩
  obtain ⟨h1, h2, h3, h4⟩ := hx
  by_cases hlt : x.1 < l.length
  · cases hg : lgE l[x.1] with
    | true =>
      have hi : lgI l = x.1 := (List.findIdx_eq hlt).2 ⟨hg, fun j hj => h2 j (by omega) hj⟩
      have hg2 := hg
      unfold lgE at hg2
      rw [← eB_at hlt, ← eN_at hlt, Bool.and_eq_true, Bool.not_eq_true'] at hg2
      refine ⟨_, y_long hlt hg2.1 hg2.2, nofun, fun _ => ?_⟩
      have he : yOut F feats l = (.ret, ySt F feats l x true) := by
        unfold yOut
        rw [hi, decide_eq_true hlt, ← h3]; rfl
      rw [he]
      exact ⟨rfl, rfl⟩
    | false =>
      have hg2 := hg
      unfold lgE at hg2
      rw [← eB_at hlt, ← eN_at hlt] at hg2
      have hgo := y_go (F := F) (feats := feats) (x := x) hlt hl h4 (byA_at hb hlt) fun hn => by
        rw [hn] at hg2
        have h9 : ¬ (1000 : Int) < ((eB l (x.1 : Int)).length : Int) := of_decide_eq_false hg2
        omega
      have hx2 : x = (x.1, runY F feats l x.1) := by rw [← h3]
      have hr : runY F feats l (x.1 + 1) = some (Classical.choose hgo) := by
        obtain ⟨k, X⟩ := x
        simp only at h3
        subst h3
        exact dif_pos hgo
      obtain ⟨g1, g2⟩ := Classical.choose_spec hgo
      refine ⟨_, g1, fun _ => ⟨(x.1 + 1, some (Classical.choose hgo)), ⟨hlt, fun j hj hj2 => ?_, hr.symm, g2⟩, by simp only; omega, rfl⟩, nofun⟩
      rcases Nat.lt_or_ge j x.1 with h | h
      · exact h2 j hj h
      · have : j = x.1 := by simp only at hj2; omega
        subst this
        exact hg
  · have hke : x.1 = l.length := by omega
    refine ⟨_, y_end hke, nofun, fun _ => ?_⟩
    have hi : lgI l = l.length := List.findIdx_eq_length.2 fun e he => by
      obtain ⟨j, hj, rfl⟩ := List.getElem_of_mem he
      exact h2 j hj (by omega)
    have he : yOut F feats l = (.exit 0, ySt F feats l x false) := by
      unfold yOut
      rw [hi, decide_eq_false (Nat.lt_irrefl _), ← hke, ← h3]; rfl
    rw [he]
    exact ⟨rfl, rfl⟩
def gIs : Option Gx → Bool
  | none => false
  | some _ => true
def gX : Option Gx → Gx
  | none => (mac0, false, false, none, none, [])
  | some G => G
def gM2 (X : Option Gx) : Mac := (gX X).1
def gP2 (X : Option Gx) : Bool := (gX X).2.1
def gQ2 (X : Option Gx) : Bool := (gX X).2.2.1
def gA2 (X : Option Gx) : Bool := (gX X).2.2.2.1.isSome
def gB2 (X : Option Gx) : Bool := (gX X).2.2.2.2.1.isSome
def gAl (X : Option Gx) : List Mac := (gX X).2.2.2.1.getD []
def gBl (X : Option Gx) : List Mac := (gX X).2.2.2.2.1.getD []
def gW2 (X : Option Gx) : List Int := (gX X).2.2.2.2.2
def yLeaf (F : Fv) (feats : Int) (l : Bs) (e : Ex) (k : Nat) (R : Bool) (X : Option Gx) : Tr (Ex × List SV × List (SO C24)) :=
  .br (gIs X) (.br (gA2 X)
      (.br (gB2 X) (.leaf (e, ySt F feats l (k, some (gM2 X, gP2 X, gQ2 X, some (gAl X), some (gBl X), gW2 X)) R)) (.leaf (e, ySt F feats l (k, some (gM2 X, gP2 X, gQ2 X, some (gAl X), none, gW2 X)) R)))
      (.br (gB2 X) (.leaf (e, ySt F feats l (k, some (gM2 X, gP2 X, gQ2 X, none, some (gBl X), gW2 X)) R)) (.leaf (e, ySt F feats l (k, some (gM2 X, gP2 X, gQ2 X, none, none, gW2 X)) R))))
    (.leaf (e, ySt F feats l (k, none) R))
theorem yLeaf_get (F : Fv) (feats : Int) (l : Bs) (e : Ex) (k : Nat) (R : Bool) (X : Option Gx) : (yLeaf F feats l e k R X).get = some (e, ySt F feats l (k, X) R) := by
  cases X with
  | none => rfl
  | some G =>
    obtain ⟨m, p, q, a, b, v⟩ := G
    cases a <;> cases b <;> rfl
def yLoop : LoopFn C24 := fun li => match li with
  | ⟨[.h 0, .raw (.int .u64 feats), .h 1, .raw (.int .i64 (.ofNat 0)), .raw (.bool false)], nb, .box cs 26 :: .ss 33 0 5 l :: os⟩ => match decF cs 2 os with
    | some (((x0, x1, x2, x3, x4, x5), p, q, o, g, v), []) => match Nat.beq nb (fltN ((x0, x1, x2, x3, x4, x5), p, q, o, g, v) 2) with
      | true => .br (okF ((x0, x1, x2, x3, x4, x5), p, q, lo o, lo g, lo v)) (.br (byA l) (.br (decide (l.length ≤ 100000)) (.br (decide (lgI l < l.length))
          (yLeaf ((x0, x1, x2, x3, x4, x5), p, q, o, g, v) feats l .ret (lgI l) true (runY ((x0, x1, x2, x3, x4, x5), p, q, o, g, v) feats l (lgI l)))
          (yLeaf ((x0, x1, x2, x3, x4, x5), p, q, o, g, v) feats l (.exit 0) l.length false (runY ((x0, x1, x2, x3, x4, x5), p, q, o, g, v) feats l l.length))) .fail) .fail) .fail
      | false => .fail
    | _ => .fail
  | _ => .fail
theorem yKeep (F : Fv) (feats : Int) (l : Bs) (x : Nat × Option Gx) (R : Bool) : Keeps (fltN F 2) (ySt F feats l (0, none) false).2 (ySt F feats l x R).2 := by
  obtain ⟨k, X⟩ := x
  obtain ⟨m, p, q, o, g, v⟩ := F
  cases X with
  | none => exact keeps_same (by cases o <;> cases g <;> cases v <;> rfl)
  | some G => cases o <;> cases g <;> cases v <;> exact Keeps.of3 (by simp only [List.length_cons, yTl, List.length_append, fltO, obM, obI]; simp only [fltN, nx, List.length_cons, List.length_nil]; omega) rfl
theorem yLoop_ok : ∀ tm hp n x, (loopS ySl [] yLoop tm hp n).get = some x → InLoop Try.prog ((loopOf Try.prog 3 0).get!).1 (loopOf Try.prog 3 0).get!.2 tm hp n fun e tm hp n => (e, tm, hp, n) = x := loopS_of fun li r h => by
  unfold yLoop at h
  split at h
  · rename_i feats nb cs l os
    split at h
    · rename_i x0 x1 x2 x3 x4 x5 p q o g v hF
      split at h
      · rename_i hnb
        obtain ⟨rfl, rfl⟩ := decF_eq hF
        have hnb := Nat.eq_of_beq_eq_true hnb
        subst hnb
        clear hF
        obtain ⟨h1, hA⟩ := Tr.get_ask.1 h
        obtain ⟨h2, hB⟩ := Tr.get_ask.1 hA
        obtain ⟨h3, hC⟩ := Tr.get_ask.1 hB
        clear h hA hB
        rw [List.append_nil]
        have hrun := y_run (F := ((x0, x1, x2, x3, x4, x5), p, q, o, g, v)) (feats := feats) h1 h2 (of_decide_eq_true h3)
        have hr : r = yOut ((x0, x1, x2, x3, x4, x5), p, q, o, g, v) feats l := by
          unfold yOut
          cases hd : decide (lgI l < l.length) with
          | true => rw [hd] at hC; exact (Option.some.inj ((yLeaf_get _ _ _ _ _ _ _).symm.trans hC)).symm
          | false => rw [hd] at hC; exact (Option.some.inj ((yLeaf_get _ _ _ _ _ _ _).symm.trans hC)).symm
        subst hr
        refine ⟨?_, hrun⟩
        unfold yOut
        cases decide (lgI l < l.length) with
        | true => exact yKeep _ feats l _ _
        | false => exact yKeep _ feats l _ _
      · cases h
    · cases h
  · cases h
end
end Go.Proofs.Ytgepgnjjhgmfnaa
