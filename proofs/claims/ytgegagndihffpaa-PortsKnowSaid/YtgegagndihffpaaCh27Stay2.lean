/-
  Chapter 27: PortsStay, the loop over acts. Own work; nothing here is trusted.
-/
import Derived.Test.YtgegagndihffpaaCh27Stay1
import Derived.Test.YtgegagndihffpaaCh27Law2
namespace Go.Proofs.Ytgegagndihffpaa
open Go Go.Sx Go.RowKit
set_option maxRecDepth 1000000
set_option maxHeartbeats 8000000
set_option linter.unusedVariables false
set_option linter.unusedSimpArgs false
noncomputable section

theorem yA_end (f : Bool) (ls : List Ac) (mp k : Int) : Tr.follow [false] (yA f ls mp k) =
  some ([decide (k < (↑ls.length : Int))],
  (Ex.exit (0 : Nat), [SV.h (0 : Nat), SV.h (1 : Nat), SV.raw (Value.int IntKind.i64 k), SV.raw (Value.bool false)], [SO.sl false f (40 : Nat) ls, SO.box [SV.raw (Value.int IntKind.i64 mp), SV.raw (Value.bool false), SV.raw (Value.slice none (0 : Nat) (0 : Nat))] (27 : Nat)])) := by kernel_rfl
theorem yA_err (f : Bool) (ls : List Ac) (mp k : Int) : Tr.follow [true, true, true, true, false, true, false, false, false, false, false, true] (yA f ls mp k) =
  some ([decide (k < (↑ls.length : Int)),
  inB k ls.length,
  decide (k.toNat < ls.length),
  inR64 (elC ls k).snd.snd.snd.snd.fst,
  (dA ls mp k).fst == (0 : Int),
  (dA ls mp k).fst != (0 : Int),
  false,
  false,
  false,
  false,
  false,
  inR64 (k + (1 : Int))],
  (Ex.normal, [SV.h (0 : Nat), SV.h (1 : Nat), SV.raw (Value.int IntKind.i64 (k + (1 : Int))), SV.raw (Value.bool false)], [SO.sl false f (40 : Nat) ls, SO.box [SV.raw (Value.int IntKind.i64 mp), SV.raw (Value.bool false), SV.raw (Value.slice none (0 : Nat) (0 : Nat))] (27 : Nat)])) := by kernel_rfl
theorem yA_okn (f : Bool) (ls : List Ac) (mp k : Int) : Tr.follow [true, true, true, true, true, false, false, true, true, false, false, false, false, false, false, false, false, false, false, false, false, false, false, false, true, true, true] (yA f ls mp k) =
  some ([decide (k < (↑ls.length : Int)),
  inB k ls.length,
  decide (k.toNat < ls.length),
  inR64 (elC ls k).snd.snd.snd.snd.fst,
  (dA ls mp k).fst == (0 : Int),
  (dA ls mp k).snd.snd.snd.isSome,
  false,
  decide ((dA ls mp k).snd.snd.fst.length ≤ (100000 : Nat)),
  okP mp (dA ls mp k).snd.fst (dA ls mp k).snd.snd.fst,
  false,
  false,
  false,
  false,
  false,
  mp != mp,
  false,
  false,
  false,
  !(dA ls mp k).snd.fst,
  false,
  false,
  false,
  false,
  false,
  decide ((dA ls mp k).snd.snd.fst.length ≤ (1000 : Nat)),
  true,
  inR64 (k + (1 : Int))],
  (Ex.normal, [SV.h (0 : Nat), SV.h (1 : Nat), SV.raw (Value.int IntKind.i64 (k + (1 : Int))), SV.raw (Value.bool false)], [SO.sl false f (40 : Nat) ls, SO.box [SV.raw (Value.int IntKind.i64 mp), SV.raw (Value.bool (dA ls mp k).snd.fst), SV.h (2 : Nat)] (27 : Nat), SO.sl true false (46 : Nat) (dA ls mp k).snd.snd.fst])) := by kernel_rfl
theorem yA_oku (f : Bool) (ls : List Ac) (mp k : Int) : Tr.follow [true, true, true, true, true, false, false, true, true, false, false, false, false, false, false, false, false, false, true, true, true, false, false, true, true, true] (yA f ls mp k) =
  some ([decide (k < (↑ls.length : Int)),
  inB k ls.length,
  decide (k.toNat < ls.length),
  inR64 (elC ls k).snd.snd.snd.snd.fst,
  (dA ls mp k).fst == (0 : Int),
  (dA ls mp k).snd.snd.snd.isSome,
  false,
  decide ((dA ls mp k).snd.snd.fst.length ≤ (100000 : Nat)),
  okP mp (dA ls mp k).snd.fst (dA ls mp k).snd.snd.fst,
  false,
  false,
  false,
  false,
  false,
  mp != mp,
  false,
  false,
  false,
  !(dA ls mp k).snd.fst,
  true,
  true,
  false,
  false,
  decide ((dA ls mp k).snd.snd.fst.length ≤ (1000 : Nat)),
  true,
  inR64 (k + (1 : Int))],
  (Ex.normal, [SV.h (0 : Nat), SV.h (1 : Nat), SV.raw (Value.int IntKind.i64 (k + (1 : Int))), SV.raw (Value.bool false)], [SO.sl false f (40 : Nat) ls, SO.box [SV.raw (Value.int IntKind.i64 mp), SV.raw (Value.bool (dA ls mp k).snd.fst), SV.h (2 : Nat)] (27 : Nat), SO.sl true false (46 : Nat) (dA ls mp k).snd.snd.fst])) := by kernel_rfl
theorem yA_okm (f : Bool) (ls : List Ac) (mp k : Int) : Tr.follow [true, true, true, true, true, true, false, true, true, false, false, false, false, false, false, false, false, false, false, false, false, false, false, false, true, true, true] (yA f ls mp k) =
  some ([decide (k < (↑ls.length : Int)),
  inB k ls.length,
  decide (k.toNat < ls.length),
  inR64 (elC ls k).snd.snd.snd.snd.fst,
  (dA ls mp k).fst == (0 : Int),
  (dA ls mp k).snd.snd.snd.isSome,
  false,
  decide ((dA ls mp k).snd.snd.fst.length ≤ (100000 : Nat)),
  okP mp (dA ls mp k).snd.fst (dA ls mp k).snd.snd.fst,
  false,
  false,
  false,
  false,
  false,
  mp != mp,
  false,
  false,
  false,
  !(dA ls mp k).snd.fst,
  false,
  false,
  false,
  false,
  false,
  decide (((dA ls mp k).snd.snd.snd.getD []).length ≤ (1000 : Nat) ∧ (dA ls mp k).snd.snd.fst.length ≤ (1000 : Nat) ∧ (((dA ls mp k).snd.snd.snd.getD []).all fun m => inR64 m.fst) = true),
  noneP (mAP f ls mp false mp (dA ls mp k).snd.fst true (fullD (elC ls k).fst) ((dA ls mp k).snd.snd.snd.getD []) true false (dA ls mp k).snd.snd.fst k) ((dA ls mp k).snd.snd.snd.getD []).length,
  inR64 (k + (1 : Int))],
  (Ex.normal, [SV.h (0 : Nat), SV.h (1 : Nat), SV.raw (Value.int IntKind.i64 (k + (1 : Int))), SV.raw (Value.bool false)], [SO.sl false f (40 : Nat) ls, SO.box [SV.raw (Value.int IntKind.i64 mp), SV.raw (Value.bool (dA ls mp k).snd.fst), SV.h (2 : Nat)] (27 : Nat), SO.sl true false (46 : Nat) (dA ls mp k).snd.snd.fst])) := by kernel_rfl
theorem yB_end (f f2 : Bool) (ls : List Ac) (mp : Int) (rp : Bool) (ps : List Pt) (k : Int) : Tr.follow [false] (yB f f2 ls mp rp ps k) =
  some ([decide (k < (↑ls.length : Int))],
  (Ex.exit (0 : Nat), [SV.h (0 : Nat), SV.h (1 : Nat), SV.raw (Value.int IntKind.i64 k), SV.raw (Value.bool false)], [SO.sl false f (40 : Nat) ls, SO.box [SV.raw (Value.int IntKind.i64 mp), SV.raw (Value.bool rp), SV.h (2 : Nat)] (27 : Nat), SO.sl true f2 (46 : Nat) ps])) := by kernel_rfl
theorem yB_err (f f2 : Bool) (ls : List Ac) (mp : Int) (rp : Bool) (ps : List Pt) (k : Int) : Tr.follow [true, true, true, true, false, true, false, false, false, false, false, true] (yB f f2 ls mp rp ps k) =
  some ([decide (k < (↑ls.length : Int)),
  inB k ls.length,
  decide (k.toNat < ls.length),
  decide (ps.length ≤ (300 : Nat)) && inR64 (elC ls k).snd.snd.snd.snd.fst,
  (dB ls mp rp ps k).fst == (0 : Int),
  (dB ls mp rp ps k).fst != (0 : Int),
  false,
  false,
  false,
  false,
  false,
  inR64 (k + (1 : Int))],
  (Ex.normal, [SV.h (0 : Nat), SV.h (1 : Nat), SV.raw (Value.int IntKind.i64 (k + (1 : Int))), SV.raw (Value.bool false)], [SO.sl false f (40 : Nat) ls, SO.box [SV.raw (Value.int IntKind.i64 mp), SV.raw (Value.bool rp), SV.h (2 : Nat)] (27 : Nat), SO.sl true f2 (46 : Nat) ps])) := by kernel_rfl
theorem yB_okn (f f2 : Bool) (ls : List Ac) (mp : Int) (rp : Bool) (ps : List Pt) (k : Int) : Tr.follow [true, true, true, true, true, false, false, true, true, false, false, false, false, false, false, false, false, false, false, false, false, false, false, false, true, true, true] (yB f f2 ls mp rp ps k) =
  some ([decide (k < (↑ls.length : Int)),
  inB k ls.length,
  decide (k.toNat < ls.length),
  decide (ps.length ≤ (300 : Nat)) && inR64 (elC ls k).snd.snd.snd.snd.fst,
  (dB ls mp rp ps k).fst == (0 : Int),
  (dB ls mp rp ps k).snd.snd.snd.isSome,
  false,
  decide ((dB ls mp rp ps k).snd.snd.fst.length ≤ (100000 : Nat)),
  okP mp (dB ls mp rp ps k).snd.fst (dB ls mp rp ps k).snd.snd.fst,
  false,
  false,
  false,
  false,
  false,
  mp != mp,
  false,
  false,
  false,
  !(dB ls mp rp ps k).snd.fst,
  false,
  false,
  false,
  false,
  false,
  decide ((dB ls mp rp ps k).snd.snd.fst.length ≤ (1000 : Nat)),
  true,
  inR64 (k + (1 : Int))],
  (Ex.normal, [SV.h (0 : Nat), SV.h (1 : Nat), SV.raw (Value.int IntKind.i64 (k + (1 : Int))), SV.raw (Value.bool false)], [SO.sl false f (40 : Nat) ls, SO.box [SV.raw (Value.int IntKind.i64 mp), SV.raw (Value.bool (dB ls mp rp ps k).snd.fst), SV.h (2 : Nat)] (27 : Nat), SO.sl true false (46 : Nat) (dB ls mp rp ps k).snd.snd.fst])) := by kernel_rfl
theorem yB_oku (f f2 : Bool) (ls : List Ac) (mp : Int) (rp : Bool) (ps : List Pt) (k : Int) : Tr.follow [true, true, true, true, true, false, false, true, true, false, false, false, false, false, false, false, false, false, true, true, true, false, false, true, true, true] (yB f f2 ls mp rp ps k) =
  some ([decide (k < (↑ls.length : Int)),
  inB k ls.length,
  decide (k.toNat < ls.length),
  decide (ps.length ≤ (300 : Nat)) && inR64 (elC ls k).snd.snd.snd.snd.fst,
  (dB ls mp rp ps k).fst == (0 : Int),
  (dB ls mp rp ps k).snd.snd.snd.isSome,
  false,
  decide ((dB ls mp rp ps k).snd.snd.fst.length ≤ (100000 : Nat)),
  okP mp (dB ls mp rp ps k).snd.fst (dB ls mp rp ps k).snd.snd.fst,
  false,
  false,
  false,
  false,
  false,
  mp != mp,
  false,
  false,
  false,
  !(dB ls mp rp ps k).snd.fst,
  true,
  true,
  false,
  false,
  decide ((dB ls mp rp ps k).snd.snd.fst.length ≤ (1000 : Nat)),
  true,
  inR64 (k + (1 : Int))],
  (Ex.normal, [SV.h (0 : Nat), SV.h (1 : Nat), SV.raw (Value.int IntKind.i64 (k + (1 : Int))), SV.raw (Value.bool false)], [SO.sl false f (40 : Nat) ls, SO.box [SV.raw (Value.int IntKind.i64 mp), SV.raw (Value.bool (dB ls mp rp ps k).snd.fst), SV.h (2 : Nat)] (27 : Nat), SO.sl true false (46 : Nat) (dB ls mp rp ps k).snd.snd.fst])) := by kernel_rfl
theorem yB_okm (f f2 : Bool) (ls : List Ac) (mp : Int) (rp : Bool) (ps : List Pt) (k : Int) : Tr.follow [true, true, true, true, true, true, false, true, true, false, false, false, false, false, false, false, false, false, false, false, false, false, false, false, true, true, true] (yB f f2 ls mp rp ps k) =
  some ([decide (k < (↑ls.length : Int)),
  inB k ls.length,
  decide (k.toNat < ls.length),
  decide (ps.length ≤ (300 : Nat)) && inR64 (elC ls k).snd.snd.snd.snd.fst,
  (dB ls mp rp ps k).fst == (0 : Int),
  (dB ls mp rp ps k).snd.snd.snd.isSome,
  false,
  decide ((dB ls mp rp ps k).snd.snd.fst.length ≤ (100000 : Nat)),
  okP mp (dB ls mp rp ps k).snd.fst (dB ls mp rp ps k).snd.snd.fst,
  false,
  false,
  false,
  false,
  false,
  mp != mp,
  false,
  false,
  false,
  !(dB ls mp rp ps k).snd.fst,
  false,
  false,
  false,
  false,
  false,
  decide (((dB ls mp rp ps k).snd.snd.snd.getD []).length ≤ (1000 : Nat) ∧ (dB ls mp rp ps k).snd.snd.fst.length ≤ (1000 : Nat) ∧ (((dB ls mp rp ps k).snd.snd.snd.getD []).all fun m => inR64 m.fst) = true),
  noneP (mBP f ls mp rp mp (dB ls mp rp ps k).snd.fst true (fullD (elC ls k).fst) ((dB ls mp rp ps k).snd.snd.snd.getD []) true f2 ps true false (dB ls mp rp ps k).snd.snd.fst k) ((dB ls mp rp ps k).snd.snd.snd.getD []).length,
  inR64 (k + (1 : Int))],
  (Ex.normal, [SV.h (0 : Nat), SV.h (1 : Nat), SV.raw (Value.int IntKind.i64 (k + (1 : Int))), SV.raw (Value.bool false)], [SO.sl false f (40 : Nat) ls, SO.box [SV.raw (Value.int IntKind.i64 mp), SV.raw (Value.bool (dB ls mp rp ps k).snd.fst), SV.h (2 : Nat)] (27 : Nat), SO.sl true false (46 : Nat) (dB ls mp rp ps k).snd.snd.fst])) := by kernel_rfl

abbrev YS := Option (Bool × List Pt)
def nextY (s : YS) (D : DR) : YS := if D.1 = 0 then some (D.2.1, D.2.2.1) else s
def doneY (mp : Int) (s : YS) (a : Ac) : DR := match s with
  | none => doneR mp false [] a
  | some p => doneR mp p.1 p.2 a
def stepY (mp : Int) (s : YS) (a : Ac) : YS := nextY s (doneY mp s a)
def okY (mp : Int) (s : YS) : Prop := match s with
  | none => okP mp false [] = true
  | some p => okP mp p.1 p.2 = true
@[reducible] def ySt (f : Bool) (ls : List Ac) (mp : Int) (x : Nat × YS) : List SV × List (SO C27) := match x.2 with
  | none => yStA f ls mp (x.1 : Int)
  | some p => yStB f false ls mp p.1 p.2 (x.1 : Int)
theorem none_of {p : Nat → Bool} {n : Nat} (h : ∀ k, k < n → p k = false) : noneP p n = true := noneP_iff.2 h
theorem elM_mem {ms : List Mg} {k : Nat} (hk : k < ms.length) : elM ms (k : Int) ∈ ms := by
  have h2 : elM ms (k : Int) = ms[k]'hk := by
    show ms.getD k _ = _
    rw [List.getD_eq_getElem?_getD, List.getElem?_eq_getElem hk]; rfl
  rw [h2]; exact List.getElem_mem hk
/-- No message is amiss. -/
theorem fine_bad {most : Int} {D : DR} (h : FineD most D) {k : Nat} (hk : k < (D.2.2.2.getD []).length) :
    (!okM (elM (D.2.2.2.getD []) (k : Int)).2.1 (elM (D.2.2.2.getD []) (k : Int)).2.2.2 || (((elM (D.2.2.2.getD []) (k : Int)).2.1 == 6 || ((elM (D.2.2.2.getD []) (k : Int)).2.1 == 7 || (elM (D.2.2.2.getD []) (k : Int)).2.1 == 4)) && (!(findP most D.2.1 D.2.2.1 (elM (D.2.2.2.getD []) (k : Int)).1).2 || !(findP most D.2.1 D.2.2.1 (elM (D.2.2.2.getD []) (k : Int)).1).1.2.2.2.2.2))) = false := by
  obtain ⟨h1, _, h3⟩ := h.fine _ (elM_mem hk)
  generalize elM (D.2.2.2.getD []) (k : Int) = m at h1 h3 ⊢
  rw [h1]
  by_cases hc : m.2.1 = 6 ∨ m.2.1 = 7 ∨ m.2.1 = 4
  · obtain ⟨g1, g2⟩ := h3 hc
    rw [g1, g2]; simp
  · rw [show (m.2.1 == 6) = false from beq_eq_false_iff_ne.2 (fun e => hc (.inl e)), show (m.2.1 == 7) = false from beq_eq_false_iff_ne.2 (fun e => hc (.inr (.inl e))), show (m.2.1 == 4) = false from beq_eq_false_iff_ne.2 (fun e => hc (.inr (.inr e)))]
    rfl
theorem fine_all {most : Int} {D : DR} (h : FineD most D) : decide ((D.2.2.2.getD []).length ≤ 1000 ∧ D.2.2.1.length ≤ 1000 ∧ ((D.2.2.2.getD []).all fun m => inR64 m.1) = true) = true := by
  refine decide_eq_true ⟨h.len, by have := okP_len h.ok; omega, ?_⟩
  rw [List.all_eq_true]
  intro m hm
  have := (h.fine m hm).2.1
  exact inR64_mk (by omega)
theorem y_round {f : Bool} {ls : List Ac} {mp : Int} {s : YS} {k : Nat} (hl : ls.length ≤ 1000) (hk : k < ls.length) (hs : okY mp s) (hr : inR64 (elC ls (k : Int)).2.2.2.2.1 = true) :
    ∃ y, (roundG C27 Try.prog sfS lsM lsMu 10 3 0 ySlots ⟨(ySt f ls mp (k, s)).1, 2, (ySt f ls mp (k, s)).2⟩).get = some y ∧ isNorm y.1 = true ∧ y.2 = ySt f ls mp (k + 1, stepY mp s (elC ls (k : Int))) ∧ okY mp (stepY mp s (elC ls (k : Int))) := by
  have k1 := decide_eq_true (show (k : Int) < (ls.length : Int) by omega)
  have k2 : Sx.inB (k : Int) ls.length = true := inB_mk ⟨by omega, by omega⟩
  have k3 := decide_eq_true (show ((k : Nat) : Int).toNat < ls.length from hk)
  have k4 : inR64 ((k : Int) + 1) = true := inR64_mk (by omega)
  have k5 : (mp != mp) = false := by simp
  cases s with
  | none =>
    have hs : okP mp false [] = true := hs
    unfold stepY nextY doneY
    simp only
    have dd : doneR mp false [] (elC ls (k : Int)) = dA ls mp k := rfl
    rw [dd]
    by_cases h0 : (dA ls mp k).1 = 0
    · have F : FineD mp (dA ls mp k) := done_fine hs h0
      rw [if_pos h0]
      have e0 : ((dA ls mp k).1 == 0) = true := by rw [h0]; rfl
      have e1 : decide ((dA ls mp k).2.2.1.length ≤ 100000) = true := decide_eq_true (by have := okP_len F.ok; omega)
      have e2 : decide ((dA ls mp k).2.2.1.length ≤ 1000) = true := decide_eq_true (by have := okP_len F.ok; omega)
      cases hm : (dA ls mp k).2.2.2.isSome with
      | true =>
        have e3 := F.said hm
        have o2 : okP mp true (dA ls mp k).2.2.1 = true := by have := F.ok; rwa [e3] at this
        exact ⟨_, Tr.follow_get (yA_okm f ls mp k) (by
          simp only [k1, k2, k3, k4, k5, hr, e0, e1, hm, o2, e3, fine_all F, Bool.not_true]
          rw [none_of fun j hj => by have := fine_bad F hj; rw [e3] at this; exact this]), rfl, rfl, F.ok⟩
      | false =>
        by_cases hr2 : (dA ls mp k).2.1 = true
        · have o2 : okP mp true (dA ls mp k).2.2.1 = true := by have := F.ok; rwa [hr2] at this
          exact ⟨_, Tr.follow_get (yA_okn f ls mp k) (by simp only [k1, k2, k3, k4, k5, hr, e0, e1, e2, hm, o2, hr2, Bool.not_true]), rfl, rfl, F.ok⟩
        · have hr2 : (dA ls mp k).2.1 = false := by simpa using hr2
          have o2 : okP mp false (dA ls mp k).2.2.1 = true := by have := F.ok; rwa [hr2] at this
          exact ⟨_, Tr.follow_get (yA_oku f ls mp k) (by simp only [k1, k2, k3, k4, k5, hr, e0, e1, e2, hm, o2, hr2, Bool.not_false]), rfl, rfl, F.ok⟩
    · rw [if_neg h0]
      have e0 : ((dA ls mp k).1 == 0) = false := beq_eq_false_iff_ne.2 h0
      have e1 : ((dA ls mp k).1 != 0) = true := bne_iff_ne.2 h0
      exact ⟨_, Tr.follow_get (yA_err f ls mp k) (by simp only [k1, k2, k3, k4, hr, e0, e1]), rfl, rfl, hs⟩
  | some p =>
    obtain ⟨rp, ps⟩ := p
    have hs : okP mp rp ps = true := hs
    unfold stepY nextY doneY
    simp only
    have dd : doneR mp rp ps (elC ls (k : Int)) = dB ls mp rp ps k := rfl
    rw [dd]
    have k6 : (decide (ps.length ≤ 300) && inR64 (elC ls (k : Int)).2.2.2.2.1) = true := by rw [hr, decide_eq_true (by have := okP_len hs; omega)]; rfl
    by_cases h0 : (dB ls mp rp ps k).1 = 0
    · have F : FineD mp (dB ls mp rp ps k) := done_fine hs h0
      rw [if_pos h0]
      have e0 : ((dB ls mp rp ps k).1 == 0) = true := by rw [h0]; rfl
      have e1 : decide ((dB ls mp rp ps k).2.2.1.length ≤ 100000) = true := decide_eq_true (by have := okP_len F.ok; omega)
      have e2 : decide ((dB ls mp rp ps k).2.2.1.length ≤ 1000) = true := decide_eq_true (by have := okP_len F.ok; omega)
      cases hm : (dB ls mp rp ps k).2.2.2.isSome with
      | true =>
        have e3 := F.said hm
        have o2 : okP mp true (dB ls mp rp ps k).2.2.1 = true := by have := F.ok; rwa [e3] at this
        exact ⟨_, Tr.follow_get (yB_okm f false ls mp rp ps k) (by
          simp only [k1, k2, k3, k4, k5, k6, e0, e1, hm, o2, e3, fine_all F, Bool.not_true]
          rw [none_of fun j hj => by have := fine_bad F hj; rw [e3] at this; exact this]), rfl, rfl, F.ok⟩
      | false =>
        by_cases hr2 : (dB ls mp rp ps k).2.1 = true
        · have o2 : okP mp true (dB ls mp rp ps k).2.2.1 = true := by have := F.ok; rwa [hr2] at this
          exact ⟨_, Tr.follow_get (yB_okn f false ls mp rp ps k) (by simp only [k1, k2, k3, k4, k5, k6, e0, e1, e2, hm, o2, hr2, Bool.not_true]), rfl, rfl, F.ok⟩
        · have hr2 : (dB ls mp rp ps k).2.1 = false := by simpa using hr2
          have o2 : okP mp false (dB ls mp rp ps k).2.2.1 = true := by have := F.ok; rwa [hr2] at this
          exact ⟨_, Tr.follow_get (yB_oku f false ls mp rp ps k) (by simp only [k1, k2, k3, k4, k5, k6, e0, e1, e2, hm, o2, hr2, Bool.not_false]), rfl, rfl, F.ok⟩
    · rw [if_neg h0]
      have e0 : ((dB ls mp rp ps k).1 == 0) = false := beq_eq_false_iff_ne.2 h0
      have e1 : ((dB ls mp rp ps k).1 != 0) = true := bne_iff_ne.2 h0
      exact ⟨_, Tr.follow_get (yB_err f false ls mp rp ps k) (by simp only [k1, k2, k3, k4, k6, e0, e1]), rfl, rfl, hs⟩
/-! ### the whole loop -/
def runY (mp : Int) (ls : List Ac) : YS := ls.foldl (stepY mp) none
def hasY (s : YS) : Bool := s.isSome
def rdyY (s : YS) : Bool := match s with
  | some p => p.1
  | none => false
def lstY (s : YS) : List Pt := match s with
  | some p => p.2
  | none => []
def smallY (mp : Int) (ls : List Ac) : Bool := decide ((1 ≤ mp ∧ mp ≤ 32) ∧ ls.length ≤ 1000) && ls.all fun a => inR64 a.2.2.2.2.1
def yLoop : LoopFn C27 := fun li => match li with
  | ⟨[.h 0, .h 1, .raw (.int .i64 (.ofNat 0)), .raw (.bool false)], 2, [.sl false f 40 ls, .box [.raw (.int .i64 mp), .raw (.bool false), .raw (.slice none 0 0)] 27]⟩ =>
    .br (smallY mp ls) (.br (hasY (runY mp ls)) (.leaf (.exit 0, yStB f false ls mp (rdyY (runY mp ls)) (lstY (runY mp ls)) (ls.length : Int))) (.leaf (.exit 0, yStA f ls mp (ls.length : Int)))) .fail
  | _ => .fail
theorem y_loop : loopOf Try.prog 3 0 = some (138, (loopOf Try.prog 3 0).get!.2) := by kernel_rfl
theorem elC_at {ls : List Ac} {k : Nat} (hk : k < ls.length) : elC ls (k : Int) = ls[k]'hk := by
  show ls.getD k _ = _
  rw [List.getD_eq_getElem?_getD, List.getElem?_eq_getElem hk]; rfl
theorem yLoop_ok : ∀ tm hp n x, (loopS [1, 5, 7, 4] [] yLoop tm hp n).get = some x → InLoop Try.prog 138 (loopOf Try.prog 3 0).get!.2 tm hp n fun e tm hp n => (e, tm, hp, n) = x := loopS_of fun li r h => by
  unfold yLoop at h
  split at h
  · rename_i f ls mp
    obtain ⟨hl, hC⟩ := Tr.get_ask.1 h
    clear h
    change List Ac at ls
    unfold smallY at hl
    rw [Bool.and_eq_true] at hl
    obtain ⟨hl, hall⟩ := hl
    have hl : (1 ≤ mp ∧ mp ≤ 32) ∧ ls.length ≤ 1000 := of_decide_eq_true hl
    obtain rfl : r = (.exit 0, ySt f ls mp (ls.length, runY mp ls)) := by
      generalize runY mp ls = S at hC ⊢
      cases S with
      | none => exact (Option.some.inj hC).symm
      | some p => exact (Option.some.inj hC).symm
    clear hC
    generalize hS : runY mp ls = S
    refine ⟨?_, ?_⟩
    · cases S with
      | none => exact Keeps.of2 (Nat.le_refl 2) rfl (fun o ho => by cases ho)
      | some p => exact Keeps.of2 (show 2 ≤ 3 by decide) rfl (fun o ho => by
          simp only [List.drop, List.mem_cons, List.not_mem_nil, or_false] at ho
          subst ho; exact .inl rfl)
    refine loop_li (σ := Nat × YS) (st := ySt f ls mp) (Inv := fun x => x.1 ≤ ls.length ∧ okY mp x.2 ∧ (ls.drop x.1).foldl (stepY mp) x.2 = S) (μ := fun x => ls.length - x.1) (d := 10) (unr := lsMu) (sp := sfS) (ls := lsM) plain mixed sfS_ok lsM_ok y_loop (fun x hx => ?_) (0, none) ⟨Nat.zero_le _, okP_iff.2 ⟨hl.1, .nil, fun _ h => by cases h⟩, hS⟩
    obtain ⟨k, s⟩ := x
    obtain ⟨hi, h1, hf⟩ := hx
    simp only at hi h1 hf
    by_cases h5 : k < ls.length
    · have hr : inR64 (elC ls (k : Int)).2.2.2.2.1 = true := by
        rw [elC_at h5]; exact List.all_eq_true.1 hall _ (List.getElem_mem h5)
      obtain ⟨y, r1, r2, r3, r4⟩ := y_round (f := f) hl.2 h5 h1 hr
      refine ⟨y, r1, fun _ => ⟨(k + 1, stepY mp s (elC ls (k : Int))), ⟨by omega, r4, ?_⟩, by simp only; omega, r3⟩, fun h => by rw [r2] at h; cases h⟩
      rw [List.drop_eq_getElem_cons h5] at hf
      rw [elC_at h5]
      exact hf
    · have : k = ls.length := by omega
      subst this
      have hs' : s = S := by rw [List.drop_of_length_le (Nat.le_refl _)] at hf; exact hf
      subst hs'
      cases s with
      | none => exact ⟨_, Tr.follow_get (yA_end f ls mp _) (by rw [decide_eq_false (by omega)]), nofun, fun _ => ⟨rfl, rfl⟩⟩
      | some p => exact ⟨_, Tr.follow_get (yB_end f false ls mp p.1 p.2 _) (by rw [decide_eq_false (by omega)]), nofun, fun _ => ⟨rfl, rfl⟩⟩
  · cases h
end
end Go.Proofs.Ytgegagndihffpaa
