/-
  Merged texts: Ch27Fin0, Ch27FinP, Ch27FinO, Ch27FinQ, Ch27Las0, Ch27LasP, Ch27LasL, Ch27LasM, Ch27LasN, Ch27LasO. Own work; nothing here is trusted.
-/
import Derived.Test.YtgegagndihffpaaCh27KnA
import Derived.Test.YtgegagndihffpaaCh27Law2
/-
  Chapter 27: PortsKnow, the loop over what is done ahead: states. Own work; nothing here is trusted.
-/
namespace Go.Proofs.Ytgegagndihffpaa
open Go Go.Sx Go.RowKit
set_option maxRecDepth 1000000
set_option maxHeartbeats 8000000
set_option linter.unusedVariables false
noncomputable section
def sfO : SpecT C27 := addS 12 (seeS doneT) noSp
theorem sfO_ok : SpecTOk Try.prog sfO := addS_ok (seeS_ok doneT_ok) noSp_ok
abbrev oSl : List Nat := [1, 7, 11, 6, 2, 9]
/-- A list of acts that was handed over, or nil. -/
abbrev LB := Option (Bool × List Ac)
/-- No ports yet. -/
@[reducible] def oA (f : Bool) (la : List Ac) (lb : LB) (mp K : Int) (R : Bool) : List SV × List (SO C27) := match lb with
  | some (f2, l) => ([.h 0, .h 1, .raw (.int .i64 K), .raw (.bool R), .h 2, .h 3], [.sl false f 40 la, pB mp false nlS, .sl false f2 40 l, pB mp false nlS])
  | none => ([.h 0, .h 1, .raw (.int .i64 K), .raw (.bool R), nlS, .h 2], [.sl false f 40 la, pB mp false nlS, pB mp false nlS])
/-- A list of ports. -/
@[reducible] def oB (f : Bool) (la : List Ac) (lb : LB) (mp : Int) (r : Bool) (ps : List Pt) (K : Int) (R : Bool) : List SV × List (SO C27) := match lb with
  | some (f2, l) => ([.h 0, .h 1, .raw (.int .i64 K), .raw (.bool R), .h 2, .h 3], [.sl false f 40 la, pB mp r (.h 4), .sl false f2 40 l, pB mp false nlS, .sl true false 46 ps])
  | none => ([.h 0, .h 1, .raw (.int .i64 K), .raw (.bool R), nlS, .h 2], [.sl false f 40 la, pB mp r (.h 3), pB mp false nlS, .sl true false 46 ps])
@[reducible] def oNb (lb : LB) : Nat := match lb with
  | some _ => 4
  | none => 3
abbrev oRA (f : Bool) (la : List Ac) (lb : LB) (mp K : Int) := roundG C27 Try.prog sfO noLs (fun _ _ => 20) 10 6 0 oSl ⟨(oA f la lb mp K false).1, oNb lb, (oA f la lb mp K false).2⟩
abbrev oRB (f : Bool) (la : List Ac) (lb : LB) (mp : Int) (r : Bool) (ps : List Pt) (K : Int) := roundG C27 Try.prog sfO noLs (fun _ _ => 20) 10 6 0 oSl ⟨(oB f la lb mp r ps K false).1, oNb lb, (oB f la lb mp r ps K false).2⟩
end
end Go.Proofs.Ytgegagndihffpaa

/-
  Chapter 27: PortsKnow, the loop over what is done ahead: ways through a round. Own work; nothing here is trusted.
-/
namespace Go.Proofs.Ytgegagndihffpaa
open Go Go.Sx Go.RowKit
set_option maxRecDepth 1000000
set_option maxHeartbeats 8000000
set_option linter.unusedVariables false
noncomputable section

theorem oA_end (f : Bool) (la : List Ac) (lb : LB) (mp K : Int) : Tr.follow [false] (oRA f la lb mp K) =
  some ([decide (K < (↑la.length : Int))],
  (.exit 0, oA f la lb mp K false)) := by rcases lb with _ | ⟨f2, l⟩ <;> kernel_rfl
theorem oA_lo (f : Bool) (la : List Ac) (lb : LB) (mp K : Int) : Tr.follow [true, true, true, true, true, true, true, true, true, true, true, true] (oRA f la lb mp K) =
  some ([decide (K < (↑la.length : Int)),
  inB K la.length,
  decide (K.toNat < la.length),
  decide ((elC la K).fst < (1 : Int)),
  true,
  true,
  true,
  true,
  true,
  true,
  true,
  inR64 (K + (1 : Int))],
  (.normal, oA f la lb mp (K + 1) false)) := by rcases lb with _ | ⟨f2, l⟩ <;> kernel_rfl
theorem oA_hi (f : Bool) (la : List Ac) (lb : LB) (mp K : Int) : Tr.follow [true, true, true, false, false, false, true, false, false, true, false, true, true] (oRA f la lb mp K) =
  some ([decide (K < (↑la.length : Int)),
  inB K la.length,
  decide (K.toNat < la.length),
  decide ((elC la K).fst < (1 : Int)),
  false,
  false,
  inB K la.length,
  false,
  false,
  decide (K.toNat < la.length),
  false,
  decide ((3 : Int) < (elC la K).fst),
  inR64 (K + (1 : Int))],
  (.normal, oA f la lb mp (K + 1) false)) := by rcases lb with _ | ⟨f2, l⟩ <;> kernel_rfl
theorem oA_err (f : Bool) (la : List Ac) (lb : LB) (mp K : Int) : Tr.follow [true, true, true, false, false, false, true, false, false, true, false, false, true, true, true, false, false, false, true] (oRA f la lb mp K) =
  some ([decide (K < (↑la.length : Int)),
  inB K la.length,
  decide (K.toNat < la.length),
  decide ((elC la K).fst < (1 : Int)),
  false,
  false,
  inB K la.length,
  false,
  false,
  decide (K.toNat < la.length),
  false,
  decide ((3 : Int) < (elC la K).fst),
  inB K la.length,
  decide (K.toNat < la.length),
  inR64 (elC la K).snd.snd.snd.snd.fst,
  (doneR mp false [] (elC la K)).fst == (0 : Int),
  false,
  (doneR mp false [] (elC la K)).fst == (0 : Int),
  inR64 (K + (1 : Int))],
  (.normal, oA f la lb mp (K + 1) false)) := by rcases lb with _ | ⟨f2, l⟩ <;> kernel_rfl
theorem oA_ok (f : Bool) (la : List Ac) (lb : LB) (mp K : Int) : Tr.follow [true, true, true, false, false, false, true, false, false, true, false, false, true, true, true, true, false, false, true, true] (oRA f la lb mp K) =
  some ([decide (K < (↑la.length : Int)),
  inB K la.length,
  decide (K.toNat < la.length),
  decide ((elC la K).fst < (1 : Int)),
  false,
  false,
  inB K la.length,
  false,
  false,
  decide (K.toNat < la.length),
  false,
  decide ((3 : Int) < (elC la K).fst),
  inB K la.length,
  decide (K.toNat < la.length),
  inR64 (elC la K).snd.snd.snd.snd.fst,
  (doneR mp false [] (elC la K)).fst == (0 : Int),
  (doneR mp false [] (elC la K)).snd.snd.snd.isSome,
  false,
  true,
  inR64 (K + (1 : Int))],
  (.normal, oB f la lb mp (doneR mp false [] (elC la K)).2.1 (doneR mp false [] (elC la K)).2.2.1 (K + 1) false)) := by rcases lb with _ | ⟨f2, l⟩ <;> kernel_rfl
theorem oB_end (f : Bool) (la : List Ac) (lb : LB) (mp : Int) (r : Bool) (ps : List Pt) (K : Int) : Tr.follow [false] (oRB f la lb mp r ps K) =
  some ([decide (K < (↑la.length : Int))],
  (.exit 0, oB f la lb mp r ps K false)) := by rcases lb with _ | ⟨f2, l⟩ <;> kernel_rfl
theorem oB_lo (f : Bool) (la : List Ac) (lb : LB) (mp : Int) (r : Bool) (ps : List Pt) (K : Int) : Tr.follow [true, true, true, true, true, true, true, true, true, true, true, true] (oRB f la lb mp r ps K) =
  some ([decide (K < (↑la.length : Int)),
  inB K la.length,
  decide (K.toNat < la.length),
  decide ((elC la K).fst < (1 : Int)),
  true,
  true,
  true,
  true,
  true,
  true,
  true,
  inR64 (K + (1 : Int))],
  (.normal, oB f la lb mp r ps (K + 1) false)) := by rcases lb with _ | ⟨f2, l⟩ <;> kernel_rfl
theorem oB_hi (f : Bool) (la : List Ac) (lb : LB) (mp : Int) (r : Bool) (ps : List Pt) (K : Int) : Tr.follow [true, true, true, false, false, false, true, false, false, true, false, true, true] (oRB f la lb mp r ps K) =
  some ([decide (K < (↑la.length : Int)),
  inB K la.length,
  decide (K.toNat < la.length),
  decide ((elC la K).fst < (1 : Int)),
  false,
  false,
  inB K la.length,
  false,
  false,
  decide (K.toNat < la.length),
  false,
  decide ((3 : Int) < (elC la K).fst),
  inR64 (K + (1 : Int))],
  (.normal, oB f la lb mp r ps (K + 1) false)) := by rcases lb with _ | ⟨f2, l⟩ <;> kernel_rfl
theorem oB_err (f : Bool) (la : List Ac) (lb : LB) (mp : Int) (r : Bool) (ps : List Pt) (K : Int) : Tr.follow [true, true, true, false, false, false, true, false, false, true, false, false, true, true, true, false, false, false, true] (oRB f la lb mp r ps K) =
  some ([decide (K < (↑la.length : Int)),
  inB K la.length,
  decide (K.toNat < la.length),
  decide ((elC la K).fst < (1 : Int)),
  false,
  false,
  inB K la.length,
  false,
  false,
  decide (K.toNat < la.length),
  false,
  decide ((3 : Int) < (elC la K).fst),
  inB K la.length,
  decide (K.toNat < la.length),
  decide (ps.length ≤ (300 : Nat)) && inR64 (elC la K).snd.snd.snd.snd.fst,
  (doneR mp r ps (elC la K)).fst == (0 : Int),
  false,
  (doneR mp r ps (elC la K)).fst == (0 : Int),
  inR64 (K + (1 : Int))],
  (.normal, oB f la lb mp r ps (K + 1) false)) := by rcases lb with _ | ⟨f2, l⟩ <;> kernel_rfl
theorem oB_ok (f : Bool) (la : List Ac) (lb : LB) (mp : Int) (r : Bool) (ps : List Pt) (K : Int) : Tr.follow [true, true, true, false, false, false, true, false, false, true, false, false, true, true, true, true, false, false, true, true] (oRB f la lb mp r ps K) =
  some ([decide (K < (↑la.length : Int)),
  inB K la.length,
  decide (K.toNat < la.length),
  decide ((elC la K).fst < (1 : Int)),
  false,
  false,
  inB K la.length,
  false,
  false,
  decide (K.toNat < la.length),
  false,
  decide ((3 : Int) < (elC la K).fst),
  inB K la.length,
  decide (K.toNat < la.length),
  decide (ps.length ≤ (300 : Nat)) && inR64 (elC la K).snd.snd.snd.snd.fst,
  (doneR mp r ps (elC la K)).fst == (0 : Int),
  (doneR mp r ps (elC la K)).snd.snd.snd.isSome,
  false,
  true,
  inR64 (K + (1 : Int))],
  (.normal, oB f la lb mp (doneR mp r ps (elC la K)).2.1 (doneR mp r ps (elC la K)).2.2.1 (K + 1) false)) := by rcases lb with _ | ⟨f2, l⟩ <;> kernel_rfl
end
end Go.Proofs.Ytgegagndihffpaa

/-
  Chapter 27: PortsKnow, the loop over what is done ahead. Own work; nothing here is trusted.
-/
namespace Go.Proofs.Ytgegagndihffpaa
open Go Go.Sx Go.RowKit
set_option maxRecDepth 1000000
set_option maxHeartbeats 8000000
set_option linter.unusedVariables false
set_option linter.unusedSimpArgs false
noncomputable section
abbrev OS := Option (Bool × List Pt)
def outK (a : Ac) : Bool := decide (a.1 < 1) || decide (3 < a.1)
def okO (mp : Int) (s : OS) : Prop := (1 ≤ mp ∧ mp ≤ 32) ∧ ∀ x, s = some x → x.1 = false ∧ okP mp false x.2 = true
abbrev doO (mp : Int) (s : OS) (a : Ac) : DR := match s with
  | none => doneR mp false [] a
  | some x => doneR mp x.1 x.2 a
def stepO (mp : Int) (s : OS) (a : Ac) : OS := match outK a with
  | true => s
  | false => match (doO mp s a).1 == 0 with
    | true => some ((doO mp s a).2.1, (doO mp s a).2.2.1)
    | false => s
/-- Acts of the device leave a driver that is not ready so, and tell it nothing. -/
theorem done_rdy {mp : Int} {r : Bool} {ts : List Pt} {a : Ac} (hk : outK a = false) (h0 : (doneR mp r ts a).1 = 0) : (doneR mp r ts a).2.1 = r := by
  unfold outK at hk
  simp only [Bool.or_eq_false_iff, decide_eq_false_iff_not] at hk
  revert h0
  unfold doneR
  by_cases h1 : a.1 = 1
  · rw [if_pos h1]
    repeat' split
    all_goals first
      | (intro h; cases h; done)
      | (intro _; rfl)
  · rw [if_neg h1]
    by_cases h2 : a.1 = 2
    · rw [if_pos h2]
      repeat' split
      all_goals first
        | (intro h; cases h; done)
        | (intro _; rfl)
    · rw [if_neg h2, if_pos (show a.1 = 3 by omega)]
      repeat' split
      all_goals first
        | (intro h; cases h; done)
        | (intro _; rfl)
@[reducible] def oSt (f : Bool) (la : List Ac) (lb : LB) (mp : Int) (x : Nat × OS) : List SV × List (SO C27) := match x.2 with
  | none => oA f la lb mp (x.1 : Int) false
  | some y => oB f la lb mp y.1 y.2 (x.1 : Int) false
abbrev oR (f : Bool) (la : List Ac) (lb : LB) (mp : Int) (x : Nat × OS) := roundG C27 Try.prog sfO noLs (fun _ _ => 20) 10 6 0 oSl ⟨(oSt f la lb mp x).1, oNb lb, (oSt f la lb mp x).2⟩
theorem okP_no {mp : Int} (h : 1 ≤ mp ∧ mp ≤ 32) : okP mp false [] = true := okP_iff.2 ⟨h, List.Pairwise.nil, fun x hx => by cases hx⟩
theorem done_quiet {mp : Int} {ts : List Pt} {a : Ac} (ho : okP mp false ts = true) (hk : outK a = false) (h0 : (doneR mp false ts a).1 = 0) : (doneR mp false ts a).2.1 = false ∧ okP mp false (doneR mp false ts a).2.2.1 = true ∧ (doneR mp false ts a).2.2.2.isSome = false := by
  have h1 := done_rdy hk h0
  have hf := done_fine ho h0
  refine ⟨h1, by have := hf.ok; rwa [h1] at this, ?_⟩
  cases hs : (doneR mp false ts a).2.2.2.isSome with
  | false => rfl
  | true => have := hf.said hs; rw [h1] at this; cases this
theorem o_round {f : Bool} {la : List Ac} {lb : LB} {mp : Int} {k : Nat} {s : OS} (hk : k < la.length) (hl : la.length ≤ 1000) (hr : inR64 (elC la (k : Int)).2.2.2.2.1 = true) (ho : okO mp s) :
    (oR f la lb mp (k, s)).get = some (.normal, oSt f la lb mp (k + 1, stepO mp s (elC la (k : Int)))) ∧ okO mp (stepO mp s (elC la (k : Int))) := by
  have k1 := decide_eq_true (show (k : Int) < (la.length : Int) by omega)
  have k2 : Sx.inB (k : Int) la.length = true := inB_mk ⟨by omega, by omega⟩
  have k3 := decide_eq_true (show ((k : Nat) : Int).toNat < la.length by omega)
  have k4 : inR64 ((k : Int) + 1) = true := inR64_mk (by omega)
  cases ha : decide ((elC la (k : Int)).1 < 1) with
  | true =>
    have hs : stepO mp s (elC la (k : Int)) = s := by unfold stepO outK; rw [ha]; rfl
    rw [hs]
    refine ⟨?_, ho⟩
    cases s with
    | none => exact Tr.follow_get (oA_lo f la lb mp k) (by simp only [k1, k2, k3, k4, ha])
    | some y => exact Tr.follow_get (oB_lo f la lb mp y.1 y.2 k) (by simp only [k1, k2, k3, k4, ha])
  | false =>
    cases hb : decide (3 < (elC la (k : Int)).1) with
    | true =>
      have hs : stepO mp s (elC la (k : Int)) = s := by unfold stepO outK; rw [ha, hb]; rfl
      rw [hs]
      refine ⟨?_, ho⟩
      cases s with
      | none => exact Tr.follow_get (oA_hi f la lb mp k) (by simp only [k1, k2, k3, k4, ha, hb])
      | some y => exact Tr.follow_get (oB_hi f la lb mp y.1 y.2 k) (by simp only [k1, k2, k3, k4, ha, hb])
    | false =>
      have hK : outK (elC la (k : Int)) = false := by unfold outK; rw [ha, hb]; rfl
      unfold stepO
      rw [hK]
      cases s with
      | none =>
        cases h0 : ((doneR mp false [] (elC la (k : Int))).1 == 0) with
        | true =>
          obtain ⟨q1, q2, q3⟩ := done_quiet (okP_no ho.1) hK (eq_of_beq h0)
          exact ⟨Tr.follow_get (oA_ok f la lb mp k) (by simp only [k1, k2, k3, k4, ha, hb, hr, h0, q3]), ho.1, fun x hx => by cases hx; exact ⟨q1, q2⟩⟩
        | false =>
          exact ⟨Tr.follow_get (oA_err f la lb mp k) (by simp only [k1, k2, k3, k4, ha, hb, hr, h0]), ho⟩
      | some y =>
        obtain ⟨r, ps⟩ := y
        obtain ⟨hr0, hp0⟩ := ho.2 _ rfl
        have hr0 : r = false := hr0
        subst hr0
        have hp0 : okP mp false ps = true := hp0
        have k5 : (decide (ps.length ≤ (300 : Nat)) && inR64 (elC la (k : Int)).2.2.2.2.1) = true := by
          rw [hr, decide_eq_true (show ps.length ≤ 300 by have := okP_len hp0; omega)]; rfl
        cases h0 : ((doneR mp false ps (elC la (k : Int))).1 == 0) with
        | true =>
          obtain ⟨q1, q2, q3⟩ := done_quiet hp0 hK (eq_of_beq h0)
          refine ⟨Tr.follow_get (oB_ok f la lb mp false ps k) ?_, ho.1, fun x hx => by cases hx; exact ⟨q1, q2⟩⟩
          rw [k5]
          simp only [k1, k2, k3, k4, ha, hb, h0, q3]
        | false =>
          refine ⟨Tr.follow_get (oB_err f la lb mp false ps k) ?_, ho⟩
          rw [k5]
          simp only [k1, k2, k3, k4, ha, hb, h0]
end
end Go.Proofs.Ytgegagndihffpaa

/-
  Chapter 27: PortsKnow, the loop over what is done ahead, told by a function. Own work; nothing here is trusted.
-/
namespace Go.Proofs.Ytgegagndihffpaa
open Go Go.Sx Go.RowKit
set_option maxRecDepth 1000000
set_option maxHeartbeats 8000000
set_option linter.unusedVariables false
set_option linter.unusedSimpArgs false
noncomputable section
theorem o_loop : loopOf Try.prog 6 0 = some (((loopOf Try.prog 6 0).get!).1, (loopOf Try.prog 6 0).get!.2) := by kernel_rfl
def runO (mp : Int) (la : List Ac) : OS := la.foldl (stepO mp) none
theorem o_end {f : Bool} {la : List Ac} {lb : LB} {mp : Int} {s : OS} : (oR f la lb mp (la.length, s)).get = some (.exit 0, oSt f la lb mp (la.length, s)) := by
  have k1 : decide ((la.length : Int) < (la.length : Int)) = false := decide_eq_false (Int.lt_irrefl _)
  cases s with
  | none => exact Tr.follow_get (oA_end f la lb mp (la.length : Int)) (by rw [k1])
  | some y => exact Tr.follow_get (oB_end f la lb mp y.1 y.2 (la.length : Int)) (by rw [k1])
theorem small_at {mp : Int} {la : List Ac} (h : smallY mp la = true) : ((1 ≤ mp ∧ mp ≤ 32) ∧ la.length ≤ 1000) ∧ ∀ k : Nat, k < la.length → inR64 (elC la (k : Int)).2.2.2.2.1 = true := by
  unfold smallY at h
  rw [Bool.and_eq_true] at h
  exact ⟨of_decide_eq_true h.1, fun k hk => by rw [elC_at hk]; exact List.all_eq_true.1 h.2 _ (List.getElem_mem hk)⟩
theorem o_all {mp : Int} {la : List Ac} (h : smallY mp la = true) : okO mp (runO mp la) := by
  have hs := small_at h
  have : ∀ (l : List Ac) (s : OS), okO mp s → okO mp (l.foldl (stepO mp) s) := by
    intro l
    induction l with
    | nil => exact fun s h => h
    | cons a r ih =>
      intro s ho
      refine ih _ ?_
      unfold stepO
      cases hK : outK a with
      | true => exact ho
      | false =>
        cases s with
        | none =>
          cases h0 : ((doneR mp false [] a).1 == 0) with
          | true =>
            obtain ⟨q1, q2, _⟩ := done_quiet (okP_no ho.1) hK (eq_of_beq h0)
            exact ⟨ho.1, fun x hx => by cases hx; exact ⟨q1, q2⟩⟩
          | false => exact ho
        | some y =>
          obtain ⟨r, ps⟩ := y
          obtain ⟨hr0, hp0⟩ := ho.2 _ rfl
          have hr0 : r = false := hr0
          subst hr0
          have hp0 : okP mp false ps = true := hp0
          cases h0 : ((doneR mp false ps a).1 == 0) with
          | true =>
            obtain ⟨q1, q2, _⟩ := done_quiet hp0 hK (eq_of_beq h0)
            exact ⟨ho.1, fun x hx => by cases hx; exact ⟨q1, q2⟩⟩
          | false => exact ho
  exact this la none ⟨hs.1.1, fun x hx => by cases hx⟩
theorem o_run {f : Bool} {la : List Ac} {lb : LB} {mp : Int} (h : smallY mp la = true) :
    LoopRun Try.prog ((loopOf Try.prog 6 0).get!).1 (loopOf Try.prog 6 0).get!.2 (oNb lb) (LI.st oSl ⟨(oSt f la lb mp (0, none)).1, oNb lb, (oSt f la lb mp (0, none)).2⟩) fun x T => ∃ vs os, (x = .exit 0 ∧ (vs, os) = oSt f la lb mp (la.length, runO mp la)) ∧ T = ⟨zipT oSl vs, numH 0 os, os.length⟩ := by
  obtain ⟨⟨hm, hl⟩, hr⟩ := small_at h
  refine loop_li (σ := Nat × OS) (st := oSt f la lb mp) (Inv := fun x => x.1 ≤ la.length ∧ x.2 = runO mp (la.take x.1) ∧ okO mp x.2) (μ := fun x => la.length - x.1) (d := 10) (unr := fun _ _ => 20) (sp := sfO) (ls := noLs) plain mixed sfO_ok noLs_ok o_loop (fun x hx => ?_) (0, none) ⟨Nat.zero_le _, rfl, hm, fun x hx => by cases hx⟩
  obtain ⟨k, s⟩ := x
  obtain ⟨h1, h2, h3⟩ := hx
  simp only at h1 h2 h3
  by_cases hlt : k < la.length
  · obtain ⟨g1, g2⟩ := o_round (f := f) (lb := lb) hlt hl (hr k hlt) h3
    refine ⟨_, g1, fun _ => ⟨(k + 1, _), ⟨hlt, ?_, g2⟩, by simp only; omega, rfl⟩, nofun⟩
    rw [List.take_add_one, List.getElem?_eq_getElem hlt, ← elC_at hlt]
    unfold runO at h2 ⊢
    rw [List.foldl_append, ← h2]
    rfl
  · have hke : k = la.length := by omega
    subst hke
    rw [List.take_length] at h2
    subst h2
    exact ⟨_, o_end, nofun, fun _ => ⟨rfl, rfl⟩⟩
/-! ### nothing ahead -/
@[reducible] def oZ (lb : LB) (mp : Int) : List SV × List (SO C27) := match lb with
  | some (f2, l) => ([nlS, .h 0, .raw (.int .i64 0), .raw (.bool false), .h 1, .h 2], [pB mp false nlS, .sl false f2 40 l, pB mp false nlS])
  | none => ([nlS, .h 0, .raw (.int .i64 0), .raw (.bool false), nlS, .h 1], [pB mp false nlS, pB mp false nlS])
@[reducible] def oZn (lb : LB) : Nat := match lb with
  | some _ => 3
  | none => 2
theorem oZ_get (lb : LB) (mp : Int) : (roundG C27 Try.prog sfO noLs (fun _ _ => 20) 10 6 0 oSl ⟨(oZ lb mp).1, oZn lb, (oZ lb mp).2⟩).get = some (.exit 0, oZ lb mp) := by rcases lb with _ | ⟨f2, l⟩ <;> kernel_rfl
theorem oZ_run (lb : LB) (mp : Int) :
    LoopRun Try.prog ((loopOf Try.prog 6 0).get!).1 (loopOf Try.prog 6 0).get!.2 (oZn lb) (LI.st oSl ⟨(oZ lb mp).1, oZn lb, (oZ lb mp).2⟩) fun x T => ∃ vs os, (x = .exit 0 ∧ (vs, os) = oZ lb mp) ∧ T = ⟨zipT oSl vs, numH 0 os, os.length⟩ :=
  loop_li (σ := Unit) (st := fun _ => oZ lb mp) (Inv := fun _ => True) (μ := fun _ => 0) (d := 10) (unr := fun _ _ => 20) (sp := sfO) (ls := noLs) plain mixed sfO_ok noLs_ok o_loop (fun _ _ => ⟨_, oZ_get lb mp, nofun, fun _ => ⟨rfl, rfl⟩⟩) () trivial
def hasO (s : OS) : Bool := s.isSome
def rO (s : OS) : Bool := match s with
  | some p => p.1
  | none => false
def pO (s : OS) : List Pt := match s with
  | some p => p.2
  | none => []
def oLeaf (f : Bool) (la : List Ac) (lb : LB) (mp : Int) (s : OS) : Tr (Ex × List SV × List (SO C27)) := .br (hasO s) (.leaf (.exit 0, oB f la lb mp (rO s) (pO s) (la.length : Int) false)) (.leaf (.exit 0, oA f la lb mp (la.length : Int) false))
theorem oLeaf_get (f : Bool) (la : List Ac) (lb : LB) (mp : Int) (s : OS) : (oLeaf f la lb mp s).get = some (.exit 0, oSt f la lb mp (la.length, s)) := by cases s <;> rfl
def oLoop : LoopFn C27 := fun li => match li with
  | ⟨[.h 0, .h 1, .raw (.int .i64 (.ofNat 0)), .raw (.bool false), .h 2, .h 3], 4, [.sl false f 40 la, .box [.raw (.int .i64 mp), .raw (.bool false), .raw (.slice none 0 0)] 27, .sl false f2 40 l, .box [.raw (.int .i64 mk), .raw (.bool false), .raw (.slice none 0 0)] 27]⟩ =>
    .br (mk == mp) (.br (smallY mp la) (oLeaf f la (some (f2, l)) mp (runO mp la)) .fail) .fail
  | ⟨[.h 0, .h 1, .raw (.int .i64 (.ofNat 0)), .raw (.bool false), .raw (.slice none 0 0), .h 2], 3, [.sl false f 40 la, .box [.raw (.int .i64 mp), .raw (.bool false), .raw (.slice none 0 0)] 27, .box [.raw (.int .i64 mk), .raw (.bool false), .raw (.slice none 0 0)] 27]⟩ =>
    .br (mk == mp) (.br (smallY mp la) (oLeaf f la none mp (runO mp la)) .fail) .fail
  | ⟨[.raw (.slice none 0 0), .h 0, .raw (.int .i64 (.ofNat 0)), .raw (.bool false), .h 1, .h 2], 3, [.box [.raw (.int .i64 mp), .raw (.bool false), .raw (.slice none 0 0)] 27, .sl false f2 40 l, .box [.raw (.int .i64 mk), .raw (.bool false), .raw (.slice none 0 0)] 27]⟩ => .br (mk == mp) (.leaf (.exit 0, oZ (some (f2, l)) mp)) .fail
  | ⟨[.raw (.slice none 0 0), .h 0, .raw (.int .i64 (.ofNat 0)), .raw (.bool false), .raw (.slice none 0 0), .h 1], 2, [.box [.raw (.int .i64 mp), .raw (.bool false), .raw (.slice none 0 0)] 27, .box [.raw (.int .i64 mk), .raw (.bool false), .raw (.slice none 0 0)] 27]⟩ => .br (mk == mp) (.leaf (.exit 0, oZ none mp)) .fail
  | _ => .fail
theorem oKeep (f : Bool) (la : List Ac) (lb : LB) (mp : Int) (x : Nat × OS) : Keeps (oNb lb) (oSt f la lb mp (0, none)).2 (oSt f la lb mp x).2 := by
  obtain ⟨k, s⟩ := x
  rcases lb with _ | ⟨f2, l⟩ <;> cases s <;> exact Keeps.of3 (by show _ ≤ _; simp [oNb]) rfl
theorem oLoop_ok : ∀ tm hp n x, (loopS oSl [] oLoop tm hp n).get = some x → InLoop Try.prog ((loopOf Try.prog 6 0).get!).1 (loopOf Try.prog 6 0).get!.2 tm hp n fun e tm hp n => (e, tm, hp, n) = x := loopS_of fun li r h => by
  unfold oLoop at h
  split at h
  · rename_i f la mp f2 l mk
    obtain ⟨h1, h⟩ := Tr.get_ask.1 h
    obtain ⟨h2, h⟩ := Tr.get_ask.1 h
    have h1 := eq_of_beq h1
    subst h1
    have hr := Option.some.inj (h.symm.trans (oLeaf_get _ _ _ _ _))
    subst hr
    exact ⟨oKeep f la (some (f2, l)) _ _, o_run (lb := some (f2, l)) h2⟩
  · rename_i f la mp mk
    obtain ⟨h1, h⟩ := Tr.get_ask.1 h
    obtain ⟨h2, h⟩ := Tr.get_ask.1 h
    have h1 := eq_of_beq h1
    subst h1
    have hr := Option.some.inj (h.symm.trans (oLeaf_get _ _ _ _ _))
    subst hr
    exact ⟨oKeep f la none _ _, o_run (lb := none) h2⟩
  · rename_i mp f2 l mk
    obtain ⟨h1, h⟩ := Tr.get_ask.1 h
    have h1 := eq_of_beq h1
    subst h1
    have hr := (Option.some.inj h).symm
    subst hr
    exact ⟨Keeps.of3 (Nat.le_refl _) rfl, oZ_run (some (f2, l)) _⟩
  · rename_i mp mk
    obtain ⟨h1, h⟩ := Tr.get_ask.1 h
    have h1 := eq_of_beq h1
    subst h1
    have hr := (Option.some.inj h).symm
    subst hr
    exact ⟨Keeps.of3 (Nat.le_refl _) rfl, oZ_run none _⟩
  · cases h
end
end Go.Proofs.Ytgegagndihffpaa

/-
  Chapter 27: PortsKnow, the last loop: states. Own work; nothing here is trusted.
-/
namespace Go.Proofs.Ytgegagndihffpaa
open Go Go.Sx Go.RowKit
set_option maxRecDepth 1000000
set_option maxHeartbeats 8000000
set_option linter.unusedVariables false
noncomputable section
def sfT : SpecT C27 := addS 12 (seeS doneT) (addS 23 (seeS alikeT) (addS 24 (seeS knowU) (addS 18 (seeS guestU) noSp)))
theorem sfT_ok : SpecTOk Try.prog sfT := addS_ok (seeS_ok doneT_ok) (addS_ok (seeS_ok alikeT_ok) (addS_ok (seeS_ok knowU_ok) (addS_ok (seeS_ok guestU_ok) noSp_ok)))
def lsT : LoopT C27 := Sx.addL 22 0 (loopS hSl [] hLoop) noLs
theorem lsT_ok : LoopTOk Try.prog lsT := addL_ok h_loop hLoop_ok noLs_ok
abbrev unT (g b : Nat) : Nat := match g, b with
  | 22, 0 => 0 | _, _ => 20
abbrev tSl : List Nat := [2, 16, 7, 9, 6]
/-- The lists that stand at the loop's entry: none, the ports', both. -/
inductive SB
  | n
  | p (fp : Bool) (ps0 : List Pt)
  | k (fp : Bool) (ps0 : List Pt) (fk : Bool) (us0 : List Pt)
@[reducible] def sBs : SB → List (SO C27)
  | .n => []
  | .p fp ps0 => [.sl true fp 46 ps0]
  | .k fp ps0 fk us0 => [.sl true fp 46 ps0, .sl true fk 46 us0]
@[reducible] def sN : SB → Nat
  | .n => 3
  | .p _ _ => 4
  | .k _ _ _ _ => 5
@[reducible] def sX : SB → SV
  | .n => nlS
  | _ => .h 3
@[reducible] def sY : SB → SV
  | .k _ _ _ _ => .h 4
  | _ => nlS
abbrev tV (K : Int) (R : Bool) : List SV := [.h 0, .raw (.int .i64 K), .h 1, .h 2, .raw (.bool R)]
/-- As at the entry. -/
@[reducible] def tI (f : Bool) (l : List Ac) (b : SB) (mp : Int) (r : Bool) (K : Int) (R : Bool) : List SV × List (SO C27) := (tV K R, .sl false f 40 l :: pB mp r (sX b) :: pB mp false (sY b) :: sBs b)
/-- Both lists are other ones. -/
@[reducible] def tQ (f : Bool) (l : List Ac) (b : SB) (mp : Int) (r : Bool) (ps us : List Pt) (K : Int) (R : Bool) : List SV × List (SO C27) := (tV K R, .sl false f 40 l :: pB mp r (.h (sN b)) :: pB mp false (.h (sN b + 1)) :: (sBs b ++ [.sl true false 46 ps, .sl true false 46 us]))
/-- The ports' list is another one, what the driver knows is as at the entry. -/
@[reducible] def tP (f : Bool) (l : List Ac) (fp : Bool) (ps0 : List Pt) (fk : Bool) (us0 : List Pt) (mp : Int) (r : Bool) (ps : List Pt) (K : Int) (R : Bool) : List SV × List (SO C27) := (tV K R, [.sl false f 40 l, pB mp r (.h 5), pB mp false (.h 4), .sl true fp 46 ps0, .sl true fk 46 us0, .sl true false 46 ps])
abbrev tRd (b : SB) (s : List SV × List (SO C27)) := roundG C27 Try.prog sfT lsT unT 10 6 2 tSl ⟨s.1, sN b, s.2⟩
end
end Go.Proofs.Ytgegagndihffpaa

/-
  Chapter 27: PortsKnow, the last loop: ways through a round. Own work; nothing here is trusted.
-/
namespace Go.Proofs.Ytgegagndihffpaa
open Go Go.Sx Go.RowKit
set_option maxRecDepth 1000000
set_option maxHeartbeats 8000000
set_option linter.unusedVariables false
noncomputable section

theorem tn_end (f : Bool) (l : List Ac) (mp : Int) (r : Bool) (K : Int) : Tr.follow [false] (tRd .n (tI f l .n mp r K false)) =
  some ([decide (K < (↑l.length : Int))],
  (.exit 2, tI f l .n mp r K false)) := by kernel_rfl
theorem tn_lo (f : Bool) (l : List Ac) (mp : Int) (r : Bool) (K : Int) : Tr.follow [true, false, true, true, true, true, true, true, true, true, true, true, true] (tRd .n (tI f l .n mp r K false)) =
  some ([decide (K < (↑l.length : Int)),
  false,
  inB K l.length,
  decide (K.toNat < l.length),
  decide ((elC l K).fst < (1 : Int)),
  true,
  true,
  true,
  true,
  true,
  true,
  true,
  inR64 (K + (1 : Int))],
  (.normal, tI f l .n mp r (K + 1) false)) := by kernel_rfl
theorem tn_hi (f : Bool) (l : List Ac) (mp : Int) (r : Bool) (K : Int) : Tr.follow [true, false, true, true, false, false, false, true, false, false, true, false, true, true] (tRd .n (tI f l .n mp r K false)) =
  some ([decide (K < (↑l.length : Int)),
  false,
  inB K l.length,
  decide (K.toNat < l.length),
  decide ((elC l K).fst < (1 : Int)),
  false,
  false,
  inB K l.length,
  false,
  false,
  decide (K.toNat < l.length),
  false,
  decide ((3 : Int) < (elC l K).fst),
  inR64 (K + (1 : Int))],
  (.normal, tI f l .n mp r (K + 1) false)) := by kernel_rfl
theorem tn_err (f : Bool) (l : List Ac) (mp : Int) (r : Bool) (K : Int) : Tr.follow [true, false, true, true, false, false, false, true, false, false, true, false, false, true, true, true, false, true, true] (tRd .n (tI f l .n mp r K false)) =
  some ([decide (K < (↑l.length : Int)),
  false,
  inB K l.length,
  decide (K.toNat < l.length),
  decide ((elC l K).fst < (1 : Int)),
  false,
  false,
  inB K l.length,
  false,
  false,
  decide (K.toNat < l.length),
  false,
  decide ((3 : Int) < (elC l K).fst),
  inB K l.length,
  decide (K.toNat < l.length),
  inR64 (elC l K).snd.snd.snd.snd.fst,
  (doneR mp r [] (elC l K)).fst == (0 : Int),
  (doneR mp r [] (elC l K)).fst != (0 : Int),
  inR64 (K + (1 : Int))],
  (.normal, tI f l .n mp r (K + 1) false)) := by kernel_rfl
theorem tn_c (f : Bool) (l : List Ac) (mp : Int) (r : Bool) (K : Int) : Tr.follow [true, false, true, true, false, false, false, true, false, false, true, false, false, true, true, true, true, true, false, true, true, true, true] (tRd .n (tI f l .n mp r K false)) =
  some ([decide (K < (↑l.length : Int)),
  false,
  inB K l.length,
  decide (K.toNat < l.length),
  decide ((elC l K).fst < (1 : Int)),
  false,
  false,
  inB K l.length,
  false,
  false,
  decide (K.toNat < l.length),
  false,
  decide ((3 : Int) < (elC l K).fst),
  inB K l.length,
  decide (K.toNat < l.length),
  inR64 (elC l K).snd.snd.snd.snd.fst,
  (doneR mp r [] (elC l K)).fst == (0 : Int),
  (doneR mp r [] (elC l K)).snd.snd.snd.isSome,
  false,
  decide (((doneR mp r [] (elC l K)).snd.snd.snd.getD []).length ≤ (200 : Nat)),
  goodH mp mp false (doneR mp r [] (elC l K)).snd.fst (doneR mp r [] (elC l K)).snd.snd.fst none HS.a ((doneR mp r [] (elC l K)).snd.snd.snd.getD []),
  hIsC (runS mp mp false (doneR mp r [] (elC l K)).snd.fst (doneR mp r [] (elC l K)).snd.snd.fst [] HS.a ((doneR mp r [] (elC l K)).snd.snd.snd.getD [])),
  inR64 (K + (1 : Int))],
  (.normal, tQ f l .n mp (hRp (doneR mp r [] (elC l K)).2.1 (runS mp mp false (doneR mp r [] (elC l K)).2.1 (doneR mp r [] (elC l K)).2.2.1 [] .a ((doneR mp r [] (elC l K)).2.2.2.getD []))) (hTs (doneR mp r [] (elC l K)).2.2.1 (runS mp mp false (doneR mp r [] (elC l K)).2.1 (doneR mp r [] (elC l K)).2.2.1 [] .a ((doneR mp r [] (elC l K)).2.2.2.getD []))) (hUs [] (runS mp mp false (doneR mp r [] (elC l K)).2.1 (doneR mp r [] (elC l K)).2.2.1 [] .a ((doneR mp r [] (elC l K)).2.2.2.getD []))) (K + 1) false)) := by kernel_rfl
theorem tp_end (f : Bool) (l : List Ac) (fp : Bool) (ps0 : List Pt) (mp : Int) (r : Bool) (K : Int) : Tr.follow [false] (tRd (.p fp ps0) (tI f l (.p fp ps0) mp r K false)) =
  some ([decide (K < (↑l.length : Int))],
  (.exit 2, tI f l (.p fp ps0) mp r K false)) := by kernel_rfl
theorem tp_lo (f : Bool) (l : List Ac) (fp : Bool) (ps0 : List Pt) (mp : Int) (r : Bool) (K : Int) : Tr.follow [true, false, true, true, true, true, true, true, true, true, true, true, true] (tRd (.p fp ps0) (tI f l (.p fp ps0) mp r K false)) =
  some ([decide (K < (↑l.length : Int)),
  !noPt ps0,
  inB K l.length,
  decide (K.toNat < l.length),
  decide ((elC l K).fst < (1 : Int)),
  true,
  true,
  true,
  true,
  true,
  true,
  true,
  inR64 (K + (1 : Int))],
  (.normal, tI f l (.p fp ps0) mp r (K + 1) false)) := by kernel_rfl
theorem tp_hi (f : Bool) (l : List Ac) (fp : Bool) (ps0 : List Pt) (mp : Int) (r : Bool) (K : Int) : Tr.follow [true, false, true, true, false, false, false, true, false, false, true, false, true, true] (tRd (.p fp ps0) (tI f l (.p fp ps0) mp r K false)) =
  some ([decide (K < (↑l.length : Int)),
  !noPt ps0,
  inB K l.length,
  decide (K.toNat < l.length),
  decide ((elC l K).fst < (1 : Int)),
  false,
  false,
  inB K l.length,
  false,
  false,
  decide (K.toNat < l.length),
  false,
  decide ((3 : Int) < (elC l K).fst),
  inR64 (K + (1 : Int))],
  (.normal, tI f l (.p fp ps0) mp r (K + 1) false)) := by kernel_rfl
theorem tp_err (f : Bool) (l : List Ac) (fp : Bool) (ps0 : List Pt) (mp : Int) (r : Bool) (K : Int) : Tr.follow [true, false, true, true, false, false, false, true, false, false, true, false, false, true, true, true, false, true, true] (tRd (.p fp ps0) (tI f l (.p fp ps0) mp r K false)) =
  some ([decide (K < (↑l.length : Int)),
  !noPt ps0,
  inB K l.length,
  decide (K.toNat < l.length),
  decide ((elC l K).fst < (1 : Int)),
  false,
  false,
  inB K l.length,
  false,
  false,
  decide (K.toNat < l.length),
  false,
  decide ((3 : Int) < (elC l K).fst),
  inB K l.length,
  decide (K.toNat < l.length),
  decide (ps0.length ≤ (300 : Nat)) && inR64 (elC l K).snd.snd.snd.snd.fst,
  (doneR mp r ps0 (elC l K)).fst == (0 : Int),
  (doneR mp r ps0 (elC l K)).fst != (0 : Int),
  inR64 (K + (1 : Int))],
  (.normal, tI f l (.p fp ps0) mp r (K + 1) false)) := by kernel_rfl
theorem tp_c (f : Bool) (l : List Ac) (fp : Bool) (ps0 : List Pt) (mp : Int) (r : Bool) (K : Int) : Tr.follow [true, false, true, true, false, false, false, true, false, false, true, false, false, true, true, true, true, true, false, true, true, true, true] (tRd (.p fp ps0) (tI f l (.p fp ps0) mp r K false)) =
  some ([decide (K < (↑l.length : Int)),
  !noPt ps0,
  inB K l.length,
  decide (K.toNat < l.length),
  decide ((elC l K).fst < (1 : Int)),
  false,
  false,
  inB K l.length,
  false,
  false,
  decide (K.toNat < l.length),
  false,
  decide ((3 : Int) < (elC l K).fst),
  inB K l.length,
  decide (K.toNat < l.length),
  decide (ps0.length ≤ (300 : Nat)) && inR64 (elC l K).snd.snd.snd.snd.fst,
  (doneR mp r ps0 (elC l K)).fst == (0 : Int),
  (doneR mp r ps0 (elC l K)).snd.snd.snd.isSome,
  false,
  decide (((doneR mp r ps0 (elC l K)).snd.snd.snd.getD []).length ≤ (200 : Nat)),
  goodH mp mp false (doneR mp r ps0 (elC l K)).snd.fst (doneR mp r ps0 (elC l K)).snd.snd.fst none HS.a ((doneR mp r ps0 (elC l K)).snd.snd.snd.getD []),
  hIsC (runS mp mp false (doneR mp r ps0 (elC l K)).snd.fst (doneR mp r ps0 (elC l K)).snd.snd.fst [] HS.a ((doneR mp r ps0 (elC l K)).snd.snd.snd.getD [])),
  inR64 (K + (1 : Int))],
  (.normal, tQ f l (.p fp ps0) mp (hRp (doneR mp r ps0 (elC l K)).2.1 (runS mp mp false (doneR mp r ps0 (elC l K)).2.1 (doneR mp r ps0 (elC l K)).2.2.1 [] .a ((doneR mp r ps0 (elC l K)).2.2.2.getD []))) (hTs (doneR mp r ps0 (elC l K)).2.2.1 (runS mp mp false (doneR mp r ps0 (elC l K)).2.1 (doneR mp r ps0 (elC l K)).2.2.1 [] .a ((doneR mp r ps0 (elC l K)).2.2.2.getD []))) (hUs [] (runS mp mp false (doneR mp r ps0 (elC l K)).2.1 (doneR mp r ps0 (elC l K)).2.2.1 [] .a ((doneR mp r ps0 (elC l K)).2.2.2.getD []))) (K + 1) false)) := by kernel_rfl
theorem tk_end (f : Bool) (l : List Ac) (fp : Bool) (ps0 : List Pt) (fk : Bool) (us0 : List Pt) (mp : Int) (r : Bool) (K : Int) : Tr.follow [false] (tRd (.k fp ps0 fk us0) (tI f l (.k fp ps0 fk us0) mp r K false)) =
  some ([decide (K < (↑l.length : Int))],
  (.exit 2, tI f l (.k fp ps0 fk us0) mp r K false)) := by kernel_rfl
theorem tk_lo (f : Bool) (l : List Ac) (fp : Bool) (ps0 : List Pt) (fk : Bool) (us0 : List Pt) (mp : Int) (r : Bool) (K : Int) : Tr.follow [true, true, false, true, true, true, true, true, true, true, true, true, true, true] (tRd (.k fp ps0 fk us0) (tI f l (.k fp ps0 fk us0) mp r K false)) =
  some ([decide (K < (↑l.length : Int)),
  decide (ps0.length ≤ (300 : Nat)),
  !aliB ps0 us0,
  inB K l.length,
  decide (K.toNat < l.length),
  decide ((elC l K).fst < (1 : Int)),
  true,
  true,
  true,
  true,
  true,
  true,
  true,
  inR64 (K + (1 : Int))],
  (.normal, tI f l (.k fp ps0 fk us0) mp r (K + 1) false)) := by kernel_rfl
theorem tk_hi (f : Bool) (l : List Ac) (fp : Bool) (ps0 : List Pt) (fk : Bool) (us0 : List Pt) (mp : Int) (r : Bool) (K : Int) : Tr.follow [true, true, false, true, true, false, false, false, true, false, false, true, false, true, true] (tRd (.k fp ps0 fk us0) (tI f l (.k fp ps0 fk us0) mp r K false)) =
  some ([decide (K < (↑l.length : Int)),
  decide (ps0.length ≤ (300 : Nat)),
  !aliB ps0 us0,
  inB K l.length,
  decide (K.toNat < l.length),
  decide ((elC l K).fst < (1 : Int)),
  false,
  false,
  inB K l.length,
  false,
  false,
  decide (K.toNat < l.length),
  false,
  decide ((3 : Int) < (elC l K).fst),
  inR64 (K + (1 : Int))],
  (.normal, tI f l (.k fp ps0 fk us0) mp r (K + 1) false)) := by kernel_rfl
theorem tk_err (f : Bool) (l : List Ac) (fp : Bool) (ps0 : List Pt) (fk : Bool) (us0 : List Pt) (mp : Int) (r : Bool) (K : Int) : Tr.follow [true, true, false, true, true, false, false, false, true, false, false, true, false, false, true, true, true, false, true, true] (tRd (.k fp ps0 fk us0) (tI f l (.k fp ps0 fk us0) mp r K false)) =
  some ([decide (K < (↑l.length : Int)),
  decide (ps0.length ≤ (300 : Nat)),
  !aliB ps0 us0,
  inB K l.length,
  decide (K.toNat < l.length),
  decide ((elC l K).fst < (1 : Int)),
  false,
  false,
  inB K l.length,
  false,
  false,
  decide (K.toNat < l.length),
  false,
  decide ((3 : Int) < (elC l K).fst),
  inB K l.length,
  decide (K.toNat < l.length),
  decide (ps0.length ≤ (300 : Nat)) && inR64 (elC l K).snd.snd.snd.snd.fst,
  (doneR mp r ps0 (elC l K)).fst == (0 : Int),
  (doneR mp r ps0 (elC l K)).fst != (0 : Int),
  inR64 (K + (1 : Int))],
  (.normal, tI f l (.k fp ps0 fk us0) mp r (K + 1) false)) := by kernel_rfl
theorem tk_c (f : Bool) (l : List Ac) (fp : Bool) (ps0 : List Pt) (fk : Bool) (us0 : List Pt) (mp : Int) (r : Bool) (K : Int) : Tr.follow [true, true, false, true, true, false, false, false, true, false, false, true, false, false, true, true, true, true, true, false, true, true, true, true] (tRd (.k fp ps0 fk us0) (tI f l (.k fp ps0 fk us0) mp r K false)) =
  some ([decide (K < (↑l.length : Int)),
  decide (ps0.length ≤ (300 : Nat)),
  !aliB ps0 us0,
  inB K l.length,
  decide (K.toNat < l.length),
  decide ((elC l K).fst < (1 : Int)),
  false,
  false,
  inB K l.length,
  false,
  false,
  decide (K.toNat < l.length),
  false,
  decide ((3 : Int) < (elC l K).fst),
  inB K l.length,
  decide (K.toNat < l.length),
  decide (ps0.length ≤ (300 : Nat)) && inR64 (elC l K).snd.snd.snd.snd.fst,
  (doneR mp r ps0 (elC l K)).fst == (0 : Int),
  (doneR mp r ps0 (elC l K)).snd.snd.snd.isSome,
  false,
  decide (((doneR mp r ps0 (elC l K)).snd.snd.snd.getD []).length ≤ (200 : Nat)),
  goodH mp mp false (doneR mp r ps0 (elC l K)).snd.fst (doneR mp r ps0 (elC l K)).snd.snd.fst (some (fk, us0)) HS.a ((doneR mp r ps0 (elC l K)).snd.snd.snd.getD []),
  hIsC (runS mp mp false (doneR mp r ps0 (elC l K)).snd.fst (doneR mp r ps0 (elC l K)).snd.snd.fst us0 HS.a ((doneR mp r ps0 (elC l K)).snd.snd.snd.getD [])),
  inR64 (K + (1 : Int))],
  (.normal, tQ f l (.k fp ps0 fk us0) mp (hRp (doneR mp r ps0 (elC l K)).2.1 (runS mp mp false (doneR mp r ps0 (elC l K)).2.1 (doneR mp r ps0 (elC l K)).2.2.1 us0 .a ((doneR mp r ps0 (elC l K)).2.2.2.getD []))) (hTs (doneR mp r ps0 (elC l K)).2.2.1 (runS mp mp false (doneR mp r ps0 (elC l K)).2.1 (doneR mp r ps0 (elC l K)).2.2.1 us0 .a ((doneR mp r ps0 (elC l K)).2.2.2.getD []))) (hUs us0 (runS mp mp false (doneR mp r ps0 (elC l K)).2.1 (doneR mp r ps0 (elC l K)).2.2.1 us0 .a ((doneR mp r ps0 (elC l K)).2.2.2.getD []))) (K + 1) false)) := by kernel_rfl
theorem tk_b (f : Bool) (l : List Ac) (fp : Bool) (ps0 : List Pt) (fk : Bool) (us0 : List Pt) (mp : Int) (r : Bool) (K : Int) : Tr.follow [true, true, false, true, true, false, false, false, true, false, false, true, false, false, true, true, true, true, true, false, true, true, false, true, true] (tRd (.k fp ps0 fk us0) (tI f l (.k fp ps0 fk us0) mp r K false)) =
  some ([decide (K < (↑l.length : Int)),
  decide (ps0.length ≤ (300 : Nat)),
  !aliB ps0 us0,
  inB K l.length,
  decide (K.toNat < l.length),
  decide ((elC l K).fst < (1 : Int)),
  false,
  false,
  inB K l.length,
  false,
  false,
  decide (K.toNat < l.length),
  false,
  decide ((3 : Int) < (elC l K).fst),
  inB K l.length,
  decide (K.toNat < l.length),
  decide (ps0.length ≤ (300 : Nat)) && inR64 (elC l K).snd.snd.snd.snd.fst,
  (doneR mp r ps0 (elC l K)).fst == (0 : Int),
  (doneR mp r ps0 (elC l K)).snd.snd.snd.isSome,
  false,
  decide (((doneR mp r ps0 (elC l K)).snd.snd.snd.getD []).length ≤ (200 : Nat)),
  goodH mp mp false (doneR mp r ps0 (elC l K)).snd.fst (doneR mp r ps0 (elC l K)).snd.snd.fst (some (fk, us0)) HS.a ((doneR mp r ps0 (elC l K)).snd.snd.snd.getD []),
  hIsC (runS mp mp false (doneR mp r ps0 (elC l K)).snd.fst (doneR mp r ps0 (elC l K)).snd.snd.fst us0 HS.a ((doneR mp r ps0 (elC l K)).snd.snd.snd.getD [])),
  hIsB (runS mp mp false (doneR mp r ps0 (elC l K)).snd.fst (doneR mp r ps0 (elC l K)).snd.snd.fst us0 HS.a ((doneR mp r ps0 (elC l K)).snd.snd.snd.getD [])),
  inR64 (K + (1 : Int))],
  (.normal, tQ f l (.k fp ps0 fk us0) mp (doneR mp r ps0 (elC l K)).2.1 (doneR mp r ps0 (elC l K)).2.2.1 (hUs us0 (runS mp mp false (doneR mp r ps0 (elC l K)).2.1 (doneR mp r ps0 (elC l K)).2.2.1 us0 .a ((doneR mp r ps0 (elC l K)).2.2.2.getD []))) (K + 1) false)) := by kernel_rfl
theorem tk_o (f : Bool) (l : List Ac) (fp : Bool) (ps0 : List Pt) (fk : Bool) (us0 : List Pt) (mp : Int) (r : Bool) (K : Int) : Tr.follow [true, true, false, true, true, false, false, false, true, false, false, true, false, false, true, true, true, true, false, false, true] (tRd (.k fp ps0 fk us0) (tI f l (.k fp ps0 fk us0) mp r K false)) =
  some ([decide (K < (↑l.length : Int)),
  decide (ps0.length ≤ (300 : Nat)),
  !aliB ps0 us0,
  inB K l.length,
  decide (K.toNat < l.length),
  decide ((elC l K).fst < (1 : Int)),
  false,
  false,
  inB K l.length,
  false,
  false,
  decide (K.toNat < l.length),
  false,
  decide ((3 : Int) < (elC l K).fst),
  inB K l.length,
  decide (K.toNat < l.length),
  decide (ps0.length ≤ (300 : Nat)) && inR64 (elC l K).snd.snd.snd.snd.fst,
  (doneR mp r ps0 (elC l K)).fst == (0 : Int),
  (doneR mp r ps0 (elC l K)).snd.snd.snd.isSome,
  false,
  inR64 (K + (1 : Int))],
  (.normal, tP f l fp ps0 fk us0 mp (doneR mp r ps0 (elC l K)).2.1 (doneR mp r ps0 (elC l K)).2.2.1 (K + 1) false)) := by kernel_rfl
theorem tP_end (f : Bool) (l : List Ac) (fp : Bool) (ps0 : List Pt) (fk : Bool) (us0 : List Pt) (mp : Int) (r : Bool) (ps : List Pt) (K : Int) : Tr.follow [false] (tRd (.k fp ps0 fk us0) (tP f l fp ps0 fk us0 mp r ps K false)) =
  some ([decide (K < (↑l.length : Int))],
  (.exit 2, tP f l fp ps0 fk us0 mp r ps K false)) := by kernel_rfl
theorem tP_lo (f : Bool) (l : List Ac) (fp : Bool) (ps0 : List Pt) (fk : Bool) (us0 : List Pt) (mp : Int) (r : Bool) (ps : List Pt) (K : Int) : Tr.follow [true, true, false, true, true, true, true, true, true, true, true, true, true, true] (tRd (.k fp ps0 fk us0) (tP f l fp ps0 fk us0 mp r ps K false)) =
  some ([decide (K < (↑l.length : Int)),
  decide (ps.length ≤ (300 : Nat)),
  !aliB ps us0,
  inB K l.length,
  decide (K.toNat < l.length),
  decide ((elC l K).fst < (1 : Int)),
  true,
  true,
  true,
  true,
  true,
  true,
  true,
  inR64 (K + (1 : Int))],
  (.normal, tP f l fp ps0 fk us0 mp r ps (K + 1) false)) := by kernel_rfl
theorem tP_hi (f : Bool) (l : List Ac) (fp : Bool) (ps0 : List Pt) (fk : Bool) (us0 : List Pt) (mp : Int) (r : Bool) (ps : List Pt) (K : Int) : Tr.follow [true, true, false, true, true, false, false, false, true, false, false, true, false, true, true] (tRd (.k fp ps0 fk us0) (tP f l fp ps0 fk us0 mp r ps K false)) =
  some ([decide (K < (↑l.length : Int)),
  decide (ps.length ≤ (300 : Nat)),
  !aliB ps us0,
  inB K l.length,
  decide (K.toNat < l.length),
  decide ((elC l K).fst < (1 : Int)),
  false,
  false,
  inB K l.length,
  false,
  false,
  decide (K.toNat < l.length),
  false,
  decide ((3 : Int) < (elC l K).fst),
  inR64 (K + (1 : Int))],
  (.normal, tP f l fp ps0 fk us0 mp r ps (K + 1) false)) := by kernel_rfl
theorem tP_err (f : Bool) (l : List Ac) (fp : Bool) (ps0 : List Pt) (fk : Bool) (us0 : List Pt) (mp : Int) (r : Bool) (ps : List Pt) (K : Int) : Tr.follow [true, true, false, true, true, false, false, false, true, false, false, true, false, false, true, true, true, false, true, true] (tRd (.k fp ps0 fk us0) (tP f l fp ps0 fk us0 mp r ps K false)) =
  some ([decide (K < (↑l.length : Int)),
  decide (ps.length ≤ (300 : Nat)),
  !aliB ps us0,
  inB K l.length,
  decide (K.toNat < l.length),
  decide ((elC l K).fst < (1 : Int)),
  false,
  false,
  inB K l.length,
  false,
  false,
  decide (K.toNat < l.length),
  false,
  decide ((3 : Int) < (elC l K).fst),
  inB K l.length,
  decide (K.toNat < l.length),
  decide (ps.length ≤ (300 : Nat)) && inR64 (elC l K).snd.snd.snd.snd.fst,
  (doneR mp r ps (elC l K)).fst == (0 : Int),
  (doneR mp r ps (elC l K)).fst != (0 : Int),
  inR64 (K + (1 : Int))],
  (.normal, tP f l fp ps0 fk us0 mp r ps (K + 1) false)) := by kernel_rfl
theorem tP_c (f : Bool) (l : List Ac) (fp : Bool) (ps0 : List Pt) (fk : Bool) (us0 : List Pt) (mp : Int) (r : Bool) (ps : List Pt) (K : Int) : Tr.follow [true, true, false, true, true, false, false, false, true, false, false, true, false, false, true, true, true, true, true, false, true, true, true, true] (tRd (.k fp ps0 fk us0) (tP f l fp ps0 fk us0 mp r ps K false)) =
  some ([decide (K < (↑l.length : Int)),
  decide (ps.length ≤ (300 : Nat)),
  !aliB ps us0,
  inB K l.length,
  decide (K.toNat < l.length),
  decide ((elC l K).fst < (1 : Int)),
  false,
  false,
  inB K l.length,
  false,
  false,
  decide (K.toNat < l.length),
  false,
  decide ((3 : Int) < (elC l K).fst),
  inB K l.length,
  decide (K.toNat < l.length),
  decide (ps.length ≤ (300 : Nat)) && inR64 (elC l K).snd.snd.snd.snd.fst,
  (doneR mp r ps (elC l K)).fst == (0 : Int),
  (doneR mp r ps (elC l K)).snd.snd.snd.isSome,
  false,
  decide (((doneR mp r ps (elC l K)).snd.snd.snd.getD []).length ≤ (200 : Nat)),
  goodH mp mp false (doneR mp r ps (elC l K)).snd.fst (doneR mp r ps (elC l K)).snd.snd.fst (some (fk, us0)) HS.a ((doneR mp r ps (elC l K)).snd.snd.snd.getD []),
  hIsC (runS mp mp false (doneR mp r ps (elC l K)).snd.fst (doneR mp r ps (elC l K)).snd.snd.fst us0 HS.a ((doneR mp r ps (elC l K)).snd.snd.snd.getD [])),
  inR64 (K + (1 : Int))],
  (.normal, tQ f l (.k fp ps0 fk us0) mp (hRp (doneR mp r ps (elC l K)).2.1 (runS mp mp false (doneR mp r ps (elC l K)).2.1 (doneR mp r ps (elC l K)).2.2.1 us0 .a ((doneR mp r ps (elC l K)).2.2.2.getD []))) (hTs (doneR mp r ps (elC l K)).2.2.1 (runS mp mp false (doneR mp r ps (elC l K)).2.1 (doneR mp r ps (elC l K)).2.2.1 us0 .a ((doneR mp r ps (elC l K)).2.2.2.getD []))) (hUs us0 (runS mp mp false (doneR mp r ps (elC l K)).2.1 (doneR mp r ps (elC l K)).2.2.1 us0 .a ((doneR mp r ps (elC l K)).2.2.2.getD []))) (K + 1) false)) := by kernel_rfl
theorem tP_b (f : Bool) (l : List Ac) (fp : Bool) (ps0 : List Pt) (fk : Bool) (us0 : List Pt) (mp : Int) (r : Bool) (ps : List Pt) (K : Int) : Tr.follow [true, true, false, true, true, false, false, false, true, false, false, true, false, false, true, true, true, true, true, false, true, true, false, true, true] (tRd (.k fp ps0 fk us0) (tP f l fp ps0 fk us0 mp r ps K false)) =
  some ([decide (K < (↑l.length : Int)),
  decide (ps.length ≤ (300 : Nat)),
  !aliB ps us0,
  inB K l.length,
  decide (K.toNat < l.length),
  decide ((elC l K).fst < (1 : Int)),
  false,
  false,
  inB K l.length,
  false,
  false,
  decide (K.toNat < l.length),
  false,
  decide ((3 : Int) < (elC l K).fst),
  inB K l.length,
  decide (K.toNat < l.length),
  decide (ps.length ≤ (300 : Nat)) && inR64 (elC l K).snd.snd.snd.snd.fst,
  (doneR mp r ps (elC l K)).fst == (0 : Int),
  (doneR mp r ps (elC l K)).snd.snd.snd.isSome,
  false,
  decide (((doneR mp r ps (elC l K)).snd.snd.snd.getD []).length ≤ (200 : Nat)),
  goodH mp mp false (doneR mp r ps (elC l K)).snd.fst (doneR mp r ps (elC l K)).snd.snd.fst (some (fk, us0)) HS.a ((doneR mp r ps (elC l K)).snd.snd.snd.getD []),
  hIsC (runS mp mp false (doneR mp r ps (elC l K)).snd.fst (doneR mp r ps (elC l K)).snd.snd.fst us0 HS.a ((doneR mp r ps (elC l K)).snd.snd.snd.getD [])),
  hIsB (runS mp mp false (doneR mp r ps (elC l K)).snd.fst (doneR mp r ps (elC l K)).snd.snd.fst us0 HS.a ((doneR mp r ps (elC l K)).snd.snd.snd.getD [])),
  inR64 (K + (1 : Int))],
  (.normal, tQ f l (.k fp ps0 fk us0) mp (doneR mp r ps (elC l K)).2.1 (doneR mp r ps (elC l K)).2.2.1 (hUs us0 (runS mp mp false (doneR mp r ps (elC l K)).2.1 (doneR mp r ps (elC l K)).2.2.1 us0 .a ((doneR mp r ps (elC l K)).2.2.2.getD []))) (K + 1) false)) := by kernel_rfl
theorem tP_o (f : Bool) (l : List Ac) (fp : Bool) (ps0 : List Pt) (fk : Bool) (us0 : List Pt) (mp : Int) (r : Bool) (ps : List Pt) (K : Int) : Tr.follow [true, true, false, true, true, false, false, false, true, false, false, true, false, false, true, true, true, true, false, false, true] (tRd (.k fp ps0 fk us0) (tP f l fp ps0 fk us0 mp r ps K false)) =
  some ([decide (K < (↑l.length : Int)),
  decide (ps.length ≤ (300 : Nat)),
  !aliB ps us0,
  inB K l.length,
  decide (K.toNat < l.length),
  decide ((elC l K).fst < (1 : Int)),
  false,
  false,
  inB K l.length,
  false,
  false,
  decide (K.toNat < l.length),
  false,
  decide ((3 : Int) < (elC l K).fst),
  inB K l.length,
  decide (K.toNat < l.length),
  decide (ps.length ≤ (300 : Nat)) && inR64 (elC l K).snd.snd.snd.snd.fst,
  (doneR mp r ps (elC l K)).fst == (0 : Int),
  (doneR mp r ps (elC l K)).snd.snd.snd.isSome,
  false,
  inR64 (K + (1 : Int))],
  (.normal, tP f l fp ps0 fk us0 mp (doneR mp r ps (elC l K)).2.1 (doneR mp r ps (elC l K)).2.2.1 (K + 1) false)) := by kernel_rfl
theorem tQ_end (f : Bool) (l : List Ac) (b : SB) (mp : Int) (r : Bool) (ps us : List Pt) (K : Int) : Tr.follow [false] (tRd b (tQ f l b mp r ps us K false)) =
  some ([decide (K < (↑l.length : Int))],
  (.exit 2, tQ f l b mp r ps us K false)) := by cases b <;> kernel_rfl
theorem tQ_lo (f : Bool) (l : List Ac) (b : SB) (mp : Int) (r : Bool) (ps us : List Pt) (K : Int) : Tr.follow [true, true, false, true, true, true, true, true, true, true, true, true, true, true] (tRd b (tQ f l b mp r ps us K false)) =
  some ([decide (K < (↑l.length : Int)),
  decide (ps.length ≤ (300 : Nat)),
  !aliB ps us,
  inB K l.length,
  decide (K.toNat < l.length),
  decide ((elC l K).fst < (1 : Int)),
  true,
  true,
  true,
  true,
  true,
  true,
  true,
  inR64 (K + (1 : Int))],
  (.normal, tQ f l b mp r ps us (K + 1) false)) := by cases b <;> kernel_rfl
theorem tQ_hi (f : Bool) (l : List Ac) (b : SB) (mp : Int) (r : Bool) (ps us : List Pt) (K : Int) : Tr.follow [true, true, false, true, true, false, false, false, true, false, false, true, false, true, true] (tRd b (tQ f l b mp r ps us K false)) =
  some ([decide (K < (↑l.length : Int)),
  decide (ps.length ≤ (300 : Nat)),
  !aliB ps us,
  inB K l.length,
  decide (K.toNat < l.length),
  decide ((elC l K).fst < (1 : Int)),
  false,
  false,
  inB K l.length,
  false,
  false,
  decide (K.toNat < l.length),
  false,
  decide ((3 : Int) < (elC l K).fst),
  inR64 (K + (1 : Int))],
  (.normal, tQ f l b mp r ps us (K + 1) false)) := by cases b <;> kernel_rfl
theorem tQ_err (f : Bool) (l : List Ac) (b : SB) (mp : Int) (r : Bool) (ps us : List Pt) (K : Int) : Tr.follow [true, true, false, true, true, false, false, false, true, false, false, true, false, false, true, true, true, false, true, true] (tRd b (tQ f l b mp r ps us K false)) =
  some ([decide (K < (↑l.length : Int)),
  decide (ps.length ≤ (300 : Nat)),
  !aliB ps us,
  inB K l.length,
  decide (K.toNat < l.length),
  decide ((elC l K).fst < (1 : Int)),
  false,
  false,
  inB K l.length,
  false,
  false,
  decide (K.toNat < l.length),
  false,
  decide ((3 : Int) < (elC l K).fst),
  inB K l.length,
  decide (K.toNat < l.length),
  decide (ps.length ≤ (300 : Nat)) && inR64 (elC l K).snd.snd.snd.snd.fst,
  (doneR mp r ps (elC l K)).fst == (0 : Int),
  (doneR mp r ps (elC l K)).fst != (0 : Int),
  inR64 (K + (1 : Int))],
  (.normal, tQ f l b mp r ps us (K + 1) false)) := by cases b <;> kernel_rfl
theorem tQ_c (f : Bool) (l : List Ac) (b : SB) (mp : Int) (r : Bool) (ps us : List Pt) (K : Int) : Tr.follow [true, true, false, true, true, false, false, false, true, false, false, true, false, false, true, true, true, true, true, false, true, true, true, true] (tRd b (tQ f l b mp r ps us K false)) =
  some ([decide (K < (↑l.length : Int)),
  decide (ps.length ≤ (300 : Nat)),
  !aliB ps us,
  inB K l.length,
  decide (K.toNat < l.length),
  decide ((elC l K).fst < (1 : Int)),
  false,
  false,
  inB K l.length,
  false,
  false,
  decide (K.toNat < l.length),
  false,
  decide ((3 : Int) < (elC l K).fst),
  inB K l.length,
  decide (K.toNat < l.length),
  decide (ps.length ≤ (300 : Nat)) && inR64 (elC l K).snd.snd.snd.snd.fst,
  (doneR mp r ps (elC l K)).fst == (0 : Int),
  (doneR mp r ps (elC l K)).snd.snd.snd.isSome,
  false,
  decide (((doneR mp r ps (elC l K)).snd.snd.snd.getD []).length ≤ (200 : Nat)),
  goodH mp mp false (doneR mp r ps (elC l K)).snd.fst (doneR mp r ps (elC l K)).snd.snd.fst (some (false, us)) HS.a ((doneR mp r ps (elC l K)).snd.snd.snd.getD []),
  hIsC (runS mp mp false (doneR mp r ps (elC l K)).snd.fst (doneR mp r ps (elC l K)).snd.snd.fst us HS.a ((doneR mp r ps (elC l K)).snd.snd.snd.getD [])),
  inR64 (K + (1 : Int))],
  (.normal, tQ f l b mp (hRp (doneR mp r ps (elC l K)).2.1 (runS mp mp false (doneR mp r ps (elC l K)).2.1 (doneR mp r ps (elC l K)).2.2.1 us .a ((doneR mp r ps (elC l K)).2.2.2.getD []))) (hTs (doneR mp r ps (elC l K)).2.2.1 (runS mp mp false (doneR mp r ps (elC l K)).2.1 (doneR mp r ps (elC l K)).2.2.1 us .a ((doneR mp r ps (elC l K)).2.2.2.getD []))) (hUs us (runS mp mp false (doneR mp r ps (elC l K)).2.1 (doneR mp r ps (elC l K)).2.2.1 us .a ((doneR mp r ps (elC l K)).2.2.2.getD []))) (K + 1) false)) := by cases b <;> kernel_rfl
theorem tQ_b (f : Bool) (l : List Ac) (b : SB) (mp : Int) (r : Bool) (ps us : List Pt) (K : Int) : Tr.follow [true, true, false, true, true, false, false, false, true, false, false, true, false, false, true, true, true, true, true, false, true, true, false, true, true] (tRd b (tQ f l b mp r ps us K false)) =
  some ([decide (K < (↑l.length : Int)),
  decide (ps.length ≤ (300 : Nat)),
  !aliB ps us,
  inB K l.length,
  decide (K.toNat < l.length),
  decide ((elC l K).fst < (1 : Int)),
  false,
  false,
  inB K l.length,
  false,
  false,
  decide (K.toNat < l.length),
  false,
  decide ((3 : Int) < (elC l K).fst),
  inB K l.length,
  decide (K.toNat < l.length),
  decide (ps.length ≤ (300 : Nat)) && inR64 (elC l K).snd.snd.snd.snd.fst,
  (doneR mp r ps (elC l K)).fst == (0 : Int),
  (doneR mp r ps (elC l K)).snd.snd.snd.isSome,
  false,
  decide (((doneR mp r ps (elC l K)).snd.snd.snd.getD []).length ≤ (200 : Nat)),
  goodH mp mp false (doneR mp r ps (elC l K)).snd.fst (doneR mp r ps (elC l K)).snd.snd.fst (some (false, us)) HS.a ((doneR mp r ps (elC l K)).snd.snd.snd.getD []),
  hIsC (runS mp mp false (doneR mp r ps (elC l K)).snd.fst (doneR mp r ps (elC l K)).snd.snd.fst us HS.a ((doneR mp r ps (elC l K)).snd.snd.snd.getD [])),
  hIsB (runS mp mp false (doneR mp r ps (elC l K)).snd.fst (doneR mp r ps (elC l K)).snd.snd.fst us HS.a ((doneR mp r ps (elC l K)).snd.snd.snd.getD [])),
  inR64 (K + (1 : Int))],
  (.normal, tQ f l b mp (doneR mp r ps (elC l K)).2.1 (doneR mp r ps (elC l K)).2.2.1 (hUs us (runS mp mp false (doneR mp r ps (elC l K)).2.1 (doneR mp r ps (elC l K)).2.2.1 us .a ((doneR mp r ps (elC l K)).2.2.2.getD []))) (K + 1) false)) := by cases b <;> kernel_rfl
theorem tQ_o (f : Bool) (l : List Ac) (b : SB) (mp : Int) (r : Bool) (ps us : List Pt) (K : Int) : Tr.follow [true, true, false, true, true, false, false, false, true, false, false, true, false, false, true, true, true, true, false, false, true] (tRd b (tQ f l b mp r ps us K false)) =
  some ([decide (K < (↑l.length : Int)),
  decide (ps.length ≤ (300 : Nat)),
  !aliB ps us,
  inB K l.length,
  decide (K.toNat < l.length),
  decide ((elC l K).fst < (1 : Int)),
  false,
  false,
  inB K l.length,
  false,
  false,
  decide (K.toNat < l.length),
  false,
  decide ((3 : Int) < (elC l K).fst),
  inB K l.length,
  decide (K.toNat < l.length),
  decide (ps.length ≤ (300 : Nat)) && inR64 (elC l K).snd.snd.snd.snd.fst,
  (doneR mp r ps (elC l K)).fst == (0 : Int),
  (doneR mp r ps (elC l K)).snd.snd.snd.isSome,
  false,
  inR64 (K + (1 : Int))],
  (.normal, tQ f l b mp (doneR mp r ps (elC l K)).2.1 (doneR mp r ps (elC l K)).2.2.1 us (K + 1) false)) := by cases b <;> kernel_rfl
end
end Go.Proofs.Ytgegagndihffpaa

/-
  Chapter 27: PortsKnow, its laws. Own work; nothing here is trusted.
-/
namespace Go.Proofs.Ytgegagndihffpaa
open Go Go.Sx Go.RowKit
set_option maxRecDepth 1000000
set_option maxHeartbeats 8000000
set_option linter.unusedVariables false
set_option linter.unusedSimpArgs false
/-- A port as a driver knows it. -/
def fldE (x : Pt) : Pt := (x.1, x.2.1, x.2.2.1, x.2.2.2.1, false, false)
theorem na_fld {x : Pt} (h : x.2.2.2.2.2 = true) : naP x (fldE x) = false := by
  obtain ⟨a, b, c, d, e, g⟩ := x
  have h : g = true := h
  subst h
  show ((a != a) || ((!(b.toList == b.toList)) || ((!(c == c)) || ((!(d == d)) || !true)))) = false
  simp only [bne_self_eq_false, beq_self_eq_true, Bool.not_true, Bool.or_self]
theorem ali_told {ts : List Pt} (h : ∀ x ∈ ts, x.2.2.2.2.2 = true) : aliB ts (ts.map fldE) = true := by
  unfold aliB
  rw [List.length_map, decide_eq_true rfl]
  refine noneP_iff.2 fun k hk => ?_
  show naP (elP ts k) (elP (ts.map fldE) k) = false
  have hk2 : k < (ts.map fldE).length := by rw [List.length_map]; exact hk
  rw [elP_nat hk, elP_nat hk2, List.getElem_map]
  exact na_fld (h _ (List.getElem_mem hk))

noncomputable section
/-! ### what is told of one port -/
theorem gue_no {mp : Int} {x : Pt} (h : okE mp true x) (hr : x.2.2.2.2.2 = false) : x.2.2.2.2.1 = false := by
  cases hg : x.2.2.2.2.1 with
  | false => rfl
  | true => have := h.2.2.2.2 hg; rw [hr] at this; cases this
theorem fld_okE {mp : Int} {x : Pt} (h : okE mp true x) : okE mp false (fldE x) := ⟨h.1, h.2.1, h.2.2.1, nofun, nofun⟩
theorem okP_fld {mp : Int} {ts : List Pt} (h : okP mp true ts = true) : okP mp false (ts.map fldE) = true := by
  rw [okP_iff] at h ⊢
  refine ⟨h.1, List.pairwise_map.2 h.2.1, fun x hx => ?_⟩
  obtain ⟨y, hy, rfl⟩ := List.mem_map.1 hx
  exact fld_okE (h.2.2 y hy)
theorem len_no (s : ByteArray) (h : (s.toList == ByteArray.empty.toList) = true) : s = ByteArray.empty := by
  have h := eq_of_beq h
  have h2 : s.data.toList = [] := by
    have e : s.toList = s.data.toList := ByteArray.toList_eq s
    rw [← e, h, ByteArray.toList_eq]; rfl
  cases s with
  | mk d => 
    have : d = #[] := by simpa using h2
    rw [this]; rfl
theorem know_fresh {mp : Int} {L R : List Pt} {m : Mg} (hu : okP mp false (L ++ R) = true) (hm : 0 ≤ m.1 ∧ m.1 < mp) (ho : okM m.2.1 m.2.2.2 = true) (h1 : m.2.1 = 1) (hL : ∀ y ∈ L, y.1 < m.1) (hR : ∀ y ∈ R, m.1 < y.1) :
    knowAll mp false (L ++ R) [m] = L ++ freshE m :: R := by
  have hq := (okP_iff.1 hu).1
  unfold knowAll
  rw [hu]
  show knowL mp (L ++ R) m = _
  rw [know_none (fun y hy => by
    rcases List.mem_append.1 hy with hy | hy
    · have := hL y hy; omega
    · have := hR y hy; omega), if_pos ⟨ho, h1, by omega⟩, in_at (fun y hy => by have := hL y hy; omega) hR, ins_mid]
theorem know_at {mp : Int} {L R : List Pt} {x : Pt} {m : Mg} (hx : x.1 = m.1) (hL : ∀ y ∈ L, y.1 < x.1) (ho : okM m.2.1 m.2.2.2 = true) : knowL mp (L ++ x :: R) m = L ++ (hearE m x ++ R) := by
  rw [know_some hx (fun y hy => by have := hL y hy; omega), if_pos ho]
theorem know_told {mp : Int} {L R : List Pt} {x : Pt} (hx : okE mp true x) (hu : okP mp false (L ++ (x.1, ByteArray.empty, false, false, false, false) :: R) = true) (hL : ∀ y ∈ L, y.1 < x.1) :
    knowAll mp false (L ++ (x.1, ByteArray.empty, false, false, false, false) :: R) ((optL (tellE x)).getD []) = L ++ fldE x :: R := by
  have hq := (okP_iff.1 hu).1
  have hid := mod_id hq.2 hx
  have h2 : (optL (tellE x)).getD [] = tellE x := by cases tellE x <;> rfl
  rw [h2]
  unfold knowAll
  rw [hu]
  simp only
  obtain ⟨a, b, c, d, e, g⟩ := x
  have hid : a % 4294967296 = a := hid
  have hb : b.size ≤ 64 := hx.2.2.1
  have hL : ∀ y ∈ L, y.1 < a := hL
  have k4 : ∀ (s : ByteArray) (c' d' : Bool), knowL mp (L ++ (a, s, c', d', false, false) :: R) (a, 4, 1, ByteArray.empty) = L ++ (a, s, true, d', false, false) :: R := fun s c' d' => by
    rw [know_at rfl hL (okM_e (.inr (.inr (.inl rfl))))]; rfl
  have k7 : ∀ (s : ByteArray) (c' d' : Bool), knowL mp (L ++ (a, s, c', d', false, false) :: R) (a, 7, 1, b) = L ++ (a, b, c', d', false, false) :: R := fun s c' d' => by
    rw [know_at rfl hL (okM_7 hb)]; rfl
  have k6 : ∀ (s : ByteArray) (c' d' : Bool), knowL mp (L ++ (a, s, c', d', false, false) :: R) (a, 6, 1, ByteArray.empty) = L ++ (a, s, c', true, false, false) :: R := fun s c' d' => by
    rw [know_at rfl hL (okM_e (.inr (.inr (.inr rfl))))]; rfl
  unfold tellE fldE
  simp only [hid]
  cases hn : (b.toList == ByteArray.empty.toList) with
  | true =>
    have hb0 := len_no b hn
    subst hb0
    cases c <;> cases d <;> simp only [sel_true, sel_false, List.nil_append, List.append_nil, List.cons_append, List.foldl_cons, List.foldl_nil, k4, k6, k7]
  | false =>
    cases c <;> cases d <;> simp only [sel_true, sel_false, List.nil_append, List.append_nil, List.cons_append, List.foldl_cons, List.foldl_nil, k4, k6, k7]
theorem guest_port1 {mp : Int} {l r : List Pt} {x : Pt} (h : okP mp true (l ++ x :: r) = true) (hx : x.2.2.2.2.2 = false) : hG mp true (l ++ x :: r) (addE x) = (true, l ++ rdyE x true :: r, optL (tellE x)) := by
  have hm := (okP_iff.1 h).1
  have hxe := (okP_mid.1 h).2.1
  have hid := mod_id hm.2 hxe
  have ha : atI (l ++ x :: r) x.1 = (l.length : Int) := at_some rfl (ne_of_mid h).1
  unfold hG guestR addE
  simp only [hid]
  rw [if_pos ⟨by kernel_rfl, h⟩, if_neg (by decide), if_neg (by rw [ha]; intro hc; rcases hc with hc | hc; cases hc; omega), if_pos trivial, if_pos trivial]
  simp only [atP, ha, show ((l.length : Int)).toNat = l.length from rfl, get_mid, set_mid]
  rw [if_neg (by rw [hx]; decide)]
theorem tell_ids {mp : Int} {x : Pt} (hm : mp ≤ 32) (hx : okE mp true x) : (((optL (tellE x)).getD []).all fun m => inR64 m.1) = true := by
  have h2 : (optL (tellE x)).getD [] = tellE x := by cases tellE x <;> rfl
  rw [h2, List.all_eq_true]
  intro m hm'
  have hid := mod_id hm hx
  have h1 : m.1 = x.1 % 4294967296 := by
    unfold tellE at hm'
    rcases List.mem_append.1 hm' with h1 | h1
    · cases hc : x.2.2.1 with
      | true => rw [hc] at h1; simp at h1; subst h1; rfl
      | false => rw [hc] at h1; simp at h1
    · rcases List.mem_append.1 h1 with h1 | h1
      · cases hc : (x.2.1.toList == ByteArray.empty.toList) with
        | true => rw [hc] at h1; simp at h1
        | false => rw [hc] at h1; simp at h1; subst h1; rfl
      · cases hc : x.2.2.2.1 with
        | true => rw [hc] at h1; simp at h1; subst h1; rfl
        | false => rw [hc] at h1; simp at h1
  rw [h1]
  exact inR64_mk (by omega)
theorem smallK_mk {ts : List Pt} {ms : List Mg} (h1 : ts.length ≤ 300) (h2 : ms.length ≤ 300) (h3 : (ms.all fun m => inR64 m.1) = true) : smallK ts ms = true := by
  unfold smallK
  rw [decide_eq_true (⟨h2, h1⟩ : ms.length ≤ 300 ∧ ts.length ≤ 300), h3]; rfl
/-- A port is told of, and answered. -/
theorem step_add {mp : Int} {rp0 : Bool} {T0 U0 l r L R : List Pt} {x : Pt} {s : HS} (hp : okP mp true (l ++ x :: r) = true) (hx : x.2.2.2.2.2 = false) (h1 : hRp rp0 s = true) (h2 : hTs T0 s = l ++ x :: r) (h3 : hUs U0 s = L ++ R)
    (hu : okP mp false (L ++ R) = true) (hL : ∀ y ∈ L, y.1 < x.1) (hR : ∀ y ∈ R, x.1 < y.1) :
    gdS mp mp false rp0 T0 U0 s (addE x) = true ∧ stepS mp mp false rp0 T0 U0 s (addE x) = .c true (l ++ rdyE x true :: r) (L ++ fldE x :: R) := by
  have hm := (okP_iff.1 hp).1
  have hxe := (okP_mid.1 hp).2.1
  have hid := mod_id hm.2 hxe
  have e0 : addE x = (x.1, 1, 1, ByteArray.empty) := by unfold addE; rw [hid]
  have a1 : knowAll mp false (L ++ R) [addE x] = L ++ (x.1, ByteArray.empty, false, false, false, false) :: R := by
    rw [e0]; exact know_fresh hu ⟨hxe.1, hxe.2.1⟩ (okM_e (.inl rfl)) rfl hL hR
  have o1 : okP mp false (L ++ (x.1, ByteArray.empty, false, false, false, false) :: R) = true := okP_mid.2 ⟨hu, ⟨hxe.1, hxe.2.1, by show ByteArray.empty.size ≤ 64; decide, nofun, nofun⟩, hL, hR⟩
  have a2 := guest_port1 hp hx
  have a3 := know_told hxe o1 hL
  have a4 := okP_len hp
  have a5 := okP_len hu
  have a6 := okP_len o1
  constructor
  · unfold gdS
    rw [h1, h2, h3, a1, a2, Bool.and_eq_true]
    refine ⟨smallK_mk (by omega) (by simp) (by rw [e0]; simp only [List.all_cons, List.all_nil, Bool.and_true]; exact inR64_mk (by have := hxe.1; have := hxe.2.1; omega)), ?_⟩
    rw [Bool.or_eq_true]
    refine .inr ?_
    rw [Bool.and_eq_true, Bool.and_eq_true]
    refine ⟨⟨decide_eq_true (by omega), by rw [e0]; exact inR64_mk (by have := hxe.1; have := hxe.2.1; show _ ≤ x.1 ∧ x.1 ≤ _; omega)⟩, smallK_mk (by omega) (by have := tell_len x; show ((optL (tellE x)).getD []).length ≤ 300; omega) (tell_ids hm.2 hxe)⟩
  · unfold stepS
    rw [h1, h2, h3, a1, a2]
    rw [show ((addE x).2.1 == 1) = true from rfl]
    simp only
    rw [a3]
end
end Go.Proofs.Ytgegagndihffpaa

/-
  Chapter 27: PortsKnow: what the driver knows after an act, and after the first list. Own work; nothing here is trusted.
-/
namespace Go.Proofs.Ytgegagndihffpaa
open Go Go.Sx Go.RowKit
set_option maxRecDepth 1000000
set_option maxHeartbeats 8000000
set_option linter.unusedVariables false
set_option linter.unusedSimpArgs false
noncomputable section
/-- All ports are ready, and the driver knows just these. -/
structure Told (mp : Int) (ps us : List Pt) : Prop where
  ok : okP mp true ps = true
  rdy : ∀ x ∈ ps, x.2.2.2.2.2 = true
  us : us = ps.map fldE
theorem Told.ali {mp : Int} {ps us : List Pt} (h : Told mp ps us) : aliB ps us = true := by rw [h.us]; exact ali_told h.rdy
theorem Told.len {mp : Int} {ps us : List Pt} (h : Told mp ps us) : ps.length ≤ 32 := okP_len h.ok
theorem Told.none {mp : Int} {ps : List Pt} (h : Told mp ps []) : ps = [] := List.map_eq_nil_iff.1 h.us.symm
/-- What an act does to ports that are all ready. -/
inductive Did (mp : Int) (ps : List Pt) (D : DR) : Prop
  | add (l r : List Pt) (x : Pt) (h1 : ps = l ++ r) (h2 : D.2.2.1 = l ++ x :: r) (h3 : D.2.2.2 = some [addE x]) (h4 : okP mp true (l ++ x :: r) = true) (h5 : x.2.2.2.2.2 = false)
  | rem (l r : List Pt) (x : Pt) (h1 : ps = l ++ x :: r) (h2 : D.2.2.1 = l ++ r) (h3 : D.2.2.2 = some [(x.1, 2, 1, ByteArray.empty)])
  | opn (l r : List Pt) (x : Pt) (on : Bool) (h1 : ps = l ++ x :: r) (h2 : D.2.2.1 = l ++ hosE x on :: r) (h3 : D.2.2.2 = some [(x.1, 6, bitI on, ByteArray.empty)]) (h4 : okP mp true (l ++ hosE x on :: r) = true)
  | same (h2 : D.2.2.1 = ps) (h3 : D.2.2.2 = none)
theorem hos_same {x : Pt} {on : Bool} (h : (x.2.2.2.1 == on) = true) : hosE x on = x := by
  have h := eq_of_beq h
  subst h
  rfl
theorem done_did {mp : Int} {ps : List Pt} {a : Ac} (hp : okP mp true ps = true) (hr : ∀ x ∈ ps, x.2.2.2.2.2 = true) (hK : outK a = false) (h0 : (doneR mp true ps a).1 = 0) : Did mp ps (doneR mp true ps a) := by
  have hm := (okP_iff.1 hp).1
  obtain ⟨kind, id, nm, on, m⟩ := a
  have hK : (decide (kind < 1) || decide (3 < kind)) = false := hK
  rw [Bool.or_eq_false_iff, decide_eq_false_iff_not, decide_eq_false_iff_not] at hK
  unfold doneR at h0 ⊢
  simp only [hp, if_true] at h0 ⊢
  by_cases q1 : kind = 1
  · rw [if_pos q1] at h0 ⊢
    by_cases c1 : id < 0
    · rw [if_pos c1] at h0; exact absurd h0 (by decide)
    rw [if_neg c1] at h0 ⊢
    by_cases c2 : mp ≤ id
    · rw [if_pos c2] at h0; exact absurd h0 (by decide)
    rw [if_neg c2] at h0 ⊢
    by_cases c3 : (64 : Int) < (nm.size : Int)
    · rw [if_pos c3] at h0; exact absurd h0 (by decide)
    rw [if_neg c3] at h0 ⊢
    by_cases c4 : 0 ≤ atI ps id
    · rw [if_pos c4] at h0; exact absurd h0 (by decide)
    rw [if_neg c4] at h0 ⊢
    have hx : okE mp true ((id, nm, on, false, false, false) : Pt) := ⟨by omega, by omega, by show nm.size ≤ 64; omega, nofun, nofun⟩
    obtain ⟨l, r, rfl, e1, _, _, o1⟩ := add_split (x := (id, nm, on, false, false, false)) hp hx c4
    exact .add l r _ rfl e1 rfl o1 rfl
  rw [if_neg q1] at h0 ⊢
  by_cases q2 : kind = 2
  · rw [if_pos q2] at h0 ⊢
    by_cases c1 : atI ps id < 0
    · rw [if_pos c1] at h0; exact absurd h0 (by decide)
    rw [if_neg c1] at h0 ⊢
    obtain ⟨l, x, r, rfl, hx, hne, hat⟩ := split_at (most := mp) (rdy := true) c1
    have e2 : ((l.length : Int) + 1).toNat = l.length + 1 := by omega
    have hid := mod_id hm.2 (okP_mid.1 hp).2.1
    refine .rem l r x rfl ?_ ?_
    · simp only [hat, show ((l.length : Int)).toNat = l.length from rfl, e2, del_mid]
    · rw [← hx, hid]; rfl
  rw [if_neg q2, if_pos (show kind = 3 by omega)] at h0 ⊢
  by_cases c1 : atI ps id < 0
  · rw [if_pos c1] at h0; exact absurd h0 (by decide)
  rw [if_neg c1] at h0 ⊢
  obtain ⟨l, x, r, rfl, hx, hne, hat⟩ := split_at (most := mp) (rdy := true) c1
  subst hx
  have e := open_mid (l := l) (r := r) (x := x) (on := on) hne
  have hxe := (okP_mid.1 hp).2.1
  have hid := mod_id hm.2 hxe
  rw [e.1, e.2, hr x (List.mem_append_right _ List.mem_cons_self)]
  have ok2 : okP mp true (l ++ hosE x on :: r) = true := okP_set hp rfl ⟨hxe.1, hxe.2.1, hxe.2.2.1, hxe.2.2.2.1, hxe.2.2.2.2⟩
  cases ht : (x.2.2.2.1 == on) with
  | true => exact .same (by show l ++ hosE x on :: r = _; rw [hos_same ht]) rfl
  | false => exact .opn l r x on rfl rfl (by show some [(x.1 % 4294967296, _, _, _)] = _; rw [hid]) ok2
/-- What comes of what an act says. -/
structure Heard (mp : Int) (kb : KB) (ts : List Pt) (ms : List Mg) : Prop where
  few : ms.length ≤ 200
  good : goodH mp mp false true ts kb .a ms = true
  rp : hRp true (runS mp mp false true ts (kbL kb) .a ms) = true
  told : Told mp (hTs ts (runS mp mp false true ts (kbL kb) .a ms)) (hUs (kbL kb) (runS mp mp false true ts (kbL kb) .a ms))
  shape : hIsC (runS mp mp false true ts (kbL kb) .a ms) = true ∨ (hIsB (runS mp mp false true ts (kbL kb) .a ms) = true ∧ kb.isSome = true)
theorem le_mod {a b : Int} (h : 0 ≤ a ∧ a < b) (hb : b ≤ 32) : a % 18446744073709551616 < b % 18446744073709551616 := by omega
theorem nil_add {mp : Int} {x : Pt} (hm : 1 ≤ mp ∧ mp ≤ 32) (hx : okE mp true x) : nilK mp (addE x) = true := by
  have hid := mod_id hm.2 hx
  have e0 : addE x = (x.1, 1, 1, ByteArray.empty) := by unfold addE; rw [hid]
  rw [e0]
  unfold nilK inMost
  simp only [decide_eq_true hm, okM_e (.inl rfl), Bool.true_and, beq_self_eq_true]
  rw [decide_eq_true (le_mod ⟨hx.1, hx.2.1⟩ hm.2), inR64_mk (by have := hx.1; have := hx.2.1; omega)]; rfl
theorem fld_mid {l r : List Pt} {x y : Pt} (h : fldE y = fldE x) : (l ++ y :: r).map fldE = l.map fldE ++ fldE x :: r.map fldE := by
  rw [List.map_append, List.map_cons, h]
theorem fld_lt {l : List Pt} {a : Int} (h : ∀ y ∈ l, y.1 < a) : ∀ y ∈ l.map fldE, y.1 < a := fun y hy => by
  obtain ⟨z, hz, rfl⟩ := List.mem_map.1 hy
  exact h z hz
theorem fld_gt {l : List Pt} {a : Int} (h : ∀ y ∈ l, a < y.1) : ∀ y ∈ l.map fldE, a < y.1 := fun y hy => by
  obtain ⟨z, hz, rfl⟩ := List.mem_map.1 hy
  exact h z hz
theorem told_set {mp : Int} {l r : List Pt} {x y : Pt} (h : okP mp true (l ++ y :: r) = true) (hl : ∀ z ∈ l ++ r, z.2.2.2.2.2 = true) (hy : y.2.2.2.2.2 = true) (hf : fldE y = fldE x) : Told mp (l ++ y :: r) (l.map fldE ++ fldE x :: r.map fldE) :=
  ⟨h, fun z hz => by
    rcases mem_mid.1 hz with rfl | hz
    · exact hy
    · exact hl z hz, (fld_mid hf).symm⟩
theorem one_heard {mp : Int} {ps us : List Pt} {kb : KB} {D : DR} {ms : List Mg} (ht : Told mp ps us) (hk : kbL kb = us) (hd : Did mp ps D) (hs : D.2.2.2 = some ms) : Heard mp kb D.2.2.1 ms := by
  obtain ⟨ok, rdy, rfl⟩ := ht
  have hm := (okP_iff.1 ok).1
  cases hd with
  | add l r x h1 h2 h3 h4 h5 =>
    subst h1
    obtain rfl : [addE x] = ms := Option.some.inj (h3.symm.trans hs)
    obtain ⟨_, hxe, hl, hr⟩ := okP_mid.1 h4
    have hu := okP_fld ok
    rw [List.map_append] at hu hk
    obtain ⟨g1, g2⟩ := step_add (rp0 := true) (T0 := D.2.2.1) (U0 := kbL kb) (s := .a) (L := l.map fldE) (R := r.map fldE) h4 h5 rfl h2 hk hu (fld_lt hl) (fld_gt hr)
    have hrun : runS mp mp false true D.2.2.1 (kbL kb) .a [addE x] = .c true (l ++ rdyE x true :: r) (l.map fldE ++ fldE x :: r.map fldE) := g2
    have hgn : gdN mp kb .a (addE x) = true := by
      cases kb with
      | none => exact nil_add hm hxe
      | some y => rfl
    have ok2 : okP mp true (l ++ rdyE x true :: r) = true := okP_set h4 rfl ⟨hxe.1, hxe.2.1, hxe.2.2.1, fun _ => rfl, fun _ => rfl⟩
    refine ⟨by simp, ?_, by rw [hrun]; rfl, by rw [hrun]; exact told_set ok2 rdy rfl rfl, by rw [hrun]; exact .inl rfl⟩
    unfold goodH goodH
    rw [g1, hgn]; rfl
  | rem l r x h1 h2 h3 =>
    subst h1
    obtain rfl := Option.some.inj (h3.symm.trans hs)
    obtain ⟨okr, hxe, hl, hr⟩ := okP_mid.1 ok
    have hu := okP_fld ok
    have hul := okP_len hu
    rw [List.map_append, List.map_cons] at hu hk hul
    have hk1 : knowAll mp false (kbL kb) [(x.1, 2, 1, ByteArray.empty)] = (l ++ r).map fldE := by
      rw [hk]
      unfold knowAll
      rw [hu]
      show knowL mp _ _ = _
      rw [know_at (x := fldE x) (m := (x.1, 2, 1, ByteArray.empty)) rfl (fld_lt hl) (okM_e (.inr (.inl rfl)))]
      rw [List.map_append]; rfl
    have hrun : runS mp mp false true D.2.2.1 (kbL kb) .a [(x.1, 2, 1, ByteArray.empty)] = .b ((l ++ r).map fldE) := by
      show HS.b (knowAll mp false (kbL kb) [(x.1, 2, 1, ByteArray.empty)]) = _
      rw [hk1]
    have hks : kb.isSome = true := by
      cases kb with
      | none => have hk : [] = l.map fldE ++ fldE x :: r.map fldE := hk; simp at hk
      | some y => rfl
    refine ⟨by simp, ?_, by rw [hrun]; rfl, by rw [hrun]; exact ⟨by show okP mp true D.2.2.1 = true; rw [h2]; exact okr, fun z hz => rdy z (by have hz : z ∈ D.2.2.1 := hz; rw [h2] at hz; exact mem_mid.2 (.inr hz)), by show _ = D.2.2.1.map fldE; rw [h2]; rfl⟩, by rw [hrun]; exact .inr ⟨rfl, hks⟩⟩
    unfold goodH goodH gdS
    have hsm : smallK (hUs (kbL kb) .a) [(x.1, 2, 1, ByteArray.empty)] = true := by
      show smallK (kbL kb) _ = true
      rw [hk]
      exact smallK_mk (by omega) (by simp) (by simp only [List.all_cons, List.all_nil, Bool.and_true]; exact inR64_mk (by have := hxe.1; have := hxe.2.1; show _ ≤ x.1 ∧ x.1 ≤ _; omega))
    rw [hsm]
    cases kb with
    | none => cases hks
    | some y => rfl
  | opn l r x on h1 h2 h3 h4 =>
    subst h1
    obtain rfl := Option.some.inj (h3.symm.trans hs)
    obtain ⟨okr, hxe, hl, hr⟩ := okP_mid.1 ok
    have hu := okP_fld ok
    have hul := okP_len hu
    rw [List.map_append, List.map_cons] at hu hk hul
    have hk1 : knowAll mp false (kbL kb) [(x.1, 6, bitI on, ByteArray.empty)] = (l ++ hosE x on :: r).map fldE := by
      rw [hk]
      unfold knowAll
      rw [hu]
      show knowL mp _ _ = _
      rw [know_at (x := fldE x) (m := (x.1, 6, bitI on, ByteArray.empty)) rfl (fld_lt hl) (okM_e (.inr (.inr (.inr rfl))))]
      rw [List.map_append, List.map_cons]
      cases on <;> rfl
    have hrun : runS mp mp false true D.2.2.1 (kbL kb) .a [(x.1, 6, bitI on, ByteArray.empty)] = .b ((l ++ hosE x on :: r).map fldE) := by
      show HS.b (knowAll mp false (kbL kb) [(x.1, 6, bitI on, ByteArray.empty)]) = _
      rw [hk1]
    have hks : kb.isSome = true := by
      cases kb with
      | none => have hk : [] = l.map fldE ++ fldE x :: r.map fldE := hk; simp at hk
      | some y => rfl
    refine ⟨by simp, ?_, by rw [hrun]; rfl, by rw [hrun]; exact ⟨by show okP mp true D.2.2.1 = true; rw [h2]; exact h4, fun z hz => by
        have hz : z ∈ D.2.2.1 := hz
        rw [h2] at hz
        rcases mem_mid.1 hz with rfl | hz
        · exact rdy x (List.mem_append_right _ List.mem_cons_self)
        · exact rdy z (mem_mid.2 (.inr hz)), by show _ = D.2.2.1.map fldE; rw [h2]; rfl⟩, by rw [hrun]; exact .inr ⟨rfl, hks⟩⟩
    unfold goodH goodH gdS
    have hsm : smallK (hUs (kbL kb) .a) [(x.1, 6, bitI on, ByteArray.empty)] = true := by
      show smallK (kbL kb) _ = true
      rw [hk]
      exact smallK_mk (by omega) (by simp) (by simp only [List.all_cons, List.all_nil, Bool.and_true]; exact inR64_mk (by have := hxe.1; have := hxe.2.1; show _ ≤ x.1 ∧ x.1 ≤ _; omega))
    rw [hsm]
    cases kb with
    | none => cases hks
    | some y => rfl
  | same h2 h3 => rw [h3] at hs; cases hs
/-! ### the first list -/
theorem adds_run {mp : Int} {T0 : List Pt} {kb : KB} : ∀ (r l : List Pt) (s : HS), okP mp true (l ++ r) = true → (∀ x ∈ l, x.2.2.2.2.2 = true) → (∀ x ∈ r, x.2.2.2.2.2 = false) → hRp true s = true → hTs T0 s = l ++ r → hUs (kbL kb) s = l.map fldE → (hIsC s = true ∨ (s = .a ∧ l = [])) →
    goodH mp mp false true T0 kb s (r.map addE) = true ∧ hRp true (runS mp mp false true T0 (kbL kb) s (r.map addE)) = true ∧ Told mp (hTs T0 (runS mp mp false true T0 (kbL kb) s (r.map addE))) (hUs (kbL kb) (runS mp mp false true T0 (kbL kb) s (r.map addE))) ∧ (r ≠ [] → hIsC (runS mp mp false true T0 (kbL kb) s (r.map addE)) = true)
  | [], l, s, h1, h2, h3, h4, h5, h6, h7 => ⟨rfl, h4, ⟨by show okP mp true (hTs T0 s) = true; rw [h5]; exact h1, fun x hx => h2 x (by have hx : x ∈ hTs T0 s := hx; rw [h5] at hx; simpa using hx), by show hUs (kbL kb) s = (hTs T0 s).map fldE; rw [h5, h6]; simp⟩, fun h => absurd rfl h⟩
  | x :: r, l, s, h1, h2, h3, h4, h5, h6, h7 => by
    have hm := (okP_iff.1 h1).1
    obtain ⟨okr, hxe, hl, hr⟩ := okP_mid.1 h1
    have hx0 := h3 x List.mem_cons_self
    have hok : okP mp true l = true := by
      rw [okP_iff] at h1 ⊢
      exact ⟨h1.1, (List.pairwise_append.1 h1.2.1).1, fun y hy => h1.2.2 y (List.mem_append_left _ hy)⟩
    have hu := okP_fld hok
    obtain ⟨g1, g2⟩ := step_add (rp0 := true) (T0 := T0) (U0 := kbL kb) (s := s) (L := l.map fldE) (R := []) h1 hx0 h4 h5 (by rw [h6, List.append_nil]) (by rw [List.append_nil]; exact hu) (fld_lt hl) (fun y hy => by cases hy)
    have ok2 : okP mp true (l ++ rdyE x true :: r) = true := okP_set h1 rfl ⟨hxe.1, hxe.2.1, hxe.2.2.1, fun _ => rfl, fun _ => rfl⟩
    have e1 : l ++ rdyE x true :: r = (l ++ [rdyE x true]) ++ r := by simp
    have hgn : gdN mp kb s (addE x) = true := by
      cases kb with
      | none =>
        rcases h7 with h7 | ⟨rfl, _⟩
        · cases s with
          | a => exact nil_add hm hxe
          | b u => cases h7
          | c _ _ _ => rfl
        · exact nil_add hm hxe
      | some y => rfl
    have ih := adds_run (mp := mp) (T0 := T0) (kb := kb) r (l ++ [rdyE x true]) (stepS mp mp false true T0 (kbL kb) s (addE x)) (by rw [← e1]; exact ok2) (fun y hy => by
      rcases List.mem_append.1 hy with hy | hy
      · exact h2 y hy
      · obtain rfl := List.mem_singleton.1 hy; rfl) (fun y hy => h3 y (List.mem_cons_of_mem _ hy)) (by rw [g2]; rfl) (by rw [g2, ← e1]; rfl) (by rw [g2, List.map_append]; rfl) (.inl (by rw [g2]; rfl))
    obtain ⟨i1, i2, i3, i4⟩ := ih
    have hrun : runS mp mp false true T0 (kbL kb) s ((x :: r).map addE) = runS mp mp false true T0 (kbL kb) (stepS mp mp false true T0 (kbL kb) s (addE x)) (r.map addE) := rfl
    rw [hrun]
    refine ⟨?_, i2, i3, fun _ => ?_⟩
    · show ((gdS mp mp false true T0 (kbL kb) s (addE x) && gdN mp kb s (addE x)) && _) = true
      rw [g1, hgn, i1]; rfl
    · cases r with
      | nil => show hIsC (stepS mp mp false true T0 (kbL kb) s (addE x)) = true; rw [g2]; rfl
      | cons y r => exact i4 (by simp)
theorem first_heard {mp : Int} {ts : List Pt} {ms : List Mg} (h : okP mp false ts = true) (hs : (runR true ts).2 = some ms) : Heard mp none (runR true ts).1 ms ∧ hIsC (runS mp mp false true (runR true ts).1 [] .a ms) = true := by
  rw [runR_eq] at hs ⊢
  have hok : okP mp true (ts.map clrE) = true := okP_clr h
  have hlen := okP_len h
  cases ts with
  | nil => cases hs
  | cons x r =>
    have hs : some ((x :: r).map addE) = some ms := hs
    obtain rfl := Option.some.inj hs
    have e : ((x :: r).map clrE).map addE = (x :: r).map addE := by
      rw [List.map_map]; rfl
    obtain ⟨i1, i2, i3, i4⟩ := adds_run (mp := mp) (T0 := (x :: r).map clrE) (kb := none) ((x :: r).map clrE) [] .a hok (fun y hy => by cases hy) (fun y hy => by
      obtain ⟨z, _, rfl⟩ := List.mem_map.1 hy; rfl) rfl rfl rfl (.inr ⟨rfl, rfl⟩)
    rw [e] at i1 i2 i3 i4
    exact ⟨⟨by rw [List.length_map]; omega, i1, i2, i3, .inl (i4 (by simp))⟩, i4 (by simp)⟩
end
end Go.Proofs.Ytgegagndihffpaa

/-
  Chapter 27: PortsKnow, the last loop: a round. Own work; nothing here is trusted.
-/
namespace Go.Proofs.Ytgegagndihffpaa
open Go Go.Sx Go.RowKit
set_option maxRecDepth 1000000
set_option maxHeartbeats 8000000
set_option linter.unusedVariables false
set_option linter.unusedSimpArgs false
noncomputable section
/-- How far the last loop is: the lists are as at the entry; the ports' list is another one; both are. -/
inductive TS
  | i
  | p (ps : List Pt)
  | q (ps us : List Pt)
def curP (b : SB) : TS → List Pt
  | .i => match b with
    | .n => []
    | .p _ ps0 => ps0
    | .k _ ps0 _ _ => ps0
  | .p ps => ps
  | .q ps _ => ps
def kbT (b : SB) : TS → KB
  | .q _ us => some (false, us)
  | _ => match b with
    | .k _ _ fk us0 => some (fk, us0)
    | _ => none
def isK : SB → Bool
  | .k _ _ _ _ => true
  | _ => false
def dT (mp : Int) (b : SB) (s : TS) (a : Ac) : DR := doneR mp true (curP b s) a
def sT (mp : Int) (b : SB) (s : TS) (a : Ac) (ms : List Mg) : HS := runS mp mp false true (dT mp b s a).2.2.1 (kbL (kbT b s)) .a ms
def stepT (mp : Int) (b : SB) (s : TS) (a : Ac) : TS := match outK a with
  | true => s
  | false => match (dT mp b s a).1 == 0 with
    | false => s
    | true => match (dT mp b s a).2.2.2 with
      | some ms => .q (hTs (dT mp b s a).2.2.1 (sT mp b s a ms)) (hUs (kbL (kbT b s)) (sT mp b s a ms))
      | none => match s with
        | .q _ us => .q (dT mp b s a).2.2.1 us
        | _ => .p (dT mp b s a).2.2.1
structure InvT (mp : Int) (b : SB) (s : TS) : Prop where
  told : Told mp (curP b s) (kbL (kbT b s))
  isp : ∀ ps, s = .p ps → isK b = true
@[reducible] def tSt (f : Bool) (l : List Ac) (b : SB) (mp : Int) (x : Nat × TS) : List SV × List (SO C27) := match x.2, b with
  | .q ps us, b => tQ f l b mp true ps us (x.1 : Int) false
  | .p ps, .k fp ps0 fk us0 => tP f l fp ps0 fk us0 mp true ps (x.1 : Int) false
  | _, b => tI f l b mp true (x.1 : Int) false
theorem stepT_inv {mp : Int} {b : SB} {s : TS} {a : Ac} (h : InvT mp b s) : InvT mp b (stepT mp b s a) := by
  unfold stepT
  cases hK : outK a with
  | true => exact h
  | false =>
    cases h0 : ((dT mp b s a).1 == 0) with
    | false => exact h
    | true =>
      have hd : Did mp (curP b s) (dT mp b s a) := done_did h.told.ok h.told.rdy hK (eq_of_beq h0)
      cases hs : (dT mp b s a).2.2.2 with
      | some ms =>
        have hh := one_heard h.told rfl hd hs
        exact ⟨hh.told, fun ps hp => by cases hp⟩
      | none =>
        have h2 : (dT mp b s a).2.2.1 = curP b s := by
          cases hd with
          | add l r x h1 h2 h3 => rw [h3] at hs; cases hs
          | rem l r x h1 h2 h3 => rw [h3] at hs; cases hs
          | opn l r x on h1 h2 h3 => rw [h3] at hs; cases hs
          | same h2 h3 => exact h2
        obtain ⟨ht, hi⟩ := h
        cases s with
        | q ps us => exact ⟨by show Told mp (dT mp b (.q ps us) a).2.2.1 us; rw [h2]; exact ht, fun ps hp => by cases hp⟩
        | p ps =>
          have hb := hi ps rfl
          cases b with
          | n => cases hb
          | p _ _ => cases hb
          | k fp ps0 fk us0 => exact ⟨by show Told mp (dT mp _ (.p ps) a).2.2.1 us0; rw [h2]; exact ht, fun ps hp => rfl⟩
        | i =>
          have hn : isK b = false → False := fun hb => by
            have hu : kbL (kbT b .i) = [] := by cases b with
              | n => rfl
              | p _ _ => rfl
              | k _ _ _ _ => cases hb
            rw [hu] at ht
            have hp := ht.none
            have h0 := eq_of_beq h0
            unfold dT at hs h0
            rw [hp] at hs h0
            have hd2 : Did mp [] (doneR mp true [] a) := done_did (okP_iff.2 ⟨(okP_iff.1 ht.ok).1, List.Pairwise.nil, fun x hx => by cases hx⟩) (fun x hx => by cases hx) hK h0
            unfold outK at hK
            simp only [Bool.or_eq_false_iff, decide_eq_false_iff_not] at hK
            revert h0 hs
            unfold doneR
            have ha : ∀ id, atI [] id < 0 := fun id => by rw [at_none (fun x hx => by cases hx)]; decide
            have ho : okP mp true [] = true := okP_iff.2 ⟨(okP_iff.1 ht.ok).1, List.Pairwise.nil, fun x hx => by cases hx⟩
            rw [ho]
            simp only [if_true, if_pos (ha _)]
            by_cases q1 : a.1 = 1
            · rw [if_pos q1]
              repeat' split
              all_goals first
                | (intro h; cases h; done)
                | (intro h1 h2; cases h1; done)
                | (intro h1 h2; cases h2; done)
            · rw [if_neg q1]
              by_cases q2 : a.1 = 2
              · rw [if_pos q2]; intro h1 h2; first | (cases h1; done) | (cases h2; done)
              · rw [if_neg q2, if_pos (show a.1 = 3 by omega)]; intro h1 h2; first | (cases h1; done) | (cases h2; done)
          cases b with
          | n => exact absurd rfl (fun h => hn h)
          | p _ _ => exact absurd rfl (fun h => hn h)
          | k fp ps0 fk us0 => exact ⟨by show Told mp (dT mp _ .i a).2.2.1 us0; rw [h2]; exact ht, fun ps hp => rfl⟩

section
variable {f : Bool} {l : List Ac} {mp : Int} {k : Nat}

theorem tn_round (hk : k < l.length) (hl : l.length ≤ 1000) (hr : inR64 (elC l (k : Int)).2.2.2.2.1 = true) (hi : InvT mp SB.n TS.i) :
    (tRd SB.n (tSt f l SB.n mp (k, TS.i))).get = some (.normal, tSt f l SB.n mp (k + 1, stepT mp SB.n TS.i (elC l (k : Int)))) := by
  have k1 := decide_eq_true (show (k : Int) < (l.length : Int) by omega)
  have k2 : Sx.inB (k : Int) l.length = true := inB_mk ⟨by omega, by omega⟩
  have k3 := decide_eq_true (show ((k : Nat) : Int).toNat < l.length by omega)
  have k4 : inR64 ((k : Int) + 1) = true := inR64_mk (by omega)
  have ht : Told mp [] [] := hi.told
  cases ha : decide ((elC l (k : Int)).1 < 1) with
  | true =>
    have hs : stepT mp SB.n TS.i (elC l (k : Int)) = TS.i := by unfold stepT outK; rw [ha]; rfl
    rw [hs]
    exact Tr.follow_get (tn_lo f l mp true k) (by simp only [k1, k2, k3, k4, ha])
  | false =>
    cases hb : decide (3 < (elC l (k : Int)).1) with
    | true =>
      have hs : stepT mp SB.n TS.i (elC l (k : Int)) = TS.i := by unfold stepT outK; rw [ha, hb]; rfl
      rw [hs]
      exact Tr.follow_get (tn_hi f l mp true k) (by simp only [k1, k2, k3, k4, ha, hb])
    | false =>
      have hK : outK (elC l (k : Int)) = false := by unfold outK; rw [ha, hb]; rfl
      unfold stepT
      rw [hK]
      cases h0 : ((doneR mp true [] (elC l (k : Int))).1 == 0) with
      | false =>
        have h0' : ((dT mp SB.n TS.i (elC l (k : Int))).1 == 0) = false := h0
        have h1 : ((doneR mp true [] (elC l (k : Int))).1 != 0) = true := by unfold bne; rw [h0]; rfl
        rw [h0']
        have hp := tn_err f l mp true k
        skip
        exact Tr.follow_get hp (by simp only [k1, k2, k3, k4, ha, hb, h0, h1, hr])
      | true =>
        have h0' : ((dT mp SB.n TS.i (elC l (k : Int))).1 == 0) = true := h0
        rw [h0']
        have hd : Did mp [] (doneR mp true [] (elC l (k : Int))) := done_did ht.ok ht.rdy hK (eq_of_beq h0)
        have hD1 : (doneR mp true [] (elC l (k : Int))).2.1 = true := done_rdy hK (eq_of_beq h0)
        have hdT : dT mp SB.n TS.i (elC l (k : Int)) = (doneR mp true [] (elC l (k : Int))) := rfl
        rw [hdT]
        cases hs : (doneR mp true [] (elC l (k : Int))).2.2.2 with
        | none =>
          exfalso
          have hj : InvT mp SB.n (stepT mp SB.n TS.i (elC l (k : Int))) := stepT_inv hi
          unfold stepT at hj
          rw [hK, h0', hdT, hs] at hj
          exact nomatch (show false = true from hj.isp _ rfl)
        | some ms =>
          have hh : Heard mp none (doneR mp true [] (elC l (k : Int))).2.2.1 ms := one_heard ht rfl hd hs
          have hrp : hRp true (runS mp mp false true (doneR mp true [] (elC l (k : Int))).2.2.1 [] .a ms) = true := hh.rp
          have hfew := decide_eq_true hh.few
          have hgood := hh.good
          have hC : hIsC (runS mp mp false true (doneR mp true [] (elC l (k : Int))).2.2.1 [] .a ms) = true := by
            rcases hh.shape with h | ⟨_, h⟩
            · exact h
            · cases h
          have hp := tn_c f l mp true k
          skip
          simp only [hs, hD1, Option.isSome_some, Option.getD_some, hrp] at hp
          exact Tr.follow_get hp (by simp only [k1, k2, k3, k4, ha, hb, h0, hfew, hgood, hC, hr])
theorem tp_round {fp : Bool} {ps0 : List Pt} (hk : k < l.length) (hl : l.length ≤ 1000) (hr : inR64 (elC l (k : Int)).2.2.2.2.1 = true) (hi : InvT mp (SB.p fp ps0) TS.i) :
    (tRd (SB.p fp ps0) (tSt f l (SB.p fp ps0) mp (k, TS.i))).get = some (.normal, tSt f l (SB.p fp ps0) mp (k + 1, stepT mp (SB.p fp ps0) TS.i (elC l (k : Int)))) := by
  have k1 := decide_eq_true (show (k : Int) < (l.length : Int) by omega)
  have k2 : Sx.inB (k : Int) l.length = true := inB_mk ⟨by omega, by omega⟩
  have k3 := decide_eq_true (show ((k : Nat) : Int).toNat < l.length by omega)
  have k4 : inR64 ((k : Int) + 1) = true := inR64_mk (by omega)
  have ht : Told mp ps0 [] := hi.told
  have k5 : (!noPt ps0) = false := by rw [ht.none]; rfl
  have k7 : (decide (ps0.length ≤ (300 : Nat)) && inR64 (elC l (k : Int)).2.2.2.2.1) = true := by rw [hr, decide_eq_true (show ps0.length ≤ 300 by have := ht.len; omega)]; rfl
  cases ha : decide ((elC l (k : Int)).1 < 1) with
  | true =>
    have hs : stepT mp (SB.p fp ps0) TS.i (elC l (k : Int)) = TS.i := by unfold stepT outK; rw [ha]; rfl
    rw [hs]
    exact Tr.follow_get (tp_lo f l fp ps0 mp true k) (by simp only [k1, k2, k3, k4, k5, ha])
  | false =>
    cases hb : decide (3 < (elC l (k : Int)).1) with
    | true =>
      have hs : stepT mp (SB.p fp ps0) TS.i (elC l (k : Int)) = TS.i := by unfold stepT outK; rw [ha, hb]; rfl
      rw [hs]
      exact Tr.follow_get (tp_hi f l fp ps0 mp true k) (by simp only [k1, k2, k3, k4, k5, ha, hb])
    | false =>
      have hK : outK (elC l (k : Int)) = false := by unfold outK; rw [ha, hb]; rfl
      unfold stepT
      rw [hK]
      cases h0 : ((doneR mp true ps0 (elC l (k : Int))).1 == 0) with
      | false =>
        have h0' : ((dT mp (SB.p fp ps0) TS.i (elC l (k : Int))).1 == 0) = false := h0
        have h1 : ((doneR mp true ps0 (elC l (k : Int))).1 != 0) = true := by unfold bne; rw [h0]; rfl
        rw [h0']
        have hp := tp_err f l fp ps0 mp true k
        rw [k7] at hp
        exact Tr.follow_get hp (by simp only [k1, k2, k3, k4, k5, ha, hb, h0, h1])
      | true =>
        have h0' : ((dT mp (SB.p fp ps0) TS.i (elC l (k : Int))).1 == 0) = true := h0
        rw [h0']
        have hd : Did mp ps0 (doneR mp true ps0 (elC l (k : Int))) := done_did ht.ok ht.rdy hK (eq_of_beq h0)
        have hD1 : (doneR mp true ps0 (elC l (k : Int))).2.1 = true := done_rdy hK (eq_of_beq h0)
        have hdT : dT mp (SB.p fp ps0) TS.i (elC l (k : Int)) = (doneR mp true ps0 (elC l (k : Int))) := rfl
        rw [hdT]
        cases hs : (doneR mp true ps0 (elC l (k : Int))).2.2.2 with
        | none =>
          exfalso
          have hj : InvT mp (SB.p fp ps0) (stepT mp (SB.p fp ps0) TS.i (elC l (k : Int))) := stepT_inv hi
          unfold stepT at hj
          rw [hK, h0', hdT, hs] at hj
          exact nomatch (show false = true from hj.isp _ rfl)
        | some ms =>
          have hh : Heard mp none (doneR mp true ps0 (elC l (k : Int))).2.2.1 ms := one_heard ht rfl hd hs
          have hrp : hRp true (runS mp mp false true (doneR mp true ps0 (elC l (k : Int))).2.2.1 [] .a ms) = true := hh.rp
          have hfew := decide_eq_true hh.few
          have hgood := hh.good
          have hC : hIsC (runS mp mp false true (doneR mp true ps0 (elC l (k : Int))).2.2.1 [] .a ms) = true := by
            rcases hh.shape with h | ⟨_, h⟩
            · exact h
            · cases h
          have hp := tp_c f l fp ps0 mp true k
          rw [k7] at hp
          simp only [hs, hD1, Option.isSome_some, Option.getD_some, hrp] at hp
          exact Tr.follow_get hp (by simp only [k1, k2, k3, k4, k5, ha, hb, h0, hfew, hgood, hC])
theorem tk_round {fp : Bool} {ps0 : List Pt} {fk : Bool} {us0 : List Pt} (hk : k < l.length) (hl : l.length ≤ 1000) (hr : inR64 (elC l (k : Int)).2.2.2.2.1 = true) (hi : InvT mp (SB.k fp ps0 fk us0) TS.i) :
    (tRd (SB.k fp ps0 fk us0) (tSt f l (SB.k fp ps0 fk us0) mp (k, TS.i))).get = some (.normal, tSt f l (SB.k fp ps0 fk us0) mp (k + 1, stepT mp (SB.k fp ps0 fk us0) TS.i (elC l (k : Int)))) := by
  have k1 := decide_eq_true (show (k : Int) < (l.length : Int) by omega)
  have k2 : Sx.inB (k : Int) l.length = true := inB_mk ⟨by omega, by omega⟩
  have k3 := decide_eq_true (show ((k : Nat) : Int).toNat < l.length by omega)
  have k4 : inR64 ((k : Int) + 1) = true := inR64_mk (by omega)
  have ht : Told mp ps0 us0 := hi.told
  have k5 : (!aliB ps0 us0) = false := by rw [ht.ali]; rfl
  have k6 : decide (ps0.length ≤ (300 : Nat)) = true := decide_eq_true (by have := ht.len; omega)
  have k7 : (decide (ps0.length ≤ (300 : Nat)) && inR64 (elC l (k : Int)).2.2.2.2.1) = true := by rw [hr, decide_eq_true (show ps0.length ≤ 300 by have := ht.len; omega)]; rfl
  cases ha : decide ((elC l (k : Int)).1 < 1) with
  | true =>
    have hs : stepT mp (SB.k fp ps0 fk us0) TS.i (elC l (k : Int)) = TS.i := by unfold stepT outK; rw [ha]; rfl
    rw [hs]
    exact Tr.follow_get (tk_lo f l fp ps0 fk us0 mp true k) (by simp only [k1, k2, k3, k4, k5, k6, ha])
  | false =>
    cases hb : decide (3 < (elC l (k : Int)).1) with
    | true =>
      have hs : stepT mp (SB.k fp ps0 fk us0) TS.i (elC l (k : Int)) = TS.i := by unfold stepT outK; rw [ha, hb]; rfl
      rw [hs]
      exact Tr.follow_get (tk_hi f l fp ps0 fk us0 mp true k) (by simp only [k1, k2, k3, k4, k5, k6, ha, hb])
    | false =>
      have hK : outK (elC l (k : Int)) = false := by unfold outK; rw [ha, hb]; rfl
      unfold stepT
      rw [hK]
      cases h0 : ((doneR mp true ps0 (elC l (k : Int))).1 == 0) with
      | false =>
        have h0' : ((dT mp (SB.k fp ps0 fk us0) TS.i (elC l (k : Int))).1 == 0) = false := h0
        have h1 : ((doneR mp true ps0 (elC l (k : Int))).1 != 0) = true := by unfold bne; rw [h0]; rfl
        rw [h0']
        have hp := tk_err f l fp ps0 fk us0 mp true k
        rw [k7] at hp
        exact Tr.follow_get hp (by simp only [k1, k2, k3, k4, k5, k6, ha, hb, h0, h1])
      | true =>
        have h0' : ((dT mp (SB.k fp ps0 fk us0) TS.i (elC l (k : Int))).1 == 0) = true := h0
        rw [h0']
        have hd : Did mp ps0 (doneR mp true ps0 (elC l (k : Int))) := done_did ht.ok ht.rdy hK (eq_of_beq h0)
        have hD1 : (doneR mp true ps0 (elC l (k : Int))).2.1 = true := done_rdy hK (eq_of_beq h0)
        have hdT : dT mp (SB.k fp ps0 fk us0) TS.i (elC l (k : Int)) = (doneR mp true ps0 (elC l (k : Int))) := rfl
        rw [hdT]
        cases hs : (doneR mp true ps0 (elC l (k : Int))).2.2.2 with
        | none =>
          have hp := tk_o f l fp ps0 fk us0 mp true k
          rw [k7] at hp
          simp only [hs, hD1, Option.isSome_none] at hp
          exact Tr.follow_get hp (by simp only [k1, k2, k3, k4, k5, k6, ha, hb, h0])
        | some ms =>
          have hh : Heard mp (some (fk, us0)) (doneR mp true ps0 (elC l (k : Int))).2.2.1 ms := one_heard ht rfl hd hs
          have hrp : hRp true (runS mp mp false true (doneR mp true ps0 (elC l (k : Int))).2.2.1 us0 .a ms) = true := hh.rp
          have hfew := decide_eq_true hh.few
          have hgood := hh.good
          cases hC : hIsC (runS mp mp false true (doneR mp true ps0 (elC l (k : Int))).2.2.1 us0 .a ms) with
          | true =>
            have hp := tk_c f l fp ps0 fk us0 mp true k
            rw [k7] at hp
            simp only [hs, hD1, Option.isSome_some, Option.getD_some, hrp] at hp
            exact Tr.follow_get hp (by simp only [k1, k2, k3, k4, k5, k6, ha, hb, h0, hfew, hgood, hC])
          | false =>
            have hB : hIsB (runS mp mp false true (doneR mp true ps0 (elC l (k : Int))).2.2.1 us0 .a ms) = true := by
              rcases hh.shape with h | ⟨h, _⟩
              · rw [show hIsC (runS mp mp false true (doneR mp true ps0 (elC l (k : Int))).2.2.1 us0 .a ms) = true from h] at hC; cases hC
              · exact h
            have hTs0 : hTs (doneR mp true ps0 (elC l (k : Int))).2.2.1 (runS mp mp false true (doneR mp true ps0 (elC l (k : Int))).2.2.1 us0 .a ms) = (doneR mp true ps0 (elC l (k : Int))).2.2.1 := by
              revert hB
              cases runS mp mp false true (doneR mp true ps0 (elC l (k : Int))).2.2.1 us0 .a ms <;> intro hB <;> first | (cases hB; done) | rfl
            have hp := tk_b f l fp ps0 fk us0 mp true k
            rw [k7] at hp
            simp only [hs, hD1, Option.isSome_some, Option.getD_some] at hp
            have hg := Tr.follow_get hp (by simp only [k1, k2, k3, k4, k5, k6, ha, hb, h0, hfew, hgood, hC, hB])
            show _ = some (Ex.normal, tQ f l (SB.k fp ps0 fk us0) mp true (hTs (doneR mp true ps0 (elC l (k : Int))).2.2.1 (runS mp mp false true (doneR mp true ps0 (elC l (k : Int))).2.2.1 us0 .a ms)) _ _ false)
            rw [hTs0]
            exact hg
theorem tP_round {fp : Bool} {ps0 : List Pt} {fk : Bool} {us0 ps : List Pt} (hk : k < l.length) (hl : l.length ≤ 1000) (hr : inR64 (elC l (k : Int)).2.2.2.2.1 = true) (hi : InvT mp (SB.k fp ps0 fk us0) (TS.p ps)) :
    (tRd (SB.k fp ps0 fk us0) (tSt f l (SB.k fp ps0 fk us0) mp (k, (TS.p ps)))).get = some (.normal, tSt f l (SB.k fp ps0 fk us0) mp (k + 1, stepT mp (SB.k fp ps0 fk us0) (TS.p ps) (elC l (k : Int)))) := by
  have k1 := decide_eq_true (show (k : Int) < (l.length : Int) by omega)
  have k2 : Sx.inB (k : Int) l.length = true := inB_mk ⟨by omega, by omega⟩
  have k3 := decide_eq_true (show ((k : Nat) : Int).toNat < l.length by omega)
  have k4 : inR64 ((k : Int) + 1) = true := inR64_mk (by omega)
  have ht : Told mp ps us0 := hi.told
  have k5 : (!aliB ps us0) = false := by rw [ht.ali]; rfl
  have k6 : decide (ps.length ≤ (300 : Nat)) = true := decide_eq_true (by have := ht.len; omega)
  have k7 : (decide (ps.length ≤ (300 : Nat)) && inR64 (elC l (k : Int)).2.2.2.2.1) = true := by rw [hr, decide_eq_true (show ps.length ≤ 300 by have := ht.len; omega)]; rfl
  cases ha : decide ((elC l (k : Int)).1 < 1) with
  | true =>
    have hs : stepT mp (SB.k fp ps0 fk us0) (TS.p ps) (elC l (k : Int)) = (TS.p ps) := by unfold stepT outK; rw [ha]; rfl
    rw [hs]
    exact Tr.follow_get (tP_lo f l fp ps0 fk us0 mp true ps k) (by simp only [k1, k2, k3, k4, k5, k6, ha])
  | false =>
    cases hb : decide (3 < (elC l (k : Int)).1) with
    | true =>
      have hs : stepT mp (SB.k fp ps0 fk us0) (TS.p ps) (elC l (k : Int)) = (TS.p ps) := by unfold stepT outK; rw [ha, hb]; rfl
      rw [hs]
      exact Tr.follow_get (tP_hi f l fp ps0 fk us0 mp true ps k) (by simp only [k1, k2, k3, k4, k5, k6, ha, hb])
    | false =>
      have hK : outK (elC l (k : Int)) = false := by unfold outK; rw [ha, hb]; rfl
      unfold stepT
      rw [hK]
      cases h0 : ((doneR mp true ps (elC l (k : Int))).1 == 0) with
      | false =>
        have h0' : ((dT mp (SB.k fp ps0 fk us0) (TS.p ps) (elC l (k : Int))).1 == 0) = false := h0
        have h1 : ((doneR mp true ps (elC l (k : Int))).1 != 0) = true := by unfold bne; rw [h0]; rfl
        rw [h0']
        have hp := tP_err f l fp ps0 fk us0 mp true ps k
        rw [k7] at hp
        exact Tr.follow_get hp (by simp only [k1, k2, k3, k4, k5, k6, ha, hb, h0, h1])
      | true =>
        have h0' : ((dT mp (SB.k fp ps0 fk us0) (TS.p ps) (elC l (k : Int))).1 == 0) = true := h0
        rw [h0']
        have hd : Did mp ps (doneR mp true ps (elC l (k : Int))) := done_did ht.ok ht.rdy hK (eq_of_beq h0)
        have hD1 : (doneR mp true ps (elC l (k : Int))).2.1 = true := done_rdy hK (eq_of_beq h0)
        have hdT : dT mp (SB.k fp ps0 fk us0) (TS.p ps) (elC l (k : Int)) = (doneR mp true ps (elC l (k : Int))) := rfl
        rw [hdT]
        cases hs : (doneR mp true ps (elC l (k : Int))).2.2.2 with
        | none =>
          have hp := tP_o f l fp ps0 fk us0 mp true ps k
          rw [k7] at hp
          simp only [hs, hD1, Option.isSome_none] at hp
          exact Tr.follow_get hp (by simp only [k1, k2, k3, k4, k5, k6, ha, hb, h0])
        | some ms =>
          have hh : Heard mp (some (fk, us0)) (doneR mp true ps (elC l (k : Int))).2.2.1 ms := one_heard ht rfl hd hs
          have hrp : hRp true (runS mp mp false true (doneR mp true ps (elC l (k : Int))).2.2.1 us0 .a ms) = true := hh.rp
          have hfew := decide_eq_true hh.few
          have hgood := hh.good
          cases hC : hIsC (runS mp mp false true (doneR mp true ps (elC l (k : Int))).2.2.1 us0 .a ms) with
          | true =>
            have hp := tP_c f l fp ps0 fk us0 mp true ps k
            rw [k7] at hp
            simp only [hs, hD1, Option.isSome_some, Option.getD_some, hrp] at hp
            exact Tr.follow_get hp (by simp only [k1, k2, k3, k4, k5, k6, ha, hb, h0, hfew, hgood, hC])
          | false =>
            have hB : hIsB (runS mp mp false true (doneR mp true ps (elC l (k : Int))).2.2.1 us0 .a ms) = true := by
              rcases hh.shape with h | ⟨h, _⟩
              · rw [show hIsC (runS mp mp false true (doneR mp true ps (elC l (k : Int))).2.2.1 us0 .a ms) = true from h] at hC; cases hC
              · exact h
            have hTs0 : hTs (doneR mp true ps (elC l (k : Int))).2.2.1 (runS mp mp false true (doneR mp true ps (elC l (k : Int))).2.2.1 us0 .a ms) = (doneR mp true ps (elC l (k : Int))).2.2.1 := by
              revert hB
              cases runS mp mp false true (doneR mp true ps (elC l (k : Int))).2.2.1 us0 .a ms <;> intro hB <;> first | (cases hB; done) | rfl
            have hp := tP_b f l fp ps0 fk us0 mp true ps k
            rw [k7] at hp
            simp only [hs, hD1, Option.isSome_some, Option.getD_some] at hp
            have hg := Tr.follow_get hp (by simp only [k1, k2, k3, k4, k5, k6, ha, hb, h0, hfew, hgood, hC, hB])
            show _ = some (Ex.normal, tQ f l (SB.k fp ps0 fk us0) mp true (hTs (doneR mp true ps (elC l (k : Int))).2.2.1 (runS mp mp false true (doneR mp true ps (elC l (k : Int))).2.2.1 us0 .a ms)) _ _ false)
            rw [hTs0]
            exact hg
theorem tQ_round {b : SB} {ps us : List Pt} (hk : k < l.length) (hl : l.length ≤ 1000) (hr : inR64 (elC l (k : Int)).2.2.2.2.1 = true) (hi : InvT mp b (TS.q ps us)) :
    (tRd b (tSt f l b mp (k, (TS.q ps us)))).get = some (.normal, tSt f l b mp (k + 1, stepT mp b (TS.q ps us) (elC l (k : Int)))) := by
  have k1 := decide_eq_true (show (k : Int) < (l.length : Int) by omega)
  have k2 : Sx.inB (k : Int) l.length = true := inB_mk ⟨by omega, by omega⟩
  have k3 := decide_eq_true (show ((k : Nat) : Int).toNat < l.length by omega)
  have k4 : inR64 ((k : Int) + 1) = true := inR64_mk (by omega)
  have ht : Told mp ps us := hi.told
  have k5 : (!aliB ps us) = false := by rw [ht.ali]; rfl
  have k6 : decide (ps.length ≤ (300 : Nat)) = true := decide_eq_true (by have := ht.len; omega)
  have k7 : (decide (ps.length ≤ (300 : Nat)) && inR64 (elC l (k : Int)).2.2.2.2.1) = true := by rw [hr, decide_eq_true (show ps.length ≤ 300 by have := ht.len; omega)]; rfl
  cases ha : decide ((elC l (k : Int)).1 < 1) with
  | true =>
    have hs : stepT mp b (TS.q ps us) (elC l (k : Int)) = (TS.q ps us) := by unfold stepT outK; rw [ha]; rfl
    rw [hs]
    exact Tr.follow_get (tQ_lo f l b mp true ps us k) (by simp only [k1, k2, k3, k4, k5, k6, ha])
  | false =>
    cases hb : decide (3 < (elC l (k : Int)).1) with
    | true =>
      have hs : stepT mp b (TS.q ps us) (elC l (k : Int)) = (TS.q ps us) := by unfold stepT outK; rw [ha, hb]; rfl
      rw [hs]
      exact Tr.follow_get (tQ_hi f l b mp true ps us k) (by simp only [k1, k2, k3, k4, k5, k6, ha, hb])
    | false =>
      have hK : outK (elC l (k : Int)) = false := by unfold outK; rw [ha, hb]; rfl
      unfold stepT
      rw [hK]
      cases h0 : ((doneR mp true ps (elC l (k : Int))).1 == 0) with
      | false =>
        have h0' : ((dT mp b (TS.q ps us) (elC l (k : Int))).1 == 0) = false := h0
        have h1 : ((doneR mp true ps (elC l (k : Int))).1 != 0) = true := by unfold bne; rw [h0]; rfl
        rw [h0']
        have hp := tQ_err f l b mp true ps us k
        rw [k7] at hp
        exact Tr.follow_get hp (by simp only [k1, k2, k3, k4, k5, k6, ha, hb, h0, h1])
      | true =>
        have h0' : ((dT mp b (TS.q ps us) (elC l (k : Int))).1 == 0) = true := h0
        rw [h0']
        have hd : Did mp ps (doneR mp true ps (elC l (k : Int))) := done_did ht.ok ht.rdy hK (eq_of_beq h0)
        have hD1 : (doneR mp true ps (elC l (k : Int))).2.1 = true := done_rdy hK (eq_of_beq h0)
        have hdT : dT mp b (TS.q ps us) (elC l (k : Int)) = (doneR mp true ps (elC l (k : Int))) := rfl
        rw [hdT]
        cases hs : (doneR mp true ps (elC l (k : Int))).2.2.2 with
        | none =>
          have hp := tQ_o f l b mp true ps us k
          rw [k7] at hp
          simp only [hs, hD1, Option.isSome_none] at hp
          exact Tr.follow_get hp (by simp only [k1, k2, k3, k4, k5, k6, ha, hb, h0])
        | some ms =>
          have hh : Heard mp (some (false, us)) (doneR mp true ps (elC l (k : Int))).2.2.1 ms := one_heard ht rfl hd hs
          have hrp : hRp true (runS mp mp false true (doneR mp true ps (elC l (k : Int))).2.2.1 us .a ms) = true := hh.rp
          have hfew := decide_eq_true hh.few
          have hgood := hh.good
          cases hC : hIsC (runS mp mp false true (doneR mp true ps (elC l (k : Int))).2.2.1 us .a ms) with
          | true =>
            have hp := tQ_c f l b mp true ps us k
            rw [k7] at hp
            simp only [hs, hD1, Option.isSome_some, Option.getD_some, hrp] at hp
            exact Tr.follow_get hp (by simp only [k1, k2, k3, k4, k5, k6, ha, hb, h0, hfew, hgood, hC])
          | false =>
            have hB : hIsB (runS mp mp false true (doneR mp true ps (elC l (k : Int))).2.2.1 us .a ms) = true := by
              rcases hh.shape with h | ⟨h, _⟩
              · rw [show hIsC (runS mp mp false true (doneR mp true ps (elC l (k : Int))).2.2.1 us .a ms) = true from h] at hC; cases hC
              · exact h
            have hTs0 : hTs (doneR mp true ps (elC l (k : Int))).2.2.1 (runS mp mp false true (doneR mp true ps (elC l (k : Int))).2.2.1 us .a ms) = (doneR mp true ps (elC l (k : Int))).2.2.1 := by
              revert hB
              cases runS mp mp false true (doneR mp true ps (elC l (k : Int))).2.2.1 us .a ms <;> intro hB <;> first | (cases hB; done) | rfl
            have hp := tQ_b f l b mp true ps us k
            rw [k7] at hp
            simp only [hs, hD1, Option.isSome_some, Option.getD_some] at hp
            have hg := Tr.follow_get hp (by simp only [k1, k2, k3, k4, k5, k6, ha, hb, h0, hfew, hgood, hC, hB])
            show _ = some (Ex.normal, tQ f l b mp true (hTs (doneR mp true ps (elC l (k : Int))).2.2.1 (runS mp mp false true (doneR mp true ps (elC l (k : Int))).2.2.1 us .a ms)) _ _ false)
            rw [hTs0]
            exact hg
theorem t_round {b : SB} {s : TS} (hk : k < l.length) (hl : l.length ≤ 1000) (hr : inR64 (elC l (k : Int)).2.2.2.2.1 = true) (hi : InvT mp b s) :
    (tRd b (tSt f l b mp (k, s))).get = some (.normal, tSt f l b mp (k + 1, stepT mp b s (elC l (k : Int)))) := by
  cases s with
  | i => cases b with
    | n => exact tn_round hk hl hr hi
    | p fp ps0 => exact tp_round hk hl hr hi
    | k fp ps0 fk us0 => exact tk_round hk hl hr hi
  | p ps => cases b with
    | n => exact nomatch (show false = true from hi.isp _ rfl)
    | p fp ps0 => exact nomatch (show false = true from hi.isp _ rfl)
    | k fp ps0 fk us0 => exact tP_round hk hl hr hi
  | q ps us => exact tQ_round hk hl hr hi
theorem t_end {b : SB} {s : TS} (hi : InvT mp b s) : (tRd b (tSt f l b mp (l.length, s))).get = some (.exit 2, tSt f l b mp (l.length, s)) := by
  have k1 : decide ((l.length : Int) < (l.length : Int)) = false := decide_eq_false (Int.lt_irrefl _)
  cases s with
  | i => cases b with
    | n => exact Tr.follow_get (tn_end f l mp true (l.length : Int)) (by rw [k1])
    | p fp ps0 => exact Tr.follow_get (tp_end f l fp ps0 mp true (l.length : Int)) (by rw [k1])
    | k fp ps0 fk us0 => exact Tr.follow_get (tk_end f l fp ps0 fk us0 mp true (l.length : Int)) (by rw [k1])
  | p ps => cases b with
    | n => exact nomatch (show false = true from hi.isp _ rfl)
    | p fp ps0 => exact nomatch (show false = true from hi.isp _ rfl)
    | k fp ps0 fk us0 => exact Tr.follow_get (tP_end f l fp ps0 fk us0 mp true ps (l.length : Int)) (by rw [k1])
  | q ps us => exact Tr.follow_get (tQ_end f l b mp true ps us (l.length : Int)) (by rw [k1])
end
end
end Go.Proofs.Ytgegagndihffpaa

/-
  Chapter 27: PortsKnow, the last loop, told by a function. Own work; nothing here is trusted.
-/
namespace Go.Proofs.Ytgegagndihffpaa
open Go Go.Sx Go.RowKit
set_option maxRecDepth 1000000
set_option maxHeartbeats 8000000
set_option linter.unusedVariables false
set_option linter.unusedSimpArgs false
noncomputable section
theorem t_loop : loopOf Try.prog 6 2 = some (((loopOf Try.prog 6 2).get!).1, (loopOf Try.prog 6 2).get!.2) := by kernel_rfl
def runT (mp : Int) (b : SB) (l : List Ac) : TS := l.foldl (stepT mp b) .i
theorem runT_inv {mp : Int} {b : SB} {l : List Ac} (h : InvT mp b .i) : InvT mp b (runT mp b l) := by
  have : ∀ (l : List Ac) (s : TS), InvT mp b s → InvT mp b (l.foldl (stepT mp b) s) := by
    intro l
    induction l with
    | nil => exact fun s h => h
    | cons a r ih => exact fun s h => ih _ (stepT_inv h)
  exact this l .i h
def isQT : TS → Bool
  | .q _ _ => true
  | _ => false
def isPT : TS → Bool
  | .p _ => true
  | _ => false
def invB (mp : Int) (b : SB) : Bool := @decide (InvT mp b .i) (Classical.propDecidable _)
theorem invB_iff {mp : Int} {b : SB} : invB mp b = true ↔ InvT mp b .i := by unfold invB; exact @decide_eq_true_iff _ (Classical.propDecidable _)
theorem t_run {f : Bool} {l : List Ac} {b : SB} {mp : Int} (hi : InvT mp b .i) (h : smallY mp l = true) :
    LoopRun Try.prog ((loopOf Try.prog 6 2).get!).1 (loopOf Try.prog 6 2).get!.2 (sN b) (LI.st tSl ⟨(tSt f l b mp (0, .i)).1, sN b, (tSt f l b mp (0, .i)).2⟩) fun x T => ∃ vs os, (x = .exit 2 ∧ (vs, os) = tSt f l b mp (l.length, runT mp b l)) ∧ T = ⟨zipT tSl vs, numH 0 os, os.length⟩ := by
  obtain ⟨⟨hm, hl⟩, hr⟩ := small_at h
  refine loop_li (σ := Nat × TS) (st := tSt f l b mp) (Inv := fun x => x.1 ≤ l.length ∧ x.2 = runT mp b (l.take x.1) ∧ InvT mp b x.2) (μ := fun x => l.length - x.1) (d := 10) (unr := unT) (sp := sfT) (ls := lsT) plain mixed sfT_ok lsT_ok t_loop (fun x hx => ?_) (0, .i) ⟨Nat.zero_le _, rfl, hi⟩
  obtain ⟨k, s⟩ := x
  obtain ⟨h1, h2, h3⟩ := hx
  simp only at h1 h2 h3
  by_cases hlt : k < l.length
  · refine ⟨_, t_round hlt hl (hr k hlt) h3, fun _ => ⟨(k + 1, _), ⟨hlt, ?_, stepT_inv h3⟩, by simp only; omega, rfl⟩, nofun⟩
    rw [List.take_add_one, List.getElem?_eq_getElem hlt, ← elC_at hlt]
    unfold runT at h2 ⊢
    rw [List.foldl_append, ← h2]
    rfl
  · have hke : k = l.length := by omega
    subst hke
    rw [List.take_length] at h2
    subst h2
    exact ⟨_, t_end h3, nofun, fun _ => ⟨rfl, rfl⟩⟩
/-! ### no acts at all -/
@[reducible] def tZ (b : SB) (mp : Int) : List SV × List (SO C27) := match b with
  | .n => ([nlS, .raw (.int .i64 0), .h 0, .h 1, .raw (.bool false)], [pB mp true nlS, pB mp false nlS])
  | .p fp ps0 => ([nlS, .raw (.int .i64 0), .h 0, .h 1, .raw (.bool false)], [pB mp true (.h 2), pB mp false nlS, .sl true fp 46 ps0])
  | .k fp ps0 fk us0 => ([nlS, .raw (.int .i64 0), .h 0, .h 1, .raw (.bool false)], [pB mp true (.h 2), pB mp false (.h 3), .sl true fp 46 ps0, .sl true fk 46 us0])
@[reducible] def tZn : SB → Nat
  | .n => 2
  | .p _ _ => 3
  | .k _ _ _ _ => 4
theorem tZ_get (b : SB) (mp : Int) : (roundG C27 Try.prog sfT lsT unT 10 6 2 tSl ⟨(tZ b mp).1, tZn b, (tZ b mp).2⟩).get = some (.exit 2, tZ b mp) := by cases b <;> kernel_rfl
theorem tZ_run (b : SB) (mp : Int) :
    LoopRun Try.prog ((loopOf Try.prog 6 2).get!).1 (loopOf Try.prog 6 2).get!.2 (tZn b) (LI.st tSl ⟨(tZ b mp).1, tZn b, (tZ b mp).2⟩) fun x T => ∃ vs os, (x = .exit 2 ∧ (vs, os) = tZ b mp) ∧ T = ⟨zipT tSl vs, numH 0 os, os.length⟩ :=
  loop_li (σ := Unit) (st := fun _ => tZ b mp) (Inv := fun _ => True) (μ := fun _ => 0) (d := 10) (unr := unT) (sp := sfT) (ls := lsT) plain mixed sfT_ok lsT_ok t_loop (fun _ _ => ⟨_, tZ_get b mp, nofun, fun _ => ⟨rfl, rfl⟩⟩) () trivial
def curQ (b : SB) (s : TS) : List Pt := curP b s
def curV (b : SB) (s : TS) : List Pt := kbL (kbT b s)
def tLeaf (f : Bool) (l : List Ac) (b : SB) (mp : Int) (s : TS) : Tr (Ex × List SV × List (SO C27)) := match b with
  | .k fp ps0 fk us0 => .br (isQT s) (.leaf (.exit 2, tQ f l (.k fp ps0 fk us0) mp true (curQ (.k fp ps0 fk us0) s) (curV (.k fp ps0 fk us0) s) (l.length : Int) false)) (.br (isPT s) (.leaf (.exit 2, tP f l fp ps0 fk us0 mp true (curQ (.k fp ps0 fk us0) s) (l.length : Int) false)) (.leaf (.exit 2, tI f l (.k fp ps0 fk us0) mp true (l.length : Int) false)))
  | .p fp ps0 => .br (isQT s) (.leaf (.exit 2, tQ f l (.p fp ps0) mp true (curQ (.p fp ps0) s) (curV (.p fp ps0) s) (l.length : Int) false)) (.leaf (.exit 2, tI f l (.p fp ps0) mp true (l.length : Int) false))
  | .n => .br (isQT s) (.leaf (.exit 2, tQ f l .n mp true (curQ .n s) (curV .n s) (l.length : Int) false)) (.leaf (.exit 2, tI f l .n mp true (l.length : Int) false))
theorem tLeaf_get (f : Bool) (l : List Ac) (b : SB) (mp : Int) (s : TS) : (tLeaf f l b mp s).get = some (.exit 2, tSt f l b mp (l.length, s)) := by cases b <;> cases s <;> rfl
def tLoop : LoopFn C27 := fun li => match li with
  | ⟨[.h 0, .raw (.int .i64 (.ofNat 0)), .h 1, .h 2, .raw (.bool false)], 3, [.sl false f 40 l, .box [.raw (.int .i64 mp), .raw (.bool r), .raw (.slice none 0 0)] 27, .box [.raw (.int .i64 mk), .raw (.bool false), .raw (.slice none 0 0)] 27]⟩ => .br (mk == mp) (.br r (.br (invB mp .n && smallY mp l) (tLeaf f l .n mp (runT mp .n l)) .fail) .fail) .fail
  | ⟨[.h 0, .raw (.int .i64 (.ofNat 0)), .h 1, .h 2, .raw (.bool false)], 4, [.sl false f 40 l, .box [.raw (.int .i64 mp), .raw (.bool r), .h 3] 27, .box [.raw (.int .i64 mk), .raw (.bool false), .raw (.slice none 0 0)] 27, .sl true fp 46 ps0]⟩ => .br (mk == mp) (.br r (.br (invB mp (.p fp ps0) && smallY mp l) (tLeaf f l (.p fp ps0) mp (runT mp (.p fp ps0) l)) .fail) .fail) .fail
  | ⟨[.h 0, .raw (.int .i64 (.ofNat 0)), .h 1, .h 2, .raw (.bool false)], 5, [.sl false f 40 l, .box [.raw (.int .i64 mp), .raw (.bool r), .h 3] 27, .box [.raw (.int .i64 mk), .raw (.bool false), .h 4] 27, .sl true fp 46 ps0, .sl true fk 46 us0]⟩ => .br (mk == mp) (.br r (.br (invB mp (.k fp ps0 fk us0) && smallY mp l) (tLeaf f l (.k fp ps0 fk us0) mp (runT mp (.k fp ps0 fk us0) l)) .fail) .fail) .fail
  | ⟨[.raw (.slice none 0 0), .raw (.int .i64 (.ofNat 0)), .h 0, .h 1, .raw (.bool false)], 2, [.box [.raw (.int .i64 mp), .raw (.bool r), .raw (.slice none 0 0)] 27, .box [.raw (.int .i64 mk), .raw (.bool false), .raw (.slice none 0 0)] 27]⟩ => .br (mk == mp) (.br r (.leaf (.exit 2, tZ .n mp)) .fail) .fail
  | ⟨[.raw (.slice none 0 0), .raw (.int .i64 (.ofNat 0)), .h 0, .h 1, .raw (.bool false)], 3, [.box [.raw (.int .i64 mp), .raw (.bool r), .h 2] 27, .box [.raw (.int .i64 mk), .raw (.bool false), .raw (.slice none 0 0)] 27, .sl true fp 46 ps0]⟩ => .br (mk == mp) (.br r (.leaf (.exit 2, tZ (.p fp ps0) mp)) .fail) .fail
  | ⟨[.raw (.slice none 0 0), .raw (.int .i64 (.ofNat 0)), .h 0, .h 1, .raw (.bool false)], 4, [.box [.raw (.int .i64 mp), .raw (.bool r), .h 2] 27, .box [.raw (.int .i64 mk), .raw (.bool false), .h 3] 27, .sl true fp 46 ps0, .sl true fk 46 us0]⟩ => .br (mk == mp) (.br r (.leaf (.exit 2, tZ (.k fp ps0 fk us0) mp)) .fail) .fail
  | _ => .fail
theorem tKeep (f : Bool) (l : List Ac) (b : SB) (mp : Int) (x : Nat × TS) : Keeps (sN b) (tSt f l b mp (0, .i)).2 (tSt f l b mp x).2 := by
  obtain ⟨k, s⟩ := x
  cases b <;> cases s <;> exact Keeps.of3 (by show _ ≤ _; simp [sN]) rfl
theorem tLoop_ok : ∀ tm hp n x, (loopS tSl [] tLoop tm hp n).get = some x → InLoop Try.prog ((loopOf Try.prog 6 2).get!).1 (loopOf Try.prog 6 2).get!.2 tm hp n fun e tm hp n => (e, tm, hp, n) = x := loopS_of fun li r h => by
  unfold tLoop at h
  split at h
  · rename_i f l mp r0 mk
    obtain ⟨h1, g1⟩ := Tr.get_ask.1 h
    obtain ⟨h0, g2⟩ := Tr.get_ask.1 g1
    obtain ⟨h2, g3⟩ := Tr.get_ask.1 g2
    clear h g1 g2
    have h1 := eq_of_beq h1
    subst h1
    subst h0
    rw [Bool.and_eq_true] at h2
    have hr := Option.some.inj (g3.symm.trans (tLeaf_get _ _ _ _ _))
    subst hr
    exact ⟨tKeep f l SB.n _ _, t_run (b := SB.n) (invB_iff.1 h2.1) h2.2⟩
  · rename_i f l mp r0 mk fp ps0
    obtain ⟨h1, g1⟩ := Tr.get_ask.1 h
    obtain ⟨h0, g2⟩ := Tr.get_ask.1 g1
    obtain ⟨h2, g3⟩ := Tr.get_ask.1 g2
    clear h g1 g2
    have h1 := eq_of_beq h1
    subst h1
    subst h0
    rw [Bool.and_eq_true] at h2
    have hr := Option.some.inj (g3.symm.trans (tLeaf_get _ _ _ _ _))
    subst hr
    exact ⟨tKeep f l (SB.p fp ps0) _ _, t_run (b := (SB.p fp ps0)) (invB_iff.1 h2.1) h2.2⟩
  · rename_i f l mp r0 mk fp ps0 fk us0
    obtain ⟨h1, g1⟩ := Tr.get_ask.1 h
    obtain ⟨h0, g2⟩ := Tr.get_ask.1 g1
    obtain ⟨h2, g3⟩ := Tr.get_ask.1 g2
    clear h g1 g2
    have h1 := eq_of_beq h1
    subst h1
    subst h0
    rw [Bool.and_eq_true] at h2
    have hr := Option.some.inj (g3.symm.trans (tLeaf_get _ _ _ _ _))
    subst hr
    exact ⟨tKeep f l (SB.k fp ps0 fk us0) _ _, t_run (b := (SB.k fp ps0 fk us0)) (invB_iff.1 h2.1) h2.2⟩
  · rename_i mp r0 mk
    obtain ⟨h1, g1⟩ := Tr.get_ask.1 h
    obtain ⟨h0, g2⟩ := Tr.get_ask.1 g1
    clear h g1
    have h1 := eq_of_beq h1
    subst h1
    subst h0
    have hr := (Option.some.inj g2).symm
    subst hr
    exact ⟨Keeps.of3 (Nat.le_refl _) rfl, tZ_run SB.n _⟩
  · rename_i mp r0 mk fp ps0
    obtain ⟨h1, g1⟩ := Tr.get_ask.1 h
    obtain ⟨h0, g2⟩ := Tr.get_ask.1 g1
    clear h g1
    have h1 := eq_of_beq h1
    subst h1
    subst h0
    have hr := (Option.some.inj g2).symm
    subst hr
    exact ⟨Keeps.of3 (Nat.le_refl _) rfl, tZ_run (SB.p fp ps0) _⟩
  · rename_i mp r0 mk fp ps0 fk us0
    obtain ⟨h1, g1⟩ := Tr.get_ask.1 h
    obtain ⟨h0, g2⟩ := Tr.get_ask.1 g1
    clear h g1
    have h1 := eq_of_beq h1
    subst h1
    subst h0
    have hr := (Option.some.inj g2).symm
    subst hr
    exact ⟨Keeps.of3 (Nat.le_refl _) rfl, tZ_run (SB.k fp ps0 fk us0) _⟩
  · cases h
end
end Go.Proofs.Ytgegagndihffpaa
