/-
  Chapter 18: Check of registers, as a specification. Own work; nothing here is trusted.
-/
import Derived.Test.YtknkemjbikbhgaaCh18Chk
namespace Go.Proofs.Ytknkemjbikbhgaa
open Go Go.Sx Go.RowKit
set_option maxRecDepth 1000000
set_option maxHeartbeats 8000000
set_option linter.unusedVariables false
set_option linter.unusedSimpArgs false
noncomputable section
theorem ck_tree1 (k o g s se at' ge it : Int) (f1 : Bool) (qs : List Qe) (f2 : Bool) (cf : List Int) : (fK 50 [rgA k o g s se at' (.h 0) (.h 1) ge it] [.sl false f1 77 qs, .sl false f2 5 cf]).get =
  bro (rng64 o && rng64 g) (bro (ckI k o g s != (0 : Int)) (some (SV.raw (Value.int IntKind.i64 (2 : Int)), [])) (bro (decide (se < (0 : Int))) (some (SV.raw (Value.int IntKind.i64 (2 : Int)), [])) (bro (decide ((1 : Int) < se)) (some (SV.raw (Value.int IntKind.i64 (2 : Int)), [])) (bro (decide (at' < (0 : Int))) (some (SV.raw (Value.int IntKind.i64 (2 : Int)), [])) (bro (decide ((255 : Int) < at')) (some (SV.raw (Value.int IntKind.i64 (2 : Int)), [])) (bro (decide ((↑qs.length : Int) < (1 : Int))) (some (SV.raw (Value.int IntKind.i64 (2 : Int)), [])) (bro (decide ((16 : Int) < (↑qs.length : Int))) (some (SV.raw (Value.int IntKind.i64 (2 : Int)), [])) (bro (decide ((256 : Int) < (↑cf.length : Int))) (some (SV.raw (Value.int IntKind.i64 (2 : Int)), [])) (bro (decide ((3 : Int) < it)) (some (SV.raw (Value.int IntKind.i64 (2 : Int)), [])) (bro ((↑qs.length : Int) == (↑qs.length : Int)) (bro (decide (qs.length ≤ (1000 : Nat))) (bro (rokB k o g s) (bro (noneP (badL g s qs) qs.length) (some (SV.raw (Value.int IntKind.i64 (0 : Int)), [])) (some (SV.raw (Value.int IntKind.i64 (2 : Int)), []))) (none)) (none)) (none))))))))))) (none) := by kernel_rfl
theorem ck_tree0 (k o g s se at' ge it : Int) (f1 : Bool) (qs : List Qe) : (fK 50 [rgA k o g s se at' (.h 0) nlS ge it] [.sl false f1 77 qs]).get =
  bro (rng64 o && rng64 g) (bro (ckI k o g s != (0 : Int)) (some (SV.raw (Value.int IntKind.i64 (2 : Int)), [])) (bro (decide (se < (0 : Int))) (some (SV.raw (Value.int IntKind.i64 (2 : Int)), [])) (bro (decide ((1 : Int) < se)) (some (SV.raw (Value.int IntKind.i64 (2 : Int)), [])) (bro (decide (at' < (0 : Int))) (some (SV.raw (Value.int IntKind.i64 (2 : Int)), [])) (bro (decide ((255 : Int) < at')) (some (SV.raw (Value.int IntKind.i64 (2 : Int)), [])) (bro (decide ((↑qs.length : Int) < (1 : Int))) (some (SV.raw (Value.int IntKind.i64 (2 : Int)), [])) (bro (decide ((16 : Int) < (↑qs.length : Int))) (some (SV.raw (Value.int IntKind.i64 (2 : Int)), [])) (bro (decide ((3 : Int) < it)) (some (SV.raw (Value.int IntKind.i64 (2 : Int)), [])) (bro ((↑qs.length : Int) == (↑qs.length : Int)) (bro (decide (qs.length ≤ (1000 : Nat))) (bro (rokB k o g s) (bro (noneP (badL g s qs) qs.length) (some (SV.raw (Value.int IntKind.i64 (0 : Int)), [])) (some (SV.raw (Value.int IntKind.i64 (2 : Int)), []))) (none)) (none)) (none)))))))))) (none) := by kernel_rfl
theorem ck_tree01 (k o g s se at' ge it : Int) (f2 : Bool) (cf : List Int) : (fK 50 [rgA k o g s se at' nlS (.h 0) ge it] [.sl false f2 5 cf]).get =
  bro (rng64 o && rng64 g) (bro (ckI k o g s != (0 : Int)) (some (SV.raw (Value.int IntKind.i64 (2 : Int)), [])) (bro (decide (se < (0 : Int))) (some (SV.raw (Value.int IntKind.i64 (2 : Int)), [])) (bro (decide ((1 : Int) < se)) (some (SV.raw (Value.int IntKind.i64 (2 : Int)), [])) (bro (decide (at' < (0 : Int))) (some (SV.raw (Value.int IntKind.i64 (2 : Int)), [])) (bro (decide ((255 : Int) < at')) (some (SV.raw (Value.int IntKind.i64 (2 : Int)), [])) (some (SV.raw (Value.int IntKind.i64 (2 : Int)), []))))))) (none) := by kernel_rfl
theorem ck_tree00 (k o g s se at' ge it : Int) : (fK 50 [rgA k o g s se at' nlS nlS ge it] []).get =
  bro (rng64 o && rng64 g) (bro (ckI k o g s != (0 : Int)) (some (SV.raw (Value.int IntKind.i64 (2 : Int)), [])) (bro (decide (se < (0 : Int))) (some (SV.raw (Value.int IntKind.i64 (2 : Int)), [])) (bro (decide ((1 : Int) < se)) (some (SV.raw (Value.int IntKind.i64 (2 : Int)), [])) (bro (decide (at' < (0 : Int))) (some (SV.raw (Value.int IntKind.i64 (2 : Int)), [])) (bro (decide ((255 : Int) < at')) (some (SV.raw (Value.int IntKind.i64 (2 : Int)), [])) (some (SV.raw (Value.int IntKind.i64 (2 : Int)), []))))))) (none) := by kernel_rfl
/-- Registers that may be: what Check asks, besides the words' range. -/
def okG (k o g s se at' it : Int) (qs : List Qe) (n : Nat) : Bool := ckB k o g s && (!decide (se < 0) && (!decide (1 < se) && (!decide (at' < 0) && (!decide (255 < at') && (!decide ((qs.length : Int) < 1) && (!decide (16 < (qs.length : Int)) && (!decide (256 < (n : Int)) && (!decide (3 < it) && noneP (badL g s qs) qs.length))))))))
def vR (k o g s se at' it : Int) (qs : List Qe) (n : Nat) : Bool := (rng64 o && rng64 g) && okG k o g s se at' it qs n
def cbL (cb : CB) : List Int := match cb with
  | some x => x.2
  | none => []
def chkT : FnF C18 := fun args os => match args, os with
  | [.agg [.raw (.int .i64 k), .raw (.int .u64 o), .raw (.int .u64 g), .raw (.int .u8 s), .raw (.int .i64 se), .raw (.int .i64 at'), .h 0, .h 1, .raw (.int .u8 ge), .raw (.int .u8 it)]], [.sl false f1 77 qs, .sl false f2 5 cf] =>
    .br (rng64 o && rng64 g) (.br (decide (qs.length ≤ 1000)) (.br (okG k o g s se at' it qs cf.length) (.leaf (.raw (.int .i64 0), [])) (.leaf (.raw (.int .i64 2), []))) .fail) .fail
  | [.agg [.raw (.int .i64 k), .raw (.int .u64 o), .raw (.int .u64 g), .raw (.int .u8 s), .raw (.int .i64 se), .raw (.int .i64 at'), .h 0, .raw (.slice none 0 0), .raw (.int .u8 ge), .raw (.int .u8 it)]], [.sl false f1 77 qs] =>
    .br (rng64 o && rng64 g) (.br (decide (qs.length ≤ 1000)) (.br (okG k o g s se at' it qs 0) (.leaf (.raw (.int .i64 0), [])) (.leaf (.raw (.int .i64 2), []))) .fail) .fail
  | [.agg [.raw (.int .i64 k), .raw (.int .u64 o), .raw (.int .u64 g), .raw (.int .u8 s), .raw (.int .i64 se), .raw (.int .i64 at'), .raw (.slice none 0 0), .h 0, .raw (.int .u8 ge), .raw (.int .u8 it)]], [.sl false f2 5 cf] =>
    .br (rng64 o && rng64 g) (.leaf (.raw (.int .i64 2), [])) .fail
  | [.agg [.raw (.int .i64 k), .raw (.int .u64 o), .raw (.int .u64 g), .raw (.int .u8 s), .raw (.int .i64 se), .raw (.int .i64 at'), .raw (.slice none 0 0), .raw (.slice none 0 0), .raw (.int .u8 ge), .raw (.int .u8 it)]], [] =>
    .br (rng64 o && rng64 g) (.leaf (.raw (.int .i64 2), [])) .fail
  | _, _ => .fail
theorem ck_ne (k o g s : Int) : (ckI k o g s != 0) = !ckB k o g s := by unfold ckI; cases ckB k o g s <;> rfl
theorem rok_mk {k o g s : Int} (h : (rng64 o && rng64 g) = true) (hc : ckB k o g s = true) : rokB k o g s = true := by
  rw [Bool.and_eq_true] at h
  exact rokB_iff.2 ⟨h.1, h.2, hc⟩
theorem chkT_ok : ∀ args os r, (chkT args os).get = some r → Fn0 Try.prog 50 args os r := fun args os r h => by
  unfold chkT at h
  split at h
  · rename_i k o g s se at' ge it f1 qs f2 cf
    obtain ⟨h1, g1⟩ := Tr.get_ask.1 h
    obtain ⟨h2, g2⟩ := Tr.get_ask.1 g1
    change List Qe at qs
    change List Int at cf
    have h2 : decide ((qs : List Qe).length ≤ 1000) = true := h2
    refine fnC_ok (sp := sf23) (ls := lsK) (unr := unK) (d := 10) plain mixed sf23_ok lsK_ok ?_
    refine (ck_tree1 k o g s se at' ge it f1 qs f2 cf).trans (Eq.trans ?_ g2)
    rw [h1, h2, ck_ne, beq_self_eq_true]
    unfold okG
    cases hc : ckB k o g s with
    | false => rfl
    | true =>
      rw [rok_mk h1 hc]
      show _ = (Tr.br (true && (!decide (se < 0) && (!decide (1 < se) && (!decide (at' < 0) && (!decide (255 < at') && (!decide (((qs : List Qe).length : Int) < 1) && (!decide (16 < ((qs : List Qe).length : Int)) && (!decide (256 < ((cf : List Int).length : Int)) && (!decide (3 < it) && noneP (badL g s qs) (qs : List Qe).length))))))))) _ _).get
      cases decide (se < 0) <;> cases decide (1 < se) <;> cases decide (at' < 0) <;> cases decide (255 < at') <;> cases decide (((qs : List Qe).length : Int) < 1) <;> cases decide (16 < ((qs : List Qe).length : Int)) <;> cases decide (256 < ((cf : List Int).length : Int)) <;> cases decide (3 < it) <;> cases noneP (badL g s qs) (qs : List Qe).length <;> rfl
  · rename_i k o g s se at' ge it f1 qs
    obtain ⟨h1, g1⟩ := Tr.get_ask.1 h
    obtain ⟨h2, g2⟩ := Tr.get_ask.1 g1
    change List Qe at qs
    have h2 : decide ((qs : List Qe).length ≤ 1000) = true := h2
    refine fnC_ok (sp := sf23) (ls := lsK) (unr := unK) (d := 10) plain mixed sf23_ok lsK_ok ?_
    refine (ck_tree0 k o g s se at' ge it f1 qs).trans (Eq.trans ?_ g2)
    rw [h1, h2, ck_ne, beq_self_eq_true]
    unfold okG
    cases hc : ckB k o g s with
    | false => rfl
    | true =>
      rw [rok_mk h1 hc]
      show _ = (Tr.br (true && (!decide (se < 0) && (!decide (1 < se) && (!decide (at' < 0) && (!decide (255 < at') && (!decide (((qs : List Qe).length : Int) < 1) && (!decide (16 < ((qs : List Qe).length : Int)) && (!decide (256 < ((0 : Nat) : Int)) && (!decide (3 < it) && noneP (badL g s qs) (qs : List Qe).length))))))))) _ _).get
      rw [show decide ((256 : Int) < ((0 : Nat) : Int)) = false from rfl]
      cases decide (se < 0) <;> cases decide (1 < se) <;> cases decide (at' < 0) <;> cases decide (255 < at') <;> cases decide (((qs : List Qe).length : Int) < 1) <;> cases decide (16 < ((qs : List Qe).length : Int)) <;> cases decide (3 < it) <;> cases noneP (badL g s qs) (qs : List Qe).length <;> rfl
  · rename_i k o g s se at' ge it f2 cf
    obtain ⟨h1, g1⟩ := Tr.get_ask.1 h
    refine fnC_ok (sp := sf23) (ls := lsK) (unr := unK) (d := 10) plain mixed sf23_ok lsK_ok ?_
    refine (ck_tree01 k o g s se at' ge it f2 cf).trans (Eq.trans ?_ g1)
    rw [h1, ck_ne]
    cases ckB k o g s <;> cases decide (se < 0) <;> cases decide (1 < se) <;> cases decide (at' < 0) <;> cases decide (255 < at') <;> rfl
  · rename_i k o g s se at' ge it
    obtain ⟨h1, g1⟩ := Tr.get_ask.1 h
    refine fnC_ok (sp := sf23) (ls := lsK) (unr := unK) (d := 10) plain mixed sf23_ok lsK_ok ?_
    refine (ck_tree00 k o g s se at' ge it).trans (Eq.trans ?_ g1)
    rw [h1, ck_ne]
    cases ckB k o g s <;> cases decide (se < 0) <;> cases decide (1 < se) <;> cases decide (at' < 0) <;> cases decide (255 < at') <;> rfl
  · cases h
/-- Check of registers that may be. -/
def chkV : FnF C18 := fun args os => match args, os with
  | [.agg [.raw (.int .i64 k), .raw (.int .u64 o), .raw (.int .u64 g), .raw (.int .u8 s), .raw (.int .i64 se), .raw (.int .i64 at'), .h 0, .h 1, .raw (.int .u8 ge), .raw (.int .u8 it)]], [.sl false f1 77 qs, .sl false f2 5 cf] =>
    .br (vR k o g s se at' it qs cf.length) (.leaf (.raw (.int .i64 0), [])) .fail
  | _, _ => .fail
theorem vR_iff {k o g s se at' it : Int} {qs : List Qe} {n : Nat} : vR k o g s se at' it qs n = true ↔ rokB k o g s = true ∧ (0 ≤ se ∧ se ≤ 1) ∧ (0 ≤ at' ∧ at' ≤ 255) ∧ (1 ≤ qs.length ∧ qs.length ≤ 16) ∧ n ≤ 256 ∧ it ≤ 3 ∧ ∀ q ∈ qs, badQ g s q = false := by
  unfold vR okG
  simp only [Bool.and_eq_true, Bool.not_eq_true', decide_eq_false_iff_not, noneP_iff]
  have hq : (∀ i, i < qs.length → badL g s qs i = false) ↔ ∀ q ∈ qs, badQ g s q = false := by
    have e : ∀ i, (hi : i < qs.length) → elQ qs (i : Int) = qs[i] := fun i hi => by
      show qs.getD i _ = _
      rw [List.getD_eq_getElem?_getD, List.getElem?_eq_getElem hi]; rfl
    constructor
    · intro h q hq
      obtain ⟨i, hi, rfl⟩ := List.getElem_of_mem hq
      rw [← e i hi]; exact h i hi
    · intro h i hi
      show badQ g s (elQ qs (i : Int)) = false
      rw [e i hi]; exact h _ (List.getElem_mem hi)
  rw [hq, rokB_iff]
  constructor
  · rintro ⟨⟨h1, h2⟩, h3, h4, h5, h6, h7, h8, h9, h10, h11, h12⟩
    exact ⟨⟨h1, h2, h3⟩, ⟨by omega, by omega⟩, ⟨by omega, by omega⟩, ⟨by omega, by omega⟩, by omega, by omega, h12⟩
  · rintro ⟨⟨h1, h2, h3⟩, ⟨h4, h5⟩, ⟨h6, h7⟩, ⟨h8, h9⟩, h10, h11, h12⟩
    exact ⟨⟨h1, h2⟩, h3, by omega, by omega, by omega, by omega, by omega, by omega, by omega, by omega, h12⟩
theorem chkV_ok : ∀ args os r, (chkV args os).get = some r → Fn0 Try.prog 50 args os r := fun args os r h => by
  unfold chkV at h
  split at h
  · rename_i k o g s se at' ge it f1 qs f2 cf
    obtain ⟨h1, g1⟩ := Tr.get_ask.1 h
    change List Qe at qs
    change List Int at cf
    have hv : vR k o g s se at' it (qs : List Qe) (cf : List Int).length = true := h1
    have hl : (qs : List Qe).length ≤ 1000 := by have := (vR_iff.1 hv).2.2.2.1; omega
    unfold vR at hv
    rw [Bool.and_eq_true] at hv
    refine chkT_ok _ _ _ ?_
    show (Tr.br (rng64 o && rng64 g) (Tr.br (decide ((qs : List Qe).length ≤ 1000)) (Tr.br (okG k o g s se at' it (qs : List Qe) (cf : List Int).length) _ _) _) _).get = _
    rw [hv.1, hv.2, decide_eq_true hl]
    exact g1
  · cases h
end
end Go.Proofs.Ytknkemjbikbhgaa
