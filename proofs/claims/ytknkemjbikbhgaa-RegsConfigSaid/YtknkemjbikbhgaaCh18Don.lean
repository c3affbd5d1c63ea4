/-
  Chapter 18: one act, that takes its registers over, as a specification. Own work; nothing here is trusted.
-/
import Derived.Test.YtknkemjbikbhgaaCh18Don0
namespace Go.Proofs.Ytknkemjbikbhgaa
open Go Go.Sx Go.RowKit
set_option maxRecDepth 1000000
set_option maxHeartbeats 8000000
set_option linter.unusedVariables false
set_option linter.unusedSimpArgs false
noncomputable section
theorem dn_h (r : Rg) (a n w m : Int) (f3 : Bool) (bs : List Int) : (fDh r a n w m f3 bs).get =
  bro (a == (1 : Int)) (bro (decide (bs.length ≤ (1000 : Nat))) (bro (rV r) (bro (inR64 m) (bro (chB r m bs) (some (SV.agg [SV.raw (Value.int IntKind.i64 (opq (chF r m bs)).k), SV.raw (Value.int IntKind.u64 (opq (chF r m bs)).o), SV.raw (Value.int IntKind.u64 (opq (chF r m bs)).g), SV.raw (Value.int IntKind.u8 (opq (chF r m bs)).s), SV.raw (Value.int IntKind.i64 (opq (chF r m bs)).se), SV.raw (Value.int IntKind.i64 (opq (chF r m bs)).at'), SV.h (0 : Nat), SV.h (1 : Nat), SV.raw (Value.int IntKind.u8 (opq (chF r m bs)).ge), SV.raw (Value.int IntKind.u8 (opq (chF r m bs)).it)], [SO.sl true false (77 : Nat) (opq (chF r m bs)).qs, SO.sl true false (5 : Nat) (opq (chF r m bs)).cf])) (some (SV.agg [SV.raw (Value.int IntKind.i64 r.k), SV.raw (Value.int IntKind.u64 r.o), SV.raw (Value.int IntKind.u64 r.g), SV.raw (Value.int IntKind.u8 r.s), SV.raw (Value.int IntKind.i64 r.se), SV.raw (Value.int IntKind.i64 r.at'), SV.h (0 : Nat), SV.h (1 : Nat), SV.raw (Value.int IntKind.u8 r.ge), SV.raw (Value.int IntKind.u8 r.it)], [SO.sl true false (77 : Nat) r.qs, SO.sl true false (5 : Nat) r.cf]))) (none)) (none)) (none)) (bro (a == (2 : Int)) (bro (rV r) (some (SV.agg [SV.raw (Value.int IntKind.i64 (opq (sgF r)).k), SV.raw (Value.int IntKind.u64 (opq (sgF r)).o), SV.raw (Value.int IntKind.u64 (opq (sgF r)).g), SV.raw (Value.int IntKind.u8 (opq (sgF r)).s), SV.raw (Value.int IntKind.i64 (opq (sgF r)).se), SV.raw (Value.int IntKind.i64 (opq (sgF r)).at'), SV.h (0 : Nat), SV.h (1 : Nat), SV.raw (Value.int IntKind.u8 (opq (sgF r)).ge), SV.raw (Value.int IntKind.u8 (opq (sgF r)).it)], [SO.sl true false (77 : Nat) (opq (sgF r)).qs, SO.sl true false (5 : Nat) (opq (sgF r)).cf])) (none)) (bro (a == (3 : Int)) (bro (rV r) (some (SV.agg [SV.raw (Value.int IntKind.i64 (opq (bkF r)).k), SV.raw (Value.int IntKind.u64 (opq (bkF r)).o), SV.raw (Value.int IntKind.u64 (opq (bkF r)).g), SV.raw (Value.int IntKind.u8 (opq (bkF r)).s), SV.raw (Value.int IntKind.i64 (opq (bkF r)).se), SV.raw (Value.int IntKind.i64 (opq (bkF r)).at'), SV.h (0 : Nat), SV.h (1 : Nat), SV.raw (Value.int IntKind.u8 (opq (bkF r)).ge), SV.raw (Value.int IntKind.u8 (opq (bkF r)).it)], [SO.sl true false (77 : Nat) (opq (bkF r)).qs, SO.sl true false (5 : Nat) (opq (bkF r)).cf])) (none)) (bro (rV r) (bro (rng64 w) (some (SV.agg [SV.raw (Value.int IntKind.i64 (wO n w r).k), SV.raw (Value.int IntKind.u64 (wO n w r).o), SV.raw (Value.int IntKind.u64 (wO n w r).g), SV.raw (Value.int IntKind.u8 (wO n w r).s), SV.raw (Value.int IntKind.i64 (wO n w r).se), SV.raw (Value.int IntKind.i64 (wO n w r).at'), SV.h (0 : Nat), SV.h (1 : Nat), SV.raw (Value.int IntKind.u8 (wO n w r).ge), SV.raw (Value.int IntKind.u8 (wO n w r).it)], [SO.sl true false (77 : Nat) (wO n w r).qs, SO.sl true false (5 : Nat) (wO n w r).cf])) (none)) (none)))) := by kernel_rfl
theorem dn_r (r : Rg) (a n w m : Int) (ad : Option Addr) : (fDr r a n w m ad).get =
  bro (a == (1 : Int)) (bro (rV r) (bro (inR64 m) (bro (chB r m []) (some (SV.agg [SV.raw (Value.int IntKind.i64 (opq (chF r m [])).k), SV.raw (Value.int IntKind.u64 (opq (chF r m [])).o), SV.raw (Value.int IntKind.u64 (opq (chF r m [])).g), SV.raw (Value.int IntKind.u8 (opq (chF r m [])).s), SV.raw (Value.int IntKind.i64 (opq (chF r m [])).se), SV.raw (Value.int IntKind.i64 (opq (chF r m [])).at'), SV.h (0 : Nat), SV.h (1 : Nat), SV.raw (Value.int IntKind.u8 (opq (chF r m [])).ge), SV.raw (Value.int IntKind.u8 (opq (chF r m [])).it)], [SO.sl true false (77 : Nat) (opq (chF r m [])).qs, SO.sl true false (5 : Nat) (opq (chF r m [])).cf])) (some (SV.agg [SV.raw (Value.int IntKind.i64 r.k), SV.raw (Value.int IntKind.u64 r.o), SV.raw (Value.int IntKind.u64 r.g), SV.raw (Value.int IntKind.u8 r.s), SV.raw (Value.int IntKind.i64 r.se), SV.raw (Value.int IntKind.i64 r.at'), SV.h (0 : Nat), SV.h (1 : Nat), SV.raw (Value.int IntKind.u8 r.ge), SV.raw (Value.int IntKind.u8 r.it)], [SO.sl true false (77 : Nat) r.qs, SO.sl true false (5 : Nat) r.cf]))) (none)) (none)) (bro (a == (2 : Int)) (bro (rV r) (some (SV.agg [SV.raw (Value.int IntKind.i64 (opq (sgF r)).k), SV.raw (Value.int IntKind.u64 (opq (sgF r)).o), SV.raw (Value.int IntKind.u64 (opq (sgF r)).g), SV.raw (Value.int IntKind.u8 (opq (sgF r)).s), SV.raw (Value.int IntKind.i64 (opq (sgF r)).se), SV.raw (Value.int IntKind.i64 (opq (sgF r)).at'), SV.h (0 : Nat), SV.h (1 : Nat), SV.raw (Value.int IntKind.u8 (opq (sgF r)).ge), SV.raw (Value.int IntKind.u8 (opq (sgF r)).it)], [SO.sl true false (77 : Nat) (opq (sgF r)).qs, SO.sl true false (5 : Nat) (opq (sgF r)).cf])) (none)) (bro (a == (3 : Int)) (bro (rV r) (some (SV.agg [SV.raw (Value.int IntKind.i64 (opq (bkF r)).k), SV.raw (Value.int IntKind.u64 (opq (bkF r)).o), SV.raw (Value.int IntKind.u64 (opq (bkF r)).g), SV.raw (Value.int IntKind.u8 (opq (bkF r)).s), SV.raw (Value.int IntKind.i64 (opq (bkF r)).se), SV.raw (Value.int IntKind.i64 (opq (bkF r)).at'), SV.h (0 : Nat), SV.h (1 : Nat), SV.raw (Value.int IntKind.u8 (opq (bkF r)).ge), SV.raw (Value.int IntKind.u8 (opq (bkF r)).it)], [SO.sl true false (77 : Nat) (opq (bkF r)).qs, SO.sl true false (5 : Nat) (opq (bkF r)).cf])) (none)) (bro (rV r) (bro (rng64 w) (some (SV.agg [SV.raw (Value.int IntKind.i64 (wO n w r).k), SV.raw (Value.int IntKind.u64 (wO n w r).o), SV.raw (Value.int IntKind.u64 (wO n w r).g), SV.raw (Value.int IntKind.u8 (wO n w r).s), SV.raw (Value.int IntKind.i64 (wO n w r).se), SV.raw (Value.int IntKind.i64 (wO n w r).at'), SV.h (0 : Nat), SV.h (1 : Nat), SV.raw (Value.int IntKind.u8 (wO n w r).ge), SV.raw (Value.int IntKind.u8 (wO n w r).it)], [SO.sl true false (77 : Nat) (wO n w r).qs, SO.sl true false (5 : Nat) (wO n w r).cf])) (none)) (none)))) := by kernel_rfl
/-- Registers behind an act. -/
def dnF (a n w m : Int) (bs : List Int) (r : Rg) : Rg := if a = 1 then (if chB r m bs = true then chF r m bs else r) else if a = 2 then sgF r else if a = 3 then bkF r else wF n w r
def dnO (a n w m : Int) (bs : List Int) (r : Rg) : Rg := opq (dnF a n w m bs r)
abbrev dOut (r : Rg) : SV × List (SO C18) := (rA r (.h 0) (.h 1), [SO.sl true false 77 r.qs, SO.sl true false 5 r.cf])
theorem dn_all {r : Rg} {a n w m : Int} {f3 : Bool} {bs : List Int} (hv : rV r = true) (hw : rng64 w = true) (hm : inR64 m = true) (hb : decide (bs.length ≤ 1000) = true) : (fDh r a n w m f3 bs).get = some (dOut (dnO a n w m bs r)) := by
  rw [dn_h, hb, hw, hm, hv]
  unfold dnO dnF wO
  simp only [opq_eq]
  by_cases h1 : a = 1
  · rw [if_pos h1, beq_iff_eq.2 h1]
    cases chB r m bs with
    | true => rw [if_pos rfl]; rfl
    | false => rw [if_neg (by decide)]; rfl
  rw [if_neg h1, beq_eq_false_iff_ne.2 h1]
  by_cases h2 : a = 2
  · rw [if_pos h2, beq_iff_eq.2 h2]; rfl
  rw [if_neg h2, beq_eq_false_iff_ne.2 h2]
  by_cases h3 : a = 3
  · rw [if_pos h3, beq_iff_eq.2 h3]; rfl
  rw [if_neg h3, beq_eq_false_iff_ne.2 h3]; rfl
theorem dn_all0 {r : Rg} {a n w m : Int} {ad : Option Addr} (hv : rV r = true) (hw : rng64 w = true) (hm : inR64 m = true) : (fDr r a n w m ad).get = some (dOut (dnO a n w m [] r)) := by
  rw [dn_r, hw, hm, hv]
  unfold dnO dnF wO
  simp only [opq_eq]
  by_cases h1 : a = 1
  · rw [if_pos h1, beq_iff_eq.2 h1]
    cases chB r m [] with
    | true => rw [if_pos rfl]; rfl
    | false => rw [if_neg (by decide)]; rfl
  rw [if_neg h1, beq_eq_false_iff_ne.2 h1]
  by_cases h2 : a = 2
  · rw [if_pos h2, beq_iff_eq.2 h2]; rfl
  rw [if_neg h2, beq_eq_false_iff_ne.2 h2]
  by_cases h3 : a = 3
  · rw [if_pos h3, beq_iff_eq.2 h3]; rfl
  rw [if_neg h3, beq_eq_false_iff_ne.2 h3]; rfl
def donT : FnF C18 := fun args os => match args, os with
  | [.agg [.raw (.int .i64 k), .raw (.int .u64 o), .raw (.int .u64 g), .raw (.int .u8 s), .raw (.int .i64 se), .raw (.int .i64 at'), .h 0, .h 1, .raw (.int .u8 ge), .raw (.int .u8 it)], .agg [.raw (.int .i64 a), .raw (.int .i64 n), .raw (.int .u64 w), .raw (.int .i64 m), .h 2]], [.sl true false 77 qs, .sl true false 5 cf, .sl false f3 5 bs] =>
    .br (rV ⟨k, o, g, s, se, at', ge, it, qs, cf⟩) (.br (rng64 w && inR64 m) (.br (decide (bs.length ≤ 1000)) (.leaf (dOut (dnO a n w m bs ⟨k, o, g, s, se, at', ge, it, qs, cf⟩))) .fail) .fail) .fail
  | [.agg [.raw (.int .i64 k), .raw (.int .u64 o), .raw (.int .u64 g), .raw (.int .u8 s), .raw (.int .i64 se), .raw (.int .i64 at'), .h 0, .h 1, .raw (.int .u8 ge), .raw (.int .u8 it)], .agg [.raw (.int .i64 a), .raw (.int .i64 n), .raw (.int .u64 w), .raw (.int .i64 m), .raw (.slice ad 0 0)]], [.sl true false 77 qs, .sl true false 5 cf] =>
    .br (rV ⟨k, o, g, s, se, at', ge, it, qs, cf⟩) (.br (rng64 w && inR64 m) (.leaf (dOut (dnO a n w m [] ⟨k, o, g, s, se, at', ge, it, qs, cf⟩))) .fail) .fail
  | _, _ => .fail
theorem donT_ok : ∀ args os r, (donT args os).get = some r → FnOwn Try.prog 49 args os r := fun args os r h => by
  unfold donT at h
  split at h
  · rename_i k o g s se at' ge it a n w m qs cf f3 bs
    obtain ⟨h1, g1⟩ := Tr.get_ask.1 h
    obtain ⟨h2, g2⟩ := Tr.get_ask.1 g1
    obtain ⟨h3, g3⟩ := Tr.get_ask.1 g2
    obtain ⟨h4, h5⟩ := (Bool.and_eq_true _ _).mp h2
    exact fnO_ok (sp := sfD8) (ls := noLs) (unr := fun _ _ => 20) (d := 10) plain mixed sfD8_ok noLs_ok ((dn_all (r := ⟨k, o, g, s, se, at', ge, it, qs, cf⟩) (f3 := f3) h1 h4 h5 h3).trans g3)
  · rename_i k o g s se at' ge it a n w m ad qs cf
    obtain ⟨h1, g1⟩ := Tr.get_ask.1 h
    obtain ⟨h2, g2⟩ := Tr.get_ask.1 g1
    obtain ⟨h4, h5⟩ := (Bool.and_eq_true _ _).mp h2
    exact fnO_ok (sp := sfD8) (ls := noLs) (unr := fun _ _ => 20) (d := 10) plain mixed sfD8_ok noLs_ok ((dn_all0 (r := ⟨k, o, g, s, se, at', ge, it, qs, cf⟩) (ad := ad) h1 h4 h5).trans g2)
  · cases h
/-! ### its law -/
/-- The bytes of an act. -/
def bsW (x : Wt) : List Int := match isNo x.2.1 with
  | true => []
  | false => x.2.2
def dnW (x : Wt) (r : Rg) : Rg := dnO x.1.1 x.1.2.1 x.1.2.2.1 x.1.2.2.2 (bsW x) r
structure AcQ (l : List Wt) : Prop where
  few : l.length ≤ 1000
  wd : ∀ a ∈ l, (0 ≤ a.1.2.2.1 ∧ a.1.2.2.1 < 18446744073709551616) ∧ inR64 a.1.2.2.2 = true
  bs : ∀ a ∈ l, (bsW a).length ≤ 1000
theorem dnF_I {r : Rg} {a n w m : Int} {bs : List Int} (h : RI r) (hw : 0 ≤ w ∧ w < 18446744073709551616) : RI (dnF a n w m bs r) := by
  unfold dnF
  by_cases h1 : a = 1
  · rw [if_pos h1]
    by_cases hc : chB r m bs = true
    · rw [if_pos hc]; exact (chF_I h hc).1
    · rw [if_neg hc]; exact h
  rw [if_neg h1]
  by_cases h2 : a = 2
  · rw [if_pos h2]; exact sgF_I h
  rw [if_neg h2]
  by_cases h3 : a = 3
  · rw [if_pos h3]; exact bkF_I h
  rw [if_neg h3]; exact wF_I h hw
/-- What never changes. -/
structure Fam (r n : Rg) : Prop where
  k : n.k = r.k
  o : n.o = r.o
  len : n.qs.length = r.qs.length
  cf : n.cf.length = r.cf.length
theorem Fam.rfl' {r : Rg} : Fam r r := ⟨rfl, rfl, rfl, rfl⟩
theorem Fam.trans {a b c : Rg} (h : Fam a b) (g : Fam b c) : Fam a c := ⟨g.k.trans h.k, g.o.trans h.o, g.len.trans h.len, g.cf.trans h.cf⟩
theorem dnF_0 {r : Rg} {a n w m : Int} {bs : List Int} (h : RI r) : Fam r (dnF a n w m bs r) := by
  unfold dnF
  by_cases h1 : a = 1
  · rw [if_pos h1]
    by_cases hc : chB r m bs = true
    · rw [if_pos hc]; exact ⟨rfl, rfl, rfl, (chF_I h hc).2⟩
    · rw [if_neg hc]; exact .rfl'
  rw [if_neg h1]
  by_cases h2 : a = 2
  · rw [if_pos h2]; exact ⟨rfl, rfl, rfl, rfl⟩
  rw [if_neg h2]
  by_cases h3 : a = 3
  · rw [if_pos h3]; unfold bkF; split <;> exact ⟨rfl, rfl, rfl, rfl⟩
  rw [if_neg h3]
  exact ⟨wF_0.k, wF_0.o, wF_0.len, by rw [wF_0.cf]⟩
/-- What an act leaves of each queue. -/
theorem dnF_q {r : Rg} {a n w m : Int} {bs : List Int} (h : RI r) (j : Nat) : QR (¬ (a = 1 ∨ a = 2 ∨ a = 3) ∧ n = 14 ∧ lowB w = 0) (n = 8) (elQ r.qs (j : Int)) (elQ (dnF a n w m bs r).qs (j : Int)) := by
  unfold dnF
  by_cases h1 : a = 1
  · rw [if_pos h1]
    by_cases hc : chB r m bs = true
    · rw [if_pos hc]; exact QR.refl _
    · rw [if_neg hc]; exact QR.refl _
  rw [if_neg h1]
  by_cases h2 : a = 2
  · rw [if_pos h2]; exact QR.refl _
  rw [if_neg h2]
  by_cases h3 : a = 3
  · rw [if_pos h3]; unfold bkF; split <;> exact QR.refl _
  rw [if_neg h3]
  have hq := wF_q (n := n) (w := w) h j
  exact ⟨hq.1, fun hr hn => hq.2 hr (fun hh => hn ⟨fun hx => by rcases hx with hx | hx | hx; exact h1 hx; exact h2 hx; exact h3 hx, hh⟩)⟩
theorem dnW_I {r : Rg} {x : Wt} (h : RI r) (hw : 0 ≤ x.1.2.2.1 ∧ x.1.2.2.1 < 18446744073709551616) : RI (dnW x r) := by unfold dnW dnO; rw [opq_eq]; exact dnF_I h hw
theorem dnW_0 {r : Rg} {x : Wt} (h : RI r) : Fam r (dnW x r) := by unfold dnW dnO; rw [opq_eq]; exact dnF_0 h
theorem dnW_q {r : Rg} {x : Wt} (h : RI r) (j : Nat) : QR (¬ (x.1.1 = 1 ∨ x.1.1 = 2 ∨ x.1.1 = 3) ∧ x.1.2.1 = 14 ∧ lowB x.1.2.2.1 = 0) (x.1.2.1 = 8) (elQ r.qs (j : Int)) (elQ (dnW x r).qs (j : Int)) := by unfold dnW dnO; rw [opq_eq]; exact dnF_q h j
end
end Go.Proofs.Ytknkemjbikbhgaa
