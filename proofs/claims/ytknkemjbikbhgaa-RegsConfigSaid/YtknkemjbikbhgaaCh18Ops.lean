/-
  Chapter 18: what is done to registers, as specifications. Own work; nothing here is trusted.
-/
import Derived.Test.YtknkemjbikbhgaaCh18Wr
namespace Go.Proofs.Ytknkemjbikbhgaa
open Go Go.Sx Go.RowKit
set_option maxRecDepth 1000000
set_option maxHeartbeats 8000000
set_option linter.unusedVariables false
set_option linter.unusedSimpArgs false
noncomputable section
theorem sg_tree (r : Rg) (f1 f2 : Bool) : (fV 55 [rA r (.h 0) (.h 1)] [.sl false f1 77 r.qs, .sl false f2 5 r.cf]).get =
  bro (decide (r.qs.length ≤ (1000 : Nat))) (bro (decide (r.cf.length ≤ (1000 : Nat))) (bro (vR r.k r.o r.g r.s r.se r.at' r.it r.qs r.cf.length) (some (SV.agg [SV.raw (Value.int IntKind.i64 r.k), SV.raw (Value.int IntKind.u64 r.o), SV.raw (Value.int IntKind.u64 r.g), SV.raw (Value.int IntKind.u8 r.s), SV.raw (Value.int IntKind.i64 r.se), SV.raw (Value.int IntKind.i64 r.at'), SV.h (2 : Nat), SV.h (3 : Nat), SV.raw (Value.int IntKind.u8 r.ge), SV.raw (Value.int IntKind.u8 (bitsV IntKind.u8 BinOp.or r.it (1 : Int)))], [SO.sl true false (77 : Nat) r.qs, SO.sl true false (5 : Nat) r.cf])) (none)) (none)) (none) := by kernel_rfl
theorem br_tree (r : Rg) (f1 f2 : Bool) : (fV 54 [rA r (.h 0) (.h 1)] [.sl false f1 77 r.qs, .sl false f2 5 r.cf]).get =
  bro (decide (r.qs.length ≤ (1000 : Nat))) (bro (decide (r.cf.length ≤ (1000 : Nat))) (bro (vR r.k r.o r.g r.s r.se r.at' r.it r.qs r.cf.length) (bro (rokB r.k r.o r.g r.s) (bro (hb r.s (4 : Int)) (some (SV.agg [SV.raw (Value.int IntKind.i64 r.k), SV.raw (Value.int IntKind.u64 r.o), SV.raw (Value.int IntKind.u64 r.g), SV.raw (Value.int IntKind.u8 (bitsV IntKind.u8 BinOp.or r.s (64 : Int))), SV.raw (Value.int IntKind.i64 r.se), SV.raw (Value.int IntKind.i64 r.at'), SV.h (2 : Nat), SV.h (3 : Nat), SV.raw (Value.int IntKind.u8 r.ge), SV.raw (Value.int IntKind.u8 (bitsV IntKind.u8 BinOp.or r.it (2 : Int)))], [SO.sl true false (77 : Nat) r.qs, SO.sl true false (5 : Nat) r.cf])) (some (SV.agg [SV.raw (Value.int IntKind.i64 r.k), SV.raw (Value.int IntKind.u64 r.o), SV.raw (Value.int IntKind.u64 r.g), SV.raw (Value.int IntKind.u8 r.s), SV.raw (Value.int IntKind.i64 r.se), SV.raw (Value.int IntKind.i64 r.at'), SV.h (2 : Nat), SV.h (3 : Nat), SV.raw (Value.int IntKind.u8 r.ge), SV.raw (Value.int IntKind.u8 r.it)], [SO.sl true false (77 : Nat) r.qs, SO.sl true false (5 : Nat) r.cf]))) (none)) (none)) (none)) (none) := by kernel_rfl
theorem ch_tree (r : Rg) (f1 f2 : Bool) (f3 : Bool) (n : Int) (bs : List Int) : (fV 45 [rA r (.h 0) (.h 1), .raw (.int .i64 n), .h 2] [.sl false f1 77 r.qs, .sl false f2 5 r.cf, .sl false f3 5 bs]).get =
  bro (vR r.k r.o r.g r.s r.se r.at' r.it r.qs r.cf.length) (bro (decide (n < (0 : Int))) (some (SV.tup [SV.agg [SV.raw (Value.int IntKind.i64 (0 : Int)), SV.raw (Value.int IntKind.u64 (0 : Int)), SV.raw (Value.int IntKind.u64 (0 : Int)), SV.raw (Value.int IntKind.u8 (0 : Int)), SV.raw (Value.int IntKind.i64 (0 : Int)), SV.raw (Value.int IntKind.i64 (0 : Int)), SV.raw (Value.slice none (0 : Nat) (0 : Nat)), SV.raw (Value.slice none (0 : Nat) (0 : Nat)), SV.raw (Value.int IntKind.u8 (0 : Int)), SV.raw (Value.int IntKind.u8 (0 : Int))], SV.raw (Value.int IntKind.i64 (2 : Int))], [])) (bro (decide ((↑r.cf.length : Int) < n)) (some (SV.tup [SV.agg [SV.raw (Value.int IntKind.i64 (0 : Int)), SV.raw (Value.int IntKind.u64 (0 : Int)), SV.raw (Value.int IntKind.u64 (0 : Int)), SV.raw (Value.int IntKind.u8 (0 : Int)), SV.raw (Value.int IntKind.i64 (0 : Int)), SV.raw (Value.int IntKind.i64 (0 : Int)), SV.raw (Value.slice none (0 : Nat) (0 : Nat)), SV.raw (Value.slice none (0 : Nat) (0 : Nat)), SV.raw (Value.int IntKind.u8 (0 : Int)), SV.raw (Value.int IntKind.u8 (0 : Int))], SV.raw (Value.int IntKind.i64 (2 : Int))], [])) (bro (inR64 ((↑r.cf.length : Int) - n)) (bro (decide ((↑r.cf.length : Int) - n < (↑bs.length : Int))) (some (SV.tup [SV.agg [SV.raw (Value.int IntKind.i64 (0 : Int)), SV.raw (Value.int IntKind.u64 (0 : Int)), SV.raw (Value.int IntKind.u64 (0 : Int)), SV.raw (Value.int IntKind.u8 (0 : Int)), SV.raw (Value.int IntKind.i64 (0 : Int)), SV.raw (Value.int IntKind.i64 (0 : Int)), SV.raw (Value.slice none (0 : Nat) (0 : Nat)), SV.raw (Value.slice none (0 : Nat) (0 : Nat)), SV.raw (Value.int IntKind.u8 (0 : Int)), SV.raw (Value.int IntKind.u8 (0 : Int))], SV.raw (Value.int IntKind.i64 (2 : Int))], [])) (bro (decide (r.qs.length ≤ (1000 : Nat))) (bro (decide (r.cf.length ≤ (1000 : Nat))) (bro (bOk n (intO (↑r.cf.length : Int) none) (roomV (0 : Nat) r.cf.length none) && atV (0 : Nat) r.cf.length n none) (bro (decide ((0 : Nat) + n.toNat + (List.take ((intO (↑r.cf.length : Int) none).toNat - n.toNat) bs).length ≤ r.cf.length)) (some (SV.tup [SV.agg [SV.raw (Value.int IntKind.i64 r.k), SV.raw (Value.int IntKind.u64 r.o), SV.raw (Value.int IntKind.u64 r.g), SV.raw (Value.int IntKind.u8 r.s), SV.raw (Value.int IntKind.i64 r.se), SV.raw (Value.int IntKind.i64 r.at'), SV.h (3 : Nat), SV.h (4 : Nat), SV.raw (Value.int IntKind.u8 ((r.ge + (1 : Int)) % (256 : Int))), SV.raw (Value.int IntKind.u8 (bitsV IntKind.u8 BinOp.or r.it (2 : Int)))], SV.raw (Value.int IntKind.i64 (0 : Int))], [SO.sl true false (77 : Nat) r.qs, SO.sl true false (5 : Nat) (overL r.cf ((0 : Nat) + n.toNat) (List.take ((intO (↑r.cf.length : Int) none).toNat - n.toNat) bs))])) (none)) (none)) (none)) (none))) (bro (decide (IntKind.i64.wrap ((↑r.cf.length : Int) - n) < (↑bs.length : Int))) (some (SV.tup [SV.agg [SV.raw (Value.int IntKind.i64 (0 : Int)), SV.raw (Value.int IntKind.u64 (0 : Int)), SV.raw (Value.int IntKind.u64 (0 : Int)), SV.raw (Value.int IntKind.u8 (0 : Int)), SV.raw (Value.int IntKind.i64 (0 : Int)), SV.raw (Value.int IntKind.i64 (0 : Int)), SV.raw (Value.slice none (0 : Nat) (0 : Nat)), SV.raw (Value.slice none (0 : Nat) (0 : Nat)), SV.raw (Value.int IntKind.u8 (0 : Int)), SV.raw (Value.int IntKind.u8 (0 : Int))], SV.raw (Value.int IntKind.i64 (2 : Int))], [])) (bro (decide (r.qs.length ≤ (1000 : Nat))) (bro (decide (r.cf.length ≤ (1000 : Nat))) (bro (bOk n (intO (↑r.cf.length : Int) none) (roomV (0 : Nat) r.cf.length none) && atV (0 : Nat) r.cf.length n none) (bro (decide ((0 : Nat) + n.toNat + (List.take ((intO (↑r.cf.length : Int) none).toNat - n.toNat) bs).length ≤ r.cf.length)) (some (SV.tup [SV.agg [SV.raw (Value.int IntKind.i64 r.k), SV.raw (Value.int IntKind.u64 r.o), SV.raw (Value.int IntKind.u64 r.g), SV.raw (Value.int IntKind.u8 r.s), SV.raw (Value.int IntKind.i64 r.se), SV.raw (Value.int IntKind.i64 r.at'), SV.h (3 : Nat), SV.h (4 : Nat), SV.raw (Value.int IntKind.u8 ((r.ge + (1 : Int)) % (256 : Int))), SV.raw (Value.int IntKind.u8 (bitsV IntKind.u8 BinOp.or r.it (2 : Int)))], SV.raw (Value.int IntKind.i64 (0 : Int))], [SO.sl true false (77 : Nat) r.qs, SO.sl true false (5 : Nat) (overL r.cf ((0 : Nat) + n.toNat) (List.take ((intO (↑r.cf.length : Int) none).toNat - n.toNat) bs))])) (none)) (none)) (none)) (none)))))) (none) := by kernel_rfl
theorem rr_12 (r : Rg) (f1 f2 : Bool) (a : Int) : (fV 44 [rA r (.h 0) (.h 1), .raw (.int .i64 12), .raw (.int .i64 a)] [.sl false f1 77 r.qs, .sl false f2 5 r.cf]).get =
  bro (vR r.k r.o r.g r.s r.se r.at' r.it r.qs r.cf.length) (some (SV.raw (Value.int IntKind.u64 (r.it % (18446744073709551616 : Int))), [])) (none) := by kernel_rfl
theorem rr_15 (r : Rg) (f1 f2 : Bool) (a : Int) : (fV 44 [rA r (.h 0) (.h 1), .raw (.int .i64 15), .raw (.int .i64 a)] [.sl false f1 77 r.qs, .sl false f2 5 r.cf]).get =
  bro (vR r.k r.o r.g r.s r.se r.at' r.it r.qs r.cf.length) (some (SV.raw (Value.int IntKind.u64 (r.ge % (18446744073709551616 : Int))), [])) (none) := by kernel_rfl
theorem rr_16 (r : Rg) (f1 f2 : Bool) (a : Int) : (fV 44 [rA r (.h 0) (.h 1), .raw (.int .i64 16), .raw (.int .i64 a)] [.sl false f1 77 r.qs, .sl false f2 5 r.cf]).get =
  bro (vR r.k r.o r.g r.s r.se r.at' r.it r.qs r.cf.length) (bro (decide (a < (0 : Int))) (some (SV.raw (Value.int IntKind.u64 (0 : Int)), [])) (bro (decide ((↑r.cf.length : Int) ≤ a)) (some (SV.raw (Value.int IntKind.u64 (0 : Int)), [])) (bro (Sx.inB a r.cf.length) (bro (decide (a.toNat < r.cf.length)) (some (SV.raw (Value.int IntKind.u64 (r.cf.getD a.toNat (C18 (5 : TypeId)).d % (18446744073709551616 : Int))), [])) (none)) (none)))) (none) := by kernel_rfl
/-- Registers behind a write. -/
def wO (n w : Int) (r : Rg) : Rg := opq (wF n w r)
theorem w_all {r : Rg} {f1 f2 : Bool} {w : Int} (hv : rV r = true) (hw : 0 ≤ w) (n : Int) : (fVw r f1 f2 n w).get = wOut (wF n w r) := by
  unfold wF
  by_cases h2 : n = 2
  · subst h2; rw [if_pos rfl]; exact w_2 hv hw
  rw [if_neg h2]
  by_cases h4 : n = 4
  · subst h4; rw [if_pos rfl]; exact w_4 hv
  rw [if_neg h4]
  by_cases h5 : n = 5
  · subst h5; rw [if_pos rfl]; exact w_5 hv hw
  rw [if_neg h5]
  by_cases h7 : n = 7
  · subst h7; rw [if_pos rfl]; exact w_7 hv hw
  rw [if_neg h7]
  by_cases h8 : n = 8
  · subst h8; rw [if_pos rfl]; exact w_8 hv
  rw [if_neg h8]
  by_cases h9 : n = 9
  · subst h9; rw [if_pos rfl]; exact w_9 hv
  rw [if_neg h9]
  by_cases h10 : n = 10
  · subst h10; rw [if_pos rfl]; exact w_10 hv
  rw [if_neg h10]
  by_cases h11 : n = 11
  · subst h11; rw [if_pos rfl]; exact w_11 hv
  rw [if_neg h11]
  by_cases h13 : n = 13
  · subst h13; rw [if_pos rfl]; exact w_13 hv
  rw [if_neg h13]
  by_cases h14 : n = 14
  · subst h14; rw [if_pos rfl]; exact w_14 hv
  rw [if_neg h14]
  by_cases h1 : n = 1
  · subst h1; exact w_1 hv
  by_cases h3 : n = 3
  · subst h3; exact w_3 hv
  by_cases h6 : n = 6
  · subst h6; exact w_6 hv
  by_cases h12 : n = 12
  · subst h12; exact w_12 hv
  by_cases h15 : n = 15
  · subst h15; exact w_15 hv
  by_cases h16 : n = 16
  · subst h16; exact w_16 hv
  refine w_x hv fun k hk => ?_
  simp only [List.mem_cons, List.not_mem_nil, or_false] at hk
  rcases hk with rfl | rfl | rfl | rfl | rfl | rfl | rfl | rfl | rfl | rfl | rfl | rfl | rfl | rfl | rfl | rfl <;> assumption
/-- A result: registers of one's own. -/
abbrev rOut (n : Nat) (r : Rg) : SV × List (SO C18) := (rA r (.h n) (.h (n + 1)), [SO.sl true false 77 r.qs, SO.sl true false 5 r.cf])
def wriT : FnF C18 := fun args os => match args, os with
  | [.agg [.raw (.int .i64 k), .raw (.int .u64 o), .raw (.int .u64 g), .raw (.int .u8 s), .raw (.int .i64 se), .raw (.int .i64 at'), .h 0, .h 1, .raw (.int .u8 ge), .raw (.int .u8 it)], .raw (.int .i64 n), .raw (.int .u64 w)], [.sl false f1 77 qs, .sl false f2 5 cf] =>
    .br (rV ⟨k, o, g, s, se, at', ge, it, qs, cf⟩) (.br (rng64 w) (.leaf (rOut 2 (wO n w ⟨k, o, g, s, se, at', ge, it, qs, cf⟩))) .fail) .fail
  | _, _ => .fail
theorem wriT_ok : ∀ args os r, (wriT args os).get = some r → Fn0 Try.prog 46 args os r := fun args os r h => by
  unfold wriT at h
  split at h
  · rename_i k o g s se at' ge it n w f1 qs f2 cf
    obtain ⟨h1, g1⟩ := Tr.get_ask.1 h
    obtain ⟨h2, g2⟩ := Tr.get_ask.1 g1
    refine fnC_ok (sp := sfV) (ls := lsV) (unr := unV) (d := 20) plain mixed sfV_ok lsV_ok ?_
    refine (w_all (r := ⟨k, o, g, s, se, at', ge, it, qs, cf⟩) (f1 := f1) (f2 := f2) h1 (rng64_iff.1 h2).1 n).trans (Eq.trans ?_ g2)
    unfold wO
    rw [opq_eq]; rfl
  · cases h
def sgF (r : Rg) : Rg := { r with it := bitsV .u8 .or r.it 1 }
def sigT : FnF C18 := fun args os => match args, os with
  | [.agg [.raw (.int .i64 k), .raw (.int .u64 o), .raw (.int .u64 g), .raw (.int .u8 s), .raw (.int .i64 se), .raw (.int .i64 at'), .h 0, .h 1, .raw (.int .u8 ge), .raw (.int .u8 it)]], [.sl false f1 77 qs, .sl false f2 5 cf] =>
    .br (rV ⟨k, o, g, s, se, at', ge, it, qs, cf⟩) (.leaf (rOut 2 (opq (sgF ⟨k, o, g, s, se, at', ge, it, qs, cf⟩)))) .fail
  | _, _ => .fail
theorem sg_all {r : Rg} {f1 f2 : Bool} (hv : rV r = true) : (fV 55 [rA r (.h 0) (.h 1)] [.sl false f1 77 r.qs, .sl false f2 5 r.cf]).get = wOut (sgF r) := by
  obtain ⟨l1, l2⟩ := rV_len hv
  rw [sg_tree, l1, l2]; show bro (rV r) _ _ = _; rw [hv]; rfl
theorem sigT_ok : ∀ args os r, (sigT args os).get = some r → Fn0 Try.prog 55 args os r := fun args os r h => by
  unfold sigT at h
  split at h
  · rename_i k o g s se at' ge it f1 qs f2 cf
    obtain ⟨h1, g1⟩ := Tr.get_ask.1 h
    refine fnC_ok (sp := sfV) (ls := lsV) (unr := unV) (d := 20) plain mixed sfV_ok lsV_ok ?_
    refine (sg_all (r := ⟨k, o, g, s, se, at', ge, it, qs, cf⟩) (f1 := f1) (f2 := f2) h1).trans (Eq.trans ?_ g1)
    rw [opq_eq]; rfl
  · cases h
def bkF (r : Rg) : Rg := if hb r.s 4 = true then { r with s := bitsV .u8 .or r.s 64, it := bitsV .u8 .or r.it 2 } else r
def brkT8 : FnF C18 := fun args os => match args, os with
  | [.agg [.raw (.int .i64 k), .raw (.int .u64 o), .raw (.int .u64 g), .raw (.int .u8 s), .raw (.int .i64 se), .raw (.int .i64 at'), .h 0, .h 1, .raw (.int .u8 ge), .raw (.int .u8 it)]], [.sl false f1 77 qs, .sl false f2 5 cf] =>
    .br (rV ⟨k, o, g, s, se, at', ge, it, qs, cf⟩) (.leaf (rOut 2 (opq (bkF ⟨k, o, g, s, se, at', ge, it, qs, cf⟩)))) .fail
  | _, _ => .fail
theorem bk_all {r : Rg} {f1 f2 : Bool} (hv : rV r = true) : (fV 54 [rA r (.h 0) (.h 1)] [.sl false f1 77 r.qs, .sl false f2 5 r.cf]).get = wOut (bkF r) := by
  obtain ⟨l1, l2⟩ := rV_len hv
  have hk : rokB r.k r.o r.g r.s = true := (vR_iff.1 hv).1
  unfold bkF
  rw [br_tree, l1, l2, hk]; show bro (rV r) _ _ = _; rw [hv]
  cases hb r.s 4 <;> rfl
theorem brkT8_ok : ∀ args os r, (brkT8 args os).get = some r → Fn0 Try.prog 54 args os r := fun args os r h => by
  unfold brkT8 at h
  split at h
  · rename_i k o g s se at' ge it f1 qs f2 cf
    obtain ⟨h1, g1⟩ := Tr.get_ask.1 h
    refine fnC_ok (sp := sfV) (ls := lsV) (unr := unV) (d := 20) plain mixed sfV_ok lsV_ok ?_
    refine (bk_all (r := ⟨k, o, g, s, se, at', ge, it, qs, cf⟩) (f1 := f1) (f2 := f2) h1).trans (Eq.trans ?_ g1)
    rw [opq_eq]; rfl
  · cases h
/-- May bytes be written at a place? -/
def chB (r : Rg) (n : Int) (bs : List Int) : Bool := decide (0 ≤ n ∧ n ≤ (r.cf.length : Int) ∧ (bs.length : Int) ≤ (r.cf.length : Int) - n)
def chF (r : Rg) (n : Int) (bs : List Int) : Rg := { r with cf := overL r.cf n.toNat bs, ge := (r.ge + 1) % 256, it := bitsV .u8 .or r.it 2 }
def chgT : FnF C18 := fun args os => match args, os with
  | [.agg [.raw (.int .i64 k), .raw (.int .u64 o), .raw (.int .u64 g), .raw (.int .u8 s), .raw (.int .i64 se), .raw (.int .i64 at'), .h 0, .h 1, .raw (.int .u8 ge), .raw (.int .u8 it)], .raw (.int .i64 n), .h 2], [.sl false f1 77 qs, .sl false f2 5 cf, .sl false f3 5 bs] =>
    .br (rV ⟨k, o, g, s, se, at', ge, it, qs, cf⟩) (.br (inR64 n) (.br (chB ⟨k, o, g, s, se, at', ge, it, qs, cf⟩ n bs)
      (.leaf (.tup [rA (opq (chF ⟨k, o, g, s, se, at', ge, it, qs, cf⟩ n bs)) (.h 3) (.h 4), .raw (.int .i64 0)], [SO.sl true false 77 (opq (chF ⟨k, o, g, s, se, at', ge, it, qs, cf⟩ n bs)).qs, SO.sl true false 5 (opq (chF ⟨k, o, g, s, se, at', ge, it, qs, cf⟩ n bs)).cf]))
      (.leaf (.tup [rgA 0 0 0 0 0 0 nlS nlS 0 0, .raw (.int .i64 2)], []))) .fail) .fail
  | _, _ => .fail
abbrev chOut (r : Rg) : SV × List (SO C18) := (.tup [rA r (.h 3) (.h 4), .raw (.int .i64 0)], [SO.sl true false 77 r.qs, SO.sl true false 5 r.cf])
abbrev chNo : SV × List (SO C18) := (.tup [rgA 0 0 0 0 0 0 nlS nlS 0 0, .raw (.int .i64 2)], [])
theorem ch_all {r : Rg} {f1 f2 f3 : Bool} {n : Int} {bs : List Int} (hv : rV r = true) (hn : inR64 n = true) : (fV 45 [rA r (.h 0) (.h 1), .raw (.int .i64 n), .h 2] [.sl false f1 77 r.qs, .sl false f2 5 r.cf, .sl false f3 5 bs]).get = bro (chB r n bs) (some (chOut (chF r n bs))) (some chNo) := by
  obtain ⟨l1, l2⟩ := rV_len hv
  have hcl : r.cf.length ≤ 1000 := of_decide_eq_true l2
  rw [ch_tree, l1, l2]; show bro (rV r) _ _ = _; rw [hv, bro_true]
  by_cases n0 : n < 0
  · rw [decide_eq_true n0, show chB r n bs = false from decide_eq_false (by omega)]; rfl
  rw [decide_eq_false n0, bro_false]
  by_cases n1 : (r.cf.length : Int) < n
  · rw [decide_eq_true n1, show chB r n bs = false from decide_eq_false (by omega)]; rfl
  rw [decide_eq_false n1, bro_false, inR64_mk (r := (r.cf.length : Int) - n) (by omega), bro_true]
  by_cases n2 : (r.cf.length : Int) - n < (bs.length : Int)
  · rw [decide_eq_true n2, show chB r n bs = false from decide_eq_false (by omega)]; rfl
  have ht : List.take ((intO ((r.cf.length : Int)) none).toNat - n.toNat) bs = bs := List.take_of_length_le (by show _ ≤ ((r.cf.length : Int)).toNat - n.toNat; omega)
  have hb : (bOk n (intO ((r.cf.length : Int)) none) (roomV (0 : Nat) r.cf.length none) && atV (0 : Nat) r.cf.length n none) = true := by
    rw [bOk_mk (by show 0 ≤ n ∧ n ≤ (r.cf.length : Int) ∧ (r.cf.length : Int) ≤ (r.cf.length : Int) - ((0 : Nat) : Int); omega)]; rfl
  have hd : decide ((0 : Nat) + n.toNat + (List.take ((intO ((r.cf.length : Int)) none).toNat - n.toNat) bs).length ≤ r.cf.length) = true := by rw [ht]; exact decide_eq_true (by omega)
  rw [decide_eq_false n2, bro_false, bro_true, bro_true, show chB r n bs = true from decide_eq_true (by omega), hb, hd]
  have e : overL r.cf (0 + n.toNat) (List.take ((intO ((r.cf.length : Int)) none).toNat - n.toNat) bs) = overL r.cf n.toNat bs := by rw [ht, Nat.zero_add]
  exact congrArg (fun z : List Int => (some ((SV.tup [rA { r with ge := (r.ge + 1) % 256, it := bitsV .u8 .or r.it 2 } (.h 3) (.h 4), .raw (.int .i64 0)], [SO.sl true false 77 r.qs, SO.sl true false 5 z]) : SV × List (SO C18)))) e
theorem chgT_ok : ∀ args os r, (chgT args os).get = some r → Fn0 Try.prog 45 args os r := fun args os r h => by
  unfold chgT at h
  split at h
  · rename_i k o g s se at' ge it n f1 qs f2 cf f3 bs
    obtain ⟨h1, g1⟩ := Tr.get_ask.1 h
    obtain ⟨h2, g2⟩ := Tr.get_ask.1 g1
    refine fnC_ok (sp := sfV) (ls := lsV) (unr := unV) (d := 20) plain mixed sfV_ok lsV_ok ?_
    refine (ch_all (r := ⟨k, o, g, s, se, at', ge, it, qs, cf⟩) (f1 := f1) (f2 := f2) (f3 := f3) (bs := bs) h1 h2).trans (Eq.trans ?_ g2)
    rw [opq_eq]
    cases chB ⟨k, o, g, s, se, at', ge, it, qs, cf⟩ n bs <;> rfl
  · cases h
/-! ### what is read -/
def cfAt (cf : List Int) (a : Int) : Int := if 0 ≤ a ∧ a < (cf.length : Int) then cf.getD a.toNat 0 % 18446744073709551616 else 0
def redT : FnF C18 := fun args os => match args, os with
  | [.agg [.raw (.int .i64 k), .raw (.int .u64 o), .raw (.int .u64 g), .raw (.int .u8 s), .raw (.int .i64 se), .raw (.int .i64 at'), .h 0, .h 1, .raw (.int .u8 ge), .raw (.int .u8 it)], .raw (.int .i64 (.ofNat 12)), .raw (.int .i64 a)], [.sl false f1 77 qs, .sl false f2 5 cf] =>
    .br (rV ⟨k, o, g, s, se, at', ge, it, qs, cf⟩) (.leaf (.raw (.int .u64 (it % 18446744073709551616)), [])) .fail
  | [.agg [.raw (.int .i64 k), .raw (.int .u64 o), .raw (.int .u64 g), .raw (.int .u8 s), .raw (.int .i64 se), .raw (.int .i64 at'), .h 0, .h 1, .raw (.int .u8 ge), .raw (.int .u8 it)], .raw (.int .i64 (.ofNat 15)), .raw (.int .i64 a)], [.sl false f1 77 qs, .sl false f2 5 cf] =>
    .br (rV ⟨k, o, g, s, se, at', ge, it, qs, cf⟩) (.leaf (.raw (.int .u64 (ge % 18446744073709551616)), [])) .fail
  | [.agg [.raw (.int .i64 k), .raw (.int .u64 o), .raw (.int .u64 g), .raw (.int .u8 s), .raw (.int .i64 se), .raw (.int .i64 at'), .h 0, .h 1, .raw (.int .u8 ge), .raw (.int .u8 it)], .raw (.int .i64 (.ofNat 16)), .raw (.int .i64 a)], [.sl false f1 77 qs, .sl false f2 5 cf] =>
    .br (rV ⟨k, o, g, s, se, at', ge, it, qs, cf⟩) (.leaf (.raw (.int .u64 (opq (cfAt cf a))), [])) .fail
  | _, _ => .fail
theorem rd16 {r : Rg} {f1 f2 : Bool} {a : Int} (hv : rV r = true) : (fV 44 [rA r (.h 0) (.h 1), .raw (.int .i64 16), .raw (.int .i64 a)] [.sl false f1 77 r.qs, .sl false f2 5 r.cf]).get = some (.raw (.int .u64 (opq (cfAt r.cf a))), []) := by
  rw [rr_16, opq_eq]; show bro (rV r) _ _ = _; rw [hv]
  unfold cfAt
  by_cases h0 : a < 0
  · rw [decide_eq_true h0, if_neg (by omega)]; rfl
  by_cases h1 : (r.cf.length : Int) ≤ a
  · rw [decide_eq_false h0, decide_eq_true h1, if_neg (by omega)]; rfl
  rw [decide_eq_false h0, decide_eq_false h1, if_pos (by omega), inB_mk (i := a) (n := r.cf.length) ⟨by omega, by omega⟩, decide_eq_true (show a.toNat < r.cf.length by omega)]; rfl
theorem redT_ok : ∀ args os r, (redT args os).get = some r → Fn0 Try.prog 44 args os r := fun args os r h => by
  unfold redT at h
  split at h
  · rename_i k o g s se at' ge it a f1 qs f2 cf
    obtain ⟨h1, g1⟩ := Tr.get_ask.1 h
    refine fnC_ok (sp := sfV) (ls := lsV) (unr := unV) (d := 20) plain mixed sfV_ok lsV_ok ?_
    refine (rr_12 ⟨k, o, g, s, se, at', ge, it, qs, cf⟩ f1 f2 a).trans (Eq.trans ?_ g1)
    show bro (rV ⟨k, o, g, s, se, at', ge, it, qs, cf⟩) _ _ = _
    rw [h1]; rfl
  · rename_i k o g s se at' ge it a f1 qs f2 cf
    obtain ⟨h1, g1⟩ := Tr.get_ask.1 h
    refine fnC_ok (sp := sfV) (ls := lsV) (unr := unV) (d := 20) plain mixed sfV_ok lsV_ok ?_
    refine (rr_15 ⟨k, o, g, s, se, at', ge, it, qs, cf⟩ f1 f2 a).trans (Eq.trans ?_ g1)
    show bro (rV ⟨k, o, g, s, se, at', ge, it, qs, cf⟩) _ _ = _
    rw [h1]; rfl
  · rename_i k o g s se at' ge it a f1 qs f2 cf
    obtain ⟨h1, g1⟩ := Tr.get_ask.1 h
    exact fnC_ok (sp := sfV) (ls := lsV) (unr := unV) (d := 20) plain mixed sfV_ok lsV_ok ((rd16 (r := ⟨k, o, g, s, se, at', ge, it, qs, cf⟩) (f1 := f1) (f2 := f2) h1).trans g1)
  · cases h
end
end Go.Proofs.Ytknkemjbikbhgaa
