/-
  Chapter 27: the small functions as specifications. Own work; nothing here is trusted.
-/
import Derived.Test.YtgegagndihffpaaCh27Find
namespace Go.Proofs.Ytgegagndihffpaa
open Go Go.Sx Go.RowKit
set_option maxRecDepth 1000000
set_option maxHeartbeats 8000000
set_option linter.unusedVariables false
set_option linter.unusedSimpArgs false
noncomputable section
abbrev fI := fnC C27 Try.prog spX lsF unF 10
abbrev pA (most : Int) (rdy : Bool) (l : SV) : SV := .agg [.raw (.int .i64 most), .raw (.bool rdy), l]
abbrev nlS : SV := .raw (.slice none 0 0)
theorem same_tree (f1 f2 : Bool) (m1 m2 : Int) (r1 r2 : Bool) (ts us : List Pt) : (fF 25 [pA m1 r1 (.h 0), pA m2 r2 (.h 1)] [.sl false f1 46 ts, .sl false f2 46 us]).get =
  bro (m1 == m2) (bro (r1 == r2) (bro ((↑ts.length : Int) != (↑us.length : Int)) (some (SV.raw (Value.bool false), [])) (bro ((↑ts.length : Int) == (↑ts.length : Int)) (bro (decide (ts.length ≤ (100000 : Nat) ∧ us.length = ts.length)) (bro (noneP (neL ts us) ts.length) (some (SV.raw (Value.bool true), [])) (some (SV.raw (Value.bool false), []))) (none)) (none))) (some (SV.raw (Value.bool false), []))) (some (SV.raw (Value.bool false), [])) := by kernel_rfl
theorem same_treeB (f1 : Bool) (m1 m2 : Int) (r1 r2 : Bool) (ts : List Pt) : (f0 25 [pA m1 r1 (.h 0), pA m2 r2 nlS] [.sl false f1 46 ts]).get =
  bro (m1 == m2) (bro (r1 == r2) (bro ((↑ts.length : Int) != (↑(0 : Nat) : Int)) (some (SV.raw (Value.bool false), [])) (bro (decide ((0 : Int) < (↑ts.length : Int))) (bro (inB (0 : Int) ts.length) (bro (decide (Int.toNat (0 : Int) < ts.length)) (none) (none)) (none)) (some (SV.raw (Value.bool true), [])))) (some (SV.raw (Value.bool false), []))) (some (SV.raw (Value.bool false), [])) := by kernel_rfl
theorem at_tree (f : Bool) (most : Int) (rdy : Bool) (ts : List Pt) (id : Int) : (fF 28 [pA most rdy (.h 0), .raw (.int .i64 id)] [.sl false f 46 ts]).get =
  bro ((↑ts.length : Int) == (↑ts.length : Int)) (bro (decide (ts.length ≤ (100000 : Nat))) (bro (noneP (isI ts id) ts.length) (some (SV.raw (Value.int IntKind.i64 (-1 : Int)), [])) (some (SV.raw (Value.int IntKind.i64 (↑(fstP (isI ts id) ts.length) : Int)), []))) (none)) (none) := by kernel_rfl
theorem own_tree (f : Bool) (most : Int) (rdy : Bool) (ts : List Pt) : (fF 29 [pA most rdy (.h 0)] [.sl false f 46 ts]).get =
  bro (roomB (([] : List Pt).length + ts.length) Try.prog.types[(46 : Nat)].bytes) (some (SV.agg [SV.raw (Value.int IntKind.i64 most), SV.raw (Value.bool rdy), SV.h (1 : Nat)], [SO.sl true false (46 : Nat) (([] : List Pt) ++ ts)])) (none) := by kernel_rfl
theorem lown_tree (f : Bool) (most : Int) (rdy : Bool) (ts : List Pt) : (fF 19 [pA most rdy (.h 0)] [.sl false f 46 ts]).get =
  bro (roomB (([] : List Pt).length + ts.length) Try.prog.types[(46 : Nat)].bytes) (some (SV.agg [SV.raw (Value.int IntKind.i64 most), SV.raw (Value.bool rdy), SV.h (1 : Nat)], [SO.sl true false (46 : Nat) (([] : List Pt) ++ ts)])) (none) := by kernel_rfl
theorem lown_tree0 (most : Int) (rdy : Bool) : (fF 19 [pA most rdy nlS] []).get =
  some (SV.agg [SV.raw (Value.int IntKind.i64 most), SV.raw (Value.bool rdy), SV.h (0 : Nat)], [SO.sl true false (46 : Nat) []]) := by kernel_rfl
theorem with_tree (f : Bool) (most : Int) (rdy : Bool) (ts : List Pt) (a : Int) (b : ByteArray) (c d e g : Bool) : (fI 32 [pA most rdy (.h 0), .agg [.raw (.int .i64 a), .raw (.string b), .raw (.bool c), .raw (.bool d), .raw (.bool e), .raw (.bool g)]] [.sl false f 46 ts]).get =
  bro ((↑ts.length : Int) == (↑ts.length : Int)) (bro (decide (ts.length ≤ (100000 : Nat))) (bro (noneP (isB ts a) ts.length) (bro (roomB (([] : List Pt).length + ts.length) Try.prog.types[(46 : Nat)].bytes) (bro (decide ((0 : Int) ≤ (↑ts.length : Int) ∧ (↑ts.length : Int) ≤ (↑(([] : List Pt) ++ ts).length : Int) ∧ (([] : List Pt) ++ ts).length ≤ (100000 : Nat)) && decide ([((a, b, c, d, e, g).fst, (a, b, c, d, e, g).snd.fst, (a, b, c, d, e, g).snd.snd.fst, (a, b, c, d, e, g).snd.snd.snd.fst, (a, b, c, d, e, g).snd.snd.snd.snd.fst, (a, b, c, d, e, g).snd.snd.snd.snd.snd)].length = (1 : Nat))) (some (SV.agg [SV.raw (Value.int IntKind.i64 most), SV.raw (Value.bool rdy), SV.h (1 : Nat)], [SO.sl true false (46 : Nat) (insL (([] : List Pt) ++ ts) (↑ts.length : Int).toNat [((a, b, c, d, e, g).fst, (a, b, c, d, e, g).snd.fst, (a, b, c, d, e, g).snd.snd.fst, (a, b, c, d, e, g).snd.snd.snd.fst, (a, b, c, d, e, g).snd.snd.snd.snd.fst, (a, b, c, d, e, g).snd.snd.snd.snd.snd)])])) (none)) (none)) (bro (roomB (([] : List Pt).length + ts.length) Try.prog.types[(46 : Nat)].bytes) (bro (decide ((0 : Int) ≤ (↑(fstP (isB ts a) ts.length) : Int) ∧ (↑(fstP (isB ts a) ts.length) : Int) ≤ (↑(([] : List Pt) ++ ts).length : Int) ∧ (([] : List Pt) ++ ts).length ≤ (100000 : Nat)) && decide ([((a, b, c, d, e, g).fst, (a, b, c, d, e, g).snd.fst, (a, b, c, d, e, g).snd.snd.fst, (a, b, c, d, e, g).snd.snd.snd.fst, (a, b, c, d, e, g).snd.snd.snd.snd.fst, (a, b, c, d, e, g).snd.snd.snd.snd.snd)].length = (1 : Nat))) (some (SV.agg [SV.raw (Value.int IntKind.i64 most), SV.raw (Value.bool rdy), SV.h (1 : Nat)], [SO.sl true false (46 : Nat) (insL (([] : List Pt) ++ ts) (↑(fstP (isB ts a) ts.length) : Int).toNat [((a, b, c, d, e, g).fst, (a, b, c, d, e, g).snd.fst, (a, b, c, d, e, g).snd.snd.fst, (a, b, c, d, e, g).snd.snd.snd.fst, (a, b, c, d, e, g).snd.snd.snd.snd.fst, (a, b, c, d, e, g).snd.snd.snd.snd.snd)])])) (none)) (none))) (none)) (none) := by kernel_rfl
theorem wo_tree (f : Bool) (most : Int) (rdy : Bool) (ts : List Pt) (i : Int) : (fI 35 [pA most rdy (.h 0), .raw (.int .i64 i)] [.sl false f 46 ts]).get =
  bro (roomB (([] : List Pt).length + ts.length) Try.prog.types[(46 : Nat)].bytes) (bro (inR64 (i + (1 : Int))) (bro (decide ((0 : Int) ≤ i ∧ i < i + (1 : Int) ∧ i + (1 : Int) ≤ (↑(([] : List Pt) ++ ts).length : Int) ∧ (([] : List Pt) ++ ts).length ≤ (100000 : Nat))) (some (SV.agg [SV.raw (Value.int IntKind.i64 most), SV.raw (Value.bool rdy), SV.h (1 : Nat)], [SO.sl true false (46 : Nat) (delL (([] : List Pt) ++ ts) i.toNat (i + (1 : Int)).toNat)])) (none)) (bro (decide ((0 : Int) ≤ i ∧ i < IntKind.i64.wrap (i + (1 : Int)) ∧ IntKind.i64.wrap (i + (1 : Int)) ≤ (↑(([] : List Pt) ++ ts).length : Int) ∧ (([] : List Pt) ++ ts).length ≤ (100000 : Nat))) (some (SV.agg [SV.raw (Value.int IntKind.i64 most), SV.raw (Value.bool rdy), SV.h (1 : Nat)], [SO.sl true false (46 : Nat) (delL (([] : List Pt) ++ ts) i.toNat (IntKind.i64.wrap (i + (1 : Int))).toNat)])) (none))) (none) := by kernel_rfl

theorem bytes46 : Try.prog.types[(46 : Nat)].bytes ≤ 1000 := ins_bytes
theorem roomP {n : Nat} (h : n ≤ 100001) : roomB n Try.prog.types[(46 : Nat)].bytes = true := decide_eq_true (Nat.le_trans (Nat.mul_le_mul h ins_bytes) (by decide))
/-! ### Same -/
def sameP (m1 : Int) (r1 : Bool) (ts : List Pt) (m2 : Int) (r2 : Bool) (us : List Pt) : Bool := (m1 == m2) && ((r1 == r2) && (!((ts.length : Int) != (us.length : Int)) && noneP (neL ts us) ts.length))
def sameT : FnF C27 := fun args os => match args, os with
  | [.agg [.raw (.int .i64 m1), .raw (.bool r1), .h 0], .agg [.raw (.int .i64 m2), .raw (.bool r2), .h 1]], [.sl false f1 46 ts, .sl false f2 46 us] => .br (decide (ts.length ≤ 100000)) (.leaf (.raw (.bool (sameP m1 r1 ts m2 r2 us)), [])) .fail
  | [.agg [.raw (.int .i64 m1), .raw (.bool r1), .h 0], .agg [.raw (.int .i64 m2), .raw (.bool r2), .raw (.slice none 0 0)]], [.sl false f1 46 ts] => .leaf (.raw (.bool (sameP m1 r1 ts m2 r2 [])), [])
  | _, _ => .fail
theorem noneP_zero (p : Nat → Bool) : noneP p 0 = true := rfl
theorem sameT_ok : ∀ args os r, (sameT args os).get = some r → Fn0 Try.prog 25 args os r := fun args os r h => by
  unfold sameT at h
  split at h
  · rename_i m1 r1 m2 r2 f1 ts f2 us
    obtain ⟨hl, h2⟩ := Tr.get_ask.1 h
    simp only [Tr.get, Option.some.injEq] at h2
    subst h2
    change List Pt at ts us
    have hl2 : (ts : List Pt).length ≤ 100000 := of_decide_eq_true hl
    refine fnC_ok (sp := noSp) (ls := lsF) (unr := unF) (d := 10) plain mixed noSp_ok lsF_ok ?_
    refine (same_tree f1 f2 m1 m2 r1 r2 ts us).trans ?_
    unfold sameP
    rw [beq_self_eq_true]
    cases m1 == m2 with
    | false => rfl
    | true =>
      cases r1 == r2 with
      | false => rfl
      | true =>
        by_cases hn : (ts.length : Int) = (us.length : Int)
        · rw [show ((ts.length : Int) != (us.length : Int)) = false by rw [hn]; exact bne_self_eq_false' _, decide_eq_true (show ts.length ≤ 100000 ∧ us.length = ts.length from ⟨hl2, by omega⟩)]
          cases noneP (neL ts us) ts.length <;> rfl
        · rw [show ((ts.length : Int) != (us.length : Int)) = true by simpa using hn]; rfl
  · rename_i m1 r1 m2 r2 f1 ts
    simp only [Tr.get, Option.some.injEq] at h
    subst h
    change List Pt at ts
    refine fnC_ok (sp := noSp) (ls := noLs) (unr := fun _ _ => 20) (d := 10) plain mixed noSp_ok noLs_ok ?_
    refine (same_treeB f1 m1 m2 r1 r2 ts).trans ?_
    unfold sameP
    cases m1 == m2 with
    | false => rfl
    | true =>
      cases r1 == r2 with
      | false => rfl
      | true =>
        by_cases hn : ts.length = 0
        · obtain rfl : ts = [] := List.length_eq_zero_iff.1 hn
          rfl
        · have e1 : ((ts.length : Int) != ((0 : Nat) : Int)) = true := by simpa using hn
          simp only [e1, List.length_nil, bro_true, Bool.not_true, Bool.false_and, Bool.true_and]
  · cases h
/-! ### at, own, with, without -/
def atI (ts : List Pt) (id : Int) : Int := match noneP (isI ts id) ts.length with
  | true => -1
  | false => (fstP (isI ts id) ts.length : Int)
def atT : FnF C27 := fun args os => match args, os with
  | [.agg [.raw (.int .i64 most), .raw (.bool rdy), .h 0], .raw (.int .i64 id)], [.sl false f 46 ts] => .br (decide (ts.length ≤ 100000)) (.leaf (.raw (.int .i64 (atI ts id)), [])) .fail
  | _, _ => .fail
theorem atT_ok : ∀ args os r, (atT args os).get = some r → Fn0 Try.prog 28 args os r := fun args os r h => by
  unfold atT at h
  split at h
  · rename_i most rdy id f ts
    obtain ⟨hl, h2⟩ := Tr.get_ask.1 h
    simp only [Tr.get, Option.some.injEq] at h2
    subst h2
    change List Pt at ts
    have hl2 : decide ((ts : List Pt).length ≤ 100000) = true := hl
    refine fnC_ok (sp := noSp) (ls := lsF) (unr := unF) (d := 10) plain mixed noSp_ok lsF_ok ?_
    refine (at_tree f most rdy ts id).trans ?_
    unfold atI
    rw [beq_self_eq_true, hl2]
    cases noneP (isI ts id) ts.length <;> rfl
  · cases h
def ownT : FnF C27 := fun args os => match args, os with
  | [.agg [.raw (.int .i64 most), .raw (.bool rdy), .h 0]], [.sl false f 46 ts] => .br (decide (ts.length ≤ 100000)) (.leaf (.agg [.raw (.int .i64 most), .raw (.bool rdy), .h 1], [.sl true false 46 ts])) .fail
  | _, _ => .fail
theorem ownT_ok : ∀ args os r, (ownT args os).get = some r → Fn0 Try.prog 29 args os r := fun args os r h => by
  unfold ownT at h
  split at h
  · rename_i most rdy f ts
    obtain ⟨hl, h2⟩ := Tr.get_ask.1 h
    simp only [Tr.get, Option.some.injEq] at h2
    subst h2
    change List Pt at ts
    have hl2 : (ts : List Pt).length ≤ 100000 := of_decide_eq_true hl
    refine fnC_ok (sp := noSp) (ls := lsF) (unr := unF) (d := 10) plain mixed noSp_ok lsF_ok ?_
    refine (own_tree f most rdy ts).trans ?_
    rw [roomP (show ([] : List Pt).length + ts.length ≤ 100001 by simp; omega)]; rfl
  · cases h
/-- The statements' own copy: a list even where there was none. -/
def lownT : FnF C27 := fun args os => match args, os with
  | [.agg [.raw (.int .i64 most), .raw (.bool rdy), .h 0]], [.sl false f 46 ts] => .br (decide (ts.length ≤ 100000)) (.leaf (.agg [.raw (.int .i64 most), .raw (.bool rdy), .h 1], [.sl true false 46 ts])) .fail
  | [.agg [.raw (.int .i64 most), .raw (.bool rdy), .raw (.slice none 0 0)]], [] => .leaf (.agg [.raw (.int .i64 most), .raw (.bool rdy), .h 0], [.sl true false 46 ([] : List Pt)])
  | _, _ => .fail
theorem lownT_ok : ∀ args os r, (lownT args os).get = some r → Fn0 Try.prog 19 args os r := fun args os r h => by
  unfold lownT at h
  split at h
  · rename_i most rdy f ts
    obtain ⟨hl, h2⟩ := Tr.get_ask.1 h
    simp only [Tr.get, Option.some.injEq] at h2
    subst h2
    change List Pt at ts
    have hl2 : (ts : List Pt).length ≤ 100000 := of_decide_eq_true hl
    refine fnC_ok (sp := noSp) (ls := lsF) (unr := unF) (d := 10) plain mixed noSp_ok lsF_ok ?_
    refine (lown_tree f most rdy ts).trans ?_
    rw [roomP (show ([] : List Pt).length + ts.length ≤ 100001 by simp; omega)]; rfl
  · rename_i most rdy
    simp only [Tr.get, Option.some.injEq] at h
    subst h
    exact fnC_ok (sp := noSp) (ls := lsF) (unr := unF) (d := 10) plain mixed noSp_ok lsF_ok (lown_tree0 most rdy)
  · cases h
/-- Where a port goes in. -/
def inAt (ts : List Pt) (a : Int) : Nat := match noneP (isB ts a) ts.length with
  | true => ts.length
  | false => fstP (isB ts a) ts.length
def withT : FnF C27 := fun args os => match args, os with
  | [.agg [.raw (.int .i64 most), .raw (.bool rdy), .h 0], .agg [.raw (.int .i64 a), .raw (.string b), .raw (.bool c), .raw (.bool d), .raw (.bool e), .raw (.bool g)]], [.sl false f 46 ts] =>
    .br (decide (ts.length ≤ 1000)) (.leaf (.agg [.raw (.int .i64 most), .raw (.bool rdy), .h 1], [.sl true false 46 (insL ts (inAt ts a) [((a, b, c, d, e, g) : Pt)])])) .fail
  | _, _ => .fail
theorem withT_ok : ∀ args os r, (withT args os).get = some r → Fn0 Try.prog 32 args os r := fun args os r h => by
  unfold withT at h
  split at h
  · rename_i most rdy a b c d e g f ts
    obtain ⟨hl, h2⟩ := Tr.get_ask.1 h
    simp only [Tr.get, Option.some.injEq] at h2
    subst h2
    change List Pt at ts
    have hl2 : (ts : List Pt).length ≤ 1000 := of_decide_eq_true hl
    refine fnC_ok (sp := spX) (ls := lsF) (unr := unF) (d := 10) plain mixed spX_ok lsF_ok ?_
    refine (with_tree f most rdy ts a b c d e g).trans ?_
    unfold inAt
    rw [beq_self_eq_true, decide_eq_true (show ts.length ≤ 100000 by omega), roomP (show ([] : List Pt).length + ts.length ≤ 100001 by simp; omega)]
    cases hn : noneP (isB ts a) ts.length with
    | true =>
      rw [decide_eq_true (show (0 : Int) ≤ (ts.length : Int) ∧ (ts.length : Int) ≤ ((([] : List Pt) ++ ts).length : Int) ∧ (([] : List Pt) ++ ts).length ≤ 100000 by simp; omega)]
      rfl
    | false =>
      have hf := (fstP_spec hn).1
      rw [decide_eq_true (show (0 : Int) ≤ (fstP (isB ts a) ts.length : Int) ∧ (fstP (isB ts a) ts.length : Int) ≤ ((([] : List Pt) ++ ts).length : Int) ∧ (([] : List Pt) ++ ts).length ≤ 100000 by simp; omega)]
      rfl
  · cases h
def woT : FnF C27 := fun args os => match args, os with
  | [.agg [.raw (.int .i64 most), .raw (.bool rdy), .h 0], .raw (.int .i64 i)], [.sl false f 46 ts] =>
    .br (decide (ts.length ≤ 1000 ∧ 0 ≤ i ∧ i < (ts.length : Int))) (.leaf (.agg [.raw (.int .i64 most), .raw (.bool rdy), .h 1], [.sl true false 46 (delL ts i.toNat (i + 1).toNat)])) .fail
  | _, _ => .fail
theorem woT_ok : ∀ args os r, (woT args os).get = some r → Fn0 Try.prog 35 args os r := fun args os r h => by
  unfold woT at h
  split at h
  · rename_i most rdy i f ts
    obtain ⟨hl, h2⟩ := Tr.get_ask.1 h
    simp only [Tr.get, Option.some.injEq] at h2
    subst h2
    change List Pt at ts
    have hl2 : (ts : List Pt).length ≤ 1000 ∧ 0 ≤ i ∧ i < ((ts : List Pt).length : Int) := of_decide_eq_true hl
    refine fnC_ok (sp := spX) (ls := lsF) (unr := unF) (d := 10) plain mixed spX_ok lsF_ok ?_
    refine (wo_tree f most rdy ts i).trans ?_
    rw [roomP (show ([] : List Pt).length + ts.length ≤ 100001 by simp; omega), inR64_mk (r := i + 1) (by omega), decide_eq_true (show 0 ≤ i ∧ i < i + 1 ∧ i + 1 ≤ ((([] : List Pt) ++ ts).length : Int) ∧ (([] : List Pt) ++ ts).length ≤ 100000 by simp; omega)]
    rfl
  · cases h
end
end Go.Proofs.Ytgegagndihffpaa
