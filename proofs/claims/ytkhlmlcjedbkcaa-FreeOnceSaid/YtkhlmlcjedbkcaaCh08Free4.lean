/-
  Chapter 8: FreeOrders as a tree. Own work; nothing here is trusted.
-/
import Derived.Test.YtkhlmlcjedbkcaaCh08Free3
namespace Go.Proofs.Ytkhlmlcjedbkcaa
open Go Go.Sx Go.RowKit
set_option maxRecDepth 1000000
set_option maxHeartbeats 8000000
set_option linter.unusedVariables false
set_option linter.unusedSimpArgs false
noncomputable section
def lv8T : FnF C8 := fun args os => match args, os with
  | [], [] => .leaf (.raw (.bool true), [])
  | _, _ => .fail
theorem lv8T_ok : ∀ args os r, (lv8T args os).get = some r → Fn0 Try.prog 6 args os r := fun args os r h => by
  unfold lv8T at h
  split at h
  · simp only [Tr.get, Option.some.injEq] at h
    subst h
    exact Fn0.const (vals0 := []) (by kernel_rfl) lives08_walk fun _ => rfl
  · cases h
def pk8T : FnF C8 := fun args os => match args, os with
  | [.raw (.int .i64 n), .raw (.int .i64 m)], [] => .br (decide (1 ≤ m ∧ m ≤ 4611686018427387904)) (.leaf (.raw (.int .i64 (n % m)), [])) .fail
  | _, _ => .fail
theorem pk8_form (n m : Int) : (fnC C8 Try.prog noSp noLs (fun _ _ => 20) 10 7 [.raw (.int .i64 n), .raw (.int .i64 m)] []).get =
  bro (decide (m < 1)) (some (.raw (.int .i64 0), [])) (bro (m == 0) none (bro (decide (n.tmod m < 0)) (bro (inR64 (n.tmod m + m)) (some (.raw (.int .i64 (n.tmod m + m)), [])) (some (.raw (.int .i64 (IntKind.i64.wrap (n.tmod m + m))), []))) (some (.raw (.int .i64 (n.tmod m)), [])))) := by kernel_rfl
theorem pk8T_ok : ∀ args os r, (pk8T args os).get = some r → Fn0 Try.prog 7 args os r := fun args os r h => by
  unfold pk8T at h
  split at h
  · rename_i n m
    obtain ⟨h1, h2⟩ := Tr.get_ask.1 h
    have h1 := of_decide_eq_true h1
    refine fnC_ok (sp := noSp) (ls := noLs) (unr := fun _ _ => 20) (d := 10) plain mixed noSp_ok noLs_ok ?_
    rw [pk8_form, ← h2, decide_eq_false (show ¬ m < 1 by omega), beq_eq_false_iff_ne.2 (show m ≠ 0 by omega)]
    have t1 := Int.emod_nonneg n (show m ≠ 0 by omega)
    have t2 := Int.emod_lt_of_pos n (show 0 < m by omega)
    have t3 := Int.tmod_lt_of_pos n (show 0 < m by omega)
    have t4 : -m < n.tmod m := by
      have := Int.tmod_lt_of_pos (-n) (show 0 < m by omega)
      rw [Int.neg_tmod] at this; omega
    have t0 : n.tmod m = n % m ∨ n.tmod m = n % m - m := by
      have h := Int.tmod_eq_emod (a := n) (b := m)
      by_cases hc : 0 ≤ n ∨ m ∣ n
      · rw [if_pos hc] at h; left; simpa using h
      · rw [if_neg hc] at h; right; rw [h]; omega
    have t5 : n.tmod m < 0 → n.tmod m + m = n % m := fun h => by omega
    have t6 : ¬ n.tmod m < 0 → n.tmod m = n % m := fun h => by omega
    by_cases hn : n.tmod m < 0
    · rw [decide_eq_true hn, inR64_mk (by omega), ← t5 hn]; rfl
    · rw [decide_eq_false hn, ← t6 hn]; rfl
  · cases h
def tkL (ts : List Int) (n : Int) : List Int := ts.take n.toNat
def drL (ts : List Int) (n : Int) : List Int := ts.drop n.toNat
def okF (size : Int) (ts : List Int) : Bool := decide (1 ≤ size ∧ size ≤ 300 ∧ (ts.length : Int) ≤ size) && (inAll size ts && decide ts.Nodup)
theorem okF_iff {size : Int} {ts : List Int} : okF size ts = true ↔ (1 ≤ size ∧ size ≤ 300 ∧ (ts.length : Int) ≤ size) ∧ (∀ x ∈ ts, 0 ≤ x ∧ x < size) ∧ ts.Nodup := by
  unfold okF inAll inS
  rw [Bool.and_eq_true, Bool.and_eq_true, List.all_eq_true, decide_eq_true_eq, decide_eq_true_eq]
  refine and_congr Iff.rfl (and_congr ?_ Iff.rfl)
  exact ⟨fun h x hx => of_decide_eq_true (h x hx), fun h x hx => decide_eq_true (h x hx)⟩
def bmL (size : Int) (ts : List Int) : List Int := addL ts (noBits ((size + 63).tdiv 64).toNat)
def bmT : FnF C8 := fun args os => match args, os with
  | [.agg [.raw (.int .i64 size), .h 0]], [.sl false full 3 ts] => .br (okF size ts) (.leaf (.tup [.h 1, .raw (.bool true)], [.sl true true 45 (bmL size ts)])) .fail
  | _, _ => .fail
def chkT : FnF C8 := fun args os => match args, os with
  | [.agg [.raw (.int .i64 size), .h 0]], [.sl false full 3 ts] => .br (okF size ts) (.leaf (.raw (.int .i64 0), [])) .fail
  | _, _ => .fail
def takeT : FnF C8 := fun args os => match args, os with
  | [.agg [.raw (.int .i64 size), .h 0], .raw (.int .i64 n)], [.sl false full 3 ts] => .br (okF size ts) (.br (decide (1 ≤ n ∧ n ≤ (ts.length : Int))) (.leaf (.tup [.h 1, .agg [.raw (.int .i64 size), .h 2], .raw (.int .i64 0)], [.sl true false 3 (tkL ts n), .sl true false 3 (drL ts n)])) .fail) .fail
  | _, _ => .fail
abbrev un8 (g b : Nat) : Nat := match g, b with
  | 8, 0 => 0 | 10, 0 => 0 | 10, 2 => 0 | 11, 0 => 0 | 17, 0 => 0 | 18, 0 => 0 | _, _ => 20
def sfB : SpecT C8 := addS 17 (viewS bmT) noSp
def sfC : SpecT C8 := addS 15 (viewS chkT) noSp
abbrev fB := fnC C8 Try.prog noSp l8 un8 10
abbrev fC := fnC C8 Try.prog sfB l8 un8 10
abbrev fT := fnC C8 Try.prog sfC l8 un8 10
end
end Go.Proofs.Ytkhlmlcjedbkcaa
