/-
  Chapter 18: a row of acts, one behind the other. Own work; nothing here is trusted.
-/
import Derived.Test.YtknkemjbikbhgaaCh18Don
namespace Go.Proofs.Ytknkemjbikbhgaa
open Go Go.Sx Go.RowKit
set_option maxRecDepth 1000000
set_option maxHeartbeats 8000000
set_option linter.unusedVariables false
set_option linter.unusedSimpArgs false
noncomputable section
theorem elW_at {l : List Wt} {i : Nat} (h : i < l.length) : elW l (i : Int) = l[i] := by
  show l.getD i _ = _
  rw [List.getD_eq_getElem?_getD, List.getElem?_eq_getElem h]; rfl
theorem AcQ.at {l : List Wt} (h : AcQ l) {i : Nat} (hi : i < l.length) : (0 ≤ (elW l (i : Int)).1.2.2.1 ∧ (elW l (i : Int)).1.2.2.1 < 18446744073709551616) ∧ inR64 (elW l (i : Int)).1.2.2.2 = true ∧ (bsW (elW l (i : Int))).length ≤ 1000 := by
  rw [elW_at hi]; exact ⟨(h.wd _ (List.getElem_mem hi)).1, (h.wd _ (List.getElem_mem hi)).2, h.bs _ (List.getElem_mem hi)⟩
def rD (r : Rg) (l : List Wt) : Rg := l.foldl (fun r a => dnW a r) r
theorem rD_I {r : Rg} {l : List Wt} (h : RI r) (ha : ∀ a ∈ l, (0 ≤ a.1.2.2.1 ∧ a.1.2.2.1 < 18446744073709551616) ∧ inR64 a.1.2.2.2 = true) : RI (rD r l) ∧ Fam r (rD r l) := by
  induction l generalizing r with
  | nil => exact ⟨h, .rfl'⟩
  | cons a l ih =>
    obtain ⟨g1, g2⟩ := ih (dnW_I (x := a) h (ha a List.mem_cons_self).1) (fun b hb => ha b (List.mem_cons_of_mem _ hb))
    exact ⟨g1, (dnW_0 h).trans g2⟩
theorem rD_step {r : Rg} {l : List Wt} {i : Nat} (hi : i < l.length) : rD r (l.take (i + 1)) = dnW (elW l (i : Int)) (rD r (l.take i)) := by
  unfold rD
  rw [List.take_add_one, List.getElem?_eq_getElem hi, List.foldl_append, elW_at hi]; rfl
theorem len8 {r : Rg} (h : RI r) : decide (r.qs.length ≤ (1000 : Nat)) = true ∧ decide (r.cf.length ≤ (1000 : Nat)) = true := rV_len h.v
end
end Go.Proofs.Ytknkemjbikbhgaa
