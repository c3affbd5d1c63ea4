/-
  Chapter 24: FilterPasses, what it stands on. Own work; nothing here is trusted.
-/
import Derived.Test.YtgepgnjjhgmfnaaCh24Ctrl
namespace Go.Proofs.Ytgepgnjjhgmfnaa
open Go Go.Sx Go.RowKit
set_option maxRecDepth 1000000
set_option maxHeartbeats 8000000
set_option linter.unusedVariables false
noncomputable section
def livT : FnF C24 := fun args os => match args, os with
  | [], [] => .leaf (.raw (.bool true), [])
  | _, _ => .fail
theorem livT_ok : ∀ args os r, (livT args os).get = some r → Fn0 Try.prog 9 args os r := fun args os r h => by
  unfold livT at h
  split at h
  · simp only [Tr.get, Option.some.injEq] at h; subst h; exact lives_ok
  · cases h

theorem pk_n (n : Int) : Tr.follow [false, false, true, true] (fnC C24 Try.prog noSp noLs (fun _ _ => 20) 10 18 [.raw (.int .i64 n), .raw (.int .i64 4096)] []) =
  some ([false,
  false,
  decide (n.tmod (4096 : Int) < (0 : Int)),
  inR64 (n.tmod (4096 : Int) + (4096 : Int))],
  (SV.raw (Value.int IntKind.i64 (n.tmod (4096 : Int) + (4096 : Int))), [])) := by kernel_rfl
theorem pk_p (n : Int) : Tr.follow [false, false, false] (fnC C24 Try.prog noSp noLs (fun _ _ => 20) 10 18 [.raw (.int .i64 n), .raw (.int .i64 4096)] []) =
  some ([false,
  false,
  decide (n.tmod (4096 : Int) < (0 : Int))],
  (SV.raw (Value.int IntKind.i64 (n.tmod (4096 : Int))), [])) := by kernel_rfl
/-- A number of a Vlan, of any. -/
def pkN (n : Int) : Int := if n.tmod 4096 < 0 then n.tmod 4096 + 4096 else n.tmod 4096
theorem pkN_in (n : Int) : 0 ≤ pkN n ∧ pkN n < 4096 := by
  unfold pkN
  have h1 := Int.tmod_lt_of_pos n (show (0 : Int) < 4096 by decide)
  have h2 : -4096 < n.tmod 4096 := by
    exact Int.lt_tmod_of_pos n (show (0 : Int) < 4096 by decide)
  split <;> omega
def pickT : FnF C24 := fun args os => match args, os with
  | [.raw (.int .i64 n), .raw (.int .i64 m)], [] => .br (decide (m = 4096)) (.leaf (.raw (.int .i64 (pkN n)), [])) .fail
  | _, _ => .fail
theorem pickT_ok : ∀ args os r, (pickT args os).get = some r → Fn0 Try.prog 18 args os r := fun args os r h => by
  unfold pickT at h
  split at h
  · rename_i n m
    obtain ⟨hm, h2⟩ := Tr.get_ask.1 h
    have hm : m = 4096 := of_decide_eq_true hm
    subst hm
    simp only [Tr.get, Option.some.injEq] at h2
    subst h2
    refine fnC_ok (sp := noSp) (ls := noLs) (unr := fun _ _ => 20) (d := 10) plain mixed noSp_ok noLs_ok ?_
    have hi := pkN_in n
    unfold pkN at hi ⊢
    by_cases ht : n.tmod 4096 < 0
    · rw [if_pos ht] at hi ⊢
      have k1 := decide_eq_true ht
      have k2 : inR64 (n.tmod 4096 + 4096) = true := inR64_mk (by omega)
      exact Tr.follow_get (pk_n n) (by simp only [k1, k2])
    · rw [if_neg ht]
      have k1 := decide_eq_false ht
      exact Tr.follow_get (pk_p n) (by simp only [k1])
  · cases h
def sfW : SpecT C24 := addS 9 (seeS livT) (addS 10 (seeS lightT) (addS 11 (seeS chkT) (addS 12 (seeS ctrlT) (addS 13 (seeS ownT) (addS 16 (seeS passT) (addS 18 (seeS pickT) noSp))))))
theorem sfW_ok : SpecTOk Try.prog sfW := addS_ok (seeS_ok livT_ok) (addS_ok (seeS_ok lightT_ok) (addS_ok (seeS_ok chkT_ok) (addS_ok (seeS_ok ctrlT_ok) (addS_ok (seeS_ok ownT_ok) (addS_ok (seeS_ok passT_ok) (addS_ok (seeS_ok pickT_ok) noSp_ok))))))
abbrev fW := fnC C24 Try.prog sfW noLs (fun _ _ => 20) 10
abbrev fW4 (F : Fv) (a : Mac) (n : Int) (x : Rv) (feats : Int) := fW 4 [.agg (fltC F 0), .agg (macL a), .raw (.int .i64 n), .agg (frmC x (fltN F 0)), .raw (.int .u64 feats)] (fltO F ++ obB x.2.2.2.2)
end
end Go.Proofs.Ytgepgnjjhgmfnaa
