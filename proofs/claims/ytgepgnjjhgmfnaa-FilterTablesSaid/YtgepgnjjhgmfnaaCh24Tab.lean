/-
  Chapter 24: commands that tell addresses, as specifications. Own work; nothing here is trusted.
-/
import Derived.Test.YtgepgnjjhgmfnaaCh24Mk
namespace Go.Proofs.Ytgepgnjjhgmfnaa
open Go Go.Sx Go.RowKit
set_option maxRecDepth 1000000
set_option maxHeartbeats 8000000
set_option linter.unusedVariables false
set_option linter.unusedSimpArgs false
noncomputable section
/-- How many, as four bytes. -/
abbrev leB (l : List Mac) : List Int := [(l.length : Int) % 256, shrV IntKind.i64 (l.length : Int) 8 % 256, shrV IntKind.i64 (l.length : Int) 16 % 256, shrV IntKind.i64 (l.length : Int) 24 % 256]
def tabW (ol gl : List Mac) : List Int := mkA (mkA ([(1 : Int), (0 : Int)] ++ leB ol) ol ++ leB gl) gl
theorem tab_tree (g : Nat) (hg : g = 31 ∨ g = 20) (o l : Lo Mac) : (f24Tb g o l).get =
    bro (smK (vw o) ([(1 : Int), (0 : Int)] ++ leB (lo o)) ((lo o).length : Int)) (bro (roomB ((mkA ([(1 : Int), (0 : Int)] ++ leB (lo o)) (lo o)).length + (leB (lo l)).length) Try.prog.types[(5 : Nat)].bytes) (bro (smK (vw l) (mkA ([(1 : Int), (0 : Int)] ++ leB (lo o)) (lo o) ++ leB (lo l)) ((lo l).length : Int)) (some (.h (nx l (nx o 0)), [.sl true false 5 (mkA (mkA ([(1 : Int), (0 : Int)] ++ leB (lo o)) (lo o) ++ leB (lo l)) (lo l))])) none) none) none := by
  rcases hg with rfl | rfl
  · cases o <;> cases l <;> kernel_rfl
  · cases o <;> cases l <;> kernel_rfl
theorem tab_get {g : Nat} (hg : g = 31 ∨ g = 20) {o l : Lo Mac} (ho : (lo o).length ≤ 1000) (hl : (lo l).length ≤ 1000) : (f24Tb g o l).get = some (.h (nx l (nx o 0)), [.sl true false 5 (tabW (lo o) (lo l))]) := by
  have el : ∀ {x : Lo Mac}, lo (vw x) = lo x := fun {x} => by cases x <;> rfl
  have h1 : (mkA ([(1 : Int), (0 : Int)] ++ leB (lo o)) (lo o)).length = 6 + 6 * (lo o).length := by rw [List.length_append, mcsB_len]; rfl
  have h2 : (mkA ([(1 : Int), (0 : Int)] ++ leB (lo o)) (lo o) ++ leB (lo l)).length = 10 + 6 * (lo o).length := by rw [List.length_append, h1]; show _ + 4 = _; omega
  have k1 : smK (vw o) ([(1 : Int), (0 : Int)] ++ leB (lo o)) ((lo o).length : Int) = true := decide_eq_true ⟨by rw [el], by rw [el]; exact ho, by show 6 ≤ 50000; decide⟩
  have k2 : roomB ((mkA ([(1 : Int), (0 : Int)] ++ leB (lo o)) (lo o)).length + (leB (lo l)).length) Try.prog.types[(5 : Nat)].bytes = true := room5 (by rw [h1]; show _ + 4 ≤ _; omega)
  have k3 : smK (vw l) (mkA ([(1 : Int), (0 : Int)] ++ leB (lo o)) (lo o) ++ leB (lo l)) ((lo l).length : Int) = true := decide_eq_true ⟨by rw [el], by rw [el]; exact hl, by rw [h2]; omega⟩
  rw [tab_tree g hg, k1, k2, k3]
  rfl
def tabT : FnF C24 := fun args os => match args with
  | [s0, s1] => match decM s0 0 os with
    | some (o, os1) => match decM s1 (nx o 0) os1 with
      | some (g, []) => match isVw o, isVw g with
        | true, true => withL o fun ol => withL g fun gl => .br (decide (ol.length ≤ 1000 ∧ gl.length ≤ 1000)) (.leaf (.h (nx g (nx o 0)), [.sl true false 5 (tabW ol gl)])) .fail
        | _, _ => .fail
      | _ => .fail
    | _ => .fail
  | _ => .fail
theorem tabT_ok {g : Nat} (hg : g = 31 ∨ g = 20) : ∀ args os r, (tabT args os).get = some r → Fn0 Try.prog g args os r := fun args os r h => by
  unfold tabT at h
  split at h
  · rename_i s0 s1
    split at h
    · rename_i o os1 hd
      obtain ⟨rfl, rfl⟩ := decM_eq hd
      split at h
      · rename_i l hd
        obtain ⟨rfl, rfl⟩ := decM_eq hd
        split at h
        · rename_i hv hw
          rw [withL_eq, withL_eq] at h
          obtain ⟨hl, h2⟩ := Tr.get_ask.1 h
          have hl := of_decide_eq_true hl
          refine fnC_ok (sp := noSp) (ls := lsMk) (unr := unMk) (d := 10) plain mixed noSp_ok lsMk_ok ?_
          have e := (tab_get hg hl.1 hl.2).trans h2
          unfold f24Tb at e
          rw [isVw_eq hv, isVw_eq hw] at e
          rw [List.append_nil]
          exact e
        · cases h
      · cases h
    · cases h
  · cases h
end
end Go.Proofs.Ytgepgnjjhgmfnaa
