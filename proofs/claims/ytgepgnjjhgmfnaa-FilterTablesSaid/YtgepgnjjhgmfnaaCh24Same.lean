/-
  Chapter 24: filters that are the same. Own work; nothing here is trusted.
-/
import Derived.Test.YtgepgnjjhgmfnaaCh24Same0
namespace Go.Proofs.Ytgepgnjjhgmfnaa
open Go Go.Sx Go.RowKit
set_option maxRecDepth 1000000
set_option maxHeartbeats 8000000
set_option linter.unusedVariables false
set_option linter.unusedSimpArgs false
noncomputable section
def eqF (F G : Fp) : Bool := sel (eqM F.1 G.1) (sel (F.2.1 == G.2.1) (sel (F.2.2.1 == G.2.2.1) (sel (eqL F.2.2.2.1 G.2.2.2.1) (sel (eqL F.2.2.2.2.1 G.2.2.2.2.1) (eqL F.2.2.2.2.2 G.2.2.2.2.2) false) false) false) false) false
theorem eqF_self (F : Fp) : eqF F F = true := by
  unfold eqF
  rw [eqM_iff.2 rfl, beq_self_eq_true, beq_self_eq_true, eqL_self, eqL_self, eqL_self]; rfl
theorem eqF_iff {F G : Fp} : eqF F G = true ↔ F = G := by
  refine ⟨fun h => ?_, fun h => by rw [h]; exact eqF_self G⟩
  obtain ⟨m, p, q, o, g, v⟩ := F
  obtain ⟨m', p', q', o', g', v'⟩ := G
  unfold eqF at h
  simp only at h
  cases h1 : eqM m m' with
  | false => rw [h1] at h; cases h
  | true =>
  cases h2 : p == p' with
  | false => rw [h1, h2] at h; cases h
  | true =>
  cases h3 : q == q' with
  | false => rw [h1, h2, h3] at h; cases h
  | true =>
  cases h4 : eqL o o' with
  | false => rw [h1, h2, h3, h4] at h; cases h
  | true =>
  cases h5 : eqL g g' with
  | false => rw [h1, h2, h3, h4, h5] at h; cases h
  | true =>
    rw [h1, h2, h3, h4, h5] at h
    have h6 : eqL v v' = true := h
    rw [eqM_iff.1 h1, eq_of_beq h2, eq_of_beq h3, of_decide_eq_true h4, of_decide_eq_true h5, of_decide_eq_true h6]
theorem same_tree (m : Mac) (p q : Bool) (o g : Lo Mac) (v : Lo Int) (m' : Mac) (p' q' : Bool) (o' g' : Lo Mac) (v' : Lo Int) : (fSm 26 (m, p, q, o, g, v) (m', p', q', o', g', v')).get =
  bro (eqM m m') (bro (p == p') (bro (q == q') (bro (decide ((lo o).length ≤ (100000 : Nat))) (bro (eqL (lo o) (lo o')) (bro (decide ((lo g).length ≤ (100000 : Nat))) (bro (eqL (lo g) (lo g')) (bro (decide ((lo v).length ≤ (100000 : Nat))) (some (SV.raw (Value.bool (eqL (lo v) (lo v'))), [])) (none)) (some (SV.raw (Value.bool false), []))) (none)) (some (SV.raw (Value.bool false), []))) (none)) (some (SV.raw (Value.bool false), []))) (some (SV.raw (Value.bool false), []))) (some (SV.raw (Value.bool false), [])) := by
  cases o <;> cases g <;> cases v <;> cases o' <;> cases g' <;> cases v' <;> kernel_rfl
theorem filt_tree (m : Mac) (p q : Bool) (o g : Lo Mac) (v : Lo Int) (m' : Mac) (p' q' : Bool) (o' g' : Lo Mac) (v' : Lo Int) : (fSm 15 (m, p, q, o, g, v) (m', p', q', o', g', v')).get =
  bro (eqM m m') (bro (p == p') (bro (q == q') (bro (decide ((lo o).length ≤ (100000 : Nat))) (bro (eqL (lo o) (lo o')) (bro (decide ((lo g).length ≤ (100000 : Nat))) (bro (eqL (lo g) (lo g')) (bro (decide ((lo v).length ≤ (100000 : Nat))) (some (SV.raw (Value.bool (eqL (lo v) (lo v'))), [])) (none)) (some (SV.raw (Value.bool false), []))) (none)) (some (SV.raw (Value.bool false), []))) (none)) (some (SV.raw (Value.bool false), []))) (some (SV.raw (Value.bool false), []))) (some (SV.raw (Value.bool false), [])) := by
  cases o <;> cases g <;> cases v <;> cases o' <;> cases g' <;> cases v' <;> kernel_rfl
def onFF (args : List SV) (os : List (SO C24)) (k : Fp → Fp → Tr (SV × List (SO C24))) : Tr (SV × List (SO C24)) := match args with
  | [.agg cs, .agg ds] => match decF cs 0 os with
    | some (((x0, x1, x2, x3, x4, x5), p, q, o, g, v), os1) => match decF ds (fltN ((x0, x1, x2, x3, x4, x5), p, q, o, g, v) 0) os1 with
      | some (((y0, y1, y2, y3, y4, y5), p', q', o', g', v'), []) => withL o fun ol => withL g fun gl => withL v fun vl => withL o' fun ol' => withL g' fun gl' => withL v' fun vl' => k ((x0, x1, x2, x3, x4, x5), p, q, ol, gl, vl) ((y0, y1, y2, y3, y4, y5), p', q', ol', gl', vl')
      | _ => .fail
    | _ => .fail
  | _ => .fail
theorem onFF_eq {args : List SV} {os : List (SO C24)} {k : Fp → Fp → Tr (SV × List (SO C24))} {r : SV × List (SO C24)} (h : (onFF args os k).get = some r) : ∃ F G, args = [.agg (fltC F 0), .agg (fltC G (fltN F 0))] ∧ os = fltO F ++ fltO G ∧ (k (plF F) (plF G)).get = some r := by
  unfold onFF at h
  split at h
  · split at h
    · rename_i hF
      obtain ⟨rfl, rfl⟩ := decF_eq hF
      split at h
      · rename_i hG
        obtain ⟨rfl, rfl⟩ := decF_eq hG
        simp only [withL_eq] at h
        exact ⟨_, _, rfl, by rw [List.append_nil], h⟩
      · cases h
    · cases h
  · cases h
def sameT : FnF C24 := fun args os => onFF args os fun F G => .br (smF F) (.leaf (.raw (.bool (eqF F G)), [])) .fail
theorem sameT_ok : ∀ args os r, (sameT args os).get = some r → Fn0 Try.prog 26 args os r := fun args os r h => by
  obtain ⟨F, G, rfl, rfl, h1⟩ := onFF_eq h
  clear h
  obtain ⟨m, p, q, o, g, v⟩ := F
  obtain ⟨m', p', q', o', g', v'⟩ := G
  obtain ⟨hs, h2⟩ := Tr.get_ask.1 h1
  have hs : (lo o).length ≤ 100000 ∧ (lo g).length ≤ 100000 ∧ (lo v).length ≤ 100000 := of_decide_eq_true hs
  refine fnC_ok (sp := sfQ) (ls := noLs) (unr := fun _ _ => 20) (d := 10) plain mixed sfQ_ok noLs_ok (Eq.trans ?_ h2)
  have hT := same_tree m p q o g v m' p' q' o' g' v'
  rw [decide_eq_true hs.1, decide_eq_true hs.2.1, decide_eq_true hs.2.2, bro_true, bro_true, bro_true] at hT
  refine hT.trans ?_
  show _ = some (SV.raw (Value.bool (sel (eqM m m') (sel (p == p') (sel (q == q') (sel (eqL (lo o) (lo o')) (sel (eqL (lo g) (lo g')) (eqL (lo v) (lo v')) false) false) false) false) false)), [])
  rw [broB, broB, broB, broB, broB]
theorem filtT_ok : ∀ args os r, (sameT args os).get = some r → Fn0 Try.prog 15 args os r := fun args os r h => by
  obtain ⟨F, G, rfl, rfl, h1⟩ := onFF_eq h
  clear h
  obtain ⟨m, p, q, o, g, v⟩ := F
  obtain ⟨m', p', q', o', g', v'⟩ := G
  obtain ⟨hs, h2⟩ := Tr.get_ask.1 h1
  have hs : (lo o).length ≤ 100000 ∧ (lo g).length ≤ 100000 ∧ (lo v).length ≤ 100000 := of_decide_eq_true hs
  refine fnC_ok (sp := sfQ) (ls := noLs) (unr := fun _ _ => 20) (d := 10) plain mixed sfQ_ok noLs_ok (Eq.trans ?_ h2)
  have hT := filt_tree m p q o g v m' p' q' o' g' v'
  rw [decide_eq_true hs.1, decide_eq_true hs.2.1, decide_eq_true hs.2.2, bro_true, bro_true, bro_true] at hT
  refine hT.trans ?_
  show _ = some (SV.raw (Value.bool (sel (eqM m m') (sel (p == p') (sel (q == q') (sel (eqL (lo o) (lo o')) (sel (eqL (lo g) (lo g')) (eqL (lo v) (lo v')) false) false) false) false) false)), [])
  rw [broB, broB, broB, broB, broB]
end
end Go.Proofs.Ytgepgnjjhgmfnaa
