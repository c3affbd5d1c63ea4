/-
  Chapter 24: FilterTables, what it meets at its first loop. Own work; nothing here is trusted.
-/
import Derived.Test.YtgepgnjjhgmfnaaCh24Tb9
import Derived.Test.YtgepgnjjhgmfnaaCh24TbM
namespace Go.Proofs.Ytgepgnjjhgmfnaa
open Go Go.Sx Go.RowKit
set_option maxRecDepth 1000000
set_option maxHeartbeats 8000000
set_option linter.unusedVariables false
set_option linter.unusedSimpArgs false
noncomputable section
theorem rel_sl {B : World} {X : Own} {ρ : Asg} {hp : Hp C24} {n : Nat} {w : World} (R : Rel B X ρ hp n w) {i : Nat} {own fl : Bool} {e : TypeId} {ts : List (C24 e).α} (hi : find i hp = some (.sl own fl e ts)) :
    ∃ ad cap, ρ i = some (.slice (some ad) ts.length cap) ∧ ts.length ≤ cap ∧ ad.block < w.heap.size ∧ ∀ j x, ((C24 e).flat ts)[j]? = some x → w.cell? (ad.add j) = some x := by
  obtain ⟨v, hv, a, cap, rfl, h1, h2, h3⟩ := R.obj i _ hi
  have hnn := R.nn i _ _ hi rfl hv
  cases a with
  | none => cases hnn
  | some ad =>
    refine ⟨ad, cap, hv, h1, R.blkOk i _ _ _ hi rfl hv rfl, fun j x hx => ?_⟩
    cases own with
    | true =>
      obtain ⟨a', e1, h4⟩ := ownsL.cell h3 j x hx
      cases e1; exact h4
    | false =>
      obtain ⟨a', e1, h4⟩ := h3 j x hx
      cases e1; exact h4
/-- A view that may be nil, as a plain value. -/
def VwG (e : TypeId) (w : World) (D : Nat → Prop) (o : Lo (C24 e).α) (t : Sv) : Prop := match o with
  | none => t = (none, 0, 0)
  | some x => x.1 = false ∧ x.2.1 = false ∧ ∃ ad cap, t = (some ad, x.2.2.length, cap) ∧ x.2.2.length ≤ cap ∧ ad.block < w.heap.size ∧ D ad.block ∧ ∀ j y, ((C24 e).flat x.2.2)[j]? = some y → w.cell? (ad.add j) = some y
theorem VwG.len {e : TypeId} {w : World} {D : Nat → Prop} {o : Lo (C24 e).α} {t : Sv} (h : VwG e w D o t) : t.2.1 = (lo o).length := by
  cases o with
  | none => have h : t = (none, 0, 0) := h; rw [h]; rfl
  | some x => obtain ⟨_, _, ad, cap, rfl, _⟩ := h; rfl
theorem VwG.stay {e : TypeId} {w w' : World} {D : Nat → Prop} {o : Lo (C24 e).α} {t : Sv} (h : VwG e w D o t) (hs : w.heap.size ≤ w'.heap.size) (ho : ∀ b, b < w.heap.size → D b → w'.heap[b]? = w.heap[b]?) : VwG e w' D o t := by
  cases o with
  | none => exact h
  | some x =>
    obtain ⟨h1, h2, ad, cap, h3, h4, h5, h6, h7⟩ := h
    refine ⟨h1, h2, ad, cap, h3, h4, by omega, h6, fun j y hy => ?_⟩
    rw [World.cell?_of_block (w := w) (a := ad.add j) (by rw [Addr.add_block]; exact ho _ h5 h6)]
    exact h7 j y hy
def obG (e : TypeId) (o : Lo (C24 e).α) : List (SO C24) := match o with
  | none => []
  | some x => [.sl x.1 x.2.1 e x.2.2]
theorem den_lt {ρ : Asg} {v : Value} {n : Nat} : ∀ i, i < n → (ρ.add n v) i = ρ i := fun i hi => by
  unfold Asg.add; rw [if_neg (by omega)]
theorem add_view {e : TypeId} {fz : Nat → Prop} {ρ : Asg} {os : List (SO C24)} {w : World} {D : Nat → Prop} {o : Lo (C24 e).α} {t : Sv} (h : Self fz ρ os w) (hv : VwG e w D o t) (hD : ∀ b, D b → ¬ Mine ρ os b) :
    ∃ ρ', Self fz ρ' (os ++ obG e o) w ∧ (∀ i, i < os.length → ρ' i = ρ i) ∧ den ρ' (hS o os.length) = some (svV t) ∧ ∀ g, Mine ρ' (os ++ obG e o) g → Mine ρ os g := by
  cases o with
  | none =>
    have hv : t = (none, 0, 0) := hv
    subst hv
    refine ⟨ρ, ?_, fun _ _ => rfl, rfl, fun g hg => ?_⟩
    · show Self fz ρ (os ++ []) w
      rw [List.append_nil]; exact h
    · have hg : Mine ρ (os ++ []) g := hg
      rw [List.append_nil] at hg; exact hg
  | some x =>
    obtain ⟨f1, f2, ts⟩ := x
    obtain ⟨h1, h2, ad, cap, rfl, h4, h5, h6, h7⟩ := hv
    have h1 : f1 = false := h1
    have h2 : f2 = false := h2
    subst h1 h2
    refine ⟨ρ.add os.length (.slice (some ad) ts.length cap), ?_, den_lt, Asg.add_self _ _ _, fun g hg => ?_⟩
    · exact h.snoc rfl rfl ⟨some ad, cap, rfl, h4, nofun, fun j y hy => ⟨ad, rfl, h7 j y hy⟩⟩ (fun g hg => by cases hg; exact h5) (fun g hg => by cases hg; exact hD _ h6) (fun h => by cases h) (fun _ => rfl)
        (fun g hg => ⟨(h.fzHeap hg).1, fun hm => h.frz g hg (.inr (mine_wr.2 hm)), fun h => by cases h⟩) (fun g hg => hg) (fun X _ => trivial)
    · obtain ⟨i, O, u, g1, g2, g3, g4⟩ := hg
      rw [List.getElem?_append] at g1
      split at g1
      · rename_i hlt
        rw [den_lt i hlt] at g3
        exact ⟨i, O, u, g1, g2, g3, g4⟩
      · have hx : i - os.length = 0 := by
          have := (List.getElem?_eq_some_iff.1 g1).1
          simp [obG] at this; omega
        rw [hx] at g1
        cases g1
        cases g2
def seeM (s : SV) (hp : Hp C24) : Option (Lo Mac) := match s with
  | .raw (.slice none 0 0) => some none
  | .h i => match find i hp with
    | some (.sl false false 22 ts) => some (some (false, false, ts))
    | _ => none
  | _ => none
theorem seeM_spec {B : World} {X : Own} {ρ : Asg} {hp : Hp C24} {n : Nat} {w : World} (R : Rel B X ρ hp n w) {D : Nat → Prop} (hD : ∀ i own fl e' ts u g, find i hp = some (.sl own fl e' ts) → ρ i = some u → blk u = some g → D g)
    {s : SV} {o : Lo Mac} (h : seeM s hp = some o) : ∃ t, den ρ s = some (svV t) ∧ VwG 22 w D o t := by
  unfold seeM at h
  split at h
  · cases h; exact ⟨(none, 0, 0), rfl, rfl⟩
  · rename_i i
    split at h
    · rename_i ts hi
      cases h
      obtain ⟨ad, cap, h1, h2, h3, h4⟩ := rel_sl R hi
      exact ⟨(some ad, ts.length, cap), h1, rfl, rfl, ad, cap, rfl, h2, h3, hD i _ _ _ _ _ _ hi h1 rfl, h4⟩
    · cases h
  · cases h
def seeI (s : SV) (hp : Hp C24) : Option (Lo Int) := match s with
  | .raw (.slice none 0 0) => some none
  | .h i => match find i hp with
    | some (.sl false false 3 ts) => some (some (false, false, ts))
    | _ => none
  | _ => none
theorem seeI_spec {B : World} {X : Own} {ρ : Asg} {hp : Hp C24} {n : Nat} {w : World} (R : Rel B X ρ hp n w) {D : Nat → Prop} (hD : ∀ i own fl e' ts u g, find i hp = some (.sl own fl e' ts) → ρ i = some u → blk u = some g → D g)
    {s : SV} {o : Lo Int} (h : seeI s hp = some o) : ∃ t, den ρ s = some (svV t) ∧ VwG 3 w D o t := by
  unfold seeI at h
  split at h
  · cases h; exact ⟨(none, 0, 0), rfl, rfl⟩
  · rename_i i
    split at h
    · rename_i ts hi
      cases h
      obtain ⟨ad, cap, h1, h2, h3, h4⟩ := rel_sl R hi
      exact ⟨(some ad, ts.length, cap), h1, rfl, rfl, ad, cap, rfl, h2, h3, hD i _ _ _ _ _ _ hi h1 rfl, h4⟩
    · cases h
  · cases h
end
end Go.Proofs.Ytgepgnjjhgmfnaa
