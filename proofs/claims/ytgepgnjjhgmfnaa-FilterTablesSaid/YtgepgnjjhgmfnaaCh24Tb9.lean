/-
  Chapter 24: worlds as their own base, built object by object. Own work; nothing here is trusted.
-/
import Derived.Test.YtgepgnjjhgmfnaaCh24Part
namespace Go.Sx
noncomputable section
open Go.RowKit
variable {C : Tab}
theorem Self.empty {fz : Nat → Prop} {w : World} (hf : ∀ g, fz g → g < w.heap.size) : Self (C := C) fz (fun _ => none) [] w :=
  Rel.start w _ rfl fun g hg hb => hb.elim (fun h => by have := hf g hg; omega) fun ⟨x, o, v, h, _⟩ => by cases h
theorem Self.snoc {fz fz' : Nat → Prop} {ρ : Asg} {os : List (SO C)} {w : World} {o : SO C} {v : Value} (h : Self fz ρ os w) (hlive : o.live = true) (hone : v.oneCell' = true) (hok : okObj ρ w (fun _ => True) v o)
    (hlt : ∀ g, blk v = some g → g < w.heap.size) (hsep : ∀ g, blk v = some g → ¬ Mine ρ os g) (hsep2 : o.owns = true → ∀ i O u g, os[i]? = some O → O.live = true → ρ i = some u → blk v = some g → blk u ≠ some g)
    (hnn : o.isSl = true → nnV v = true) (hfz : ∀ g, fz' g → g < w.heap.size ∧ ¬ Mine ρ os g ∧ (o.owns = true → blk v ≠ some g)) (hsub : ∀ g, fz g → fz' g) (hin : ∀ X : Own, X.fz = fz' → InnO w X o) :
    Self fz' (ρ.add os.length v) (os ++ [o]) w := by
  have hn : ρ os.length = none := h.fresh _ (Nat.le_refl _)
  have hle := Asg.le_add ρ os.length v hn
  have hup : ∀ i O, find i (numH 0 os) = some O → find i (numH 0 (os ++ [o])) = some O := fun i O hi => by
    rw [num_snoc, find_append, hi]
  have hnew : find os.length (numH 0 (os ++ [o])) = some o := by
    have := num_find (os := os ++ [o]) (m := 0) (i := os.length) (o := o) List.getElem?_concat_length
    rwa [Nat.zero_add] at this
  have R1 : Rel w (ownOf (ρ.add os.length v) (numH 0 (os ++ [o])) 0 fz') ρ (numH 0 os) os.length w :=
    { os := rfl, tape := rfl, out := rfl, size := Nat.le_refl _, old := fun _ _ _ => rfl, nbLe := Nat.zero_le _, agree := fun i hi => absurd hi (Nat.not_lt_zero _), fresh := h.fresh, one := h.one
      obj := fun i O hi => by
        obtain ⟨u, hu, ho⟩ := h.obj i O hi
        exact ⟨u, hu, ho.sub (subO.refl O) fun hown g hg => .inr ⟨i, O, u, hup i O hi, hown, hle i u hu, hg⟩⟩
      sep := h.sep, blkOk := h.blkOk
      prov := fun i O u g hi hl hu hg => .inr (.inr (.inl ⟨i, O, u, hup i O hi, hl, hle i u hu, hg⟩))
      nn := h.nn
      frz := fun g hg hb => by
        obtain ⟨f1, f2, f3⟩ := hfz g hg
        rcases hb with hb | ⟨x, O, u, h1, h2, h3, h4⟩
        · omega
        · obtain ⟨_, q⟩ := find_num h1
          rw [Nat.sub_zero, List.getElem?_append] at q
          split at q
          · rename_i hlt'
            have h3 : ρ.add os.length v x = some u := h3
            unfold Asg.add at h3
            rw [if_neg (by omega)] at h3
            exact f2 ⟨x, O, u, q, h2, h3, h4⟩
          · rename_i hge
            have hx : x - os.length = 0 := by
              have := (List.getElem?_eq_some_iff.1 q).1
              simp at this; omega
            rw [hx] at q
            cases q
            obtain rfl : x = os.length := by omega
            have h3 : ρ.add os.length v os.length = some u := h3
            rw [Asg.add_self] at h3
            cases h3
            exact f3 h2 h4
      inn := fun i O hi => (h.inn i O hi).move hsub fun g hg => rfl }
  have R2 := R1.add hone (hok.sub (subO.refl o) fun hown g hg => .inr ⟨os.length, o, v, hnew, hown, Asg.add_self _ _ _, hg⟩) hlt (fun j oj vj g hj hl hv hg hg' => by
      obtain ⟨_, q⟩ := find_num hj
      rw [Nat.sub_zero] at q
      refine ⟨?_, ?_⟩
      · cases ho : o.owns with
        | false => rfl
        | true => exact absurd hg (hsep2 ho j oj vj g q hl hv hg')
      · cases ho : oj.owns with
        | false => rfl
        | true => exact absurd ⟨j, oj, vj, q, ho, hv, hg⟩ (hsep g hg')) (fun g hg => by
      exact .inr (.inr (.inl ⟨os.length, o, v, hnew, hlive, Asg.add_self _ _ _, hg⟩))) hnn (hin _ rfl)
  have R3 := Rel.ext (hp' := numH 0 (os ++ [o])) R2 fun i => by
    rw [num_snoc, find_append, show find i ((os.length, o) :: numH 0 os) = if i = os.length then some o else find i (numH 0 os) from find_cons _ _ _ _]
    by_cases hi : i = os.length
    · rw [if_pos hi, hi, num_none (by omega)]
      show find os.length [(0 + os.length, o)] = some o
      rw [find_cons, if_pos (by omega)]
    · rw [if_neg hi]
      cases hf : find i (numH 0 os) with
      | some O => rfl
      | none =>
        show find i [(0 + os.length, o)] = none
        rw [find_cons, if_neg (by omega)]; rfl
  have e : (os ++ [o]).length = os.length + 1 := by simp
  unfold Self
  rw [e]
  exact R3
/-- The cells of a box, told otherwise. -/
theorem Self.recell {fz : Nat → Prop} {ρ : Asg} {os os' : List (SO C)} {w : World} {i : Nat} {cs cs' : List SV} {ty : TypeId} (h : Self fz ρ os w) (hi : os[i]? = some (.box cs ty)) (hc : denL ρ cs' = denL ρ cs) (hos : os' = os.set i (.box cs' ty)) : Self fz ρ os' w := by
  subst hos
  have hf := num_find (m := 0) hi
  rw [Nat.zero_add] at hf
  obtain ⟨v, hv, g, vs, rfl, h1, h2, h3⟩ := h.obj i _ hf
  have R := Rel.set h hf hv rfl rfl rfl rfl rfl rfl (fun _ _ => rfl) (o' := .box cs' ty) ⟨g, vs, rfl, h1, by rw [hc]; exact h2, h3⟩ fun g' hg' => by cases hg'; exact h1
  have hl : i < os.length := (List.getElem?_eq_some_iff.1 hi).1
  have e : (os.set i (.box cs' ty)).length = os.length := List.length_set
  have R2 : Rel w (ownOf ρ (numH 0 os) 0 fz) ρ (numH 0 (os.set i (.box cs' ty))) (os.set i (.box cs' ty)).length w := by
    rw [e]
    refine Rel.ext R fun j => ?_
    rw [find_cons]
    by_cases hj : j = i
    · rw [if_pos hj, hj]
      have := num_find (os := os.set i (.box cs' ty)) (m := 0) (i := i) (o := .box cs' ty) (by rw [List.getElem?_set_self hl])
      rwa [Nat.zero_add] at this
    · rw [if_neg hj]
      by_cases hjl : j < os.length
      · have a := num_find (os := os.set i (.box cs' ty)) (m := 0) (i := j) (o := os[j]) (by rw [List.getElem?_set_ne (fun e => hj e.symm)]; exact List.getElem?_eq_getElem hjl)
        have b := num_find (os := os) (m := 0) (i := j) (o := os[j]) (List.getElem?_eq_getElem hjl)
        rw [Nat.zero_add] at a b
        rw [a, b]
      · rw [num_none (by rw [e]; omega), num_none (by omega)]
  exact R2.self rfl
end
end Go.Sx
