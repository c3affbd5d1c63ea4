/-
  Chapter 24: FilterTables answers true. Own work; nothing here is trusted.
-/
import Derived.Test.YtgepgnjjhgmfnaaCh24Tb8
import Derived.Test.YtgepgnjjhgmfnaaCh24Arg
namespace Go.Proofs.Ytgepgnjjhgmfnaa
open Go Go.Sx Go.RowKit
set_option maxRecDepth 1000000
set_option maxHeartbeats 8000000
set_option linter.unusedVariables false
set_option linter.unusedSimpArgs false
noncomputable section
theorem ft_a (m : Mac) (p q : Bool) (a b : Option (List Mac)) (c d : Option (List Int)) : Tr.follow [false, true, true, true, true, true] (fT6 m p q a b c d) =
    some ([false, !liF (m, p, q, a.getD [], b.getD [], c.getD []), true, true, true, true], (.raw (.bool true), [])) := by
  cases a <;> cases b <;> cases c <;> cases d <;> kernel_rfl
theorem ft_b (m : Mac) (p q : Bool) (a b : Option (List Mac)) (c : Option (List Int)) (d : List Int) : Tr.follow [false, false, false, false, true] (fT6 m p q a b c (some d)) =
    some ([false, !liF (m, p, q, a.getD [], b.getD [], c.getD []), false, false, decide ((60 : Int) < (d.length : Int))], (.raw (.bool true), [])) := by
  cases a <;> cases b <;> cases c <;> kernel_rfl
theorem ft_c (m : Mac) (p q : Bool) (a b : Option (List Mac)) (c d : Option (List Int)) : Tr.follow [false, false, false, false, false, true, true, true, true] (fT6 m p q a b c d) =
    some ([false, !liF (m, p, q, a.getD [], b.getD [], c.getD []), false, false, decide ((60 : Int) < ((d.getD []).length : Int)), decide ((a.getD []).length ≤ 1000 ∧ (b.getD []).length ≤ 1000), true, true,
      tbG m p q (a.getD []) (b.getD []) (d.getD []) mac0 false false (tabW (a.getD []) (b.getD [])) [0, 0, bzN p] [0, 1, bzN q] (1 :: 1 :: mcB m)], (.raw (.bool true), [])) := by
  cases a <;> cases b <;> cases c <;> cases d <;> kernel_rfl
theorem tables_get (m : Mac) (p q : Bool) (a b : Option (List Mac)) (c d : Option (List Int)) (hm : macR m) (ha : ∀ x ∈ a.getD [], macR x) (hb : ∀ x ∈ b.getD [], macR x) : (fT6 m p q a b c d).get = some (.raw (.bool true), []) := by
  cases hli : liF (m, p, q, a.getD [], b.getD [], c.getD []) with
  | false => exact Tr.follow_get (ft_a m p q a b c d) (by rw [hli]; rfl)
  | true =>
    by_cases hd : (d.getD []).length ≤ 60
    · have hl := hli
      unfold liF at hl
      simp only [Bool.and_eq_true, decide_eq_true_eq] at hl
      obtain ⟨h1, h2, h3⟩ := hl
      have k1 := decide_eq_false (show ¬ (60 : Int) < ((d.getD []).length : Int) by omega)
      have k2 := decide_eq_true (show (a.getD []).length ≤ 1000 ∧ (b.getD []).length ≤ 1000 by omega)
      have k3 := tbG_mk (m := m) (p := p) (q := q) (ol := a.getD []) (gl := b.getD []) (vl := d.getD []) (by omega) (by omega) hd (byB_tab ha hb) (byB_cons (by decide) (byB_cons (by decide) (byB_mac hm)))
      exact Tr.follow_get (ft_c m p q a b c d) (by rw [hli, k1, k2, k3]; rfl)
    · cases d with
      | none => exact absurd (Nat.zero_le _) hd
      | some d =>
        have hd : ¬ d.length ≤ 60 := hd
        exact Tr.follow_get (ft_b m p q a b c d) (by rw [hli, decide_eq_true (show (60 : Int) < (d.length : Int) by omega)]; rfl)
theorem view_flags {W : World} {vs : List (View C24 W)} {F : Fv} (h : vs.map View.so = fltO F) : ∃ (a b : Option (List Mac)) (c : Option (List Int)), F = fvL F.1 F.2.1 F.2.2.1 a b c := by
  have hO : ∀ O ∈ fltO F, ∃ e ts, O = .sl false false e ts := fun O hO => by
    rw [← h] at hO
    obtain ⟨v, _, rfl⟩ := List.mem_map.1 hO
    exact ⟨_, _, rfl⟩
  obtain ⟨m, p, q, o, g, v⟩ := F
  have ho : ∃ a, o = vwL a := by
    cases o with
    | none => exact ⟨none, rfl⟩
    | some x =>
      obtain ⟨x, y, l⟩ := x
      obtain ⟨e, ts, he⟩ := hO (.sl x y 22 l) (List.mem_append_left _ List.mem_cons_self)
      cases he
      exact ⟨some l, rfl⟩
  have hg : ∃ a, g = vwL a := by
    cases g with
    | none => exact ⟨none, rfl⟩
    | some x =>
      obtain ⟨x, y, l⟩ := x
      obtain ⟨e, ts, he⟩ := hO (.sl x y 22 l) (List.mem_append_right _ (List.mem_append_left _ List.mem_cons_self))
      cases he
      exact ⟨some l, rfl⟩
  have hv : ∃ a, v = vwL a := by
    cases v with
    | none => exact ⟨none, rfl⟩
    | some x =>
      obtain ⟨x, y, l⟩ := x
      obtain ⟨e, ts, he⟩ := hO (.sl x y 3 l) (List.mem_append_right _ (List.mem_append_right _ List.mem_cons_self))
      cases he
      exact ⟨some l, rfl⟩
  obtain ⟨a, rfl⟩ := ho
  obtain ⟨b, rfl⟩ := hg
  obtain ⟨c, rfl⟩ := hv
  exact ⟨a, b, c, rfl⟩
theorem lo_vw {α : Type} (a : Option (List α)) : lo (vwL a) = a.getD [] := by cases a <;> rfl
theorem FilterTables_walk (l0 : List Value) (v1 : Value) (W : World) {pp : Int → Prop} (h0 : matchS C24 W kk24 ssF l0) (h1 : SArg (C24 3) pp W v1) :
    Calls Try.prog 6 #[.agg l0.toArray, v1] W fun e w' => e = .returned (.bool true) ∧ Below W.heap.size W w' := by
  obtain ⟨F, vs, e1, e2, e3, hm, ho, hg, _⟩ := open_flt h0
  obtain ⟨a, b, c, hF⟩ := view_flags e1
  generalize F.1 = m at hF hm
  generalize F.2.1 = p at hF
  generalize F.2.2.1 = q at hF
  subst hF
  have ho : ∀ x ∈ a.getD [], macR x := fun x hx => ho x (by show x ∈ lo (vwL a); rw [lo_vw]; exact hx)
  have hg : ∀ x ∈ b.getD [], macR x := fun x hx => hg x (by show x ∈ lo (vwL b); rw [lo_vw]; exact hx)
  rcases h1 with rfl | ⟨ad, cap, ts, rfl, hl, hc, _, hb⟩
  · refine run_views (C := C24) (args := [.agg (fltC (fvL m p q a b c) 0), .raw (.slice none 0 0)]) (vals := [.agg l0.toArray, .slice none 0 0]) vs ?_ (fun ρ hρ => ?_)
    · rw [e1]
      have := fnH_ok plain mixed sfT3_ok noLs_ok hkT_ok (tables_get m p q a b c none hm ho hg)
      rw [show fltO (fvL m p q a b c) ++ obI (vwL none) = fltO (fvL m p q a b c) from List.append_nil _] at this
      exact this
    · have hA : At vs ρ 0 := fun i x hi => by rw [Nat.zero_add]; exact hρ i x hi
      have d0 := e3 ρ 0 hA
      generalize fltC (fvL m p q a b c) 0 = A0 at d0 ⊢
      simp only [denL, den, d0]
      rfl
  · refine run_views (C := C24) (args := [.agg (fltC (fvL m p q a b c) 0), .h (fltN (fvL m p q a b c) 0)]) (vals := [.agg l0.toArray, .slice (some ad) ts.length cap]) (vs ++ [⟨3, ad, cap, ts, hl, hc, hb⟩]) ?_ (fun ρ hρ => ?_)
    · rw [List.map_append, e1]
      exact fnH_ok plain mixed sfT3_ok noLs_ok hkT_ok (tables_get m p q a b c (some ts) hm ho hg)
    · have hA : At (vs ++ [⟨3, ad, cap, ts, hl, hc, hb⟩]) ρ 0 := fun i x hi => by rw [Nat.zero_add]; exact hρ i x hi
      obtain ⟨a1, a2⟩ := hA.app
      have d0 := e3 ρ 0 a1
      have d1 : ρ (fltN (fvL m p q a b c) 0) = some (.slice (some ad) ts.length cap) := by
        rw [e2 0]
        have := a2 0 _ rfl
        rw [Nat.add_zero] at this
        exact this
      generalize fltC (fvL m p q a b c) 0 = A0 at d0 ⊢
      simp only [denL, den, d0, d1]
      rfl
end
end Go.Proofs.Ytgepgnjjhgmfnaa
