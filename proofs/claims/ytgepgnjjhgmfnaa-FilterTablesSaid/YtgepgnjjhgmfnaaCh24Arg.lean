/-
  Chapter 24: addresses, filters, frames that are handed over. Own work; nothing here is trusted.
-/
import Derived.Test.YtgepgnjjhgmfnaaCh24Base
import Derived.Test.YtgepgnjjhgmfnaaSxC
namespace Go.Proofs.Ytgepgnjjhgmfnaa
open Go Go.Sx Go.RowKit
set_option maxRecDepth 1000000
set_option maxHeartbeats 8000000
set_option linter.unusedVariables false
noncomputable section
/-- An array of plain cells, opened. -/
theorem open_array {P : Program} {H : Type} {enc : TypeId × Value → H} {w : World} {base : Nat} {spare : Nat → Bool} {held : Bool} {r : Reach} {b0 : Nat} {t e : TypeId} {n d : Nat} {ks : List FK} {v : Value} {y : DataW H} {ps : List MemPlace}
    (ht : P.underlying t = some (.array n e)) (hk : kindsOf P d t = some ks) (hval : Value.okWide P w r b0 t v) (hd : DataW.Trod enc P w base spare held t v y ps) : ∃ l : List Value, v = .agg l.toArray ∧ matchK ks l := by
  simp only [Value.okWide, ht] at hval
  obtain ⟨cs, rfl, _⟩ := hval
  obtain ⟨fuel, hf⟩ := hd
  exact ⟨cs.toList, by simp, kindsOf_trod d t ks hk fuel _ _ hf⟩
abbrev k6 : List FK := [.int .u8, .int .u8, .int .u8, .int .u8, .int .u8, .int .u8]
abbrev kk24 : TypeId → List FK := fun e => match e with
  | 22 => k6
  | 5 => [.int .u8]
  | _ => [.int .i64]
abbrev ssF : List FS := [.k k6, .k [.bool], .k [.bool], .sl 22, .sl 22, .sl 3]
abbrev ssR : List FS := [.k k6, .k k6, .k [.int .i64], .k [.int .u16], .sl 5]
abbrev macV (m : Mac) : List Value := [.int .u8 m.1, .int .u8 m.2.1, .int .u8 m.2.2.1, .int .u8 m.2.2.2.1, .int .u8 m.2.2.2.2.1, .int .u8 m.2.2.2.2.2]
def macR (m : Mac) : Prop := (0 ≤ m.1 ∧ m.1 ≤ 255) ∧ (0 ≤ m.2.1 ∧ m.2.1 ≤ 255) ∧ (0 ≤ m.2.2.1 ∧ m.2.2.1 ≤ 255) ∧ (0 ≤ m.2.2.2.1 ∧ m.2.2.2.1 ≤ 255) ∧ (0 ≤ m.2.2.2.2.1 ∧ m.2.2.2.2.1 ≤ 255) ∧ 0 ≤ m.2.2.2.2.2 ∧ m.2.2.2.2.2 ≤ 255
theorem mac_of {l : List Value} (h : matchK k6 l) : ∃ m : Mac, l = macV m ∧ macR m := by
  obtain ⟨_, _, rfl, ⟨x0, rfl, w0⟩, g1⟩ := matchK_cons h
  obtain ⟨_, _, rfl, ⟨x1, rfl, w1⟩, g2⟩ := matchK_cons g1
  obtain ⟨_, _, rfl, ⟨x2, rfl, w2⟩, g3⟩ := matchK_cons g2
  obtain ⟨_, _, rfl, ⟨x3, rfl, w3⟩, g4⟩ := matchK_cons g3
  obtain ⟨_, _, rfl, ⟨x4, rfl, w4⟩, g5⟩ := matchK_cons g4
  obtain ⟨_, _, rfl, ⟨x5, rfl, w5⟩, g6⟩ := matchK_cons g5
  obtain rfl := matchK_nil g6
  exact ⟨(x0, x1, x2, x3, x4, x5), rfl, wf_u8 w0, wf_u8 w1, wf_u8 w2, wf_u8 w3, wf_u8 w4, wf_u8 w5⟩
theorem mac_enc {m : Mac} (h : matchK k6 ((C24 22).enc m)) : macR m := by
  obtain ⟨m', h1, h2⟩ := mac_of h
  have h1 : macV m = macV m' := h1
  simp only [macV, List.cons.injEq, Value.int.injEq, true_and, and_true] at h1
  obtain ⟨a0, a1, a2, a3, a4, a5⟩ := h1
  unfold macR at h2 ⊢
  rw [a0, a1, a2, a3, a4, a5]
  exact h2
theorem byt_enc {x : Int} (h : matchK [.int .u8] ((C24 5).enc x)) : 0 ≤ x ∧ x ≤ 255 := by
  obtain ⟨h1, _⟩ := h
  obtain ⟨y, hy, hw⟩ := h1
  have hy : Value.int .u8 x = Value.int .u8 y := hy
  cases hy
  exact wf_u8 hw
theorem int_enc {x : Int} (h : matchK [.int .i64] ((C24 3).enc x)) : (Lit.int .i64 x).wf = true := by
  obtain ⟨h1, _⟩ := h
  obtain ⟨y, hy, hw⟩ := h1
  have hy : Value.int .i64 x = Value.int .i64 y := hy
  cases hy
  exact hw
variable {W : World}
/-- The views that stand from a number on. -/
def At (vs : List (View C24 W)) (ρ : Asg) (k : Nat) : Prop := ∀ i x, vs[i]? = some x → ρ (k + i) = some x.val
theorem At.app {vs us : List (View C24 W)} {ρ : Asg} {k : Nat} (h : At (vs ++ us) ρ k) : At vs ρ k ∧ At us ρ (k + vs.length) :=
  ⟨fun i x hi => h i x (by rw [List.getElem?_append_left (List.getElem?_eq_some_iff.1 hi).1]; exact hi),
    fun i x hi => by rw [Nat.add_assoc]; exact h (vs.length + i) x (by rw [List.getElem?_append_right (by omega), Nat.add_sub_cancel_left]; exact hi)⟩
theorem loM {K : Mac → Prop} {v : Value} (h : SArg (C24 22) K W v) : ∃ (o : Lo Mac) (vs : List (View C24 W)), vs.map View.so = obM o ∧ (∀ k, nx o k = k + vs.length) ∧ (∀ ρ k, At vs ρ k → den ρ (hS o k) = some v) ∧ (∀ x ∈ lo o, K x) := by
  rcases h with rfl | ⟨a, cap, ts, rfl, hl, hc, hk, hb⟩
  · exact ⟨none, [], rfl, fun _ => rfl, fun _ _ _ => rfl, fun x hx => by cases hx⟩
  · exact ⟨some (false, false, ts), [⟨22, a, cap, ts, hl, hc, hb⟩], rfl, fun _ => rfl, fun ρ k h => h 0 _ rfl, hk⟩
theorem loI {K : Int → Prop} {v : Value} (h : SArg (C24 3) K W v) : ∃ (o : Lo Int) (vs : List (View C24 W)), vs.map View.so = obI o ∧ (∀ k, nx o k = k + vs.length) ∧ (∀ ρ k, At vs ρ k → den ρ (hS o k) = some v) ∧ (∀ x ∈ lo o, K x) := by
  rcases h with rfl | ⟨a, cap, ts, rfl, hl, hc, hk, hb⟩
  · exact ⟨none, [], rfl, fun _ => rfl, fun _ _ _ => rfl, fun x hx => by cases hx⟩
  · exact ⟨some (false, false, ts), [⟨3, a, cap, ts, hl, hc, hb⟩], rfl, fun _ => rfl, fun ρ k h => h 0 _ rfl, hk⟩
theorem loB {K : Int → Prop} {v : Value} (h : SArg (C24 5) K W v) : ∃ (o : Lo Int) (vs : List (View C24 W)), vs.map View.so = obB o ∧ (∀ k, nx o k = k + vs.length) ∧ (∀ ρ k, At vs ρ k → den ρ (hS o k) = some v) ∧ (∀ x ∈ lo o, K x) ∧ (o = none ∨ ∃ f l, o = some (false, f, l)) := by
  rcases h with rfl | ⟨a, cap, ts, rfl, hl, hc, hk, hb⟩
  · exact ⟨none, [], rfl, fun _ => rfl, fun _ _ _ => rfl, (fun x hx => by cases hx), .inl rfl⟩
  · exact ⟨some (false, false, ts), [⟨5, a, cap, ts, hl, hc, hb⟩], rfl, fun _ => rfl, fun ρ k h => h 0 _ rfl, hk, .inr ⟨_, _, rfl⟩⟩
theorem den6 {ρ : Asg} {m : Mac} {r : List SV} {l : List Value} (h : denL ρ r = some l) : denL ρ (macL m ++ r) = some (macV m ++ l) := by
  simp only [macL, List.cons_append, List.nil_append, denL, den, h]
  rfl
/-- A filter that is handed over. -/
theorem open_flt {l : List Value} (h : matchS C24 W kk24 ssF l) : ∃ (F : Fv) (vs : List (View C24 W)), vs.map View.so = fltO F ∧ (∀ k, fltN F k = k + vs.length) ∧ (∀ ρ k, At vs ρ k → denL ρ (fltC F k) = some l) ∧
    macR F.1 ∧ (∀ x ∈ lo F.2.2.2.1, macR x) ∧ (∀ x ∈ lo F.2.2.2.2.1, macR x) ∧ ∀ x ∈ lo F.2.2.2.2.2, (Lit.int .i64 x).wf = true := by
  obtain ⟨l1, l2, rfl, h1, h⟩ := matchS_k h
  obtain ⟨l3, l4, rfl, h3, h⟩ := matchS_k h
  obtain ⟨l5, l6, rfl, h5, h⟩ := matchS_k h
  obtain ⟨v1, l7, rfl, s1, h⟩ := matchS_sl h
  obtain ⟨v2, l8, rfl, s2, h⟩ := matchS_sl h
  obtain ⟨v3, l9, rfl, s3, h⟩ := matchS_sl h
  obtain rfl := matchS_nil h
  obtain ⟨m, rfl, hm⟩ := mac_of h1
  obtain ⟨_, _, rfl, ⟨p, rfl⟩, g⟩ := matchK_cons h3
  obtain rfl := matchK_nil g
  obtain ⟨_, _, rfl, ⟨q, rfl⟩, g⟩ := matchK_cons h5
  obtain rfl := matchK_nil g
  obtain ⟨o, vo, o1, o2, o3, o4⟩ := loM s1
  obtain ⟨g, vg, g1, g2, g3, g4⟩ := loM s2
  obtain ⟨v, vv, v1, v2, v3, v4⟩ := loI s3
  refine ⟨(m, p, q, o, g, v), vo ++ (vg ++ vv), ?_, fun k => ?_, fun ρ k hA => ?_, hm, fun x hx => mac_enc (o4 x hx), fun x hx => mac_enc (g4 x hx), fun x hx => int_enc (v4 x hx)⟩
  · show _ = obM o ++ (obM g ++ obI v)
    rw [List.map_append, List.map_append, o1, g1, v1]
  · show nx v (nx g (nx o k)) = _
    rw [v2, g2, o2, List.length_append, List.length_append]
    omega
  · obtain ⟨a1, hA⟩ := hA.app
    obtain ⟨a2, a3⟩ := hA.app
    refine den6 (m := m) (r := [.raw (.bool p), .raw (.bool q), hS o k, hS g (nx o k), hS v (nx g (nx o k))]) ?_
    rw [g2, o2]
    simp only [denL, den, o3 ρ k a1, g3 ρ _ a2, v3 ρ _ a3]
    rfl
/-- A frame that is handed over. -/
theorem open_frm {l : List Value} (h : matchS C24 W kk24 ssR l) : ∃ (x : Rv) (vs : List (View C24 W)), vs.map View.so = obB x.2.2.2.2 ∧ (∀ ρ k, At vs ρ k → denL ρ (frmC x k) = some l) ∧
    macR x.1 ∧ macR x.2.1 ∧ (Lit.int .i64 x.2.2.1).wf = true ∧ (Lit.int .u16 x.2.2.2.1).wf = true ∧ ∀ y ∈ lo x.2.2.2.2, 0 ≤ y ∧ y ≤ 255 := by
  obtain ⟨l1, l2, rfl, h1, h⟩ := matchS_k h
  obtain ⟨l3, l4, rfl, h3, h⟩ := matchS_k h
  obtain ⟨l5, l6, rfl, h5, h⟩ := matchS_k h
  obtain ⟨l7, l8, rfl, h7, h⟩ := matchS_k h
  obtain ⟨v1, l9, rfl, s1, h⟩ := matchS_sl h
  obtain rfl := matchS_nil h
  obtain ⟨m, rfl, hm⟩ := mac_of h1
  obtain ⟨m2, rfl, hm2⟩ := mac_of h3
  obtain ⟨_, _, rfl, ⟨p, rfl, wp⟩, g⟩ := matchK_cons h5
  obtain rfl := matchK_nil g
  obtain ⟨_, _, rfl, ⟨q, rfl, wq⟩, g⟩ := matchK_cons h7
  obtain rfl := matchK_nil g
  obtain ⟨o, vo, o1, o2, o3, o4, _⟩ := loB s1
  refine ⟨(m, m2, p, q, o), vo, o1, fun ρ k hA => ?_, hm, hm2, wp, wq, fun x hx => byt_enc (o4 x hx)⟩
  refine den6 (m := m) (r := macL m2 ++ [.raw (.int .i64 p), .raw (.int .u16 q), hS o k]) (den6 ?_)
  simp only [denL, den, o3 ρ k hA]
  rfl
end
end Go.Proofs.Ytgepgnjjhgmfnaa
