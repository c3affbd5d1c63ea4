/-
  Chapter 18: acts that were handed over, opened. Own work; nothing here is trusted.
-/
import Derived.Test.YtknkemjbikbhgaaCh18Law
import Derived.Test.YtknkemjbikbhgaaSxC
namespace Go.Proofs.Ytknkemjbikbhgaa
open Go Go.Sx Go.RowKit
set_option maxRecDepth 1000000
set_option maxHeartbeats 8000000
set_option linter.unusedVariables false
set_option linter.unusedSimpArgs false
noncomputable section
noncomputable def fs71 : Array Field := match Try.prog.underlying 71 with
  | some (.struct fs) => fs
  | _ => #[]
theorem und71 : Try.prog.underlying 71 = some (.struct fs71) := by kernel_rfl
theorem und44 : Try.prog.underlying 44 = some (.slice 5) := by kernel_rfl
noncomputable def fld71 (i : Nat) : Option (Nat × Nat) := match fs71[i]? with
  | some f => some (f.type, f.offset)
  | none => none
theorem fld71_0 : fld71 0 = some (3, 0) := by kernel_rfl
theorem fld71_1 : fld71 1 = some (3, 1) := by kernel_rfl
theorem fld71_2 : fld71 2 = some (22, 2) := by kernel_rfl
theorem fld71_3 : fld71 3 = some (3, 3) := by kernel_rfl
theorem fld71_4 : fld71 4 = some (44, 4) := by kernel_rfl
theorem fld71_get {i t o : Nat} (h : fld71 i = some (t, o)) : ∃ f, fs71[i]? = some f ∧ f.type = t ∧ f.offset = o := by
  unfold fld71 at h
  split at h
  · rename_i f hf
    simp only [Option.some.injEq, Prod.mk.injEq] at h
    exact ⟨f, hf, h.1, h.2⟩
  · cases h
theorem ce71 : Try.prog.cellsOf 71 = 5 := by kernel_rfl
theorem ce3 : Try.prog.cellsOf 3 = 1 := by kernel_rfl
theorem ce22 : Try.prog.cellsOf 22 = 1 := by kernel_rfl
theorem ce44 : Try.prog.cellsOf 44 = 1 := by kernel_rfl
/-- What is known of an act that was handed over. -/
def acQ (q : (Int × Int × Int × Int) × Option (Addr × Nat) × List Int) : Prop := (0 ≤ q.1.2.2.1 ∧ q.1.2.2.1 < 18446744073709551616) ∧ (inR64 q.1.2.2.2 = true ∧ (∀ b ∈ q.2.2, 0 ≤ b ∧ b < 256))
theorem five {α : Type} : ∀ {l : List α}, l.length = 5 → ∃ a b c d e, l = [a, b, c, d, e]
  | [a, b, c, d, e], _ => ⟨a, b, c, d, e, rfl⟩
theorem open_act {H : Type} {enc : TypeId × Value → H} {w : World} {base : Nat} {spare : Nat → Bool} {held : Bool} {n : Nat} {cells : List Value} {x : DataW H × List MemPlace} (hs : ∀ b, spare b = true) (h : DataW.trod enc Try.prog w base spare held n 71 cells = some x) :
    ∃ q : (C18 71).α × Option (Addr × Nat) × List (C18 5).α, cells = ssCells (C18 71) 4 q ∧ acQ q ∧ InG w q := by
  obtain ⟨xs, m, _, _, hl, hlen, hff⟩ := DataW.trod_struct und71 h
  rw [ce71] at hl
  obtain ⟨v0, v1, v2, v3, v4, rfl⟩ := five hl
  have part : ∀ i t o, fld71 i = some (t, o) → ∃ y, DataW.trod enc Try.prog w base spare held m t ((([v0, v1, v2, v3, v4] : List Value).drop o).take (Try.prog.cellsOf t)) = some y := fun i t o hi => by
    obtain ⟨f, h1, h2, h3⟩ := fld71_get hi
    have h4 := hff i f h1
    rw [h2, h3] at h4
    have hlt : i < xs.length := by rw [hlen]; exact (Array.getElem?_eq_some_iff.1 h1).1
    exact ⟨_, h4.trans (List.getElem?_eq_getElem hlt)⟩
  obtain ⟨y0, g0⟩ := part 0 3 0 fld71_0
  obtain ⟨y1, g1⟩ := part 1 3 1 fld71_1
  obtain ⟨y2, g2⟩ := part 2 22 2 fld71_2
  obtain ⟨y3, g3⟩ := part 3 3 3 fld71_3
  obtain ⟨y4, g4⟩ := part 4 44 4 fld71_4
  rw [ce3] at g0 g1 g3
  rw [ce22] at g2
  rw [ce44] at g4
  have k3 : kindsOf Try.prog 8 3 = some [.int .i64] := by kernel_rfl
  have k22 : kindsOf Try.prog 8 22 = some [.int .u64] := by kernel_rfl
  have m0 : matchK [.int .i64] [v0] := kindsOf_trod 8 3 _ k3 m _ _ g0
  have m1 : matchK [.int .i64] [v1] := kindsOf_trod 8 3 _ k3 m _ _ g1
  have m2 : matchK [.int .u64] [v2] := kindsOf_trod 8 22 _ k22 m _ _ g2
  have m3 : matchK [.int .i64] [v3] := kindsOf_trod 8 3 _ k3 m _ _ g3
  obtain ⟨_, _, e0, ⟨n0, rfl, w0⟩, _⟩ := matchK_cons m0
  obtain ⟨_, _, e1, ⟨n1, rfl, w1⟩, _⟩ := matchK_cons m1
  obtain ⟨_, _, e2, ⟨n2, rfl, w2⟩, _⟩ := matchK_cons m2
  obtain ⟨_, _, e3, ⟨n3, rfl, w3⟩, _⟩ := matchK_cons m3
  cases e0; cases e1; cases e2; cases e3
  obtain ⟨o, us, h1, h2, h3, h4⟩ := open_in (ci := C18 5) (d := 8) (ks := [.int .u8]) hs und44 (by kernel_rfl) (by kernel_rfl) (fun l h => by
    obtain ⟨_, _, rfl, ⟨n0, rfl, _⟩, h0⟩ := matchK_cons h
    cases matchK_nil h0
    exact ⟨n0, rfl⟩) g4
  have h1 : [v4] = [ssV o us.length] := h1
  cases h1
  refine ⟨((n0, n1, n2, n3), o, us), rfl, ⟨(by have := wf_u64 w2; show 0 ≤ n2 ∧ n2 < 18446744073709551616; omega), ?_, fun b hb => ?_⟩, h2, h4⟩
  · have := wf_i64 w3
    exact inR64_mk (by omega)
  · have hk := h3 b hb
    obtain ⟨_, _, e, ⟨m, rfl, wm⟩, _⟩ := matchK_cons hk
    have e : [Value.int .u8 b] = _ := e
    cases e
    have := wf_u8 wm
    omega
theorem open_actF {H : Type} {enc : TypeId × Value → H} {w : World} {base : Nat} {spare : Nat → Bool} {held : Bool} {n : Nat} {cells : List Value} {x : DataW H × List MemPlace} (_ : Try.prog.underlying 60 = some (.slice 71)) (hs : ∀ b, spare b = true) (h : DataW.trod enc Try.prog w base spare held n 71 cells = some x) :
    ∃ q : (C18 71).α × Option (Addr × Nat) × List (C18 5).α, cells = ssCells (C18 71) 4 q ∧ acQ q ∧ InG w q := open_act hs h
end
end Go.Proofs.Ytknkemjbikbhgaa
