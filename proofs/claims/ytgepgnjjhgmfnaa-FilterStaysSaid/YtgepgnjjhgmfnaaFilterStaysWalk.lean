/-
  Chapter 24: FilterStays answers true. Own work; nothing here is trusted.
-/
import Derived.Test.YtgepgnjjhgmfnaaCh24Sty6
import Derived.Test.YtgepgnjjhgmfnaaCh24Arg
import Derived.Test.YtgepgnjjhgmfnaaSxC
namespace Go.Proofs.Ytgepgnjjhgmfnaa
open Go Go.Sx Go.RowKit
set_option maxRecDepth 1000000
set_option maxHeartbeats 8000000
set_option linter.unusedVariables false
noncomputable section
/-- Bytes. -/
def byQ (q : (C24 33).α × Option (Addr × Nat) × List (C24 5).α) : Prop := byB q.2.2 = true
theorem byA_all {l : Bs} (h : ∀ t ∈ l, byQ t) : byA l = true := List.all_eq_true.2 h
theorem stays_fn (F : Fv) (feats : Int) {l : Bs} (h : byA l = true) : Fn0 Try.prog 3 [.agg (fltC F 0), .raw (.int .u64 feats), .h (fltN F 0)] (fltO F ++ [.ss 33 0 5 l]) (.raw (.bool true), []) := by
  obtain ⟨m, p, q, o, g, v⟩ := F
  exact fnC_ok plain mixed sfY_ok lsY_ok (stays_get m p q o g v feats l h)
theorem stays_fnN (F : Fv) (feats : Int) : Fn0 Try.prog 3 [.agg (fltC F 0), .raw (.int .u64 feats), .raw (.slice none 0 0)] (fltO F) (.raw (.bool true), []) := by
  obtain ⟨m, p, q, o, g, v⟩ := F
  exact fnC_ok plain mixed sfY_ok noLs_ok (stays_n m p q o g v feats)
theorem FilterStays_walk (l0 : List Value) (feats : Int) (v2 : Value) (W : World) (h0 : matchS C24 W kk24 ssF l0) (_ : (Lit.int .u64 feats).wf = true) (h2 : SsArg (C24 33) (C24 5) 0 byQ W v2) :
    Calls Try.prog 3 #[.agg l0.toArray, .int .u64 feats, v2] W fun e w' => e = .returned (.bool true) ∧ Below W.heap.size W w' := by
  obtain ⟨F, vs, e1, e2, e3, _⟩ := open_flt h0
  have hat : ∀ (us : List (VW C24 W)) (ρ : Asg), (∀ i v, (vs.map View.vw ++ us)[i]? = some v → ρ i = some v.val) → At vs ρ 0 := fun us ρ hρ i x hi => by
    have hlt := (List.getElem?_eq_some_iff.1 hi).1
    rw [Nat.zero_add]
    exact hρ i x.vw (by rw [List.getElem?_append_left (by rw [List.length_map]; exact hlt), List.getElem?_map, hi]; rfl)
  have hmap : (vs.map View.vw).map VW.so = fltO F := by
    rw [← e1, List.map_map]; rfl
  rcases h2 with rfl | ⟨a, cap, ts, rfl, hl, hc, hb, hi⟩
  · refine run_vws (C := C24) (args := [.agg (fltC F 0), .raw (.int .u64 feats), .raw (.slice none 0 0)]) (vals := [.agg l0.toArray, .int .u64 feats, .slice none 0 0]) (vs.map View.vw ++ []) ?_ (fun ρ hρ => ?_)
    · rw [List.append_nil, hmap]
      exact stays_fnN F feats
    · have d0 := e3 ρ 0 (hat [] ρ hρ)
      generalize fltC F 0 = A0 at d0 ⊢
      simp only [denL, den, d0]
      rfl
  · refine run_vws (C := C24) (args := [.agg (fltC F 0), .raw (.int .u64 feats), .h (fltN F 0)]) (vals := [.agg l0.toArray, .int .u64 feats, .slice (some a) ts.length cap]) (vs.map View.vw ++ [ssVW (e := 33) (it := 5) (pos := 0) hl hc hb fun t ht => (hi t ht).2]) ?_ (fun ρ hρ => ?_)
    · rw [List.map_append, hmap]
      exact stays_fn F feats (byA_all fun t ht => (hi t ht).1)
    · have d0 := e3 ρ 0 (hat _ ρ hρ)
      have d2 : ρ (fltN F 0) = some (.slice (some a) ts.length cap) := by
        rw [e2, Nat.zero_add]
        exact hρ vs.length _ (by rw [List.getElem?_append_right (by rw [List.length_map]; exact Nat.le_refl _), List.length_map, Nat.sub_self]; rfl)
      generalize fltC F 0 = A0 at d0 ⊢
      simp only [denL, den, d0, d2]
      rfl
/-- An element: bytes. -/
theorem open_bytes {H : Type} {enc : TypeId × Value → H} {w : World} {base : Nat} {spare : Nat → Bool} {held : Bool} {n : Nat} {cells : List Value} {x : DataW H × List MemPlace} (ht : Try.prog.underlying 33 = some (.slice 5)) (hs : ∀ b, spare b = true) (h : DataW.trod enc Try.prog w base spare held n 33 cells = some x) :
    ∃ q : (C24 33).α × Option (Addr × Nat) × List (C24 5).α, cells = ssCells (C24 33) 0 q ∧ byQ q ∧ InG w q := by
  obtain ⟨o, us, h1, h2, h3, h4⟩ := open_in (ci := C24 5) (d := 8) (ks := [.int .u8]) hs ht (by kernel_rfl) (by kernel_rfl) (fun l h => by
    obtain ⟨_, _, rfl, ⟨n0, rfl, _⟩, h0⟩ := matchK_cons h
    cases matchK_nil h0
    exact ⟨n0, rfl⟩) h
  refine ⟨((), o, us), h1, ?_, h2, h4⟩
  refine List.all_eq_true.2 fun y hy => ?_
  have := byt_enc (h3 y hy)
  rw [Bool.and_eq_true]
  exact ⟨decide_eq_true this.1, decide_eq_true (by omega)⟩
end
end Go.Proofs.Ytgepgnjjhgmfnaa
