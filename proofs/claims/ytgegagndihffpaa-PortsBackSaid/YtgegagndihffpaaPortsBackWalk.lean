/-
  Chapter 27: PortsBack answers true. Own work; nothing here is trusted.
-/
import Derived.Test.YtgegagndihffpaaCh27Back4
namespace Go.Proofs.Ytgegagndihffpaa
open Go Go.Sx Go.RowKit
set_option maxRecDepth 1000000
set_option maxHeartbeats 8000000
set_option linter.unusedVariables false
noncomputable section
theorem byte_rng {a : Int} (h : matchK [.int .u8] ((C27 5).enc a)) : isB8 a := by
  obtain ⟨h1, _⟩ := h
  obtain ⟨x, hx, hw⟩ := h1
  have hx : Value.int .u8 a = Value.int .u8 x := hx
  cases hx
  have := wf_u8 hw
  exact ⟨this.1, by omega⟩
theorem PortsBack_walk (a b c : Int) (s : ByteArray) (v1 : Value) (l2 : List Value) (W : World) (ha : (Lit.int .u32 a).wf = true) (hb : (Lit.int .u16 b).wf = true) (hc : (Lit.int .u16 c).wf = true) (_ : s.size ≤ maxLen) (h1 : SArg (C27 5) (fun q => matchK [.int .u8] ((C27 5).enc q)) W v1) (h2 : matchS C27 W kkP ssP l2) :
    Calls Try.prog 4 #[.agg #[.int .u32 a, .int .u16 b, .int .u16 c, .string s], v1, .agg l2.toArray] W fun e w' => e = .returned (.bool true) ∧ Below W.heap.size W w' := by
  have ha := wf_u32 ha
  have hb := wf_u16 hb
  have hc := wf_u16 hc
  obtain ⟨most, rdy, v, rfl, hv⟩ := openP h2
  rcases h1 with rfl | ⟨ad1, cap1, ts1, rfl, hl1, hc1, hk1, hb1⟩
  · rcases hv with rfl | ⟨ad, cap, ts, rfl, hl, hcc, _, hbb⟩
    · exact run_flat (C := C27) (args := [mS a b c s, nlS, pA most rdy nlS]) (vals := [.agg #[.int .u32 a, .int .u16 b, .int .u16 c, .string s], .slice none 0 0, .agg #[.int .i64 most, .bool rdy, .slice none 0 0]]) (fnC_ok plain mixed sfB_ok noLs_ok (back00 most rdy a b c s ha hb hc)) rfl
    · exact run_one (C := C27) (e := 46) (args := [mS a b c s, nlS, pA most rdy (.h 0)]) (vals := [.agg #[.int .u32 a, .int .u16 b, .int .u16 c, .string s], .slice none 0 0, .agg #[.int .i64 most, .bool rdy, .slice (some ad) ts.length cap]]) (fnC_ok plain mixed sfB_ok lsB_ok (back01 false most rdy ts a b c s ha hb hc)) hl hcc hbb rfl
  · have hB : ∀ x ∈ ts1, isB8 x := fun x hx => byte_rng (hk1 x hx)
    rcases hv with rfl | ⟨ad, cap, ts, rfl, hl, hcc, _, hbb⟩
    · exact run_one (C := C27) (e := 5) (args := [mS a b c s, .h 0, pA most rdy nlS]) (vals := [.agg #[.int .u32 a, .int .u16 b, .int .u16 c, .string s], .slice (some ad1) ts1.length cap1, .agg #[.int .i64 most, .bool rdy, .slice none 0 0]]) (fnC_ok plain mixed sfB_ok noLs_ok (back10 false ts1 most rdy a b c s hB ha hb hc)) hl1 hc1 hb1 rfl
    · refine run_views (C := C27) (args := [mS a b c s, .h 0, pA most rdy (.h 1)]) (vals := [.agg #[.int .u32 a, .int .u16 b, .int .u16 c, .string s], .slice (some ad1) ts1.length cap1, .agg #[.int .i64 most, .bool rdy, .slice (some ad) ts.length cap]]) [⟨5, ad1, cap1, ts1, hl1, hc1, hb1⟩, ⟨46, ad, cap, ts, hl, hcc, hbb⟩] (fnC_ok plain mixed sfB_ok lsB_ok (back11 false ts1 false most rdy ts a b c s hB ha hb hc)) (fun ρ hρ => ?_)
      have e0 := hρ 0 _ rfl
      have e1 := hρ 1 _ rfl
      simp only [denL, den, e0, e1]
      rfl
end
end Go.Proofs.Ytgegagndihffpaa
