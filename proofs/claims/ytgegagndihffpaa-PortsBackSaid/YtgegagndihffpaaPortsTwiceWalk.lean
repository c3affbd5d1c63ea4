/-
  Chapter 27: PortsTwice answers true. Own work; nothing here is trusted.
-/
import Derived.Test.YtgegagndihffpaaCh27Twice
import Derived.Test.YtgegagndihffpaaSxC
namespace Go.Proofs.Ytgegagndihffpaa
open Go Go.Sx Go.RowKit
set_option maxRecDepth 1000000
set_option maxHeartbeats 8000000
set_option linter.unusedVariables false
noncomputable section
/-- The shape of ports. -/
abbrev kkP : TypeId → List FK := fun _ => [.int .i64, .str, .bool, .bool, .bool, .bool]
abbrev ssP : List FS := [.k [.int .i64], .k [.bool], .sl 46]
theorem openP {W : World} {l : List Value} (h : matchS C27 W kkP ssP l) : ∃ most rdy v, l = [.int .i64 most, .bool rdy, v] ∧ SArg (C27 46) (fun q => matchK (kkP 46) ((C27 46).enc q)) W v := by
  obtain ⟨l1, l2, rfl, h1, h2⟩ := matchS_k h
  obtain ⟨l3, l4, rfl, h3, h4⟩ := matchS_k h2
  obtain ⟨v, l5, rfl, h5, h6⟩ := matchS_sl h4
  obtain rfl := matchS_nil h6
  obtain ⟨_, _, rfl, ⟨most, rfl, _⟩, g1⟩ := matchK_cons h1
  obtain rfl := matchK_nil g1
  obtain ⟨_, _, rfl, ⟨rdy, rfl⟩, g2⟩ := matchK_cons h3
  obtain rfl := matchK_nil g2
  exact ⟨most, rdy, v, rfl, h5⟩
theorem PortsTwice_walk (l : List Value) (id : Int) (nm : ByteArray) (cons : Bool) (a b c : Int) (s : ByteArray) (W : World) (h : matchS C27 W kkP ssP l) (_ : (Lit.int .i64 id).wf = true) (_ : nm.size ≤ maxLen) (ha : (Lit.int .u32 a).wf = true) (_ : (Lit.int .u16 b).wf = true) (_ : (Lit.int .u16 c).wf = true) (_ : s.size ≤ maxLen) :
    Calls Try.prog 7 #[.agg l.toArray, .int .i64 id, .string nm, .bool cons, .agg #[.int .u32 a, .int .u16 b, .int .u16 c, .string s]] W fun e w' => e = .returned (.bool true) ∧ Below W.heap.size W w' := by
  have ha := wf_u32 ha
  obtain ⟨most, rdy, v, rfl, hv⟩ := openP h
  rcases hv with rfl | ⟨ad, cap, ts, rfl, hl, hc, _, hb⟩
  · refine run_flat (C := C27) (args := [pA most rdy nlS, .raw (.int .i64 id), .raw (.string nm), .raw (.bool cons), mS a b c s]) (vals := [.agg #[.int .i64 most, .bool rdy, .slice none 0 0], .int .i64 id, .string nm, .bool cons, .agg #[.int .u32 a, .int .u16 b, .int .u16 c, .string s]]) ?_ rfl
    exact fnC_ok plain mixed sfW_ok noLs_ok (twice_run0 most rdy id nm cons a b c s ha)
  · refine run_one (C := C27) (e := 46) (args := [pA most rdy (.h 0), .raw (.int .i64 id), .raw (.string nm), .raw (.bool cons), mS a b c s]) (vals := [.agg #[.int .i64 most, .bool rdy, .slice (some ad) ts.length cap], .int .i64 id, .string nm, .bool cons, .agg #[.int .u32 a, .int .u16 b, .int .u16 c, .string s]]) ?_ hl hc hb rfl
    exact fnC_ok plain mixed sfW_ok noLs_ok (twice_run false most rdy ts id nm cons a b c s ha)
end
end Go.Proofs.Ytgegagndihffpaa
