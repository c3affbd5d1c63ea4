/-
  Chapter 11: TokenApart answers true. Own work; nothing here is trusted.
-/
import Derived.Test.YtiaboemkgpkcpaaCh11Ap2
import Derived.Test.YtiaboemkgpkcpaaSxC
namespace Go.Proofs.Ytiaboemkgpkcpaa
open Go Go.Sx Go.RowKit
set_option maxRecDepth 1000000
set_option maxHeartbeats 8000000
set_option linter.unusedVariables false
noncomputable section
theorem TokenApart_walk (v0 : Value) (i : Int) (W : World) {p : Tk → Prop} (h0 : SArg (C11 34) p W v0) (_ : (Lit.int .i64 i).wf = true) :
    Calls Try.prog 4 #[v0, .int .i64 i] W fun e w' => e = .returned (.bool true) ∧ Below W.heap.size W w' := by
  rcases h0 with rfl | ⟨a, cap, ts, rfl, hl, hc, _, hb⟩
  · exact run_flat (C := C11) (args := [.raw (.slice none 0 0), .raw (.int .i64 i)]) (vals := [.slice none 0 0, .int .i64 i]) (fnC_ok plain mixed sfA_ok lsA_ok (ap_nil i)) rfl
  · exact run_one (C := C11) (e := 34) (args := [.h 0, .raw (.int .i64 i)]) (vals := [.slice (some a) ts.length cap, .int .i64 i]) (fnC_ok plain mixed sfA_ok lsA_ok (apart_get false ts i)) hl hc hb rfl
end
end Go.Proofs.Ytiaboemkgpkcpaa
