/-
  Chapter 11: TokenGoes answers true. Own work; nothing here is trusted.
-/
import Derived.Test.YtiaboemkgpkcpaaCh11Tg1
import Derived.Test.YtiaboemkgpkcpaaSxC
namespace Go.Proofs.Ytiaboemkgpkcpaa
open Go Go.Sx Go.RowKit
set_option maxRecDepth 1000000
set_option maxHeartbeats 8000000
set_option linter.unusedVariables false
noncomputable section
theorem TokenGoes_walk (v0 : Value) (W : World) {p : Tk → Prop} (h0 : SArg (C11 34) p W v0) :
    Calls Try.prog 3 #[v0] W fun e w' => e = .returned (.bool true) ∧ Below W.heap.size W w' := by
  rcases h0 with rfl | ⟨a, cap, ts, rfl, hl, hc, _, hb⟩
  · exact run_flat (C := C11) (args := [.raw (.slice none 0 0)]) (vals := [.slice none 0 0]) (fnH_ok plain mixed sfG_ok lsG_ok hkG_ok tg_0) rfl
  · exact run_one (C := C11) (e := 34) (args := [.h 0]) (vals := [.slice (some a) ts.length cap]) (fnH_ok plain mixed sfG_ok lsG_ok hkG_ok (tg_get false ts)) hl hc hb rfl
end
end Go.Proofs.Ytiaboemkgpkcpaa
