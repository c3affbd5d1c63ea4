/-
  Chapter 24: FilterPasses answers true. Own work; nothing here is trusted.
-/
import Derived.Test.YtgepgnjjhgmfnaaCh24Pas2
import Derived.Test.YtgepgnjjhgmfnaaCh24Arg
namespace Go.Proofs.Ytgepgnjjhgmfnaa
open Go Go.Sx Go.RowKit
set_option maxRecDepth 1000000
set_option maxHeartbeats 8000000
set_option linter.unusedVariables false
noncomputable section
theorem FilterPasses_walk (l0 l1 : List Value) (n : Int) (l3 : List Value) (feats : Int) (W : World) (h0 : matchS C24 W kk24 ssF l0) (h1 : matchK k6 l1) (_ : (Lit.int .i64 n).wf = true) (h3 : matchS C24 W kk24 ssR l3) (_ : (Lit.int .u64 feats).wf = true) :
    Calls Try.prog 4 #[.agg l0.toArray, .agg l1.toArray, .int .i64 n, .agg l3.toArray, .int .u64 feats] W fun e w' => e = .returned (.bool true) ∧ Below W.heap.size W w' := by
  obtain ⟨F, vs, e1, e2, e3, hm, _⟩ := open_flt h0
  obtain ⟨a, rfl, _⟩ := mac_of h1
  obtain ⟨x, us, u1, u2, _⟩ := open_frm h3
  obtain ⟨m, p, q, o, g, v⟩ := F
  obtain ⟨xd, xs, xv, xt, d⟩ := x
  refine run_views (C := C24) (args := [.agg (fltC (m, p, q, o, g, v) 0), .agg (macL a), .raw (.int .i64 n), .agg (frmC (xd, xs, xv, xt, d) (fltN (m, p, q, o, g, v) 0)), .raw (.int .u64 feats)]) (vals := [.agg l0.toArray, .agg (macV a).toArray, .int .i64 n, .agg l3.toArray, .int .u64 feats]) (vs ++ us) ?_ (fun ρ hρ => ?_)
  · rw [List.map_append, e1, u1]
    exact fnC_ok plain mixed sfW_ok noLs_ok (passes_get m p q o g v xd xs xv xt d a n feats hm.1)
  · have hA : At (vs ++ us) ρ 0 := fun i x hi => by rw [Nat.zero_add]; exact hρ i x hi
    obtain ⟨a1, a2⟩ := hA.app
    have d0 := e3 ρ 0 a1
    have d3 := u2 ρ _ a2
    rw [← e2 0] at d3
    have d1 : denL ρ (macL a) = some (macV a) := rfl
    generalize fltC (m, p, q, o, g, v) 0 = A0 at d0 ⊢
    generalize frmC (xd, xs, xv, xt, d) (fltN (m, p, q, o, g, v) 0) = A3 at d3 ⊢
    simp only [denL, den, d0, d1, d3]
    rfl
end
end Go.Proofs.Ytgepgnjjhgmfnaa
