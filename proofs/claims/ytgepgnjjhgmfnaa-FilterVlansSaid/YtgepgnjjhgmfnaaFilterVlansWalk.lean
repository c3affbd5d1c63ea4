/-
  Chapter 24: FilterVlans answers true. Own work; nothing here is trusted.
-/
import Derived.Test.YtgepgnjjhgmfnaaCh24Vl5
import Derived.Test.YtgepgnjjhgmfnaaCh24Arg
namespace Go.Proofs.Ytgepgnjjhgmfnaa
open Go Go.Sx Go.RowKit
set_option maxRecDepth 1000000
set_option maxHeartbeats 8000000
set_option linter.unusedVariables false
noncomputable section
theorem FilterVlans_walk (l0 : List Value) (a b : Int) (l3 : List Value) (W : World) (h0 : matchS C24 W kk24 ssF l0) (_ : (Lit.int .i64 a).wf = true) (_ : (Lit.int .i64 b).wf = true) (h3 : matchS C24 W kk24 ssR l3) :
    Calls Try.prog 7 #[.agg l0.toArray, .int .i64 a, .int .i64 b, .agg l3.toArray] W fun e w' => e = .returned (.bool true) ∧ Below W.heap.size W w' := by
  obtain ⟨F, vs, e1, e2, e3, hm, _⟩ := open_flt h0
  obtain ⟨x, us, u1, u2, _⟩ := open_frm h3
  obtain ⟨m, p, q, o, g, v⟩ := F
  obtain ⟨xd, xs, xv, xt, d⟩ := x
  refine run_views (C := C24) (args := [.agg (fltC (m, p, q, o, g, v) 0), .raw (.int .i64 a), .raw (.int .i64 b), .agg (frmC (xd, xs, xv, xt, d) (fltN (m, p, q, o, g, v) 0))]) (vals := [.agg l0.toArray, .int .i64 a, .int .i64 b, .agg l3.toArray]) (vs ++ us) ?_ (fun ρ hρ => ?_)
  · rw [List.map_append, e1, u1]
    exact fnC_ok plain mixed sfV_ok lsV_ok (vlans_get m p q o g v xd xs xv xt d a b)
  · have hA : At (vs ++ us) ρ 0 := fun i x hi => by rw [Nat.zero_add]; exact hρ i x hi
    obtain ⟨a1, a2⟩ := hA.app
    have d0 := e3 ρ 0 a1
    have d3 := u2 ρ _ a2
    rw [← e2 0] at d3
    generalize fltC (m, p, q, o, g, v) 0 = A0 at d0 ⊢
    generalize frmC (xd, xs, xv, xt, d) (fltN (m, p, q, o, g, v) 0) = A3 at d3 ⊢
    simp only [denL, den, d0, d3]
    rfl
end
end Go.Proofs.Ytgepgnjjhgmfnaa
