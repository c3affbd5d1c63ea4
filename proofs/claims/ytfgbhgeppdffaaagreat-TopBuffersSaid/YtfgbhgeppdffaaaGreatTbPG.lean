/-
  TopBuffers answers true: the walk. Own work; nothing here is trusted.
-/
import Derived.Test.YtfgbhgeppdffaaaGreatTbPF
namespace Go.Proofs.YtfgbhgeppdffaaaGreat
open Go Go.Sx Go.RowKit
set_option maxRecDepth 1000000
set_option maxHeartbeats 8000000
set_option linter.unusedVariables false
noncomputable section
namespace Bu
theorem f4_fn0 (bo co : Ar) (pl : Int) (hcs : (arL co).all i64B = true) : Fn0 Tryz.prog 4 (vA bo co pl) (OB bo co) (.raw (.bool true), []) := by
  have h := Fn0.ofB (f4_ok (bo := bo) (co := co) pl hcs)
  rwa [List.drop_length] at h
theorem int_rng {x : Int} (h : matchK [.int .i64] ((CT 3).enc x)) : i64B x = true := by
  obtain ⟨y, hy, hw⟩ := h.1
  have hy : Value.int .i64 x = Value.int .i64 y := hy
  cases hy
  exact decide_eq_true (wf_i64 hw)
end Bu
theorem TopBuffers_walk (v0 : Value) (n : Int) (v2 : Value) (W : World) (h0 : SArg (CT 5) (fun q => matchK [.int .u8] ((CT 5).enc q)) W v0) (_ : (Lit.int .i64 n).wf = true) (h2 : SArg (CT 3) (fun q => matchK [.int .i64] ((CT 3).enc q)) W v2) :
    Calls Tryz.prog 4 #[v0, .int .i64 n, v2] W fun e w' => e = .returned (.bool true) ∧ Below W.heap.size W w' := by
  rcases h0 with rfl | ⟨a1, cap1, ts1, rfl, hl1, hc1, hk1, hb1⟩
  · rcases h2 with rfl | ⟨a2, cap2, ts2, rfl, hl2, hc2, hk2, hb2⟩
    · exact run_flat (C := CT) (args := [.raw (.slice none 0 0), .raw (.int .i64 n), .raw (.slice none 0 0)]) (vals := [.slice none 0 0, .int .i64 n, .slice none 0 0]) (Bu.f4_fn0 none none n rfl) rfl
    · refine run_views (C := CT) (args := [.raw (.slice none 0 0), .raw (.int .i64 n), .h 0]) (vals := [.slice none 0 0, .int .i64 n, .slice (some a2) ts2.length cap2]) [⟨3, a2, cap2, ts2, hl2, hc2, hb2⟩] (Bu.f4_fn0 none (some (false, ts2)) n (List.all_eq_true.2 fun x hx => Bu.int_rng (hk2 x hx))) (fun ρ hρ => ?_)
      simp only [denL, den, hρ 0 _ rfl]; rfl
  · rcases h2 with rfl | ⟨a2, cap2, ts2, rfl, hl2, hc2, hk2, hb2⟩
    · refine run_views (C := CT) (args := [.h 0, .raw (.int .i64 n), .raw (.slice none 0 0)]) (vals := [.slice (some a1) ts1.length cap1, .int .i64 n, .slice none 0 0]) [⟨5, a1, cap1, ts1, hl1, hc1, hb1⟩] (Bu.f4_fn0 (some (false, ts1)) none n rfl) (fun ρ hρ => ?_)
      simp only [denL, den, hρ 0 _ rfl]; rfl
    · refine run_views (C := CT) (args := [.h 0, .raw (.int .i64 n), .h 1]) (vals := [.slice (some a1) ts1.length cap1, .int .i64 n, .slice (some a2) ts2.length cap2]) [⟨5, a1, cap1, ts1, hl1, hc1, hb1⟩, ⟨3, a2, cap2, ts2, hl2, hc2, hb2⟩] (Bu.f4_fn0 (some (false, ts1)) (some (false, ts2)) n (List.all_eq_true.2 fun x hx => Bu.int_rng (hk2 x hx))) (fun ρ hρ => ?_)
      simp only [denL, den, hρ 0 _ rfl, hρ 1 _ rfl]; rfl
end
end Go.Proofs.YtfgbhgeppdffaaaGreat
