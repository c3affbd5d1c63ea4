/-
  Chapter 18: RegsApart answers true. Own work; nothing here is trusted.
-/
import Derived.Test.YtknkemjbikbhgaaCh18Ap0
import Derived.Test.YtknkemjbikbhgaaCh18Arg
namespace Go.Proofs.Ytknkemjbikbhgaa
open Go Go.Sx Go.RowKit
set_option maxRecDepth 1000000
set_option maxHeartbeats 8000000
set_option linter.unusedVariables false
set_option linter.unusedSimpArgs false
noncomputable section
theorem ax_ll (k o : Int) (f : Bool) (ls : List Int) (l : List Wt) : (fA8ll k o f ls l).get =
  bro (decide ((60 : Int) < (↑l.length : Int))) (some (SV.raw (Value.bool true), [])) (bro (decide (l.length ≤ (1000 : Nat))) (bro (noneP (mBad l) l.length) (bro (decide ((20 : Int) < (↑ls.length : Int))) (some (SV.raw (Value.bool true), [])) (bro (roomB (([] : List Int).length + ls.length) Try.prog.types[(3 : Nat)].bytes) (bro (rng64 o) (bro (decide ((([] : List Int) ++ ls).length ≤ (1000 : Nat))) (bro (nwOk k o (([] : List Int) ++ ls) []) (bro (cdec (RI { (nwO k o (([] : List Int) ++ ls) []) with cf := [] } ∧ AcOk l)) (bro (decide (l.length = (0 : Nat))) (some (SV.raw (Value.bool true), [])) (some (SV.raw (Value.bool true), []))) (none)) (some (SV.raw (Value.bool true), []))) (none)) (none)) (none))) (some (SV.raw (Value.bool true), []))) (none)) := by kernel_rfl
theorem ax_ln (k o : Int) (f : Bool) (ls : List Int) : (fA8ln k o f ls).get =
  bro (decide ((20 : Int) < (↑ls.length : Int))) (some (SV.raw (Value.bool true), [])) (bro (roomB (([] : List Int).length + ls.length) Try.prog.types[(3 : Nat)].bytes) (bro (rng64 o) (bro (decide ((([] : List Int) ++ ls).length ≤ (1000 : Nat))) (bro (nwOk k o (([] : List Int) ++ ls) []) (some (SV.raw (Value.bool true), [])) (some (SV.raw (Value.bool true), []))) (none)) (none)) (none)) := by kernel_rfl
theorem ax_nl (k o : Int) (l : List Wt) : (fA8nl k o l).get =
  bro (decide ((60 : Int) < (↑l.length : Int))) (some (SV.raw (Value.bool true), [])) (bro (decide (l.length ≤ (1000 : Nat))) (bro (noneP (mBad l) l.length) (bro (rng64 o) (bro (nwOk k o (([] : List Int) ++ []) []) (bro (cdec (RI { (nwO k o (([] : List Int) ++ []) []) with cf := [] } ∧ AcOk l)) (bro (decide (l.length = (0 : Nat))) (some (SV.raw (Value.bool true), [])) (some (SV.raw (Value.bool true), []))) (none)) (some (SV.raw (Value.bool true), []))) (none)) (some (SV.raw (Value.bool true), []))) (none)) := by kernel_rfl
theorem ax_nn (k o : Int) : (fA8nn k o).get =
  bro (rng64 o) (bro (nwOk k o (([] : List Int) ++ []) []) (some (SV.raw (Value.bool true), [])) (some (SV.raw (Value.bool true), []))) (none) := by kernel_rfl
theorem nw_cf (k o : Int) (ls : List Int) : { nwO k o ls [] with cf := [] } = nwO k o ls [] := by unfold nwO; rw [opq_eq]; rfl
theorem apart_ll {k o : Int} {f : Bool} {ls : List Int} {l : List Wt} (ho : rng64 o = true) (hw : ∀ a ∈ l, 0 ≤ a.1.2.2.1 ∧ a.1.2.2.1 < 18446744073709551616) : (fA8ll k o f ls l).get = some (.raw (.bool true), []) := by
  rw [ax_ll, ho]
  by_cases h1 : (60 : Int) < (l.length : Int)
  · rw [decide_eq_true h1]; rfl
  rw [decide_eq_false h1, decide_eq_true (show l.length ≤ 1000 by omega)]
  cases noneP (mBad l) l.length with
  | false => rfl
  | true =>
    by_cases h2 : (20 : Int) < (ls.length : Int)
    · rw [decide_eq_true h2]; rfl
    rw [decide_eq_false h2, room3 (by simp; omega), List.nil_append, decide_eq_true (show ls.length ≤ 1000 by omega), nw_cf]
    cases hn : nwOk k o ls [] with
    | false => rfl
    | true =>
      rw [cdec_iff.2 (⟨nwR_I hn, ⟨by omega, hw⟩⟩ : RI (nwO k o ls []) ∧ AcOk l)]
      cases decide (l.length = (0 : Nat)) <;> rfl
theorem apart_ln {k o : Int} {f : Bool} {ls : List Int} (ho : rng64 o = true) : (fA8ln k o f ls).get = some (.raw (.bool true), []) := by
  rw [ax_ln, ho]
  by_cases h2 : (20 : Int) < (ls.length : Int)
  · rw [decide_eq_true h2]; rfl
  rw [decide_eq_false h2, room3 (by simp; omega), List.nil_append, decide_eq_true (show ls.length ≤ 1000 by omega)]
  cases nwOk k o ls [] <;> rfl
theorem apart_nl {k o : Int} {l : List Wt} (ho : rng64 o = true) (hw : ∀ a ∈ l, 0 ≤ a.1.2.2.1 ∧ a.1.2.2.1 < 18446744073709551616) : (fA8nl k o l).get = some (.raw (.bool true), []) := by
  rw [ax_nl, ho]
  by_cases h1 : (60 : Int) < (l.length : Int)
  · rw [decide_eq_true h1]; rfl
  rw [decide_eq_false h1, decide_eq_true (show l.length ≤ 1000 by omega)]
  cases noneP (mBad l) l.length with
  | false => rfl
  | true =>
    rw [List.nil_append, nw_cf]
    cases hn : nwOk k o [] [] with
    | false => rfl
    | true =>
      rw [cdec_iff.2 (⟨nwR_I hn, ⟨by omega, hw⟩⟩ : RI (nwO k o [] []) ∧ AcOk l)]
      cases decide (l.length = (0 : Nat)) <;> rfl
theorem apart_nn {k o : Int} (ho : rng64 o = true) : (fA8nn k o).get = some (.raw (.bool true), []) := by
  rw [ax_nn, ho]
  cases nwOk k o (([] : List Int) ++ []) [] <;> rfl
theorem RegsApart_walk (k o : Int) (v2 v3 : Value) (W : World) (_ : (Lit.int .i64 k).wf = true) (ho : (Lit.int .u64 o).wf = true) (h2 : SArg (C18 3) (fun q => matchK [.int .i64] ((C18 3).enc q)) W v2) (h3 : SsArg (C18 71) (C18 5) 4 acQ W v3) :
    Calls Try.prog 12 #[.int .i64 k, .int .u64 o, v2, v3] W fun e w' => e = .returned (.bool true) ∧ Below W.heap.size W w' := by
  have ho : rng64 o = true := rng64_iff.2 (by have := wf_u64 ho; omega)
  rcases h2 with rfl | ⟨a2, cap2, ts2, rfl, hl2, hc2, hk2, hb2⟩
  · rcases h3 with rfl | ⟨a3, cap3, ts3, rfl, hl3, hc3, hb3, hi3⟩
    · exact run_flat (C := C18) (args := [.raw (.int .i64 k), .raw (.int .u64 o), nlS, nlS]) (vals := [.int .i64 k, .int .u64 o, .slice none 0 0, .slice none 0 0]) (fnC_ok plain mixed sfA8_ok noLs_ok (apart_nn ho)) rfl
    · refine run_vws (C := C18) (args := [.raw (.int .i64 k), .raw (.int .u64 o), nlS, .h 0]) (vals := [.int .i64 k, .int .u64 o, .slice none 0 0, .slice (some a3) ts3.length cap3]) [ssVW (e := 71) (it := 5) (pos := 4) hl3 hc3 hb3 fun t ht => (hi3 t ht).2] (fnC_ok plain mixed sfA8_ok lsA8_ok (apart_nl (l := ts3) ho fun t ht => (hi3 t ht).1.1)) (fun ρ hρ => ?_)
      have d0 : ρ 0 = some (.slice (some a3) ts3.length cap3) := hρ 0 _ rfl
      simp only [denL, den, d0]; rfl
  · rcases h3 with rfl | ⟨a3, cap3, ts3, rfl, hl3, hc3, hb3, hi3⟩
    · refine run_vws (C := C18) (args := [.raw (.int .i64 k), .raw (.int .u64 o), .h 0, nlS]) (vals := [.int .i64 k, .int .u64 o, .slice (some a2) ts2.length cap2, .slice none 0 0]) [View.vw ⟨3, a2, cap2, ts2, hl2, hc2, hb2⟩] (fnC_ok plain mixed sfA8_ok noLs_ok (apart_ln (ls := ts2) ho)) (fun ρ hρ => ?_)
      have d0 : ρ 0 = some (.slice (some a2) ts2.length cap2) := hρ 0 _ rfl
      simp only [denL, den, d0]; rfl
    · refine run_vws (C := C18) (args := [.raw (.int .i64 k), .raw (.int .u64 o), .h 0, .h 1]) (vals := [.int .i64 k, .int .u64 o, .slice (some a2) ts2.length cap2, .slice (some a3) ts3.length cap3]) [View.vw ⟨3, a2, cap2, ts2, hl2, hc2, hb2⟩, ssVW (e := 71) (it := 5) (pos := 4) hl3 hc3 hb3 fun t ht => (hi3 t ht).2] (fnC_ok plain mixed sfA8_ok lsA8_ok (apart_ll (ls := ts2) (l := ts3) ho fun t ht => (hi3 t ht).1.1)) (fun ρ hρ => ?_)
      have d0 : ρ 0 = some (.slice (some a2) ts2.length cap2) := hρ 0 _ rfl
      have d1 : ρ 1 = some (.slice (some a3) ts3.length cap3) := hρ 1 _ rfl
      simp only [denL, den, d0, d1]; rfl
end
end Go.Proofs.Ytknkemjbikbhgaa
