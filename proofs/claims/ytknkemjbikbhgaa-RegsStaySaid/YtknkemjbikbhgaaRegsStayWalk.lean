/-
  Chapter 18: RegsStay answers true. Own work; nothing here is trusted.
-/
import Derived.Test.YtknkemjbikbhgaaCh18Sy0
import Derived.Test.YtknkemjbikbhgaaCh18Arg
namespace Go.Proofs.Ytknkemjbikbhgaa
open Go Go.Sx Go.RowKit
set_option maxRecDepth 1000000
set_option maxHeartbeats 8000000
set_option linter.unusedVariables false
set_option linter.unusedSimpArgs false
noncomputable section
abbrev z20 : List Int := List.replicate (Int.toNat (20 : Int)) (0 : Int)
/-! ### the ways, put together -/
abbrev T8 : Option (SV × List (SO C18)) := some (.raw (.bool true), [])
abbrev bq {α : Type} (l : List α) : Bool := decide (l.length ≤ (1000 : Nat))
abbrev stQ (l : List Wt) (r : Rg) : Option (SV × List (SO C18)) := bro (cdec (RI r ∧ AcQ l)) (bro (decide (l.length = 0)) T8 T8) none
abbrev preV (k o : Int) (ls : List Int) (Y : Rg → Option (SV × List (SO C18))) := bro (decide ((20 : Int) < (ls.length : Int))) T8 (bro (roomB (([] : List Int).length + ls.length) Try.prog.types[(3 : Nat)].bytes) (bro (rng64 o) (bro (decide (ls.length ≤ (1000 : Nat) ∧ z20.length ≤ (1000 : Nat))) (bro (nwOk k o ls z20) (Y (nwO k o ls z20)) T8) none) none) none)
abbrev preN (k o : Int) (Y : Rg → Option (SV × List (SO C18))) := bro (rng64 o) (bro (nwOk k o [] z20) (Y (nwO k o [] z20)) T8) none
abbrev gdQ (l : List Wt) (Z : Option (SV × List (SO C18))) := bro (decide ((60 : Int) < (l.length : Int))) T8 (bro (decide (l.length ≤ (1000 : Nat))) (bro (noneP (mBad l) l.length) Z T8) none)
theorem sq_vv (k o : Int) (f : Bool) (ls : List Int) (l : List Wt) : (fS8vv k o f ls l).get = (gdQ l (preV k o ls (stQ l))) := by kernel_rfl
theorem sq_vn (k o : Int) (f : Bool) (ls : List Int) : (fS8vn k o f ls).get = (preV k o ls (fun _ => T8)) := by kernel_rfl
theorem sq_nv (k o : Int) (l : List Wt) : (fS8nv k o l).get = (gdQ l (preN k o (stQ l))) := by kernel_rfl
theorem sq_nn (k o : Int) : (fS8nn k o).get = (preN k o (fun _ => T8)) := by kernel_rfl
theorem bad_bs {l : List Wt} (h : noneP (mBad l) l.length = true) : ∀ a ∈ l, (bsW a).length ≤ 1000 := fun a ha => by
  obtain ⟨j, hj, rfl⟩ := List.getElem_of_mem ha
  have hb := noneP_iff.1 h j hj
  unfold mBad at hb
  rw [elW_at hj] at hb
  unfold bsW
  cases hn : isNo (l[j]).2.1 with
  | true => simp
  | false =>
    rw [hn] at hb
    have : ¬ (300 : Int) < ((l[j]).2.2.length : Int) := by simpa using hb
    show (l[j]).2.2.length ≤ 1000
    omega
abbrev Wd (l : List Wt) : Prop := ∀ a ∈ l, (0 ≤ a.1.2.2.1 ∧ a.1.2.2.1 < 18446744073709551616) ∧ inR64 a.1.2.2.2 = true
theorem gd_T {l : List Wt} {Z : Option (SV × List (SO C18))} (hw : Wd l) (h : AcQ l → Z = T8) : gdQ l Z = T8 := by
  unfold gdQ
  by_cases h1 : (60 : Int) < (l.length : Int)
  · rw [decide_eq_true h1]; rfl
  rw [decide_eq_false h1, decide_eq_true (show l.length ≤ 1000 by omega)]
  cases hn : noneP (mBad l) l.length with
  | false => rfl
  | true => exact h ⟨by omega, hw, bad_bs hn⟩
theorem stQ_T {l : List Wt} {r : Rg} (hl : AcQ l) (hr : RI r) : stQ l r = T8 := by
  unfold stQ
  rw [cdec_iff.2 (⟨hr, hl⟩ : RI r ∧ AcQ l)]
  cases decide (l.length = 0) <;> rfl
theorem preV_T {k o : Int} {ls : List Int} {Y : Rg → Option (SV × List (SO C18))} (ho : rng64 o = true) (h : RI (nwO k o ls z20) → Y (nwO k o ls z20) = T8) : preV k o ls Y = T8 := by
  unfold preV
  by_cases h2 : (20 : Int) < (ls.length : Int)
  · rw [decide_eq_true h2]; rfl
  rw [decide_eq_false h2, room3 (by simp; omega), ho, decide_eq_true (show ls.length ≤ (1000 : Nat) ∧ z20.length ≤ (1000 : Nat) from ⟨by omega, by decide⟩)]
  cases hn : nwOk k o ls z20 with
  | false => rfl
  | true => exact h (nwR_I hn)
theorem preN_T {k o : Int} {Y : Rg → Option (SV × List (SO C18))} (ho : rng64 o = true) (h : RI (nwO k o [] z20) → Y (nwO k o [] z20) = T8) : preN k o Y = T8 := by
  unfold preN
  rw [ho]
  cases hn : nwOk k o [] z20 with
  | false => rfl
  | true => exact h (nwR_I hn)
theorem RegsStay_walk (k o : Int) (v2 v3 : Value) (W : World) (_ : (Lit.int .i64 k).wf = true) (ho : (Lit.int .u64 o).wf = true) (h2 : SArg (C18 3) (fun q => matchK [.int .i64] ((C18 3).enc q)) W v2) (h3 : SsArg (C18 71) (C18 5) 4 acQ W v3) :
    Calls Try.prog 13 #[.int .i64 k, .int .u64 o, v2, v3] W fun e w' => e = .returned (.bool true) ∧ Below W.heap.size W w' := by
  have ho : rng64 o = true := rng64_iff.2 (by have := wf_u64 ho; omega)
  have wd : ∀ ts : List Wt, (∀ t ∈ ts, acQ t ∧ InG (c := C18 71) (ci := C18 5) W t) → Wd ts := fun ts h a ha => ⟨(h a ha).1.1, (h a ha).1.2.1⟩
  rcases h2 with rfl | ⟨a2, cap2, ts2, rfl, hl2, hc2, hk2, hb2⟩
  · rcases h3 with rfl | ⟨a3, cap3, ts3, rfl, hl3, hc3, hb3, hi3⟩
    · have hg := (sq_nn k o ).trans (preN_T ho (fun hr => rfl))
      exact run_flat (C := C18) (args := [.raw (.int .i64 k), .raw (.int .u64 o), nlS, nlS]) (vals := [.int .i64 k, .int .u64 o, .slice none 0 0, .slice none 0 0]) (fnC_ok plain mixed sfS8_ok lsS8_ok hg) rfl
    · have hg := (sq_nv k o  ts3).trans (gd_T (wd ts3 hi3) fun hl => preN_T ho (fun hr => stQ_T hl hr))
      refine run_vws (C := C18) (args := [.raw (.int .i64 k), .raw (.int .u64 o), nlS, .h 0]) (vals := [.int .i64 k, .int .u64 o, .slice none 0 0, .slice (some a3) ts3.length cap3]) [ssVW (e := 71) (it := 5) (pos := 4) hl3 hc3 hb3 fun t ht => (hi3 t ht).2] (fnC_ok plain mixed sfS8_ok lsS8_ok hg) (fun ρ hρ => ?_)
      have d0 : ρ 0 = some (.slice (some a3) ts3.length cap3) := hρ 0 _ rfl
      simp only [denL, den, d0]; rfl
  · rcases h3 with rfl | ⟨a3, cap3, ts3, rfl, hl3, hc3, hb3, hi3⟩
    · have hg := (sq_vn k o false ts2).trans (preV_T ho (fun hr => rfl))
      refine run_vws (C := C18) (args := [.raw (.int .i64 k), .raw (.int .u64 o), .h 0, nlS]) (vals := [.int .i64 k, .int .u64 o, .slice (some a2) ts2.length cap2, .slice none 0 0]) [View.vw ⟨3, a2, cap2, ts2, hl2, hc2, hb2⟩] (fnC_ok plain mixed sfS8_ok lsS8_ok hg) (fun ρ hρ => ?_)
      have d0 : ρ 0 = some (.slice (some a2) ts2.length cap2) := hρ 0 _ rfl
      simp only [denL, den, d0]; rfl
    · have hg := (sq_vv k o false ts2 ts3).trans (gd_T (wd ts3 hi3) fun hl => preV_T ho (fun hr => stQ_T hl hr))
      refine run_vws (C := C18) (args := [.raw (.int .i64 k), .raw (.int .u64 o), .h 0, .h 1]) (vals := [.int .i64 k, .int .u64 o, .slice (some a2) ts2.length cap2, .slice (some a3) ts3.length cap3]) [View.vw ⟨3, a2, cap2, ts2, hl2, hc2, hb2⟩, ssVW (e := 71) (it := 5) (pos := 4) hl3 hc3 hb3 fun t ht => (hi3 t ht).2] (fnC_ok plain mixed sfS8_ok lsS8_ok hg) (fun ρ hρ => ?_)
      have d0 : ρ 0 = some (.slice (some a2) ts2.length cap2) := hρ 0 _ rfl
      have d1 : ρ 1 = some (.slice (some a3) ts3.length cap3) := hρ 1 _ rfl
      simp only [denL, den, d0, d1]; rfl
end
end Go.Proofs.Ytknkemjbikbhgaa
