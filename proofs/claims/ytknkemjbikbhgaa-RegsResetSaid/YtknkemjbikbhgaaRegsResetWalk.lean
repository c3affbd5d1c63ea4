/-
  Chapter 18: RegsReset answers true. Own work; nothing here is trusted.
-/
import Derived.Test.YtknkemjbikbhgaaCh18Rs0
import Derived.Test.YtknkemjbikbhgaaCh18Arg
namespace Go.Proofs.Ytknkemjbikbhgaa
open Go Go.Sx Go.RowKit
set_option maxRecDepth 1000000
set_option maxHeartbeats 8000000
set_option linter.unusedVariables false
set_option linter.unusedSimpArgs false
noncomputable section
/-! ### the law of a reset -/
theorem map_of_el {a b : List Qe} (hl : a.length = b.length) (h : ∀ j : Nat, (elQ a (j : Int)).1 = (elQ b (j : Int)).1) : a.map Prod.fst = b.map Prod.fst := by
  apply List.ext_getElem (by rw [List.length_map, List.length_map, hl])
  intro j h1 h2
  rw [List.length_map] at h1 h2
  rw [List.getElem_map, List.getElem_map]
  have e : ∀ (c : List Qe) (hc : j < c.length), elQ c (j : Int) = c[j] := fun c hc => by
    show c.getD j _ = _
    rw [List.getD_eq_getElem?_getD, List.getElem?_eq_getElem hc]; rfl
  have := h j
  rwa [e a h1, e b h2] at this
theorem dnW_mx {r : Rg} {x : Wt} (h : RI r) : (dnW x r).qs.map Prod.fst = r.qs.map Prod.fst := (map_of_el (dnW_0 (x := x) h).len.symm fun j => (dnW_q (x := x) h j).1).symm
theorem rD_mx {r : Rg} {l : List Wt} (h : RI r) (ha : ∀ a ∈ l, (0 ≤ a.1.2.2.1 ∧ a.1.2.2.1 < 18446744073709551616) ∧ inR64 a.1.2.2.2 = true) : (rD r l).qs.map Prod.fst = r.qs.map Prod.fst := by
  induction l generalizing r with
  | nil => rfl
  | cons a l ih => exact (ih (dnW_I (x := a) h (ha a List.mem_cons_self).1) (fun b hb => ha b (List.mem_cons_of_mem _ hb))).trans (dnW_mx h)
abbrev z20 : List Int := List.replicate (Int.toNat (20 : Int)) (0 : Int)
abbrev wQ (n : Rg) : Rg := wO (14 : Int) (0 : Int) n
abbrev fQ (r n : Rg) : Rg := { r with ge := (wQ n).ge, cf := (wQ n).cf }
theorem low0 : lowB 0 = 0 := by kernel_rfl
theorem map_zQ (qs : List Qe) : qs.map zQ = (qs.map Prod.fst).map mkQ := by rw [List.map_map]; rfl
theorem reset_law {k o : Int} {ls cf : List Int} {n : Rg} (hf : Fam (nwO k o ls cf) n) (hm : n.qs.map Prod.fst = (nwO k o ls cf).qs.map Prod.fst) : wQ n = fQ (nwO k o ls cf) n := by
  have hw : wQ n = { n with g := 0, s := 0, se := 0, at' := 0, it := 0, qs := n.qs.map zQ } := by
    show wO 14 0 n = _
    unfold wO
    rw [opq_eq]
    unfold wF
    rw [if_neg (by decide), if_neg (by decide), if_neg (by decide), if_neg (by decide), if_neg (by decide), if_neg (by decide), if_neg (by decide), if_neg (by decide), if_neg (by decide), if_pos rfl, if_pos low0, opq_eq]
  have hq : n.qs.map zQ = (nwO k o ls cf).qs := by
    rw [map_zQ, hm]
    unfold nwO
    rw [opq_eq]
    show (((ls.map mkQ).map Prod.fst).map mkQ) = ls.map mkQ
    rw [List.map_map, List.map_map]; rfl
  unfold fQ
  rw [hw, hq, hf.k, hf.o]
  unfold nwO
  rw [opq_eq]; rfl
/-! ### the ways, put together -/
abbrev T8 : Option (SV × List (SO C18)) := some (.raw (.bool true), [])
abbrev bq {α : Type} (l : List α) : Bool := decide (l.length ≤ (1000 : Nat))
abbrev midQ (r n : Rg) (X : Option (SV × List (SO C18))) : Option (SV × List (SO C18)) := bro (rV n) (bro (bq r.qs) (bro (bq r.cf) (bro (bq (wQ n).cf) (bro (cdec (wQ n = fQ r n)) (bro (bq (wQ n).qs) (bro (bq (wQ n).cf) X none) none) none) none) none) none) none
abbrev endN (r n : Rg) : Option (SV × List (SO C18)) := bro (cdec (wQ n = fQ r n)) (bro (bq (wQ n).qs) (bro (bq (wQ n).cf) T8 none) none) none
abbrev endM (m : List Wt) (r n : Rg) : Option (SV × List (SO C18)) := bro (cdec (RI (fQ r n) ∧ AcQ m ∧ wQ n = fQ r n)) (bro (decide (m.length = 0)) (bro (cdec (fQ r n = fQ r n)) (bro (bq r.qs) (bro (bq (wQ n).cf) T8 none) none) none) (bro (cdec (opq (rD (fQ r n) m) = opq (rD (fQ r n) m))) (bro (bq (opq (rD (fQ r n) m)).qs) (bro (bq (opq (rD (fQ r n) m)).cf) T8 none) none) none)) none
abbrev actN (r : Rg) (E : Rg → Rg → Option (SV × List (SO C18))) := midQ r r (E r r)
abbrev actL (l : List Wt) (r : Rg) (E : Rg → Rg → Option (SV × List (SO C18))) := bro (cdec (RI r ∧ AcQ l ∧ r = r)) (bro (decide (l.length = 0)) (midQ r r (E r r)) (midQ r (opq (rD r l)) (E r (opq (rD r l))))) none
abbrev preV (k o : Int) (ls : List Int) (Y : Rg → Option (SV × List (SO C18))) := bro (decide ((20 : Int) < (ls.length : Int))) T8 (bro (roomB (([] : List Int).length + ls.length) Try.prog.types[(3 : Nat)].bytes) (bro (rng64 o) (bro (decide (ls.length ≤ (1000 : Nat) ∧ z20.length ≤ (1000 : Nat))) (bro (nwOk k o ls z20) (Y (nwO k o ls z20)) T8) none) none) none)
abbrev preN (k o : Int) (Y : Rg → Option (SV × List (SO C18))) := bro (rng64 o) (bro (nwOk k o [] z20) (Y (nwO k o [] z20)) T8) none
abbrev gdQ (l : List Wt) (Z : Option (SV × List (SO C18))) := bro (decide ((60 : Int) < (l.length : Int))) T8 (bro (decide (l.length ≤ (1000 : Nat))) (bro (noneP (mBad l) l.length) Z T8) none)
theorem rq_vvv (k o : Int) (f : Bool) (ls : List Int) (l : List Wt) (m : List Wt) : (fQ8vvv k o f ls l m).get = (gdQ l (gdQ m (preV k o ls (fun r => actL l r (endM m))))) := by kernel_rfl
theorem rq_vvn (k o : Int) (f : Bool) (ls : List Int) (l : List Wt) : (fQ8vvn k o f ls l).get = (gdQ l (preV k o ls (fun r => actL l r endN))) := by kernel_rfl
theorem rq_vnv (k o : Int) (f : Bool) (ls : List Int) (m : List Wt) : (fQ8vnv k o f ls m).get = (gdQ m (preV k o ls (fun r => actN r (endM m)))) := by kernel_rfl
theorem rq_vnn (k o : Int) (f : Bool) (ls : List Int) : (fQ8vnn k o f ls).get = (preV k o ls (fun r => actN r endN)) := by kernel_rfl
theorem rq_nvv (k o : Int) (l : List Wt) (m : List Wt) : (fQ8nvv k o l m).get = (gdQ l (gdQ m (preN k o (fun r => actL l r (endM m))))) := by kernel_rfl
theorem rq_nvn (k o : Int) (l : List Wt) : (fQ8nvn k o l).get = (gdQ l (preN k o (fun r => actL l r endN))) := by kernel_rfl
theorem rq_nnv (k o : Int) (m : List Wt) : (fQ8nnv k o m).get = (gdQ m (preN k o (fun r => actN r (endM m)))) := by kernel_rfl
theorem rq_nnn (k o : Int) : (fQ8nnn k o).get = (preN k o (fun r => actN r endN)) := by kernel_rfl
theorem bad_bs {l : List Wt} (h : noneP (mBad l) l.length = true) : ∀ a ∈ l, (bsW a).length ≤ 1000 := fun a ha => by
  obtain ⟨j, hj, rfl⟩ := List.getElem_of_mem ha
  have hb := noneP_iff.1 h j hj
  unfold mBad at hb
  rw [elW_at hj] at hb
  unfold bsW
  cases hn : isNo (l[j]).2.1 with
  | true => simp
  | false =>
    rw [hn] at hb
    have : ¬ (300 : Int) < ((l[j]).2.2.length : Int) := by simpa using hb
    show (l[j]).2.2.length ≤ 1000
    omega
abbrev Wd (l : List Wt) : Prop := ∀ a ∈ l, (0 ≤ a.1.2.2.1 ∧ a.1.2.2.1 < 18446744073709551616) ∧ inR64 a.1.2.2.2 = true
theorem gd_T {l : List Wt} {Z : Option (SV × List (SO C18))} (hw : Wd l) (h : AcQ l → Z = T8) : gdQ l Z = T8 := by
  unfold gdQ
  by_cases h1 : (60 : Int) < (l.length : Int)
  · rw [decide_eq_true h1]; rfl
  rw [decide_eq_false h1, decide_eq_true (show l.length ≤ 1000 by omega)]
  cases hn : noneP (mBad l) l.length with
  | false => rfl
  | true => exact h ⟨by omega, hw, bad_bs hn⟩
theorem bqs {r : Rg} (h : RI r) : bq r.qs = true ∧ bq r.cf = true := rV_len h.v
theorem mid_T {r n : Rg} {X : Option (SV × List (SO C18))} (hr : RI r) (hn : RI n) (hq : wQ n = fQ r n) (hX : X = T8) : midQ r n X = T8 := by
  have hwI : RI (wQ n) := by
    show RI (wO 14 0 n)
    unfold wO; rw [opq_eq]; exact wF_I hn (by decide)
  unfold midQ
  rw [hn.v, (bqs hr).1, (bqs hr).2, (bqs hwI).1, (bqs hwI).2, cdec_iff.2 hq, hX]; rfl
theorem wQ_I {n : Rg} (hn : RI n) : RI (wQ n) := by
  show RI (wO 14 0 n)
  unfold wO; rw [opq_eq]; exact wF_I hn (by decide)
theorem endN_T {r n : Rg} (hr : RI r) (hn : RI n) (hq : wQ n = fQ r n) : endN r n = T8 := by
  have hwI := wQ_I hn
  unfold endN
  rw [(bqs hwI).1, (bqs hwI).2, cdec_iff.2 hq]; rfl
theorem endM_T {m : List Wt} (hm : AcQ m) {r n : Rg} (hr : RI r) (hn : RI n) (hq : wQ n = fQ r n) : endM m r n = T8 := by
  have hwI := wQ_I hn
  have hfI : RI (fQ r n) := by rw [← hq]; exact hwI
  have hd : RI (opq (rD (fQ r n) m)) := by rw [opq_eq]; exact (rD_I hfI hm.wd).1
  unfold endM
  rw [(bqs hr).1, (bqs hwI).2, (bqs hd).1, (bqs hd).2, cdec_iff.2 (⟨hfI, hm, hq⟩ : RI (fQ r n) ∧ AcQ m ∧ wQ n = fQ r n), cdec_iff.2 (rfl : fQ r n = fQ r n), cdec_iff.2 (rfl : opq (rD (fQ r n) m) = opq (rD (fQ r n) m))]
  cases decide (m.length = 0) <;> rfl
abbrev GoodE (E : Rg → Rg → Option (SV × List (SO C18))) : Prop := ∀ r n, RI r → RI n → wQ n = fQ r n → E r n = T8
theorem actN_T {k o : Int} {ls : List Int} {E : Rg → Rg → Option (SV × List (SO C18))} (hE : GoodE E) (hr : RI (nwO k o ls z20)) : actN (nwO k o ls z20) E = T8 := by
  have hq := reset_law (n := nwO k o ls z20) (k := k) (o := o) (ls := ls) (cf := z20) .rfl' rfl
  exact mid_T hr hr hq (hE _ _ hr hr hq)
theorem actL_T {k o : Int} {ls : List Int} {l : List Wt} {E : Rg → Rg → Option (SV × List (SO C18))} (hE : GoodE E) (hr : RI (nwO k o ls z20)) (hl : AcQ l) : actL l (nwO k o ls z20) E = T8 := by
  unfold actL
  rw [cdec_iff.2 (⟨hr, hl, rfl⟩ : RI (nwO k o ls z20) ∧ AcQ l ∧ nwO k o ls z20 = nwO k o ls z20), bro_true]
  obtain ⟨g1, g2⟩ := rD_I hr hl.wd
  have g3 := rD_mx hr hl.wd
  rw [← opq_eq (rD (nwO k o ls z20) l)] at g1 g2 g3
  have hq := reset_law g2 g3
  cases decide (l.length = 0) with
  | true => exact actN_T hE hr
  | false => exact mid_T hr g1 hq (hE _ _ hr g1 hq)
theorem preV_T {k o : Int} {ls : List Int} {Y : Rg → Option (SV × List (SO C18))} (ho : rng64 o = true) (h : RI (nwO k o ls z20) → Y (nwO k o ls z20) = T8) : preV k o ls Y = T8 := by
  unfold preV
  by_cases h2 : (20 : Int) < (ls.length : Int)
  · rw [decide_eq_true h2]; rfl
  rw [decide_eq_false h2, room3 (by simp; omega), ho, decide_eq_true (show ls.length ≤ (1000 : Nat) ∧ z20.length ≤ (1000 : Nat) from ⟨by omega, by decide⟩)]
  cases hn : nwOk k o ls z20 with
  | false => rfl
  | true => exact h (nwR_I hn)
theorem preN_T {k o : Int} {Y : Rg → Option (SV × List (SO C18))} (ho : rng64 o = true) (h : RI (nwO k o [] z20) → Y (nwO k o [] z20) = T8) : preN k o Y = T8 := by
  unfold preN
  rw [ho]
  cases hn : nwOk k o [] z20 with
  | false => rfl
  | true => exact h (nwR_I hn)
theorem RegsReset_walk (k o : Int) (v2 v3 v4 : Value) (W : World) (_ : (Lit.int .i64 k).wf = true) (ho : (Lit.int .u64 o).wf = true) (h2 : SArg (C18 3) (fun q => matchK [.int .i64] ((C18 3).enc q)) W v2) (h3 : SsArg (C18 71) (C18 5) 4 acQ W v3) (h4 : SsArg (C18 71) (C18 5) 4 acQ W v4) :
    Calls Try.prog 15 #[.int .i64 k, .int .u64 o, v2, v3, v4] W fun e w' => e = .returned (.bool true) ∧ Below W.heap.size W w' := by
  have ho : rng64 o = true := rng64_iff.2 (by have := wf_u64 ho; omega)
  have wd : ∀ ts : List Wt, (∀ t ∈ ts, acQ t ∧ InG (c := C18 71) (ci := C18 5) W t) → Wd ts := fun ts h a ha => ⟨(h a ha).1.1, (h a ha).1.2.1⟩
  rcases h2 with rfl | ⟨a2, cap2, ts2, rfl, hl2, hc2, hk2, hb2⟩
  · rcases h3 with rfl | ⟨a3, cap3, ts3, rfl, hl3, hc3, hb3, hi3⟩
    · rcases h4 with rfl | ⟨a4, cap4, ts4, rfl, hl4, hc4, hb4, hi4⟩
      · have hg := (rq_nnn k o ).trans (preN_T ho (fun hr => actN_T (fun r n hr hn hq => endN_T hr hn hq) hr))
        exact run_flat (C := C18) (args := [.raw (.int .i64 k), .raw (.int .u64 o), nlS, nlS, nlS]) (vals := [.int .i64 k, .int .u64 o, .slice none 0 0, .slice none 0 0, .slice none 0 0]) (fnC_ok plain mixed sfQ8_ok lsQ8_ok hg) rfl
      · have hg := (rq_nnv k o  ts4).trans (gd_T (wd ts4 hi4) fun hm => preN_T ho (fun hr => actN_T (fun r n hr hn hq => endM_T hm hr hn hq) hr))
        refine run_vws (C := C18) (args := [.raw (.int .i64 k), .raw (.int .u64 o), nlS, nlS, .h 0]) (vals := [.int .i64 k, .int .u64 o, .slice none 0 0, .slice none 0 0, .slice (some a4) ts4.length cap4]) [ssVW (e := 71) (it := 5) (pos := 4) hl4 hc4 hb4 fun t ht => (hi4 t ht).2] (fnC_ok plain mixed sfQ8_ok lsQ8_ok hg) (fun ρ hρ => ?_)
        have d0 : ρ 0 = some (.slice (some a4) ts4.length cap4) := hρ 0 _ rfl
        simp only [denL, den, d0]; rfl
    · rcases h4 with rfl | ⟨a4, cap4, ts4, rfl, hl4, hc4, hb4, hi4⟩
      · have hg := (rq_nvn k o  ts3).trans (gd_T (wd ts3 hi3) fun hl => preN_T ho (fun hr => actL_T (fun r n hr hn hq => endN_T hr hn hq) hr hl))
        refine run_vws (C := C18) (args := [.raw (.int .i64 k), .raw (.int .u64 o), nlS, .h 0, nlS]) (vals := [.int .i64 k, .int .u64 o, .slice none 0 0, .slice (some a3) ts3.length cap3, .slice none 0 0]) [ssVW (e := 71) (it := 5) (pos := 4) hl3 hc3 hb3 fun t ht => (hi3 t ht).2] (fnC_ok plain mixed sfQ8_ok lsQ8_ok hg) (fun ρ hρ => ?_)
        have d0 : ρ 0 = some (.slice (some a3) ts3.length cap3) := hρ 0 _ rfl
        simp only [denL, den, d0]; rfl
      · have hg := (rq_nvv k o  ts3 ts4).trans (gd_T (wd ts3 hi3) fun hl => gd_T (wd ts4 hi4) fun hm => preN_T ho (fun hr => actL_T (fun r n hr hn hq => endM_T hm hr hn hq) hr hl))
        refine run_vws (C := C18) (args := [.raw (.int .i64 k), .raw (.int .u64 o), nlS, .h 0, .h 1]) (vals := [.int .i64 k, .int .u64 o, .slice none 0 0, .slice (some a3) ts3.length cap3, .slice (some a4) ts4.length cap4]) [ssVW (e := 71) (it := 5) (pos := 4) hl3 hc3 hb3 fun t ht => (hi3 t ht).2, ssVW (e := 71) (it := 5) (pos := 4) hl4 hc4 hb4 fun t ht => (hi4 t ht).2] (fnC_ok plain mixed sfQ8_ok lsQ8_ok hg) (fun ρ hρ => ?_)
        have d0 : ρ 0 = some (.slice (some a3) ts3.length cap3) := hρ 0 _ rfl
        have d1 : ρ 1 = some (.slice (some a4) ts4.length cap4) := hρ 1 _ rfl
        simp only [denL, den, d0, d1]; rfl
  · rcases h3 with rfl | ⟨a3, cap3, ts3, rfl, hl3, hc3, hb3, hi3⟩
    · rcases h4 with rfl | ⟨a4, cap4, ts4, rfl, hl4, hc4, hb4, hi4⟩
      · have hg := (rq_vnn k o false ts2).trans (preV_T ho (fun hr => actN_T (fun r n hr hn hq => endN_T hr hn hq) hr))
        refine run_vws (C := C18) (args := [.raw (.int .i64 k), .raw (.int .u64 o), .h 0, nlS, nlS]) (vals := [.int .i64 k, .int .u64 o, .slice (some a2) ts2.length cap2, .slice none 0 0, .slice none 0 0]) [View.vw ⟨3, a2, cap2, ts2, hl2, hc2, hb2⟩] (fnC_ok plain mixed sfQ8_ok lsQ8_ok hg) (fun ρ hρ => ?_)
        have d0 : ρ 0 = some (.slice (some a2) ts2.length cap2) := hρ 0 _ rfl
        simp only [denL, den, d0]; rfl
      · have hg := (rq_vnv k o false ts2 ts4).trans (gd_T (wd ts4 hi4) fun hm => preV_T ho (fun hr => actN_T (fun r n hr hn hq => endM_T hm hr hn hq) hr))
        refine run_vws (C := C18) (args := [.raw (.int .i64 k), .raw (.int .u64 o), .h 0, nlS, .h 1]) (vals := [.int .i64 k, .int .u64 o, .slice (some a2) ts2.length cap2, .slice none 0 0, .slice (some a4) ts4.length cap4]) [View.vw ⟨3, a2, cap2, ts2, hl2, hc2, hb2⟩, ssVW (e := 71) (it := 5) (pos := 4) hl4 hc4 hb4 fun t ht => (hi4 t ht).2] (fnC_ok plain mixed sfQ8_ok lsQ8_ok hg) (fun ρ hρ => ?_)
        have d0 : ρ 0 = some (.slice (some a2) ts2.length cap2) := hρ 0 _ rfl
        have d1 : ρ 1 = some (.slice (some a4) ts4.length cap4) := hρ 1 _ rfl
        simp only [denL, den, d0, d1]; rfl
    · rcases h4 with rfl | ⟨a4, cap4, ts4, rfl, hl4, hc4, hb4, hi4⟩
      · have hg := (rq_vvn k o false ts2 ts3).trans (gd_T (wd ts3 hi3) fun hl => preV_T ho (fun hr => actL_T (fun r n hr hn hq => endN_T hr hn hq) hr hl))
        refine run_vws (C := C18) (args := [.raw (.int .i64 k), .raw (.int .u64 o), .h 0, .h 1, nlS]) (vals := [.int .i64 k, .int .u64 o, .slice (some a2) ts2.length cap2, .slice (some a3) ts3.length cap3, .slice none 0 0]) [View.vw ⟨3, a2, cap2, ts2, hl2, hc2, hb2⟩, ssVW (e := 71) (it := 5) (pos := 4) hl3 hc3 hb3 fun t ht => (hi3 t ht).2] (fnC_ok plain mixed sfQ8_ok lsQ8_ok hg) (fun ρ hρ => ?_)
        have d0 : ρ 0 = some (.slice (some a2) ts2.length cap2) := hρ 0 _ rfl
        have d1 : ρ 1 = some (.slice (some a3) ts3.length cap3) := hρ 1 _ rfl
        simp only [denL, den, d0, d1]; rfl
      · have hg := (rq_vvv k o false ts2 ts3 ts4).trans (gd_T (wd ts3 hi3) fun hl => gd_T (wd ts4 hi4) fun hm => preV_T ho (fun hr => actL_T (fun r n hr hn hq => endM_T hm hr hn hq) hr hl))
        refine run_vws (C := C18) (args := [.raw (.int .i64 k), .raw (.int .u64 o), .h 0, .h 1, .h 2]) (vals := [.int .i64 k, .int .u64 o, .slice (some a2) ts2.length cap2, .slice (some a3) ts3.length cap3, .slice (some a4) ts4.length cap4]) [View.vw ⟨3, a2, cap2, ts2, hl2, hc2, hb2⟩, ssVW (e := 71) (it := 5) (pos := 4) hl3 hc3 hb3 fun t ht => (hi3 t ht).2, ssVW (e := 71) (it := 5) (pos := 4) hl4 hc4 hb4 fun t ht => (hi4 t ht).2] (fnC_ok plain mixed sfQ8_ok lsQ8_ok hg) (fun ρ hρ => ?_)
        have d0 : ρ 0 = some (.slice (some a2) ts2.length cap2) := hρ 0 _ rfl
        have d1 : ρ 1 = some (.slice (some a3) ts3.length cap3) := hρ 1 _ rfl
        have d2 : ρ 2 = some (.slice (some a4) ts4.length cap4) := hρ 2 _ rfl
        simp only [denL, den, d0, d1, d2]; rfl
end
end Go.Proofs.Ytknkemjbikbhgaa
