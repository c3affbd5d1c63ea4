/-
  Chapter 18: RegsConfig answers true. Own work; nothing here is trusted.
-/
import Derived.Test.YtknkemjbikbhgaaCh18Cw0
import Derived.Test.YtknkemjbikbhgaaCh18Arg
namespace Go.Proofs.Ytknkemjbikbhgaa
open Go Go.Sx Go.RowKit
set_option maxRecDepth 1000000
set_option maxHeartbeats 8000000
set_option linter.unusedVariables false
set_option linter.unusedSimpArgs false
noncomputable section
abbrev T8 : Option (SV × List (SO C18)) := some (.raw (.bool true), [])
abbrev F8 : Option (SV × List (SO C18)) := some (.raw (.bool false), [])
abbrev bq {α : Type} (l : List α) : Bool := decide (l.length ≤ (1000 : Nat))
abbrev gdQ (l : List Wt) (Z : Option (SV × List (SO C18))) := bro (decide ((60 : Int) < (l.length : Int))) T8 (bro (decide (l.length ≤ (1000 : Nat))) (bro (noneP (mBad l) l.length) Z T8) none)
theorem bad_bs {l : List Wt} (h : noneP (mBad l) l.length = true) : ∀ a ∈ l, (bsW a).length ≤ 1000 := fun a ha => by
  obtain ⟨j, hj, rfl⟩ := List.getElem_of_mem ha
  have hb := noneP_iff.1 h j hj
  unfold mBad at hb
  rw [elW_at hj] at hb
  unfold bsW
  cases hn : isNo (l[j]).2.1 with
  | true => simp
  | false =>
    rw [hn] at hb
    have : ¬ (300 : Int) < ((l[j]).2.2.length : Int) := by simpa using hb
    show (l[j]).2.2.length ≤ 1000
    omega
abbrev Wd (l : List Wt) : Prop := ∀ a ∈ l, (0 ≤ a.1.2.2.1 ∧ a.1.2.2.1 < 18446744073709551616) ∧ inR64 a.1.2.2.2 = true
theorem gd_T {l : List Wt} {Z : Option (SV × List (SO C18))} (hw : Wd l) (h : AcQ l → Z = T8) : gdQ l Z = T8 := by
  unfold gdQ
  by_cases h1 : (60 : Int) < (l.length : Int)
  · rw [decide_eq_true h1]; rfl
  rw [decide_eq_false h1, decide_eq_true (show l.length ≤ 1000 by omega)]
  cases hn : noneP (mBad l) l.length with
  | false => rfl
  | true => exact h ⟨by omega, hw, bad_bs hn⟩
/-! ### the ways, put together -/
abbrev rN (cfg : List Int) : Rg := nwO (2 : Int) (4294967296 : Int) [(4 : Int)] cfg
abbrev sg (l : List Int) : List UInt8 := (strOf (List.map (fun x => x) l)).toList
abbrev finE (x : Rg) (n : Int) : Option (SV × List (SO C18)) := bro (rV x) (some (.raw (.bool (opq (cfAt x.cf n) == 0)), [])) none
abbrev fin (R x : Rg) (c : Int) (got : List Int) (n : Int) : Option (SV × List (SO C18)) := bro (rV x) (bro ((x.ge % 18446744073709551616 == R.ge % 18446744073709551616) == (c == 0)) (bro (!(x.ge % 18446744073709551616 == R.ge % 18446744073709551616)) (finE x n) (bro (sg got == sg R.cf) (finE x n) F8)) F8) none
abbrev mkN (cfg : List Int) (X : Option (SV × List (SO C18))) := bro (nwOk (2 : Int) (4294967296 : Int) [(4 : Int)] cfg) (bro (decide ((rN cfg).cf.length ≤ (1000 : Nat))) (bro (rV (rN cfg)) X none) none) F8
abbrev mkV (cfg : List Int) (X : Option (SV × List (SO C18))) := bro (decide (cfg.length ≤ (1000 : Nat))) (bro (decide ([(4 : Int)].length ≤ (1000 : Nat) ∧ cfg.length ≤ (1000 : Nat))) (mkN cfg X) none) none
abbrev gC (cfg : List Int) (Z : Option (SV × List (SO C18))) := bro (decide ((64 : Int) < (cfg.length : Int))) T8 Z
abbrev gB (bt : List Int) (Z : Option (SV × List (SO C18))) := bro (decide ((200 : Int) < (bt.length : Int))) T8 Z
abbrev oE (cfg bt : List Int) (l : List Wt) : OSt := opq (oS l bt (rN cfg) cfg.length)
abbrev Xvv (cfg bt : List Int) (l : List Wt) := bro (cdec (RI (rN cfg) ∧ AcQ l ∧ cfg.length ≤ 64)) (bro (decide (cfg.length = 0)) (fin (rN cfg) (rN cfg) 0 [] (cfg.length : Int)) (bro (decide ((oE cfg bt l).p.2 = 0)) (fin (rN cfg) (rN cfg) 0 (oE cfg bt l).got (cfg.length : Int)) (fin (rN cfg) (oE cfg bt l).p.1 ((oE cfg bt l).p.2 : Int) (oE cfg bt l).got (cfg.length : Int)))) none
abbrev Xs (cfg : List Int) := bro (decide (cfg.length = 0)) (fin (rN cfg) (rN cfg) 0 [] (cfg.length : Int)) (fin (rN cfg) (rN cfg) 0 (opq (gF (rN cfg) cfg.length)) (cfg.length : Int))
abbrev Xnv (cfg : List Int) (l : List Wt) := bro (cdec (RI (rN cfg) ∧ AcQ l ∧ cfg.length ≤ 64)) (Xs cfg) none
abbrev Xn (cfg : List Int) := bro (cdec (RI (rN cfg) ∧ cfg.length ≤ 64)) (Xs cfg) none
abbrev X0 := fin (rN []) (rN []) 0 [] (((0 : Nat)) : Int)
theorem cw_vvv (fc : Bool) (cfg : List Int) (fb : Bool) (bt : List Int) (l : List Wt) : (fH8vvv fc cfg fb bt l).get = (gdQ l (gC cfg (gB bt (mkV cfg (Xvv cfg bt l))))) := by kernel_rfl
theorem cw_vvn (fc : Bool) (cfg : List Int) (fb : Bool) (bt : List Int) : (fH8vvn fc cfg fb bt).get = (gC cfg (gB bt (mkV cfg (Xn cfg)))) := by kernel_rfl
theorem cw_vnv (fc : Bool) (cfg : List Int) (l : List Wt) : (fH8vnv fc cfg l).get = (gdQ l (gC cfg (mkV cfg (Xnv cfg l)))) := by kernel_rfl
theorem cw_vnn (fc : Bool) (cfg : List Int) : (fH8vnn fc cfg).get = (gC cfg (mkV cfg (Xn cfg))) := by kernel_rfl
theorem cw_nvv (fb : Bool) (bt : List Int) (l : List Wt) : (fH8nvv fb bt l).get = (gdQ l (gB bt (mkN [] X0))) := by kernel_rfl
theorem cw_nvn (fb : Bool) (bt : List Int) : (fH8nvn fb bt).get = (gB bt (mkN [] X0)) := by kernel_rfl
theorem cw_nnv (l : List Wt) : (fH8nnv l).get = (gdQ l (mkN [] X0)) := by kernel_rfl
theorem cw_nnn  : (fH8nnn ).get = (mkN [] X0) := by kernel_rfl
/-! ### their law -/
theorem byte_enc {x : Int} (h : matchK [.int .u8] ((C18 5).enc x)) : 0 ≤ x ∧ x < 256 := by
  obtain ⟨_, _, e, ⟨_, rfl, hw⟩, _⟩ := matchK_cons h
  cases e
  have := wf_u8 hw
  omega
theorem rok2 : rokB 2 4294967296 0 0 = true := by decide +kernel
theorem nw_ok {cfg : List Int} (h : cfg.length ≤ 64) : nwOk (2 : Int) (4294967296 : Int) [(4 : Int)] cfg = true := by
  unfold nwOk
  rw [opq_eq]
  refine vR_iff.2 ⟨rok2, by show (0 : Int) ≤ 0 ∧ (0 : Int) ≤ 1; omega, by show (0 : Int) ≤ 0 ∧ (0 : Int) ≤ 255; omega, by show 1 ≤ ([(4 : Int)].map mkQ).length ∧ ([(4 : Int)].map mkQ).length ≤ 16; decide, by show cfg.length ≤ 256; omega, by show (0 : Int) ≤ 3; omega, fun q hq => ?_⟩
  have hq : q ∈ [mkQ 4] := hq
  rw [List.mem_singleton.1 hq]
  unfold badQ
  simp
theorem nw_I {cfg : List Int} (h : cfg.length ≤ 64) : RI (rN cfg) := nwR_I (nw_ok h)
theorem nw_cf (cfg : List Int) : (rN cfg).cf = cfg := by show (nwO 2 4294967296 [4] cfg).cf = cfg; unfold nwO; rw [opq_eq]; rfl
theorem nw_ge (cfg : List Int) : (rN cfg).ge = 0 := by show (nwO 2 4294967296 [4] cfg).ge = 0; unfold nwO; rw [opq_eq]; rfl
abbrev Bs (cfg : List Int) : Prop := ∀ x ∈ cfg, 0 ≤ x ∧ x < 256
theorem finE_T {x : Rg} {n : Int} (h : RI x) (hn : n = (x.cf.length : Int)) : finE x n = T8 := by
  have e : cfAt x.cf n = 0 := if_neg (by omega)
  unfold finE
  rw [h.v, opq_eq, e]; rfl
theorem fin_same {cfg got : List Int} {n : Int} (h : RI (rN cfg)) (hg : got = cfg) (hn : n = (cfg.length : Int)) : fin (rN cfg) (rN cfg) 0 got n = T8 := by
  have hE := finE_T (x := rN cfg) (n := n) h (by rw [nw_cf]; exact hn)
  unfold fin
  rw [h.v, hE, hg, nw_cf, beq_self_eq_true (sg cfg), beq_self_eq_true ((rN cfg).ge % 18446744073709551616), beq_self_eq_true (0 : Int)]; rfl
theorem fin_diff {cfg got : List Int} {n : Int} {x : Rg} {c : Nat} (hx : RI x) (hl : x.cf.length = cfg.length) (hge : x.ge = (c : Int) % 256) (hc : c ≠ 0) (hc6 : c ≤ 60) (hn : n = (cfg.length : Int)) : fin (rN cfg) x (c : Int) got n = T8 := by
  have hE := finE_T (x := x) (n := n) hx (by rw [hl]; exact hn)
  unfold fin
  rw [hx.v, hE, nw_ge, hge]
  have e1 : (((c : Int) % 256) % 18446744073709551616 == (0 : Int) % 18446744073709551616) = false := by
    rw [beq_eq_false_iff_ne]; omega
  have e2 : ((c : Int) == 0) = false := by rw [beq_eq_false_iff_ne]; omega
  rw [e1, e2]; rfl
theorem gF_take {r : Rg} (hb : Bs r.cf) {i : Nat} (hi : i ≤ r.cf.length) : gF r i = r.cf.take i := by
  induction i with
  | zero => rfl
  | succ i ih =>
    show gF r i ++ [opq (cfAt r.cf (i : Int)) % 256] = _
    have hx := hb _ (List.getElem_mem (show i < r.cf.length by omega))
    have e : opq (cfAt r.cf (i : Int)) % 256 = r.cf[i] := by
      rw [opq_eq]
      unfold cfAt
      rw [if_pos (by omega)]
      show (r.cf.getD i 0 % 18446744073709551616) % 256 = _
      rw [List.getD_eq_getElem?_getD, List.getElem?_eq_getElem (show i < r.cf.length by omega)]
      show (r.cf[i] % 18446744073709551616) % 256 = r.cf[i]
      omega
    rw [ih (by omega), e, List.take_add_one, List.getElem?_eq_getElem (show i < r.cf.length by omega)]; rfl
theorem gF_all {cfg : List Int} (hb : Bs cfg) : gF (rN cfg) cfg.length = cfg := by
  have h := gF_take (r := rN cfg) (i := cfg.length) (by rw [nw_cf]; exact hb) (by rw [nw_cf]; exact Nat.le_refl _)
  rw [h, nw_cf]; exact List.take_length
theorem Xs_T {cfg : List Int} (hb : Bs cfg) (h : RI (rN cfg)) : Xs cfg = T8 := by
  unfold Xs
  by_cases h0 : cfg.length = 0
  · rw [decide_eq_true h0]
    exact fin_same h (List.eq_nil_of_length_eq_zero h0).symm rfl
  · rw [decide_eq_false h0, opq_eq]
    exact fin_same h (gF_all hb) rfl
theorem Xn_T {cfg : List Int} (hb : Bs cfg) (h4 : cfg.length ≤ 64) : Xn cfg = T8 := by
  unfold Xn
  rw [cdec_iff.2 (⟨nw_I h4, h4⟩ : RI (rN cfg) ∧ cfg.length ≤ 64)]
  exact Xs_T hb (nw_I h4)
theorem Xnv_T {cfg : List Int} {l : List Wt} (hb : Bs cfg) (h4 : cfg.length ≤ 64) (hq : AcQ l) : Xnv cfg l = T8 := by
  unfold Xnv
  rw [cdec_iff.2 (⟨nw_I h4, hq, h4⟩ : RI (rN cfg) ∧ AcQ l ∧ cfg.length ≤ 64)]
  exact Xs_T hb (nw_I h4)
theorem Xvv_T {cfg bt : List Int} {l : List Wt} (hb : Bs cfg) (h4 : cfg.length ≤ 64) (hq : AcQ l) (h6 : l.length ≤ 60) : Xvv cfg bt l = T8 := by
  have hr := nw_I h4
  unfold Xvv
  rw [cdec_iff.2 (⟨hr, hq, h4⟩ : RI (rN cfg) ∧ AcQ l ∧ cfg.length ≤ 64), bro_true]
  have hS := oS_I l bt (rN cfg) cfg.length
  have e : oE cfg bt l = oS l bt (rN cfg) cfg.length := opq_eq _
  rw [e]
  generalize oS l bt (rN cfg) cfg.length = s at hS ⊢
  by_cases h0 : cfg.length = 0
  · rw [decide_eq_true h0]
    exact fin_same hr (List.eq_nil_of_length_eq_zero h0).symm rfl
  rw [decide_eq_false h0, bro_false]
  by_cases hz : s.p.2 = 0
  · rw [decide_eq_true hz]
    exact fin_same hr ((hS.nul hz).trans (gF_all hb)) rfl
  · rw [decide_eq_false hz]
    have hlow := hS.low
    obtain ⟨K, hK, _, e2⟩ := hS.k
    have hC : RC (rN cfg).cf s.p := by
      rw [e2]
      exact rC_C ⟨hr, rfl, by rw [nw_ge]; rfl, fun _ => rfl⟩
    exact fin_diff hC.i (by rw [hC.len, nw_cf]) hC.ge hz (by omega) rfl
theorem mkN_T {cfg : List Int} {X : Option (SV × List (SO C18))} (h4 : cfg.length ≤ 64) (hX : X = T8) : mkN cfg X = T8 := by
  unfold mkN
  rw [nw_ok h4, (nw_I h4).v, decide_eq_true (show (rN cfg).cf.length ≤ 1000 by rw [nw_cf]; omega), hX]; rfl
theorem mkV_T {cfg : List Int} {X : Option (SV × List (SO C18))} (h4 : cfg.length ≤ 64) (hX : X = T8) : mkV cfg X = T8 := by
  unfold mkV
  rw [decide_eq_true (show cfg.length ≤ 1000 by omega), decide_eq_true (show [(4 : Int)].length ≤ (1000 : Nat) ∧ cfg.length ≤ (1000 : Nat) from ⟨by decide, by omega⟩)]
  exact mkN_T h4 hX
theorem gC_T {cfg : List Int} {Z : Option (SV × List (SO C18))} (h : cfg.length ≤ 64 → Z = T8) : gC cfg Z = T8 := by
  unfold gC
  by_cases h1 : (64 : Int) < (cfg.length : Int)
  · rw [decide_eq_true h1]; rfl
  · rw [decide_eq_false h1]; exact h (by omega)
theorem gB_T {bt : List Int} {Z : Option (SV × List (SO C18))} (h : Z = T8) : gB bt Z = T8 := by
  unfold gB
  rw [h]
  cases decide ((200 : Int) < (bt.length : Int)) <;> rfl
theorem gd_T6 {l : List Wt} {Z : Option (SV × List (SO C18))} (hw : Wd l) (h : AcQ l → l.length ≤ 60 → Z = T8) : gdQ l Z = T8 := by
  by_cases h1 : l.length ≤ 60
  · exact gd_T hw fun hq => h hq h1
  · unfold gdQ
    rw [decide_eq_true (show (60 : Int) < (l.length : Int) by omega)]; rfl
theorem X0_T : X0 = T8 := fin_same (cfg := []) (nw_I (by decide)) rfl rfl
theorem RegsConfig_walk (v0 v1 v2 : Value) (W : World) (h0 : SArg (C18 5) (fun q => matchK [.int .u8] ((C18 5).enc q)) W v0) (h1 : SArg (C18 3) (fun q => matchK [.int .i64] ((C18 3).enc q)) W v1) (h2 : SsArg (C18 71) (C18 5) 4 acQ W v2) :
    Calls Try.prog 11 #[v0, v1, v2] W fun e w' => e = .returned (.bool true) ∧ Below W.heap.size W w' := by
  have wd : ∀ ts : List Wt, (∀ t ∈ ts, acQ t ∧ InG (c := C18 71) (ci := C18 5) W t) → Wd ts := fun ts h a ha => ⟨(h a ha).1.1, (h a ha).1.2.1⟩
  rcases h0 with rfl | ⟨a0, cap0, ts0, rfl, hl0, hc0, hk0, hb0⟩
  · rcases h1 with rfl | ⟨a1, cap1, ts1, rfl, hl1, hc1, hk1, hb1⟩
    · rcases h2 with rfl | ⟨a2, cap2, ts2, rfl, hl2, hc2, hb2, hi2⟩
      · have hg := (cw_nnn).trans (mkN_T (cfg := []) (by decide) X0_T)
        exact run_flat (C := C18) (args := [nlS, nlS, nlS]) (vals := [.slice none 0 0, .slice none 0 0, .slice none 0 0]) (fnC_ok plain mixed sfH8_ok lsH8_ok hg) rfl
      · have hg := (cw_nnv ts2).trans (gd_T6 (wd ts2 hi2) fun hq h6 => mkN_T (cfg := []) (by decide) X0_T)
        refine run_vws (C := C18) (args := [nlS, nlS, .h 0]) (vals := [.slice none 0 0, .slice none 0 0, .slice (some a2) ts2.length cap2]) [ssVW (e := 71) (it := 5) (pos := 4) hl2 hc2 hb2 fun t ht => (hi2 t ht).2] (fnC_ok plain mixed sfH8_ok lsH8_ok hg) (fun ρ hρ => ?_)
        have d0 : ρ 0 = some (.slice (some a2) ts2.length cap2) := hρ 0 _ rfl
        simp only [denL, den, d0]; rfl
    · rcases h2 with rfl | ⟨a2, cap2, ts2, rfl, hl2, hc2, hb2, hi2⟩
      · have hg := (cw_nvn false ts1).trans (gB_T (mkN_T (cfg := []) (by decide) X0_T))
        refine run_vws (C := C18) (args := [nlS, .h 0, nlS]) (vals := [.slice none 0 0, .slice (some a1) ts1.length cap1, .slice none 0 0]) [View.vw ⟨3, a1, cap1, ts1, hl1, hc1, hb1⟩] (fnC_ok plain mixed sfH8_ok lsH8_ok hg) (fun ρ hρ => ?_)
        have d0 : ρ 0 = some (.slice (some a1) ts1.length cap1) := hρ 0 _ rfl
        simp only [denL, den, d0]; rfl
      · have hg := (cw_nvv false ts1 ts2).trans (gd_T6 (wd ts2 hi2) fun hq h6 => gB_T (mkN_T (cfg := []) (by decide) X0_T))
        refine run_vws (C := C18) (args := [nlS, .h 0, .h 1]) (vals := [.slice none 0 0, .slice (some a1) ts1.length cap1, .slice (some a2) ts2.length cap2]) [View.vw ⟨3, a1, cap1, ts1, hl1, hc1, hb1⟩, ssVW (e := 71) (it := 5) (pos := 4) hl2 hc2 hb2 fun t ht => (hi2 t ht).2] (fnC_ok plain mixed sfH8_ok lsH8_ok hg) (fun ρ hρ => ?_)
        have d0 : ρ 0 = some (.slice (some a1) ts1.length cap1) := hρ 0 _ rfl
        have d1 : ρ 1 = some (.slice (some a2) ts2.length cap2) := hρ 1 _ rfl
        simp only [denL, den, d0, d1]; rfl
  · rcases h1 with rfl | ⟨a1, cap1, ts1, rfl, hl1, hc1, hk1, hb1⟩
    · rcases h2 with rfl | ⟨a2, cap2, ts2, rfl, hl2, hc2, hb2, hi2⟩
      · have hBs : Bs ts0 := fun x hx => byte_enc (hk0 x hx)
        have hg := (cw_vnn false ts0).trans (gC_T fun h4 => mkV_T h4 (Xn_T hBs h4))
        refine run_vws (C := C18) (args := [.h 0, nlS, nlS]) (vals := [.slice (some a0) ts0.length cap0, .slice none 0 0, .slice none 0 0]) [View.vw ⟨5, a0, cap0, ts0, hl0, hc0, hb0⟩] (fnC_ok plain mixed sfH8_ok lsH8_ok hg) (fun ρ hρ => ?_)
        have d0 : ρ 0 = some (.slice (some a0) ts0.length cap0) := hρ 0 _ rfl
        simp only [denL, den, d0]; rfl
      · have hBs : Bs ts0 := fun x hx => byte_enc (hk0 x hx)
        have hg := (cw_vnv false ts0 ts2).trans (gd_T6 (wd ts2 hi2) fun hq h6 => gC_T fun h4 => mkV_T h4 (Xnv_T hBs h4 hq))
        refine run_vws (C := C18) (args := [.h 0, nlS, .h 1]) (vals := [.slice (some a0) ts0.length cap0, .slice none 0 0, .slice (some a2) ts2.length cap2]) [View.vw ⟨5, a0, cap0, ts0, hl0, hc0, hb0⟩, ssVW (e := 71) (it := 5) (pos := 4) hl2 hc2 hb2 fun t ht => (hi2 t ht).2] (fnC_ok plain mixed sfH8_ok lsH8_ok hg) (fun ρ hρ => ?_)
        have d0 : ρ 0 = some (.slice (some a0) ts0.length cap0) := hρ 0 _ rfl
        have d1 : ρ 1 = some (.slice (some a2) ts2.length cap2) := hρ 1 _ rfl
        simp only [denL, den, d0, d1]; rfl
    · rcases h2 with rfl | ⟨a2, cap2, ts2, rfl, hl2, hc2, hb2, hi2⟩
      · have hBs : Bs ts0 := fun x hx => byte_enc (hk0 x hx)
        have hg := (cw_vvn false ts0 false ts1).trans (gC_T fun h4 => gB_T (mkV_T h4 (Xn_T hBs h4)))
        refine run_vws (C := C18) (args := [.h 0, .h 1, nlS]) (vals := [.slice (some a0) ts0.length cap0, .slice (some a1) ts1.length cap1, .slice none 0 0]) [View.vw ⟨5, a0, cap0, ts0, hl0, hc0, hb0⟩, View.vw ⟨3, a1, cap1, ts1, hl1, hc1, hb1⟩] (fnC_ok plain mixed sfH8_ok lsH8_ok hg) (fun ρ hρ => ?_)
        have d0 : ρ 0 = some (.slice (some a0) ts0.length cap0) := hρ 0 _ rfl
        have d1 : ρ 1 = some (.slice (some a1) ts1.length cap1) := hρ 1 _ rfl
        simp only [denL, den, d0, d1]; rfl
      · have hBs : Bs ts0 := fun x hx => byte_enc (hk0 x hx)
        have hg := (cw_vvv false ts0 false ts1 ts2).trans (gd_T6 (wd ts2 hi2) fun hq h6 => gC_T fun h4 => gB_T (mkV_T h4 (Xvv_T hBs h4 hq h6)))
        refine run_vws (C := C18) (args := [.h 0, .h 1, .h 2]) (vals := [.slice (some a0) ts0.length cap0, .slice (some a1) ts1.length cap1, .slice (some a2) ts2.length cap2]) [View.vw ⟨5, a0, cap0, ts0, hl0, hc0, hb0⟩, View.vw ⟨3, a1, cap1, ts1, hl1, hc1, hb1⟩, ssVW (e := 71) (it := 5) (pos := 4) hl2 hc2 hb2 fun t ht => (hi2 t ht).2] (fnC_ok plain mixed sfH8_ok lsH8_ok hg) (fun ρ hρ => ?_)
        have d0 : ρ 0 = some (.slice (some a0) ts0.length cap0) := hρ 0 _ rfl
        have d1 : ρ 1 = some (.slice (some a1) ts1.length cap1) := hρ 1 _ rfl
        have d2 : ρ 2 = some (.slice (some a2) ts2.length cap2) := hρ 2 _ rfl
        simp only [denL, den, d0, d1, d2]; rfl
end
end Go.Proofs.Ytknkemjbikbhgaa
