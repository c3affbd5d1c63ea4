/-
  Chapter 18: the plain law of registers. Own work; nothing here is trusted.
-/
import Derived.Test.YtknkemjbikbhgaaCh18NewT
namespace Go.Proofs.Ytknkemjbikbhgaa
open Go Go.Sx Go.RowKit
set_option maxRecDepth 1000000
set_option maxHeartbeats 8000000
set_option linter.unusedVariables false
set_option linter.unusedSimpArgs false
noncomputable section
/-- Registers as they are from New on. -/
structure RI (r : Rg) : Prop where
  v : rV r = true
  s : r.s ∈ valid12
  it : 0 ≤ r.it
  ge : 0 ≤ r.ge ∧ r.ge < 256
theorem it_or1 : ∀ i : Fin 4, 0 ≤ bitsV .u8 .or (i.val : Int) 1 ∧ bitsV .u8 .or (i.val : Int) 1 ≤ 3 := by decide +kernel
theorem it_or2 : ∀ i : Fin 4, 0 ≤ bitsV .u8 .or (i.val : Int) 2 ∧ bitsV .u8 .or (i.val : Int) 2 ≤ 3 := by decide +kernel
theorem it_and : ∀ i : Fin 4, ∀ y : Fin 256, 0 ≤ bitsV .u8 .andNot (i.val : Int) (y.val : Int) ∧ bitsV .u8 .andNot (i.val : Int) (y.val : Int) ≤ 3 := by decide +kernel
theorem fin4 {x : Int} (h : 0 ≤ x ∧ x ≤ 3) : ∃ i : Fin 4, x = (i.val : Int) := ⟨⟨x.toNat, by omega⟩, by show x = ((x.toNat : Nat) : Int); omega⟩
theorem fin256 {x : Int} (h : 0 ≤ x ∧ x < 256) : ∃ i : Fin 256, x = (i.val : Int) := ⟨⟨x.toNat, by omega⟩, by show x = ((x.toNat : Nat) : Int); omega⟩
theorem hb8_keep : ∀ s ∈ valid12, ∀ acc b1 b2 b8 b4 b128 : Bool, hbC s 8 = true → hbC (stB acc b1 b2 b8 b4 b128 s) 8 = true := by decide +kernel
theorem hb8_brk : ∀ s ∈ valid12, hbC s 8 = true → hbC (bitsV .u8 .or s 64) 8 = true := by decide +kernel
/-! ### what stays of a queue -/
/-- Of a queue, before and behind an act: its Max; and, if it is ready and there is no reset, all else, but that RegReady may end it. -/
def QR (rs e8 : Prop) (a b : Qe) : Prop := a.1 = b.1 ∧ (a.2.2.1 = true → ¬ rs → a.2.1 = b.2.1 ∧ a.2.2.2 = b.2.2.2 ∧ (b.2.2.1 = true ∨ e8))
theorem QR.refl {rs e8 : Prop} (a : Qe) : QR rs e8 a a := ⟨rfl, fun h _ => ⟨rfl, rfl, .inl h⟩⟩
theorem elQ_set {qs : List Qe} {i : Nat} {x : Qe} {j : Nat} : elQ (qs.set i x) (j : Int) = if i = j ∧ j < qs.length then x else elQ qs (j : Int) := by
  show (qs.set i x).getD j _ = if i = j ∧ j < qs.length then x else qs.getD j _
  rw [List.getD_eq_getElem?_getD, List.getD_eq_getElem?_getD, List.getElem?_set]
  by_cases h : i = j
  · subst h
    by_cases hl : i < qs.length
    · rw [if_pos rfl, if_pos hl, if_pos ⟨rfl, hl⟩]; rfl
    · rw [if_pos rfl, if_neg hl, if_neg (fun h => hl h.2), List.getElem?_eq_none (by omega)]
  · rw [if_neg h, if_neg (fun hh => h hh.1)]
theorem elQ_map {qs : List Qe} {j : Nat} (h : j < qs.length) : elQ (qs.map zQ) (j : Int) = zQ (elQ qs (j : Int)) := by
  show (qs.map zQ).getD j _ = zQ (qs.getD j _)
  rw [List.getD_eq_getElem?_getD, List.getD_eq_getElem?_getD, List.getElem?_map, List.getElem?_eq_getElem h]; rfl
theorem setQ_q {r : Rg} {f : Qe → Qe} {rs e8 : Prop} (h0 : 0 ≤ r.at') (h : QR rs e8 (elQ r.qs r.at') (f (elQ r.qs r.at'))) (j : Nat) : QR rs e8 (elQ r.qs (j : Int)) (elQ (setQ r f).qs (j : Int)) := by
  show QR rs e8 _ (elQ (r.qs.set r.at'.toNat (f (elQ r.qs r.at'))) (j : Int))
  rw [elQ_set]
  split
  · rename_i hc
    have e : ((j : Nat) : Int) = r.at' := by omega
    rw [e]; exact h
  · exact QR.refl _
theorem atQ_q {r : Rg} {f : Qe → Qe} {rs e8 : Prop} (h0 : 0 ≤ r.at') (h : QR rs e8 (elQ r.qs r.at') (f (elQ r.qs r.at'))) (j : Nat) : QR rs e8 (elQ r.qs (j : Int)) (elQ (atQ r f).qs (j : Int)) := by
  unfold atQ; split
  · exact QR.refl _
  · exact setQ_q h0 h j
theorem opQ_q {r : Rg} {f : Qe → Qe} {rs e8 : Prop} (h0 : 0 ≤ r.at') (h : (elQ r.qs r.at').1 = (f (elQ r.qs r.at')).1) (j : Nat) : QR rs e8 (elQ r.qs (j : Int)) (elQ (opQ r f).qs (j : Int)) := by
  unfold opQ; split
  · exact QR.refl _
  · split
    · exact QR.refl _
    · rename_i hr; exact setQ_q h0 ⟨h, fun hh => absurd hh hr⟩ j
/-! ### other fields -/
structure Same0 (r n : Rg) : Prop where
  k : n.k = r.k
  o : n.o = r.o
  len : n.qs.length = r.qs.length
  cf : n.cf = r.cf
  ge : n.ge = r.ge
theorem Same0.rfl' {r : Rg} : Same0 r r := ⟨rfl, rfl, rfl, rfl, rfl⟩
theorem setQ_0 {r : Rg} {f : Qe → Qe} : Same0 r (setQ r f) := ⟨rfl, rfl, by show (r.qs.set _ _).length = _; simp, rfl, rfl⟩
theorem atQ_0 {r : Rg} {f : Qe → Qe} : Same0 r (atQ r f) := by unfold atQ; split; exact .rfl'; exact setQ_0
theorem opQ_0 {r : Rg} {f : Qe → Qe} : Same0 r (opQ r f) := by unfold opQ; split; exact .rfl'; split; exact .rfl'; exact setQ_0
/-- What is asked of each queue where one is changed. -/
theorem mem_set {qs : List Qe} {i : Nat} {x q : Qe} (h : q ∈ qs.set i x) : q = x ∨ q ∈ qs := by
  rcases List.mem_or_eq_of_mem_set h with h | h
  · exact .inr h
  · exact .inl h
theorem setQ_V {r : Rg} {f : Qe → Qe} (hv : rV r = true) (hf : badQ r.g r.s (f (elQ r.qs r.at')) = false) : rV (setQ r f) = true := by
  obtain ⟨h1, h2, h3, h4, h5, h6, h7⟩ := vR_iff.1 hv
  refine vR_iff.2 ⟨h1, h2, h3, by show 1 ≤ (r.qs.set _ _).length ∧ (r.qs.set _ _).length ≤ 16; simpa using h4, h5, h6, fun q hq => ?_⟩
  rcases mem_set hq with rfl | hq
  · exact hf
  · exact h7 q hq
theorem el_mem {r : Rg} (hv : rV r = true) (h : ¬ (r.qs.length : Int) ≤ r.at') : elQ r.qs r.at' ∈ r.qs := by
  obtain ⟨a1, a2⟩ := at_in hv h
  show r.qs.getD r.at'.toNat _ ∈ r.qs
  rw [List.getD_eq_getElem?_getD, List.getElem?_eq_getElem (of_decide_eq_true a2)]
  exact List.getElem_mem _
theorem bad_iff {g s : Int} {q : Qe} : badQ g s q = false ↔ (1 ≤ q.1 ∧ q.1 ≤ 32768) ∧ (0 ≤ q.2.1 ∧ q.2.1 ≤ q.1) ∧ (q.2.2.1 = true → rdB g s q = true) := by
  unfold badQ
  simp only [Bool.or_eq_false_iff, decide_eq_false_iff_not, Bool.and_eq_false_iff, Bool.not_eq_false']
  constructor
  · rintro ⟨h1, h2, h3, h4, h5⟩
    refine ⟨⟨by omega, by omega⟩, ⟨by omega, by omega⟩, fun h => ?_⟩
    rcases h5 with h5 | h5
    · rw [h] at h5; cases h5
    · exact h5
  · rintro ⟨⟨h1, h2⟩, ⟨h3, h4⟩, h5⟩
    refine ⟨by omega, by omega, by omega, by omega, ?_⟩
    cases hq : q.2.2.1 with
    | false => exact .inl rfl
    | true => exact .inr (h5 hq)
theorem atQ_V {r : Rg} {f : Qe → Qe} (hv : rV r = true) (hf : badQ r.g r.s (elQ r.qs r.at') = false → badQ r.g r.s (f (elQ r.qs r.at')) = false) : rV (atQ r f) = true := by
  unfold atQ
  split
  · exact hv
  · rename_i h
    exact setQ_V hv (hf ((vR_iff.1 hv).2.2.2.2.2.2 _ (el_mem hv h)))
theorem opQ_V {r : Rg} {f : Qe → Qe} (hv : rV r = true) (hf : badQ r.g r.s (elQ r.qs r.at') = false → (elQ r.qs r.at').2.2.1 = false → badQ r.g r.s (f (elQ r.qs r.at')) = false) : rV (opQ r f) = true := by
  unfold opQ
  split
  · exact hv
  · rename_i h
    split
    · exact hv
    · rename_i hr
      exact setQ_V hv (hf ((vR_iff.1 hv).2.2.2.2.2.2 _ (el_mem hv h)) (by simpa using hr))
theorem RI.of {r n : Rg} (h : RI r) (hv : rV n = true) (hs : n.s = r.s) (hi : n.it = r.it) (hg : n.ge = r.ge) : RI n := ⟨hv, by rw [hs]; exact h.s, by rw [hi]; exact h.it, by rw [hg]; exact h.ge⟩
theorem setQ_f {r : Rg} {f : Qe → Qe} : (setQ r f).s = r.s ∧ (setQ r f).it = r.it ∧ (setQ r f).ge = r.ge := ⟨rfl, rfl, rfl⟩
theorem atQ_f {r : Rg} {f : Qe → Qe} : (atQ r f).s = r.s ∧ (atQ r f).it = r.it ∧ (atQ r f).ge = r.ge := by unfold atQ; split <;> exact ⟨rfl, rfl, rfl⟩
theorem opQ_f {r : Rg} {f : Qe → Qe} : (opQ r f).s = r.s ∧ (opQ r f).it = r.it ∧ (opQ r f).ge = r.ge := by unfold opQ; split <;> first | exact ⟨rfl, rfl, rfl⟩ | (split <;> exact ⟨rfl, rfl, rfl⟩)
theorem atQ_I {r : Rg} {f : Qe → Qe} (h : RI r) (hf : badQ r.g r.s (elQ r.qs r.at') = false → badQ r.g r.s (f (elQ r.qs r.at')) = false) : RI (atQ r f) := h.of (atQ_V h.v hf) atQ_f.1 atQ_f.2.1 atQ_f.2.2
theorem opQ_I {r : Rg} {f : Qe → Qe} (h : RI r) (hf : badQ r.g r.s (elQ r.qs r.at') = false → (elQ r.qs r.at').2.2.1 = false → badQ r.g r.s (f (elQ r.qs r.at')) = false) : RI (opQ r f) := h.of (opQ_V h.v hf) opQ_f.1 opQ_f.2.1 opQ_f.2.2
/-- A queue that is not ready has no place that counts. -/
theorem bad_un {g s : Int} {q q' : Qe} (h : badQ g s q = false) (hr : q'.2.2.1 = false) (h1 : q'.1 = q.1) (h2 : 0 ≤ q'.2.1 ∧ q'.2.1 ≤ q.1) : badQ g s q' = false := by
  rw [bad_iff] at h ⊢
  rw [h1]
  exact ⟨h.1, h2, fun hh => by rw [hr] at hh; cases hh⟩
theorem rd_no8 {g s : Int} {q : Qe} (h : hb s 8 = false) : rdB g s q = false := by unfold rdB; rw [h]; rfl
theorem low_rng (w : Int) : 0 ≤ lowB w ∧ lowB w < 256 := by unfold lowB; omega
theorem rd_s {g s s' : Int} {q : Qe} (h : hb s 8 = true → hb s' 8 = true) (hr : rdB g s q = true) : rdB g s' q = true := by
  unfold rdB at hr ⊢
  rw [Bool.and_eq_true] at hr ⊢
  exact ⟨h hr.1, hr.2⟩
/-- All that a write may do. -/
theorem wF_elim {P : Rg → Prop} {n w : Int} {r : Rg} (h0 : P r) (h2 : n = 2 → w ≤ 1 → P { r with se := w }) (h4 : n = 4 → (hb r.s 2 && (!hb r.s 8 && akI r w != r.g)) = true → P { r with g := akI r w }) (h5 : n = 5 → w ≤ 255 → P { r with at' := w })
    (h7 : n = 7 → w ≤ (elQ r.qs r.at').1 → P (opQ r (fun q => (q.1, w, q.2.2)))) (h8 : n = 8 → w = 0 → P (atQ r (fun q => (q.1, q.2.1, false, q.2.2.2)))) (h8' : n = 8 → rdB r.g r.s (elQ r.qs r.at') = true → P (atQ r (fun q => (q.1, q.2.1, true, q.2.2.2))))
    (h9 : n = 9 → P (opQ r (fun q => (q.1, q.2.1, q.2.2.1, w, q.2.2.2.2)))) (h10 : n = 10 → P (opQ r (fun q => (q.1, q.2.1, q.2.2.1, q.2.2.2.1, w, q.2.2.2.2.2)))) (h11 : n = 11 → P (opQ r (fun q => (q.1, q.2.1, q.2.2.1, q.2.2.2.1, q.2.2.2.2.1, w))))
    (h13 : n = 13 → P { r with it := bitsV .u8 .andNot r.it (w % 256) }) (h14 : n = 14 → lowB w = 0 → P { r with g := 0, s := 0, se := 0, at' := 0, it := 0, qs := opq (r.qs.map zQ) }) (h14' : n = 14 → lowB w ≠ 0 → P { r with s := sI (acI r.k r.o r.g) (lowB w) r.s }) : P (wF n w r) := by
  unfold wF
  by_cases c2 : n = 2
  · rw [if_pos c2]
    by_cases c : w ≤ 1
    · rw [if_pos c]; exact h2 c2 c
    · rw [if_neg c]; exact h0
  rw [if_neg c2]
  by_cases c4 : n = 4
  · rw [if_pos c4]
    by_cases c : (hb r.s 2 && (!hb r.s 8 && akI r w != r.g)) = true
    · rw [if_pos c]; exact h4 c4 c
    · rw [if_neg c]; exact h0
  rw [if_neg c4]
  by_cases c5 : n = 5
  · rw [if_pos c5]
    by_cases c : w ≤ 255
    · rw [if_pos c]; exact h5 c5 c
    · rw [if_neg c]; exact h0
  rw [if_neg c5]
  by_cases c7 : n = 7
  · rw [if_pos c7]
    by_cases c : w ≤ (elQ r.qs r.at').1
    · rw [if_pos c]; exact h7 c7 c
    · rw [if_neg c]; exact h0
  rw [if_neg c7]
  by_cases c8 : n = 8
  · rw [if_pos c8]
    by_cases c : w = 0
    · rw [if_pos c]; exact h8 c8 c
    · rw [if_neg c]
      by_cases d : w = 1 ∧ rdB r.g r.s (elQ r.qs r.at') = true
      · rw [if_pos d]; exact h8' c8 d.2
      · rw [if_neg d]; exact h0
  rw [if_neg c8]
  by_cases c9 : n = 9
  · rw [if_pos c9]; exact h9 c9
  rw [if_neg c9]
  by_cases c10 : n = 10
  · rw [if_pos c10]; exact h10 c10
  rw [if_neg c10]
  by_cases c11 : n = 11
  · rw [if_pos c11]; exact h11 c11
  rw [if_neg c11]
  by_cases c13 : n = 13
  · rw [if_pos c13]; exact h13 c13
  rw [if_neg c13]
  by_cases c14 : n = 14
  · rw [if_pos c14]
    by_cases c : lowB w = 0
    · rw [if_pos c]; exact h14 c14 c
    · rw [if_neg c]; exact h14' c14 c
  rw [if_neg c14]
  exact h0
theorem wF_I {r : Rg} {n w : Int} (h : RI r) (hw : 0 ≤ w ∧ w < 18446744073709551616) : RI (wF n w r) := by
  obtain ⟨h1, h2, h3, h4, h5, h6, h7⟩ := vR_iff.1 h.v
  refine wF_elim (P := RI) h (fun _ c => h.of (vR_iff.2 ⟨h1, ⟨hw.1, c⟩, h3, h4, h5, h6, h7⟩) rfl rfl rfl) (fun _ hc => ?_) (fun _ c => h.of (vR_iff.2 ⟨h1, h2, ⟨hw.1, c⟩, h4, h5, h6, h7⟩) rfl rfl rfl)
    (fun _ hc => opQ_I h fun hb hr => bad_un hb hr rfl ⟨hw.1, hc⟩) (fun _ _ => atQ_I h fun hb => bad_un hb rfl rfl (bad_iff.1 hb).2.1) (fun _ hc => atQ_I h fun hb => bad_iff.2 ⟨(bad_iff.1 hb).1, (bad_iff.1 hb).2.1, fun _ => hc⟩)
    (fun _ => opQ_I h fun hb hr => bad_un hb hr rfl (bad_iff.1 hb).2.1) (fun _ => opQ_I h fun hb hr => bad_un hb hr rfl (bad_iff.1 hb).2.1) (fun _ => opQ_I h fun hb hr => bad_un hb hr rfl (bad_iff.1 hb).2.1) (fun _ => ?_) (fun _ _ => ?_) (fun _ _ => ?_)
  · rw [Bool.and_eq_true, Bool.and_eq_true] at hc
    obtain ⟨c2, c8, _⟩ := hc
    have c8 : hb r.s 8 = false := by simpa using c8
    have hg : rng64 (akI r w) = true := by unfold akI; rw [bOr]; exact rng64_iff.2 (U_range _)
    refine h.of (vR_iff.2 ⟨rok_ask h.s h1 hg c2 c8, h2, h3, h4, h5, h6, fun q hq => ?_⟩) rfl rfl rfl
    have hbb := bad_iff.1 (h7 q hq)
    have hr : q.2.2.1 = false := by
      cases hh : q.2.2.1 with
      | false => rfl
      | true => have := hbb.2.2 hh; rw [rd_no8 c8] at this; cases this
    exact bad_iff.2 ⟨hbb.1, hbb.2.1, fun hh => by rw [hr] at hh; cases hh⟩
  · obtain ⟨i, hi⟩ := fin4 (x := r.it) ⟨h.it, h6⟩
    obtain ⟨y, hy⟩ := fin256 (x := w % 256) (by omega)
    have ha := it_and i y
    rw [← hi, ← hy] at ha
    exact ⟨vR_iff.2 ⟨h1, h2, h3, h4, h5, ha.2, h7⟩, h.s, ha.1, h.ge⟩
  · refine ⟨vR_iff.2 ⟨rok_0 h1, by show (0 : Int) ≤ 0 ∧ (0 : Int) ≤ 1; omega, by show (0 : Int) ≤ 0 ∧ (0 : Int) ≤ 255; omega, by show 1 ≤ (opq (r.qs.map zQ)).length ∧ (opq (r.qs.map zQ)).length ≤ 16; rw [opq_eq, List.length_map]; exact h4, h5, by show (0 : Int) ≤ 3; omega, fun q hq => ?_⟩, by show (0 : Int) ∈ valid12; decide, by show (0 : Int) ≤ 0; omega, h.ge⟩
    have hq : q ∈ opq (r.qs.map zQ) := hq
    rw [opq_eq] at hq
    obtain ⟨q0, hq0, rfl⟩ := List.mem_map.1 hq
    have hb := bad_iff.1 (h7 q0 hq0)
    exact bad_iff.2 ⟨hb.1, ⟨Int.le_refl 0, by show (0 : Int) ≤ q0.1; omega⟩, fun hh => by cases hh⟩
  · obtain ⟨g1, g2, g3⟩ := rok_write (w := lowB w) h.s h1
    refine ⟨vR_iff.2 ⟨g1, h2, h3, h4, h5, h6, fun q hq => ?_⟩, g2, h.it, h.ge⟩
    have hb := bad_iff.1 (h7 q hq)
    exact bad_iff.2 ⟨hb.1, hb.2.1, fun hh => rd_s (hb8_keep _ h.s _ _ _ _ _ _) (hb.2.2 hh)⟩
theorem wF_0 {r : Rg} {n w : Int} : Same0 r (wF n w r) :=
  wF_elim (P := Same0 r) .rfl' (fun _ _ => ⟨rfl, rfl, rfl, rfl, rfl⟩) (fun _ _ => ⟨rfl, rfl, rfl, rfl, rfl⟩) (fun _ _ => ⟨rfl, rfl, rfl, rfl, rfl⟩) (fun _ _ => opQ_0) (fun _ _ => atQ_0) (fun _ _ => atQ_0) (fun _ => opQ_0) (fun _ => opQ_0) (fun _ => opQ_0) (fun _ => ⟨rfl, rfl, rfl, rfl, rfl⟩)
    (fun _ _ => ⟨rfl, rfl, by show (opq (r.qs.map zQ)).length = _; rw [opq_eq, List.length_map], rfl, rfl⟩) (fun _ _ => ⟨rfl, rfl, rfl, rfl, rfl⟩)
/-- What a write leaves of each queue. -/
theorem wF_q {r : Rg} {n w : Int} (h : RI r) (j : Nat) : QR (n = 14 ∧ lowB w = 0) (n = 8) (elQ r.qs (j : Int)) (elQ (wF n w r).qs (j : Int)) := by
  obtain ⟨_, _, ⟨h0, _⟩, _⟩ := vR_iff.1 h.v
  refine wF_elim (P := fun x => QR (n = 14 ∧ lowB w = 0) (n = 8) (elQ r.qs (j : Int)) (elQ x.qs (j : Int))) (QR.refl _) (fun _ _ => QR.refl _) (fun _ _ => QR.refl _) (fun _ _ => QR.refl _) (fun _ _ => opQ_q h0 rfl j) (fun h8 _ => atQ_q h0 ⟨rfl, fun _ _ => ⟨rfl, rfl, .inr h8⟩⟩ j) (fun h8 _ => atQ_q h0 ⟨rfl, fun _ _ => ⟨rfl, rfl, .inl rfl⟩⟩ j)
    (fun _ => opQ_q h0 rfl j) (fun _ => opQ_q h0 rfl j) (fun _ => opQ_q h0 rfl j) (fun _ => QR.refl _) (fun h14 hl => ?_) (fun _ _ => QR.refl _)
  show QR _ _ _ (elQ (opq (r.qs.map zQ)) (j : Int))
  rw [opq_eq]
  by_cases hj : j < r.qs.length
  · rw [elQ_map hj]; exact ⟨rfl, fun _ hr => absurd ⟨h14, hl⟩ hr⟩
  · have e : ∀ qs : List Qe, ¬ j < qs.length → elQ qs (j : Int) = (0, 0, false, 0, 0, 0) := fun qs hq => by
      show qs.getD j _ = _
      rw [List.getD_eq_getElem?_getD, List.getElem?_eq_none (by omega)]; rfl
    rw [e _ hj, e _ (by rw [List.length_map]; exact hj)]; exact QR.refl _
/-- A write, not of the status, changes at most the queue that is named. -/
theorem wF_apart {r : Rg} {n w : Int} (h : RI r) (hn : n ≠ 14) {j : Nat} (hj : (j : Int) ≠ r.at') : elQ (wF n w r).qs (j : Int) = elQ r.qs (j : Int) := by
  obtain ⟨_, _, ⟨h0, _⟩, _⟩ := vR_iff.1 h.v
  have hs : ∀ f : Qe → Qe, elQ (setQ r f).qs (j : Int) = elQ r.qs (j : Int) := fun f => by
    show elQ (r.qs.set r.at'.toNat (f (elQ r.qs r.at'))) (j : Int) = _
    rw [elQ_set, if_neg (by omega)]
  have ha : ∀ f : Qe → Qe, elQ (atQ r f).qs (j : Int) = elQ r.qs (j : Int) := fun f => by unfold atQ; split; rfl; exact hs f
  have ho : ∀ f : Qe → Qe, elQ (opQ r f).qs (j : Int) = elQ r.qs (j : Int) := fun f => by unfold opQ; split; rfl; split; rfl; exact hs f
  exact wF_elim (P := fun x => elQ x.qs (j : Int) = elQ r.qs (j : Int)) rfl (fun _ _ => rfl) (fun _ _ => rfl) (fun _ _ => rfl) (fun _ _ => ho _) (fun _ _ => ha _) (fun _ _ => ha _) (fun _ => ho _) (fun _ => ho _) (fun _ => ho _) (fun _ => rfl) (fun h14 _ => absurd h14 hn) (fun _ _ => rfl)
/-- Registers that are only read. -/
theorem wF_read {r : Rg} {n w : Int} (hn : n = 1 ∨ n = 3 ∨ n = 6 ∨ n = 12 ∨ n = 15 ∨ n = 16) : wF n w r = r := by
  unfold wF
  rw [if_neg (by omega), if_neg (by omega), if_neg (by omega), if_neg (by omega), if_neg (by omega), if_neg (by omega), if_neg (by omega), if_neg (by omega), if_neg (by omega), if_neg (by omega)]
theorem sgF_I {r : Rg} (h : RI r) : RI (sgF r) := by
  obtain ⟨h1, h2, h3, h4, h5, h6, h7⟩ := vR_iff.1 h.v
  obtain ⟨i, hi⟩ := fin4 (x := r.it) ⟨h.it, h6⟩
  have ha := it_or1 i
  rw [← hi] at ha
  exact ⟨vR_iff.2 ⟨h1, h2, h3, h4, h5, ha.2, h7⟩, h.s, ha.1, h.ge⟩
theorem bkF_I {r : Rg} (h : RI r) : RI (bkF r) := by
  obtain ⟨h1, h2, h3, h4, h5, h6, h7⟩ := vR_iff.1 h.v
  unfold bkF
  split
  · rename_i hb4
    obtain ⟨i, hi⟩ := fin4 (x := r.it) ⟨h.it, h6⟩
    have ha := it_or2 i
    rw [← hi] at ha
    obtain ⟨g1, g2, _⟩ := rok_brk h.s h1 hb4
    refine ⟨vR_iff.2 ⟨g1, h2, h3, h4, h5, ha.2, fun q hq => ?_⟩, g2, ha.1, h.ge⟩
    have hb := bad_iff.1 (h7 q hq)
    exact bad_iff.2 ⟨hb.1, hb.2.1, fun hh => rd_s (hb8_brk _ h.s) (hb.2.2 hh)⟩
  · exact h
theorem chF_I {r : Rg} {n : Int} {bs : List Int} (h : RI r) (hc : chB r n bs = true) : RI (chF r n bs) ∧ (chF r n bs).cf.length = r.cf.length := by
  obtain ⟨h1, h2, h3, h4, h5, h6, h7⟩ := vR_iff.1 h.v
  obtain ⟨i, hi⟩ := fin4 (x := r.it) ⟨h.it, h6⟩
  have ha := it_or2 i
  rw [← hi] at ha
  have hc : 0 ≤ n ∧ n ≤ (r.cf.length : Int) ∧ (bs.length : Int) ≤ (r.cf.length : Int) - n := of_decide_eq_true hc
  have hl : (chF r n bs).cf.length = r.cf.length := overL_length (by omega)
  refine ⟨⟨vR_iff.2 ⟨h1, h2, h3, h4, by show (chF r n bs).cf.length ≤ 256; rw [hl]; exact h5, ha.2, h7⟩, h.s, ha.1, by show 0 ≤ (r.ge + 1) % 256 ∧ (r.ge + 1) % 256 < 256; omega⟩, hl⟩
theorem nwR_I {k o : Int} {ls cf : List Int} (h : nwOk k o ls cf = true) : RI (nwO k o ls cf) := by
  unfold nwOk at h
  rw [opq_eq] at h
  unfold nwO
  rw [opq_eq]
  exact ⟨h, by show (0 : Int) ∈ valid12; decide, by show (0 : Int) ≤ 0; omega, by show (0 : Int) ≤ 0 ∧ (0 : Int) < 256; omega⟩
end
end Go.Proofs.Ytknkemjbikbhgaa
