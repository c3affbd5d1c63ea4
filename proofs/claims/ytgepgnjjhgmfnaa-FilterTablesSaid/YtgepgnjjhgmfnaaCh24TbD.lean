/-
  Chapter 24: FilterTables, from its first loop to its end. Own work; nothing here is trusted.
-/
import Derived.Test.YtgepgnjjhgmfnaaCh24TbC
namespace Go.Proofs.Ytgepgnjjhgmfnaa
open Go Go.Sx Go.RowKit
set_option maxRecDepth 1000000
set_option maxHeartbeats 8000000
set_option linter.unusedVariables false
set_option linter.unusedSimpArgs false
noncomputable section
/-- What stands but for three blocks. -/
structure Kept (w w' : World) (fb gb cb : Nat) : Prop where
  sys : w'.os = w.os
  tape : w'.tape = w.tape
  out : w'.output = w.output
  size : w.heap.size ≤ w'.heap.size
  old : ∀ b, b < w.heap.size → b ≠ fb → b ≠ gb → b ≠ cb → w'.heap[b]? = w.heap[b]?
section
variable {w : World} {a : Act} {fb gb cb : Nat} {m : Mac} {p q : Bool} {o g : Lo Mac} {v : Lo Int} {t1 t2 t3 tl : Sv} {ts0 : List Sv}
theorem kept_of {w1 w4 : World} {mb : Nat} {ρ : Asg} {os : List (SO C24)} (hmb : w.heap.size ≤ mb ∨ mb = cb) (h1 : w1.os = w.os ∧ w1.tape = w.tape ∧ w1.output = w.output ∧ w.heap.size ≤ w1.heap.size ∧ ∀ b, b < w.heap.size → b ≠ cb → w1.heap[b]? = w.heap[b]?)
    (h2 : FarS w1 (fun b => b = mb ∨ b = fb ∨ b = gb) ρ os w4) : Kept w w4 fb gb cb := by
  obtain ⟨a1, a2, a3, a4, a5⟩ := h1
  refine ⟨h2.sys.trans a1, h2.tape.trans a2, h2.out.trans a3, Nat.le_trans a4 h2.size, fun b hb hf hg hc => ?_⟩
  refine (h2.old b (Nat.lt_of_lt_of_le hb a4) fun hs => ?_).trans (a5 b hb hc)
  rcases hs with hs | hs | hs
  · omega
  · exact hf hs
  · exact hg hs
theorem fl_len {G : Gw} : (fltO (gw G)).length + 3 = fltN (gw G) 3 := by
  obtain ⟨m0, p, q, a, b, c⟩ := G
  cases a <;> cases b <;> cases c <;> rfl
theorem obG_M {o : Lo Mac} : obG 22 o = obM o := by cases o <;> rfl
theorem mine_cell {ρ : Asg} {os : List (SO C24)} {w : World} {fz : Nat → Prop} (h : Self fz ρ os w) {i j : Nat} {oi oj : SO C24} {u : Value} {x y : Nat} (hij : i ≠ j) (hi : os[i]? = some oi) (hj : os[j]? = some oj) (ho : oi.owns = true) (hl : oj.live = true) (hx : ∃ v, ρ i = some v ∧ blk v = some x) (hy : ∃ v, ρ j = some v ∧ blk v = some y) : x ≠ y := by
  obtain ⟨v, h1, h2⟩ := hx
  obtain ⟨v', h3, h4⟩ := hy
  have a := num_find (m := 0) hi
  have b := num_find (m := 0) hj
  rw [Nat.zero_add] at a b
  intro e
  exact h.sep i j _ _ _ _ x hij a b ho hl h1 h3 h2 (e ▸ h4)
/-- The end: what the filter has is what was commanded. -/
theorem last_part (h : Ent w a fb gb cb m p q o g v t1 t2 t3 tl ts0) {w1 w3 : World} {a3 : Act} {mb : Nat} {fz : Nat → Prop} {G : Gw} {M : List (Int × Bool)} (hmb : w.heap.size ≤ mb ∨ mb = cb)
    (h1 : w1.os = w.os ∧ w1.tape = w.tape ∧ w1.output = w.output ∧ w.heap.size ≤ w1.heap.size ∧ ∀ b, b < w.heap.size → b ≠ cb → w1.heap[b]? = w.heap[b]?) {k n : Int}
    (hs : St w1 (fun b => b = mb ∨ b = fb ∨ b = gb) fz sl4 (naV k n) (naO (m, p, q, t1, t2, t3) (gw G) M) a3 w3) :
    St w1 (fun b => b = mb ∨ b = fb ∨ b = gb) fz [2, 5, 14] (zeV k) (zeO m p q o g t3 (gw G) M) a3 w3 := by
  obtain ⟨hN, hD, ρ, hS1, hT, hF⟩ := hs
  have hK := kept_of (w := w) hmb h1 hF
  have hD1 : ∀ b, (b ≠ fb ∧ b ≠ gb ∧ b ≠ cb) ∧ b < w.heap.size → ¬ Mine ρ (naO (m, p, q, t1, t2, t3) (gw G) M) b := fun b hb hm => by
    obtain ⟨⟨b1, b2, b3⟩, b4⟩ := hb
    rcases hF.mine b hm with e | e | e | e
    · have := h1.2.2.2.1; omega
    · omega
    · exact b1 e
    · exact b2 e
  have vo : VwG 22 w3 (fun b => (b ≠ fb ∧ b ≠ gb ∧ b ≠ cb) ∧ b < w.heap.size) o t1 := by
    have := h.vo
    cases o with
    | none => exact this
    | some x =>
      obtain ⟨x1, x2, ad, cap, x3, x4, x5, x6, x7⟩ := this
      exact VwG.stay (w := w) ⟨x1, x2, ad, cap, x3, x4, x5, ⟨x6, x5⟩, x7⟩ hK.size fun b hb hd => hK.old b hb hd.1.1 hd.1.2.1 hd.1.2.2
  have vg : VwG 22 w3 (fun b => (b ≠ fb ∧ b ≠ gb ∧ b ≠ cb) ∧ b < w.heap.size) g t2 := by
    have := h.vg
    cases g with
    | none => exact this
    | some x =>
      obtain ⟨x1, x2, ad, cap, x3, x4, x5, x6, x7⟩ := this
      exact VwG.stay (w := w) ⟨x1, x2, ad, cap, x3, x4, x5, ⟨x6, x5⟩, x7⟩ hK.size fun b hb hd => hK.old b hb hd.1.1 hd.1.2.1 hd.1.2.2
  obtain ⟨ρ1, s1, e1, d1, m1⟩ := add_view hS1 vo hD1
  obtain ⟨ρ2, s2, e2, d2, m2⟩ := add_view s1 vg fun b hb hm => hD1 b hb (m1 b hm)
  have hl : (naO (m, p, q, t1, t2, t3) (gw G) M).length = fltN (gw G) 3 := by
    rw [← fl_len]; rfl
  have hl2 : (naO (m, p, q, t1, t2, t3) (gw G) M ++ obG 22 o).length = nx o (fltN (gw G) 3) := by
    rw [List.length_append, hl]; cases o <;> rfl
  rw [hl] at d1
  rw [hl2] at d2
  have d1' : den ρ2 (hS o (fltN (gw G) 3)) = some (svV t1) := by
    cases o with
    | none => exact d1
    | some x =>
      have : ρ2 (fltN (gw G) 3) = ρ1 (fltN (gw G) 3) := e2 _ (by rw [hl2]; exact Nat.lt_succ_self _)
      exact this.trans d1
  have d2' : den ρ2 (hS (α := Mac) g (nx (α := Mac) o (fltN (gw G) 3))) = some (svV t2) := d2
  have s3 := s2.recell (i := 1) (cs' := fltL m p q (hS o (fltN (gw G) 3)) (hS g (nx o (fltN (gw G) 3))) (.raw (svV t3))) (os' := zeO m p q o g t3 (gw G) M) rfl (by
    show denL ρ2 (fltL m p q (hS o (fltN (gw G) 3)) (hS g (nx o (fltN (gw G) 3))) (.raw (svV t3))) = denL ρ2 (fltL m p q (.raw (svV t1)) (.raw (svV t2)) (.raw (svV t3)))
    simp only [fltL, denL, d1', d2']
    rfl) (by
    rw [obG_M, obG_M, List.append_assoc]; rfl)
  have hlt : ∀ i, i < 3 → ρ2 i = ρ i := fun i hi => by
    have hle : 3 ≤ fltN (gw G) 3 := by rw [← fl_len]; omega
    have a := e2 i (by rw [List.length_append, hl]; omega)
    have b := e1 i (by rw [hl]; omega)
    exact a.trans b
  refine ⟨hN, hD, ρ2, s3, TmL.ok ?_, { hF with mine := fun b hm => ?_ }⟩
  · obtain ⟨u2, x2, y2⟩ := hT 2 (.h 1) rfl
    obtain ⟨u5, x5, y5⟩ := hT 5 (.h 2) rfl
    obtain ⟨u14, x14, y14⟩ := hT 14 (.raw (.int .i64 k)) rfl
    exact ⟨⟨u2, (hlt 1 (by decide)).trans x2, y2⟩, ⟨u5, (hlt 2 (by decide)).trans x5, y5⟩, ⟨u14, x14, y14⟩, trivial⟩
  · refine hF.mine b (m1 b (m2 b ?_))
    obtain ⟨i, O, u, q1, q2, q3, q4⟩ := hm
    have e : zeO m p q o g t3 (gw G) M = (naO (m, p, q, t1, t2, t3) (gw G) M ++ obG 22 o ++ obG 22 g).set 1 (.box (fltL m p q (hS o (fltN (gw G) 3)) (hS g (nx o (fltN (gw G) 3))) (.raw (svV t3))) 26) := by
      rw [obG_M, obG_M, List.append_assoc]; rfl
    rw [e] at q1
    by_cases hi : i = 1
    · subst hi
      exact ⟨1, _, u, rfl, rfl, q3, q4⟩
    · rw [List.getElem?_set_ne (fun e => hi e.symm)] at q1
      exact ⟨i, O, u, q1, q2, q3, q4⟩
/-- From the first loop to the end. -/
theorem rest_part (h : Ent w a fb gb cb m p q o g v t1 t2 t3 tl ts0) (ho : (lo o).length ≤ 60) (hg : (lo g).length ≤ 60) (hv : (lo v).length ≤ 60) (hb1 : byB (tabW (lo o) (lo g)) = true) (hb2 : byB (1 :: 1 :: mcB m) = true)
    {a1 : Act} {w1 : World} (hL : L1 (fun b => b ≠ fb ∧ b ≠ gb) w cb v (pAt fb) (pAt gb) (base4 (lo o) (lo g) p q m) (lo v).length a1 w1)
    {Q : Exit → Act → World → Prop} (hk : ∀ a4 w4, a4.tmps.size = 167 → a4.defers = [] → a4.tmps[4]? = some (.bool true) → Kept w w4 fb gb cb → Q .ret a4 w4) : tbQ.wp Try.prog Q a1 w1 := by
  obtain ⟨l, mb, fz, ht, hmb, h1, hst⟩ := stage_c h hL
  have hlen : l.length = 4 + (lo v).length := by rw [ht.len, List.length_append, opsK_len]; rfl
  have fin : ∀ {a4 w4}, St w1 (fun b => b = mb ∨ b = fb ∨ b = gb) fz [4] [.raw (.bool true)] [] a4 w4 → Q .ret a4 w4 := fun {a4 w4} h4 => by
    have h4' := h4
    obtain ⟨q1, q2, ρ, q3, q4, q5⟩ := h4'
    exact hk a4 w4 q1 q2 (h4.tm rfl) (kept_of hmb h1 q5)
  rw [tbQ_eq]
  refine wp_seq (wp_seq (wp_mono (st_step rfl p15 hst) fun e a2 w2 hq => ?_))
  obtain ⟨rfl, h2⟩ := hq
  by_cases hs : (lo o).length ≤ 32 ∧ (lo g).length ≤ 32
  · have hgood : Good (m, p, q, t1, t2, t3) l := good_of ht hb1 hb2 hs.1 hs.2 hv h.vo.len h.vg.len
    obtain ⟨c, r1, r2, r3, r4⟩ := run_all ht hs.1 hs.2 (lo v).length (Nat.le_refl _)
    rw [← hlen] at r1
    refine wp_mono (loop2 hgood h2) fun e a3 w3 hq => ?_
    obtain ⟨rfl, h3⟩ := hq
    refine wp_seq (wp_mono (st_step rfl p24 h3) fun e a4 w4 hq => ?_)
    obtain ⟨rfl, h4⟩ := hq
    refine wp_seq (wp_seq (wp_mono (st_step rfl p25 h4) fun e a5 w5 hq => ?_))
    obtain ⟨rfl, h5⟩ := hq
    have e1 : (pw (runG l l.length)).2.2.2.2.2 = c.getD [] := by rw [r1]; rfl
    refine wp_mono (loop3 (by rw [e1]; exact r2) (by rw [e1]; omega) (fun n hn => by rw [e1]; exact r4 n) h5) fun e a6 w6 hq => ?_
    obtain ⟨rfl, h6⟩ := hq
    have h7 := last_part h hmb h1 h6
    refine wp_seq (wp_mono (st_step rfl (z_end (by rw [r1]) (by rw [r1]) (by rw [r1]) (by rw [r1, pw_op]) (by rw [r1, pw_op]) (by omega) (by omega)) h7) fun e a8 w8 hq => ?_)
    obtain ⟨rfl, h8⟩ := hq
    exact wp_ret (fin h8)
  · have hx := x_0 ht (ol := lo o) (gl := lo g) (by omega) (by omega)
    rw [decide_eq_false hs] at hx
    have hb0 := tell_by ht hb1 hb2 (k := 0) (by omega)
    refine wp_mono (loop2_err (by omega) hb0.2 hb0.1 (by
      have a1 : t1.2.1 = @List.length Mac (lo o) := h.vo.len
      have a2 : t2.2.1 = @List.length Mac (lo g) := h.vg.len
      show 32 < t1.2.1 ∨ 32 < t2.2.1
      rw [a1, a2]; omega) hx h2) fun e a3 w3 hq => ?_
    obtain ⟨rfl, h3⟩ := hq
    exact fin h3
/-- The piece, whole. -/
theorem piece_whole (h : Ent w a fb gb cb m p q o g v t1 t2 t3 tl ts0) (ho : (lo o).length ≤ 60) (hg : (lo g).length ≤ 60) (hv : (lo v).length ≤ 60) (hb1 : byB (tabW (lo o) (lo g)) = true) (hb2 : byB (1 :: 1 :: mcB m) = true)
    {Q : Exit → Act → World → Prop} (hk : ∀ a4 w4, a4.tmps.size = 167 → a4.defers = [] → a4.tmps[4]? = some (.bool true) → Kept w w4 fb gb cb → Q .ret a4 w4) : tbl.wp Try.prog Q a w :=
  first_part h hv fun a1 w1 hL => rest_part h ho hg hv hb1 hb2 hL hk
end
end
end Go.Proofs.Ytgepgnjjhgmfnaa
