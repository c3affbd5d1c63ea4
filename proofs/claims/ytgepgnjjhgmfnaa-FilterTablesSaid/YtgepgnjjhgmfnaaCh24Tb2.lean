/-
  Chapter 24: FilterTables, its loop over numbers, told by hand. Own work; nothing here is trusted.
-/
import Derived.Test.YtgepgnjjhgmfnaaCh24Tb1
namespace Go.Proofs.Ytgepgnjjhgmfnaa
open Go Go.Sx Go.RowKit
set_option maxRecDepth 1000000
set_option maxHeartbeats 8000000
set_option linter.unusedVariables false
set_option linter.unusedSimpArgs false
noncomputable section
/-- What is far from a row stands since the begin. -/
structure Far (w0 : World) (cb : Nat) (ρ : Asg) (os : List (SO C24)) (w : World) : Prop where
  sys : w.os = w0.os
  tape : w.tape = w0.tape
  out : w.output = w0.output
  size : w0.heap.size ≤ w.heap.size
  old : ∀ b, b < w0.heap.size → b ≠ cb → w.heap[b]? = w0.heap[b]?
  mine : ∀ g, Mine ρ os g → w0.heap.size ≤ g ∨ g = cb
theorem Far.step {w0 : World} {cb : Nat} {ρ ρ' : Asg} {os os' : List (SO C24)} {w w' : World} (h : Far w0 cb ρ os w) (s : Stood ρ os w w') (hm : ∀ g, Mine ρ' os' g → w.heap.size ≤ g ∨ Mine ρ os g) : Far w0 cb ρ' os' w' :=
  ⟨s.sys.trans h.sys, s.tape.trans h.tape, s.out.trans h.out, Nat.le_trans h.size s.size,
    fun b hb hc => (s.old b (Nat.lt_of_lt_of_le hb h.size) fun hm => (h.mine b hm).elim (fun h' => by omega) hc).trans (h.old b hb hc),
    fun g hg => (hm g hg).elim (fun h' => .inl (Nat.le_trans h.size h')) (h.mine g)⟩
theorem Far.sub {w0 : World} {cb : Nat} {ρ ρ' : Asg} {os os' : List (SO C24)} {w : World} (h : Far w0 cb ρ os w) (hm : ∀ g, Mine ρ' os' g → Mine ρ os g) : Far w0 cb ρ' os' w :=
  { h with mine := fun g hg => h.mine g (hm g hg) }
/-- Bytes that stand behind a slice. -/
def InB (w : World) (t : Sv) (b : List Int) : Prop := ∃ ad c, t = (some ad, b.length, c) ∧ b.length ≤ c ∧ ad.block < w.heap.size ∧ ∀ i x, ((C24 5).flat b)[i]? = some x → w.cell? (ad.add i) = some x
/-- .. in blocks that are not owned. -/
def InR (Q : Nat → Prop) (ρ : Asg) (os : List (SO C24)) (w : World) (ts : List Sv) (bs : List (List Int)) : Prop :=
  ts.length = bs.length ∧ ∀ (j : Nat) (t : Sv) (b : List Int), ts[j]? = some t → bs[j]? = some b → InB w t b ∧ ∀ ad, t.1 = some ad → ¬ Mine ρ os ad.block ∧ Q ad.block
theorem InB.stay {w w' : World} {t : Sv} {b : List Int} (h : InB w t b) (hs : w.heap.size ≤ w'.heap.size) (ho : ∀ ad, t.1 = some ad → w'.heap[ad.block]? = w.heap[ad.block]?) : InB w' t b := by
  obtain ⟨ad, c, rfl, h1, h2, h3⟩ := h
  refine ⟨ad, c, rfl, h1, Nat.lt_of_lt_of_le h2 hs, fun i x hx => ?_⟩
  rw [World.cell?_of_block (w := w) (a := ad.add i) (by rw [Addr.add_block]; exact ho ad rfl)]
  exact h3 i x hx
theorem InB.lt {w : World} {t : Sv} {b : List Int} (h : InB w t b) : ∀ ad, t.1 = some ad → ad.block < w.heap.size := by
  obtain ⟨ad, c, rfl, h1, h2, h3⟩ := h
  intro ad' e; cases e; exact h2
theorem InR.step {Q : Nat → Prop} {ρ ρ' : Asg} {os os' : List (SO C24)} {w w' : World} {ts : List Sv} {bs : List (List Int)} (h : InR Q ρ os w ts bs) (s : Stood ρ os w w') (hm : ∀ g, Mine ρ' os' g → w.heap.size ≤ g ∨ Mine ρ os g) : InR Q ρ' os' w' ts bs :=
  ⟨h.1, fun j t b ht hb => by
    obtain ⟨h1, h2⟩ := h.2 j t b ht hb
    exact ⟨h1.stay s.size fun ad e => s.old _ (h1.lt ad e) (h2 ad e).1, fun ad e => ⟨fun hg => (hm _ hg).elim (fun h' => by have := h1.lt ad e; omega) (h2 ad e).1, (h2 ad e).2⟩⟩⟩
theorem InR.sub {Q : Nat → Prop} {ρ ρ' : Asg} {os os' : List (SO C24)} {w : World} {ts : List Sv} {bs : List (List Int)} (h : InR Q ρ os w ts bs) (hm : ∀ g, Mine ρ' os' g → Mine ρ os g) : InR Q ρ' os' w ts bs :=
  ⟨h.1, fun j t b ht hb => ⟨(h.2 j t b ht hb).1, fun ad e => ⟨fun hg => ((h.2 j t b ht hb).2 ad e).1 (hm _ hg), ((h.2 j t b ht hb).2 ad e).2⟩⟩⟩
theorem InR.snoc {Q : Nat → Prop} {ρ : Asg} {os : List (SO C24)} {w : World} {ts : List Sv} {bs : List (List Int)} {t : Sv} {b : List Int} (h : InR Q ρ os w ts bs) (hb : InB w t b) (hn : ∀ ad, t.1 = some ad → ¬ Mine ρ os ad.block ∧ Q ad.block) : InR Q ρ os w (ts ++ [t]) (bs ++ [b]) := by
  refine ⟨by simp [h.1], fun j t' b' h1 h2 => ?_⟩
  rw [List.getElem?_append] at h1 h2
  rw [h.1] at h1
  split at h1
  · rename_i hlt
    rw [if_pos hlt] at h2
    exact h.2 j t' b' h1 h2
  · rename_i hge
    rw [if_neg hge] at h2
    have e : j - bs.length = 0 := by
      have := (List.getElem?_eq_some_iff.1 h1).1
      simp at this; omega
    rw [e] at h1 h2
    cases h1; cases h2
    exact ⟨hb, hn⟩
/-! ### what the loop makes -/
def mpK (ls : List Int) : Nat → List (Int × Bool)
  | 0 => []
  | k + 1 => insM (mpK ls k) (nuK ls k) (onK k)
def opsK (ls : List Int) : Nat → List (List Int)
  | 0 => []
  | k + 1 => opsK ls k ++ [vlB (nuK ls k) (onK k)]
theorem opsK_len (ls : List Int) : ∀ k, (opsK ls k).length = k
  | 0 => rfl
  | k + 1 => by unfold opsK; rw [List.length_append, opsK_len ls k]; rfl
structure L1 (Q : Nat → Prop) (w0 : World) (cb : Nat) (v : Lo Int) (v2 v5 : Value) (c4 : List (List Int)) (k : Nat) (a : Act) (w : World) : Prop where
  size : a.tmps.size = 167
  defers : a.defers = []
  ex : ∃ ρ ts, Self (fun _ => False) ρ (tO ts (mpK (lo v) k) v) w ∧ TmOk ρ (zipT sl6 (tV v v2 v5 (k : Int))) a ∧ Far w0 cb ρ (tO ts (mpK (lo v) k) v) w ∧ InR Q ρ (tO ts (mpK (lo v) k) v) w ts (c4 ++ opsK (lo v) k)
theorem den_h {ρ : Asg} {i : Nat} {v : Value} (h : den ρ (.h i) = some v) : ρ i = some v := h
theorem f6_ex : ∃ fn c, Try.prog.funcs[6]? = some fn ∧ fn.body = some c ∧ fn.ntmps = 167 ∧ pickL 7 (sqs c) = [tbl] := by
  have h := tbl_eq
  have ht : tbl = .seq (.region 7 (opsOf 7) false) (.seq (.seq (.region 8 (opsOf 8) false) (.block 0 (.loop cdL))) tbQ) := by
    unfold tbl; rw [h]; rfl
  unfold seqOf at h
  split at h
  · rename_i fn hfn
    split at h
    · rename_i c hc
      split at h
      · rename_i s hs
        simp only [Option.some.injEq, Prod.mk.injEq] at h
        exact ⟨fn, c, hfn, hc, h.1, by rw [hs, h.2, ← ht]⟩
      · cases h
    · cases h
  · cases h
theorem step6 {c : Code} (hc : lps 0 c = []) {slots outs : List Nat} {ivs : List SV} {os : List (SO C24)} {x : Ex} {vs : List SV} {os' : List (SO C24)}
    (h : (pieceL C24 Try.prog sfT1 noLs (fun _ _ => 20) 10 6 167 c slots outs ⟨ivs, 0, os⟩).get = some (x, vs, os')) {fz : Nat → Prop} {ρ : Asg} {w : World} {a : Act} (hN : a.tmps.size = 167) (hD : a.defers = []) (RR : Self fz ρ os w) (T : TmOk ρ (zipT slots ivs) a) :
    c.wp Try.prog (StepQ 167 outs fz ρ os w x vs os') a w := by
  obtain ⟨fn, c0, h1, h2, h3, _⟩ := f6_ex
  exact self_step plain mixed sfT1_ok noLs_ok h1 h2 h3 (fun x hx => by rw [hc] at hx; cases hx) h hN hD RR T
theorem mine_pop {ρ : Asg} {os : List (SO C24)} {o : SO C24} {g : Nat} (h : Mine (fun i => ρ (if i < os.length then i else i + 1)) os g) : Mine ρ (os ++ [o]) g := by
  obtain ⟨i, O, v, h1, h2, h3, h4⟩ := h
  have hlt := (List.getElem?_eq_some_iff.1 h1).1
  have h3 : ρ (if i < os.length then i else i + 1) = some v := h3
  rw [if_pos hlt] at h3
  exact ⟨i, O, v, by rw [List.getElem?_append_left hlt]; exact h1, h2, h3, h4⟩
theorem ops14_wp {Q : Exit → Act → World → Prop} {a : Act} {w : World} (h : wpList Try.prog (opsOf 14).toList.toArray Q (ops14a ++ ops14b) a w) : (Code.region 14 (opsOf 14) false).wp Try.prog Q a w := wp_region_list (by
  rw [← ops14_eq] at h
  have e : (opsOf 14).toList.toArray = opsOf 14 := Array.toArray_toList
  rw [e] at h
  exact h)
theorem bytes33 : Try.prog.types[(33 : Nat)].bytes ≤ 1000 := by
  have h : Nat.ble Try.prog.types[(33 : Nat)].bytes 1000 = true := by kernel_rfl
  exact Nat.le_of_ble_eq_true h
theorem room33 {n : Nat} (h : n ≤ 1000) : roomB n Try.prog.types[(33 : Nat)].bytes = true := decide_eq_true (Nat.le_trans (Nat.mul_le_mul h bytes33) (by decide))
section
variable {Q : Nat → Prop} {w0 : World} {cb : Nat} {v : Lo Int} {v2 v5 : Value} {c4 : List (List Int)}
theorem tO_ren {ts : List Sv} {m : List (Int × Bool)} {v : Lo Int} : ∀ O ∈ tO ts m v, ∀ f : Nat → Nat, renO f O = O := fun O hO f => by
  cases v with
  | none =>
    have hO : O ∈ [SO.sl true false 33 ts, SO.mp .i64 4 m] := hO
    simp only [List.mem_cons, List.not_mem_nil, or_false] at hO
    rcases hO with rfl | rfl <;> rfl
  | some x =>
    have hO : O ∈ [SO.sl true false 33 ts, SO.mp .i64 4 m, .sl x.1 x.2.1 3 x.2.2] := hO
    simp only [List.mem_cons, List.not_mem_nil, or_false] at hO
    rcases hO with rfl | rfl | rfl <;> rfl
theorem tO_len {ts : List Sv} {m : List (Int × Bool)} {v : Lo Int} : (tO ts m v).length = nx v 2 := by cases v <;> rfl
theorem r14_go (hQ : ∀ g, w0.heap.size ≤ g ∨ g = cb → Q g) {k n : Int} {on : Bool} {ts : List Sv} {bs : List (List Int)} {m : List (Int × Bool)} {ρ3 : Asg} {a3 : Act} {w3 : World} (hN3 : a3.tmps.size = 167) (hD3 : a3.defers = []) (hS3 : Self (fun _ => False) ρ3 (tO ts m v) w3)
    (hT3 : TmOk ρ3 (zipT sl8 (tV8 v v2 v5 k n on)) a3) (hF3 : Far w0 cb ρ3 (tO ts m v) w3) (hI3 : InR Q ρ3 (tO ts m v) w3 ts bs) (hlen : ts.length ≤ 900) :
    (Code.region 14 (opsOf 14) false).wp Try.prog (fun e a w => e = .normal ∧ a.tmps.size = 167 ∧ a.defers = [] ∧ ∃ ρ ts', Self (fun _ => False) ρ (tO ts' m v) w ∧ TmOk ρ (zipT sl6 (tV v v2 v5 k)) a ∧ Far w0 cb ρ (tO ts' m v) w ∧ InR Q ρ (tO ts' m v) w ts' (bs ++ [vlB n on])) a3 w3 := by
  refine ops14_wp (self_ops plain mixed sfT1_ok noLs_ok (all := (opsOf 14).toList) (l := ops14a) (r := ops14b) p14a hN3 hD3 hS3 hT3 fun a4 w4 hq => ?_)
  obtain ⟨_, hN4, hD4, ρ4, hS4, s4, m4, hT4⟩ := hq
  generalize hρ5 : (fun i => ρ4 (if i < (tO ts m v).length then i else i + 1)) = ρ5
  have hF4 := (hF3.step s4 m4).sub (ρ' := ρ5) (os' := tO ts m v) fun g hg => mine_pop (by rw [hρ5]; exact hg)
  have hI4 := (hI3.step s4 m4).sub (ρ' := ρ5) (os' := tO ts m v) fun g hg => mine_pop (by rw [hρ5]; exact hg)
  have hS5 := hS4.pop tO_ren
  rw [hρ5] at hS5
  have hfb := num_find (os := tO ts m v ++ [.sl true true 5 (vlB n on)]) (m := 0) (i := (tO ts m v).length) (List.getElem?_concat_length)
  rw [Nat.zero_add] at hfb
  obtain ⟨vb, hvb, a0, cap, rfl, hle, hful, hown⟩ := hS4.obj _ _ hfb
  obtain ⟨g0, tot, rfl, _⟩ := id hown
  have hInB : InB w4 (some ⟨g0, 0, none⟩, (vlB n on).length, cap) (vlB n on) :=
    ⟨⟨g0, 0, none⟩, cap, rfl, hle, hS4.blkOk _ _ _ _ hfb rfl hvb rfl, fun i x hx => by
      obtain ⟨a', e, hc⟩ := hown.cell i x hx
      cases e; exact hc⟩
  have hno : ∀ ad, (some ⟨g0, 0, none⟩ : Option Addr) = some ad → ¬ Mine ρ5 (tO ts m v) ad.block ∧ Q ad.block := fun ad e => by
    cases e
    refine ⟨fun hm => ?_, hQ g0 ?_⟩
    rotate_left
    · have hmine : Mine ρ4 (tO ts m v ++ [.sl true true 5 (vlB n on)]) g0 := ⟨_, _, _, List.getElem?_concat_length, rfl, hvb, rfl⟩
      rcases m4 g0 hmine with h | h
      · exact .inl (Nat.le_trans hF3.size h)
      · exact hF3.mine g0 h
    subst hρ5
    obtain ⟨i, O, u, h1, h2, h3, h5⟩ := hm
    have hlt := (List.getElem?_eq_some_iff.1 h1).1
    have h3 : ρ4 (if i < (tO ts m v).length then i else i + 1) = some u := h3
    rw [if_pos hlt] at h3
    have hfi := num_find (os := tO ts m v ++ [.sl true true 5 (vlB n on)]) (m := 0) (i := i) (o := O) (by rw [List.getElem?_append_left hlt]; exact h1)
    rw [Nat.zero_add] at hfi
    exact hS4.sep i _ O _ u _ g0 (by omega) hfi hfb h2 rfl h3 hvb h5 rfl
  have hI5 := hI4.snoc hInB hno
  have hT5 : TmOk ρ5 (zipT slA (tVA v v2 v5 k (.raw (.slice (some ⟨g0, 0, none⟩) (vlB n on).length cap)))) a4 := by
    refine TmL.ok ?_
    subst hρ5
    have hb : (tO ts m v).length = nx v 2 := tO_len
    rw [hb] at hvb ⊢
    have q0 : (if 0 < nx v 2 then 0 else 0 + 1) = 0 := if_pos (by cases v <;> exact Nat.zero_lt_succ _)
    have q1 : (if 1 < nx v 2 then 1 else 1 + 1) = 1 := if_pos (by cases v <;> exact Nat.succ_lt_succ (Nat.zero_lt_succ _))
    obtain ⟨u6, x6, y6⟩ := hT4 6 (.h 0) rfl
    obtain ⟨u7, x7, y7⟩ := hT4 7 (.h 1) rfl
    obtain ⟨u1, x1, y1⟩ := hT4 1 (hS v 2) rfl
    obtain ⟨u2, x2, y2⟩ := hT4 2 (.raw v2) rfl
    obtain ⟨u5, x5, y5⟩ := hT4 5 (.raw v5) rfl
    obtain ⟨u8, x8, y8⟩ := hT4 8 (.raw (.int .i64 k)) rfl
    obtain ⟨u59, x59, y59⟩ := hT4 59 (.h 0) rfl
    obtain ⟨u62, x62, y62⟩ := hT4 62 (.h (nx v 2)) rfl
    have x62 : ρ4 (nx v 2) = some u62 := x62
    rw [hvb] at x62; cases x62
    refine ⟨⟨u6, ?_, y6⟩, ⟨u7, ?_, y7⟩, ⟨u1, ?_, y1⟩, ⟨u2, x2, y2⟩, ⟨u5, x5, y5⟩, ⟨u8, x8, y8⟩, ⟨u59, ?_, y59⟩, ⟨_, rfl, y62⟩, trivial⟩
    · show ρ4 (if 0 < nx v 2 then 0 else 0 + 1) = _
      rw [q0]; exact x6
    · show ρ4 (if 1 < nx v 2 then 1 else 1 + 1) = _
      rw [q1]; exact x7
    · cases v with
      | none => exact x1
      | some x => exact x1
    · show ρ4 (if 0 < nx v 2 then 0 else 0 + 1) = _
      rw [q0]; exact x59
  have key := fun Q hk => self_ops plain mixed sfT1_ok noLs_ok (all := (opsOf 14).toList) (l := ops14b) (r := []) (p14b (t := (some ⟨g0, 0, none⟩, (vlB n on).length, cap)) (room33 (by omega))) hN4 hD4 hS5 hT5 (Q := Q) hk
  simp only [List.append_nil] at key
  refine key _ fun a5 w5 hq => ?_
  obtain ⟨_, hN5, hD5, ρ6, hS6, s6, m6, hT6⟩ := hq
  exact ⟨rfl, hN5, hD5, ρ6, _, hS6, hT6, hF4.step s6 m6, hI5.step s6 m6⟩
theorem round1 (hQ : ∀ g, w0.heap.size ≤ g ∨ g = cb → Q g) {k : Nat} (hk : k < (lo v).length) (hl : (lo v).length ≤ 60) (h4 : c4.length = 4) {a : Act} {w : World} (h : L1 Q w0 cb v v2 v5 c4 k a w) :
    (Code.seq (.block 1 (.seq (.region 11 (opsOf 11) false) (.seq (.region 12 (opsOf 12) false) (.seq (.region 13 (opsOf 13) false) (.region 14 (opsOf 14) false))))) (.region 10 (opsOf 10) false)).wp Try.prog (fun e a w => e = .normal ∧ L1 Q w0 cb v v2 v5 c4 (k + 1) a w) a w := by
  obtain ⟨hN, hD, ρ, ts, hSf, hT, hF, hI⟩ := h
  have hlen : ts.length = 4 + k := by rw [hI.1, List.length_append, h4, opsK_len]
  refine wp_seq (wp_block (wp_seq (wp_mono (step6 rfl (p11 hk) hN hD hSf hT) fun e a1 w1 hq => ?_)))
  obtain ⟨rfl, hN1, hD1, ρ1, hS1, s1, m1, hT1⟩ := hq
  have hF1 := hF.step s1 m1
  have hI1 := hI.step s1 m1
  refine wp_seq (wp_mono (step6 rfl p12 hN1 hD1 hS1 hT1) fun e a2 w2 hq => ?_)
  obtain ⟨rfl, hN2, hD2, ρ2, hS2, s2, m2, hT2⟩ := hq
  have hF2 := hF1.step s2 m2
  have hI2 := hI1.step s2 m2
  refine wp_seq (wp_mono (step6 rfl p13 hN2 hD2 hS2 hT2) fun e a3 w3 hq => ?_)
  obtain ⟨rfl, hN3, hD3, ρ3, hS3, s3, m3, hT3⟩ := hq
  have hF3 := hF2.step s3 m3
  have hI3 := hI2.step s3 m3
  refine wp_mono (r14_go hQ hN3 hD3 hS3 hT3 hF3 hI3 (by omega)) fun e a6 w6 hq => ?_
  obtain ⟨rfl, hN6, hD6, ρ6, ts', hS6, hT6, hF6, hI6⟩ := hq
  refine wp_mono (step6 rfl (p10 (inR64_mk (by omega))) hN6 hD6 hS6 hT6) fun e a7 w7 hq => ?_
  obtain ⟨rfl, hN7, hD7, ρ7, hS7, s7, m7, hT7⟩ := hq
  refine ⟨rfl, hN7, hD7, ρ7, ts', hS7, ?_, hF6.step s7 m7, ?_⟩
  · rw [Int.natCast_add]; exact hT7
  · have := hI6.step s7 m7
    unfold opsK
    rw [← List.append_assoc]
    exact this
def mu8 (n : Nat) : Option Value → Nat
  | some (Value.int _ k) => n - k.toNat
  | _ => 0
/-- The loop over numbers. -/
theorem loop1 (hQ : ∀ g, w0.heap.size ≤ g ∨ g = cb → Q g) (hl : (lo v).length ≤ 60) (h4 : c4.length = 4) {a : Act} {w : World} (h : L1 Q w0 cb v v2 v5 c4 0 a w) :
    (Code.block 0 (.loop cdL)).wp Try.prog (fun e a w => e = .normal ∧ L1 Q w0 cb v v2 v5 c4 (lo v).length a w) a w := by
  refine wp_block (wp_loop (fun a w => ∃ k, k ≤ (lo v).length ∧ L1 Q w0 cb v v2 v5 c4 k a w) (fun a w => mu8 (lo v).length a.tmps[8]?) ⟨0, Nat.zero_le _, h⟩ ?_)
  rintro a w ⟨k, hk, h⟩
  obtain ⟨hN, hD, ρ, ts, hSf, hT, hF, hI⟩ := h
  by_cases hlt : k < (lo v).length
  · refine wp_seq (wp_mono (step6 lp9 (p9_go (by omega) (by omega)) hN hD hSf hT) fun e a1 w1 hq => ?_)
    obtain ⟨rfl, hN1, hD1, ρ1, hS1, s1, m1, hT1⟩ := hq
    refine wp_mono (round1 hQ hlt hl h4 ⟨hN1, hD1, ρ1, ts, hS1, hT1, hF.step s1 m1, hI.step s1 m1⟩) fun e a2 w2 hq => ?_
    obtain ⟨rfl, hL⟩ := hq
    obtain ⟨u, x, y⟩ := hT 8 (.raw (.int .i64 (k : Int))) rfl
    cases x
    have hL' := hL
    obtain ⟨_, _, ρ2, ts2, _, hT2, _, _⟩ := hL'
    obtain ⟨u, x, y2⟩ := hT2 8 (.raw (.int .i64 ((k + 1 : Nat) : Int))) rfl
    cases x
    refine ⟨⟨k + 1, hlt, hL⟩, ?_⟩
    rw [y, y2]
    show (lo v).length - ((k + 1 : Nat) : Int).toNat < (lo v).length - ((k : Nat) : Int).toNat
    omega
  · obtain rfl : k = (lo v).length := by omega
    refine wp_seq (wp_mono (step6 lp9 p9_no hN hD hSf hT) fun e a1 w1 hq => ?_)
    obtain ⟨rfl, hN1, hD1, ρ1, hS1, s1, m1, hT1⟩ := hq
    exact ⟨rfl, hN1, hD1, ρ1, ts, hS1, hT1, hF.step s1 m1, hI.step s1 m1⟩
end
end
end Go.Proofs.Ytgepgnjjhgmfnaa
