/-
  Chapter 24: FilterTables, from what it meets to the end of its first loop. Own work; nothing here is trusted.
-/
import Derived.Test.YtgepgnjjhgmfnaaCh24TbA
namespace Go.Proofs.Ytgepgnjjhgmfnaa
open Go Go.Sx Go.RowKit
set_option maxRecDepth 1000000
set_option maxHeartbeats 8000000
set_option linter.unusedVariables false
set_option linter.unusedSimpArgs false
noncomputable section
abbrev pAt (b : Nat) : Value := .pointer (some ⟨b, 0, none⟩)
abbrev nilV : Value := .slice none 0 0
def flC (m : Mac) (p q : Bool) (x y z : Value) : List Value := macV m ++ [.bool p, .bool q, x, y, z]
/-- What stands where the first loop begins. -/
structure Ent (w : World) (a : Act) (fb gb cb : Nat) (m : Mac) (p q : Bool) (o g : Lo Mac) (v : Lo Int) (t1 t2 t3 tl : Sv) (ts0 : List Sv) : Prop where
  size : a.tmps.size = 167
  defers : a.defers = []
  pf : a.tmps[2]? = some (pAt fb)
  pg : a.tmps[5]? = some (pAt gb)
  pc : a.tmps[6]? = some (.slice (some ⟨cb, 0, none⟩) 4 4)
  pl : a.tmps[1]? = some (svV tl)
  hf : w.heap[fb]? = some (.cells (flC m p q (svV t1) (svV t2) (svV t3)).toArray 26 (0, 0))
  hg : w.heap[gb]? = some (.cells (flC mac0 false false nilV nilV nilV).toArray 26 (0, 0))
  hc : w.heap[cb]? = some (.cells ((C24 33).flat ts0).toArray 33 (0, 0))
  ne1 : fb ≠ gb
  ne2 : fb ≠ cb
  ne3 : gb ≠ cb
  vo : VwG 22 w (fun b => b ≠ fb ∧ b ≠ gb ∧ b ≠ cb) o t1
  vg : VwG 22 w (fun b => b ≠ fb ∧ b ≠ gb ∧ b ≠ cb) g t2
  vl : VwG 3 w (fun b => b ≠ fb ∧ b ≠ gb ∧ b ≠ cb) v tl
  four : ts0.length = 4
  inn : ∀ (j : Nat) (t : Sv) (b : List Int), ts0[j]? = some t → (base4 (lo o) (lo g) p q m)[j]? = some b → InB w t b ∧ ∀ ad, t.1 = some ad → ad.block ≠ fb ∧ ad.block ≠ gb ∧ ad.block ≠ cb
section
variable {w : World} {a : Act} {fb gb cb : Nat} {m : Mac} {p q : Bool} {o g : Lo Mac} {v : Lo Int} {t1 t2 t3 tl : Sv} {ts0 : List Sv}
theorem ent_self (h : Ent w a fb gb cb m p q o g v t1 t2 t3 tl ts0) : ∃ ρ, Self (fun _ => False) ρ (.sl true false 33 ts0 :: obI v) w ∧ TmOk ρ (zipT [6, 1, 2, 5] [.h 0, hS v 1, .raw (pAt fb), .raw (pAt gb)]) a ∧
    Far w cb ρ (.sl true false 33 ts0 :: obI v) w ∧ InR (fun b => b ≠ fb ∧ b ≠ gb) ρ (.sl true false 33 ts0 :: obI v) w ts0 (base4 (lo o) (lo g) p q m) := by
  have hcb : cb < w.heap.size := (Array.getElem?_eq_some_iff.1 h.hc).1
  have h4 : @List.length (C24 33).α ts0 = 4 := h.four
  have s0 : Self (C := C24) (fun _ => False) (fun _ => none) [] w := Self.empty fun g hg => hg.elim
  have s1 := s0.snoc (o := .sl true false 33 ts0) (v := .slice (some ⟨cb, 0, none⟩) 4 4) (fz' := fun _ => False) rfl rfl
    ⟨_, 4, by rw [h4], by rw [h4]; exact Nat.le_refl _, nofun, cb, ts0, rfl, trivial, h.hc, by rw [h4]; exact Nat.le_refl _, List.take_of_length_le (Nat.le_refl _)⟩
    (fun g hg => by cases hg; exact hcb) (fun g hg hm => by obtain ⟨i, O, u, q1, _⟩ := hm; cases q1) (fun _ i O u g hi => by cases hi) (fun _ => rfl) (fun g hg => hg.elim) (fun g hg => hg) (fun X _ => trivial)
  have hm1 : ∀ g, Mine (C := C24) (Asg.add (fun _ => none) 0 (.slice (some ⟨cb, 0, none⟩) 4 4)) [SO.sl true false 33 ts0] g → g = cb := fun g hg => by
    obtain ⟨i, O, u, q1, q2, q3, q4⟩ := hg
    cases i with
    | zero =>
      rw [Asg.add_self] at q3
      cases q3; cases q4; rfl
    | succ i => cases q1
  obtain ⟨ρ, s2, e2, d2, m2⟩ := add_view s1 h.vl fun b hb hm => hb.2.2 (hm1 b hm)
  have hos : [SO.sl true false 33 ts0] ++ obG 3 v = .sl true false 33 ts0 :: obI v := by cases v <;> rfl
  have s2 : Self (fun _ => False) ρ ([SO.sl true false 33 ts0] ++ obG 3 v) w := s2
  have m2 : ∀ g, Mine ρ ([SO.sl true false 33 ts0] ++ obG 3 v) g → g = cb := fun g hg => hm1 g (m2 g hg)
  rw [hos] at s2 m2
  refine ⟨ρ, s2, TmL.ok ⟨⟨_, ?_, h.pc⟩, ⟨_, ?_, h.pl⟩, ⟨_, rfl, h.pf⟩, ⟨_, rfl, h.pg⟩, trivial⟩, ⟨rfl, rfl, rfl, Nat.le_refl _, fun _ _ _ => rfl, fun g hg => .inr (m2 g hg)⟩, ?_⟩
  · exact (e2 0 (Nat.zero_lt_succ _)).trans (Asg.add_self _ _ _)
  · exact d2
  · refine ⟨by rw [h.four]; rfl, fun j t b ht hb => ?_⟩
    obtain ⟨g1, g2⟩ := h.inn j t b ht hb
    exact ⟨g1, fun ad e => ⟨fun hm => (g2 ad e).2.2 (m2 _ hm), (g2 ad e).1, (g2 ad e).2.1⟩⟩
/-- Up to the end of the first loop. -/
theorem first_part (h : Ent w a fb gb cb m p q o g v t1 t2 t3 tl ts0) (hv : (lo v).length ≤ 60) {Q : Exit → Act → World → Prop}
    (hk : ∀ a1 w1, L1 (fun b => b ≠ fb ∧ b ≠ gb) w cb v (pAt fb) (pAt gb) (base4 (lo o) (lo g) p q m) (lo v).length a1 w1 → tbQ.wp Try.prog Q a1 w1) : tbl.wp Try.prog Q a w := by
  obtain ⟨ρ, hS1, hT, hF, hI⟩ := ent_self h
  have hfb : fb < w.heap.size := (Array.getElem?_eq_some_iff.1 h.hf).1
  have hgb : gb < w.heap.size := (Array.getElem?_eq_some_iff.1 h.hg).1
  have hQ : ∀ b, w.heap.size ≤ b ∨ b = cb → b ≠ fb ∧ b ≠ gb := fun b hb => by
    have := h.ne2; have := h.ne3
    rcases hb with hb | hb <;> constructor <;> omega
  have e : tbl = .seq (.region 7 (opsOf 7) false) (.seq (.seq (.region 8 (opsOf 8) false) (.block 0 (.loop cdL))) tbQ) := by
    have h := tbl_eq
    unfold tbl; rw [h]; rfl
  rw [e]
  refine wp_seq (wp_mono (step6 rfl p7 h.size h.defers hS1 hT) fun e a1 w1 hq => ?_)
  obtain ⟨rfl, hN1, hD1, ρ1, hS1, s1, m1, hT1⟩ := hq
  have hF1 := hF.step s1 m1
  have hI1 := hI.step s1 m1
  refine wp_seq (wp_seq (wp_mono (step6 rfl p8 hN1 hD1 hS1 hT1) fun e a2 w2 hq => ?_))
  obtain ⟨rfl, hN2, hD2, ρ2, hS2, s2, m2, hT2⟩ := hq
  have hL : L1 (fun b => b ≠ fb ∧ b ≠ gb) w cb v (pAt fb) (pAt gb) (base4 (lo o) (lo g) p q m) 0 a2 w2 := by
    refine ⟨hN2, hD2, ρ2, ts0, hS2, hT2, hF1.step s2 m2, ?_⟩
    have := hI1.step s2 m2
    rw [show base4 (lo o) (lo g) p q m ++ opsK (lo v) 0 = base4 (lo o) (lo g) p q m from List.append_nil _]
    exact this
  refine wp_mono (loop1 hQ hv rfl hL) fun e a3 w3 hq => ?_
  obtain ⟨rfl, h3⟩ := hq
  exact hk a3 w3 h3
end
end
end Go.Proofs.Ytgepgnjjhgmfnaa
