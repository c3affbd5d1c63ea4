/-
  Chapter 24: FilterTables, the world behind its first loop as the base of what follows. Own work; nothing here is trusted.
-/
import Derived.Test.YtgepgnjjhgmfnaaCh24TbB
namespace Go.Proofs.Ytgepgnjjhgmfnaa
open Go Go.Sx Go.RowKit
set_option maxRecDepth 1000000
set_option maxHeartbeats 8000000
set_option linter.unusedVariables false
set_option linter.unusedSimpArgs false
noncomputable section
/-- The rows as they are told. -/
def clE (t : Sv) (b : List Int) : (C24 33).α × Option (Addr × Nat) × List (C24 5).α := ((none, 0, 0), t.1.map fun ad => (ad, t.2.2), b)
def clOf (ts : List Sv) (bs : List (List Int)) : Bs := List.zipWith clE ts bs
theorem cl_len {ts : List Sv} {bs : List (List Int)} (h : ts.length = bs.length) : (clOf ts bs).length = bs.length := by
  unfold clOf
  rw [List.length_zipWith, h, Nat.min_self]
theorem cl_at {ts : List Sv} {bs : List (List Int)} {k : Nat} {t : Sv} {b : List Int} (ht : ts[k]? = some t) (hb : bs[k]? = some b) : (clOf ts bs)[k]? = some (clE t b) := by
  unfold clOf
  rw [List.getElem?_zipWith, ht, hb]
theorem cl_mem {ts : List Sv} {bs : List (List Int)} {x : (C24 33).α × Option (Addr × Nat) × List (C24 5).α} (h : x ∈ clOf ts bs) : ∃ (j : Nat) (t : Sv) (b : List Int), ts[j]? = some t ∧ bs[j]? = some b ∧ x = clE t b := by
  obtain ⟨j, hj⟩ := List.mem_iff_getElem?.1 h
  unfold clOf at hj
  rw [List.getElem?_zipWith] at hj
  cases ht : ts[j]? with
  | none => rw [ht] at hj; cases hj
  | some t =>
    cases hb : bs[j]? with
    | none => rw [ht, hb] at hj; cases hj
    | some b => rw [ht, hb] at hj; cases hj; exact ⟨j, t, b, ht, hb, rfl⟩
theorem cl_flat : ∀ {ts : List Sv} {bs : List (List Int)}, ts.length = bs.length → (∀ (j : Nat) (t : Sv) (b : List Int), ts[j]? = some t → bs[j]? = some b → ∃ ad c, t = (some ad, b.length, c)) → ssFlat (C24 33) 0 (clOf ts bs) = (C24 33).flat ts
  | [], [], _, _ => rfl
  | [], _ :: _, h, _ => by cases h
  | _ :: _, [], h, _ => by cases h
  | t :: ts, b :: bs, h, hj => by
    obtain ⟨ad, c, rfl⟩ := hj 0 t b rfl rfl
    have ih := cl_flat (ts := ts) (bs := bs) (Nat.succ.inj h) fun j t b h1 h2 => hj (j + 1) t b h1 h2
    show ssCells (C24 33) 0 (clE (some ad, b.length, c) b) ++ ssFlat (C24 33) 0 (clOf ts bs) = (C24 33).enc (some ad, b.length, c) ++ (C24 33).flat ts
    rw [ih]
    rfl
theorem tells_of {Q : Nat → Prop} {ρ : Asg} {os : List (SO C24)} {w : World} {ts : List Sv} {bs : List (List Int)} (h : InR Q ρ os w ts bs) (hp : ∀ b ∈ bs, 0 < b.length) : Tells (clOf ts bs) bs := by
  refine ⟨cl_len h.1, fun k b hb => ?_⟩
  have hlt : k < ts.length := by rw [h.1]; exact (List.getElem?_eq_some_iff.1 hb).1
  have hk := cl_at (List.getElem?_eq_getElem hlt) hb
  obtain ⟨⟨ad, c, ht, hc, _⟩, _⟩ := h.2 k _ b (List.getElem?_eq_getElem hlt) hb
  have hb0 := hp b (List.mem_iff_getElem?.2 ⟨k, hb⟩)
  have e : List.getD (clOf ts bs) ((k : Nat) : Int).toNat (ssD (C24 33)) = clE ts[k] b := by
    rw [Int.toNat_natCast, List.getD_eq_getElem?_getD, hk]; rfl
  refine ⟨?_, ?_⟩
  · unfold eB
    rw [e]; rfl
  · unfold eN
    rw [e, ht]
    show Nat.beq c 0 = false
    cases c with
    | zero => omega
    | succ c => rfl
theorem ops_pos {ol gl : List Mac} {p q : Bool} {mc : Mac} {ls : List Int} : ∀ b ∈ base4 ol gl p q mc ++ opsK ls ls.length, 0 < b.length := fun b hb => by
  rcases List.mem_append.1 hb with h | h
  · unfold base4 at h
    simp only [List.mem_cons, List.not_mem_nil, or_false] at h
    rcases h with rfl | rfl | rfl | rfl
    · rw [tab_eq]; exact Nat.zero_lt_succ _
    · exact Nat.zero_lt_succ _
    · exact Nat.zero_lt_succ _
    · exact Nat.zero_lt_succ _
  · obtain ⟨j, hj, rfl⟩ := List.getElem_of_mem h
    have hj' : j < ls.length := by rw [opsK_len] at hj; exact hj
    have := opsK_at ls ls.length j hj'
    rw [List.getElem?_eq_getElem hj] at this
    rw [Option.some.inj this]
    cases onK j <;> exact Nat.zero_lt_succ _
section
variable {w : World} {a : Act} {fb gb cb : Nat} {m : Mac} {p q : Bool} {o g : Lo Mac} {v : Lo Int} {t1 t2 t3 tl : Sv} {ts0 : List Sv}
theorem stage_c (h : Ent w a fb gb cb m p q o g v t1 t2 t3 tl ts0) {a1 : Act} {w1 : World} (hL : L1 (fun b => b ≠ fb ∧ b ≠ gb) w cb v (pAt fb) (pAt gb) (base4 (lo o) (lo g) p q m) (lo v).length a1 w1) :
    ∃ (l : Bs) (mb : Nat) (fz : Nat → Prop), Tells l (base4 (lo o) (lo g) p q m ++ opsK (lo v) (lo v).length) ∧ (w.heap.size ≤ mb ∨ mb = cb) ∧
      (w1.os = w.os ∧ w1.tape = w.tape ∧ w1.output = w.output ∧ w.heap.size ≤ w1.heap.size ∧ ∀ b, b < w.heap.size → b ≠ cb → w1.heap[b]? = w.heap[b]?) ∧
      St w1 (fun b => b = mb ∨ b = fb ∨ b = gb) fz [6, 7, 2, 5] [.h 0, .h 1, .h 2, .h 3] (mO (m, p, q, t1, t2, t3) (gw gw0) (mpK (lo v) (lo v).length) l) a1 w1 := by
  obtain ⟨hN, hD, ρ, ts, hS1, hT, hF, hI⟩ := hL
  have hfb : fb < w.heap.size := (Array.getElem?_eq_some_iff.1 h.hf).1
  have hgb : gb < w.heap.size := (Array.getElem?_eq_some_iff.1 h.hg).1
  generalize hbs : base4 (lo o) (lo g) p q m ++ opsK (lo v) (lo v).length = bs at hI
  have hp : ∀ b ∈ bs, 0 < b.length := by rw [← hbs]; exact ops_pos
  generalize hM : mpK (lo v) (lo v).length = M at *
  have f0 : find 0 (numH 0 (tO ts M v)) = some (.sl true false 33 ts) := rfl
  have f1 : find 1 (numH 0 (tO ts M v)) = some (.mp .i64 4 M) := rfl
  obtain ⟨v0, hv0, a0, cap, rfl, hle, _, hown⟩ := hS1.obj 0 _ f0
  obtain ⟨rb, tot, rfl, hrb, hrh, hcap, htk⟩ := id hown
  obtain ⟨vm, hvm, mb, es, clock, rfl, hokm, hmh, hes, hst⟩ := hS1.obj 1 _ f1
  have mineM : Mine ρ (tO ts M v) mb := ⟨1, _, _, rfl, rfl, hvm, rfl⟩
  have mineR : Mine ρ (tO ts M v) rb := ⟨0, _, _, rfl, rfl, hv0, rfl⟩
  have hmb := hF.mine mb mineM
  have hrb2 := hF.mine rb mineR
  have hmr : rb ≠ mb := fun e => hS1.sep 0 1 _ _ _ _ rb (by decide) f0 f1 rfl rfl hv0 hvm rfl (by rw [e]; rfl)
  have ne := h.ne1
  have ne2 := h.ne2
  have ne3 := h.ne3
  have hmf : mb ≠ fb ∧ mb ≠ gb ∧ rb ≠ fb ∧ rb ≠ gb := by
    refine ⟨?_, ?_, ?_, ?_⟩ <;> omega
  have hf1 : w1.heap[fb]? = _ := (hF.old fb hfb h.ne2).trans h.hf
  have hg1 : w1.heap[gb]? = _ := (hF.old gb hgb h.ne3).trans h.hg
  have hfb1 : fb < w1.heap.size := Nat.lt_of_lt_of_le hfb hF.size
  have hgb1 : gb < w1.heap.size := Nat.lt_of_lt_of_le hgb hF.size
  -- what stands still
  let fz : Nat → Prop := fun b => ∃ (j : Nat) (t : Sv) (ad : Addr), ts[j]? = some t ∧ t.1 = some ad ∧ ad.block = b
  have hfz : ∀ b, fz b → b < w1.heap.size ∧ b ≠ mb ∧ b ≠ fb ∧ b ≠ gb := fun b hb => by
    obtain ⟨j, t, ad, h1, h2, rfl⟩ := hb
    have hj : j < bs.length := by rw [← hI.1]; exact (List.getElem?_eq_some_iff.1 h1).1
    obtain ⟨g1, g2⟩ := hI.2 j t _ h1 (List.getElem?_eq_getElem hj)
    exact ⟨g1.lt ad h2, fun e => (g2 ad h2).1 (e ▸ mineM), (g2 ad h2).2.1, (g2 ad h2).2.2⟩
  have hshape : ∀ (j : Nat) (t : Sv) (b : List Int), ts[j]? = some t → bs[j]? = some b → ∃ ad c, t = (some ad, b.length, c) := fun j t b h1 h2 => by
    obtain ⟨⟨ad, c, e, _⟩, _⟩ := hI.2 j t b h1 h2
    exact ⟨ad, c, e⟩
  have hlen : (clOf ts bs).length = @List.length (C24 33).α ts := (cl_len hI.1).trans hI.1.symm
  have hflat := cl_flat hI.1 hshape
  have s0 : Self (C := C24) fz (fun _ => none) [] w1 := Self.empty fun b hb => (hfz b hb).1
  have no0 : ∀ {ρ : Asg} {b : Nat}, ¬ Mine (C := C24) ρ [] b := fun hm => by obtain ⟨i, O, u, q1, _⟩ := hm; cases q1
  have s1 := s0.snoc (o := .ss 33 0 5 (clOf ts bs)) (v := .slice (some ⟨rb, 0, none⟩) (@List.length (C24 33).α ts) cap) (fz' := fz) rfl rfl
    ⟨_, cap, by rw [hlen], by rw [hlen]; exact hle, fun j x hx => by rw [hflat] at hx; exact hown.cell j x hx⟩
    (fun b hb => by cases hb; exact hS1.blkOk 0 _ _ _ f0 rfl hv0 rfl) (fun b _ hm => no0 hm) (fun h => by cases h) (fun _ => rfl) (fun b hb => ⟨(hfz b hb).1, no0, fun h => by cases h⟩) (fun b hb => hb) (fun X hX t ht => by
      obtain ⟨j, t', b, h1, h2, rfl⟩ := cl_mem ht
      obtain ⟨⟨ad, c, rfl, hc1, hc2, hc3⟩, _⟩ := hI.2 j t' b h1 h2
      refine ⟨(fun e => by cases e), fun a' c' e => ?_⟩
      cases e
      refine ⟨hc1, fun _ => ⟨?_, hc3⟩⟩
      rw [hX]
      exact ⟨j, _, ad, h1, rfl, rfl⟩)
  have no1 : ∀ {ρ : Asg} {b : Nat}, ¬ Mine (C := C24) ρ [.ss 33 0 5 (clOf ts bs)] b := fun hm => by
    obtain ⟨i, O, u, q1, q2, _⟩ := hm
    cases i with
    | zero => cases q1; cases q2
    | succ i => cases q1
  have s2 := s1.snoc (o := .mp .i64 4 M) (v := .map (some mb)) (fz' := fz) rfl rfl ⟨mb, es, clock, rfl, trivial, hmh, hes, hst⟩
    (fun b hb => by cases hb; exact hS1.blkOk 1 _ _ _ f1 rfl hvm rfl) (fun b _ => no1) (fun _ i O u b hi _ hu hb => by
      cases hb
      cases i with
      | zero =>
        have hu : Asg.add (fun _ => none) 0 _ 0 = some u := hu
        rw [Asg.add_self] at hu
        cases hu
        intro e; cases e; exact hmr rfl
      | succ i => cases hi) (fun h => by cases h) (fun b hb => ⟨(hfz b hb).1, no1, fun _ e => by cases e; exact (hfz mb hb).2.1 rfl⟩) (fun b hb => hb) (fun X _ => trivial)
  have e20 : ∀ {x y : Value}, Asg.add (Asg.add (fun _ => none) 0 x) 1 y 0 = some x := fun {x y} => rfl
  have e21 : ∀ {x y : Value}, Asg.add (Asg.add (fun _ => none) 0 x) 1 y 1 = some y := fun {x y} => rfl
  have m2 : ∀ {b : Nat}, Mine (C := C24) (Asg.add (Asg.add (fun _ => none) 0 (.slice (some ⟨rb, 0, none⟩) (@List.length (C24 33).α ts) cap)) 1 (.map (some mb))) ([SO.ss 33 0 5 (clOf ts bs)] ++ [.mp .i64 4 M]) b → b = mb := fun hm => by
    obtain ⟨i, O, u, q1, q2, q3, q4⟩ := hm
    match i, q1 with
    | 0, q1 => cases q1; cases q2
    | 1, q1 => cases q3; cases q4; rfl
  have s3 := s2.snoc (o := .box (frC (m, p, q, t1, t2, t3)) 26) (v := pAt fb) (fz' := fz) rfl rfl ⟨fb, _, rfl, trivial, rfl, hf1⟩
    (fun b hb => by cases hb; exact hfb1) (fun b hb hm => by cases hb; exact hmf.1 (m2 hm).symm) (fun _ i O u b hi _ hu hb => by
      cases hb
      match i, hi with
      | 0, hi => cases hu; intro e; cases e; exact hmf.2.2.1 rfl
      | 1, hi => cases hu; intro e; cases e; exact hmf.1 rfl) (fun h => by cases h) (fun b hb => ⟨(hfz b hb).1, fun hm => (hfz b hb).2.1 (m2 hm), fun _ e => by cases e; exact (hfz fb hb).2.2.1 rfl⟩) (fun b hb => hb) (fun X _ => trivial)
  have m3 : ∀ {b : Nat}, Mine (C := C24) (Asg.add (Asg.add (Asg.add (fun _ => none) 0 (.slice (some ⟨rb, 0, none⟩) (@List.length (C24 33).α ts) cap)) 1 (.map (some mb))) 2 (pAt fb)) ([SO.ss 33 0 5 (clOf ts bs)] ++ [.mp .i64 4 M] ++ [.box (frC (m, p, q, t1, t2, t3)) 26]) b → b = mb ∨ b = fb := fun hm => by
    obtain ⟨i, O, u, q1, q2, q3, q4⟩ := hm
    match i, q1 with
    | 0, q1 => cases q1; cases q2
    | 1, q1 => cases q3; cases q4; exact .inl rfl
    | 2, q1 => cases q3; cases q4; exact .inr rfl
  have s4 := s3.snoc (o := .box (fltC (gw gw0) 4) 26) (v := pAt gb) (fz' := fz) rfl rfl ⟨gb, _, rfl, trivial, rfl, hg1⟩
    (fun b hb => by cases hb; exact hgb1) (fun b hb hm => by cases hb; rcases m3 hm with e | e; exact hmf.2.1 e.symm; exact ne e.symm) (fun _ i O u b hi _ hu hb => by
      cases hb
      match i, hi with
      | 0, hi => cases hu; intro e; cases e; exact hmf.2.2.2 rfl
      | 1, hi => cases hu; intro e; cases e; exact hmf.2.1 rfl
      | 2, hi => cases hu; intro e; cases e; exact ne rfl) (fun h => by cases h) (fun b hb => ⟨(hfz b hb).1, fun hm => (m3 hm).elim (hfz b hb).2.1 (hfz b hb).2.2.1, fun _ e => by cases e; exact (hfz gb hb).2.2.2 rfl⟩) (fun b hb => hb) (fun X _ => trivial)
  refine ⟨clOf ts bs, mb, fz, tells_of hI hp, hmb, ⟨hF.sys, hF.tape, hF.out, hF.size, hF.old⟩, hN, hD, _, s4, TmL.ok ?_, rfl, rfl, rfl, Nat.le_refl _, fun _ _ _ => rfl, fun b hm => .inr ?_⟩
  · obtain ⟨u6, x6, y6⟩ := hT 6 (.h 0) rfl
    obtain ⟨u7, x7, y7⟩ := hT 7 (.h 1) rfl
    obtain ⟨u2, x2, y2⟩ := hT 2 (.raw (pAt fb)) rfl
    obtain ⟨u5, x5, y5⟩ := hT 5 (.raw (pAt gb)) rfl
    have x6 : ρ 0 = some u6 := x6
    have x7 : ρ 1 = some u7 := x7
    rw [hv0] at x6; cases x6
    rw [hvm] at x7; cases x7
    cases x2; cases x5
    exact ⟨⟨_, rfl, y6⟩, ⟨_, rfl, y7⟩, ⟨_, rfl, y2⟩, ⟨_, rfl, y5⟩, trivial⟩
  · obtain ⟨i, O, u, q1, q2, q3, q4⟩ := hm
    match i, q1 with
    | 0, q1 => cases q1; cases q2
    | 1, q1 => cases q3; cases q4; exact .inl rfl
    | 2, q1 => cases q3; cases q4; exact .inr (.inl rfl)
    | 3, q1 => cases q3; cases q4; exact .inr (.inr rfl)
end
end
end Go.Proofs.Ytgepgnjjhgmfnaa
