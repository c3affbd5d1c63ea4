/-
  Chapter 18: RegsApart, its loop. Own work; nothing here is trusted.
-/
import Derived.Test.YtknkemjbikbhgaaCh18ApaP
namespace Go.Proofs.Ytknkemjbikbhgaa
open Go Go.Sx Go.RowKit
set_option maxRecDepth 1000000
set_option maxHeartbeats 8000000
set_option linter.unusedVariables false
set_option linter.unusedSimpArgs false
noncomputable section
/-- Acts that may be gone through. -/
structure AcOk (l : List Wt) : Prop where
  few : l.length ≤ 1000
  wd : ∀ a ∈ l, 0 ≤ a.1.2.2.1 ∧ a.1.2.2.1 < 18446744073709551616
theorem elW_at {l : List Wt} {i : Nat} (h : i < l.length) : elW l (i : Int) = l[i] := by
  show l.getD i _ = _
  rw [List.getD_eq_getElem?_getD, List.getElem?_eq_getElem h]; rfl
theorem AcOk.at {l : List Wt} (h : AcOk l) {i : Nat} (hi : i < l.length) : 0 ≤ (elW l (i : Int)).1.2.2.1 ∧ (elW l (i : Int)).1.2.2.1 < 18446744073709551616 := by rw [elW_at hi]; exact h.wd _ (List.getElem_mem hi)
def rP (r : Rg) (l : List Wt) : Rg := l.foldl (fun r a => wO a.1.2.1 a.1.2.2.1 r) r
theorem wO_I {r : Rg} {n w : Int} (h : RI r) (hw : 0 ≤ w ∧ w < 18446744073709551616) : RI (wO n w r) := by unfold wO; rw [opq_eq]; exact wF_I h hw
theorem rP_I {r : Rg} {l : List Wt} (h : RI r) (ha : ∀ a ∈ l, 0 ≤ a.1.2.2.1 ∧ a.1.2.2.1 < 18446744073709551616) : RI (rP r l) := by
  induction l generalizing r with
  | nil => exact h
  | cons a l ih => exact ih (wO_I h (ha a List.mem_cons_self)) (fun b hb => ha b (List.mem_cons_of_mem _ hb))
theorem wO_apt {r : Rg} {n w : Int} (h : RI r) (hn : n ≠ 14) : Apt r (wO n w r) := by
  unfold wO
  rw [opq_eq]
  exact ⟨wF_0.len, by have := (vR_iff.1 h.v).2.2.2.1; omega, fun j hj => wF_apart h hn hj⟩
theorem len2 {r : Rg} (h : RI r) : decide (r.qs.length ≤ (1000 : Nat)) = true ∧ decide (r.cf.length ≤ (1000 : Nat)) = true := rV_len h.v
theorem pa_round {l : List Wt} {r : Rg} (h : RI { r with cf := [] }) (ha : AcOk l) {i : Nat} (hi : i < l.length) : (pR8 l (pA8 l r i)).get = some (.normal, pB8 l r.qs (wO (elW l (i : Int)).1.2.1 (elW l (i : Int)).1.2.2.1 { r with cf := [] }) ((i : Int) + 1)) := by
  have hl := ha.few
  have k1 := decide_eq_true (show (i : Int) < (l.length : Int) by omega)
  have k2 : Sx.inB (i : Int) l.length = true := inB_mk ⟨by omega, by omega⟩
  have k3 := decide_eq_true (show ((i : Nat) : Int).toNat < l.length by omega)
  have k4 : inR64 ((i : Int) + 1) = true := inR64_mk (by omega)
  have hw := ha.at hi
  have k5 : rng64 (elW l (i : Int)).1.2.2.1 = true := rng64_iff.2 hw
  obtain ⟨k6, k7⟩ := len2 h
  have k6 : decide (r.qs.length ≤ (1000 : Nat)) = true := k6
  have k8 : rV { r with cf := [] } = true := h.v
  have hI := wO_I (n := (elW l (i : Int)).1.2.1) h hw
  obtain ⟨k9, k10⟩ := len2 hI
  by_cases h14 : (elW l (i : Int)).1.2.1 = 14
  · have c : ∀ m : Int, m ≠ 14 → ((elW l (i : Int)).1.2.1 == m) = false := fun m hm => by rw [h14]; exact beq_eq_false_iff_ne.2 (Ne.symm hm)
    have c2 : ((elW l (i : Int)).1.2.1 != 14) = false := by rw [h14]; rfl
    exact Tr.follow_get (pa_s l r i) (by simp only [k1, k2, k3, k4, k5, k6, k7, k8, c 1 (by decide), c 3 (by decide), c 6 (by decide), c 12 (by decide), c 15 (by decide), c 16 (by decide), c2])
  have cne : ((elW l (i : Int)).1.2.1 != 14) = true := bne_iff_ne.2 h14
  have k11 : cdec (Apt { r with cf := [] } (wO (elW l (i : Int)).1.2.1 (elW l (i : Int)).1.2.2.1 { r with cf := [] })) = true := cdec_iff.2 (wO_apt h h14)
  have rd : ∀ m : Int, (m = 1 ∨ m = 3 ∨ m = 6 ∨ m = 12 ∨ m = 15 ∨ m = 16) → (elW l (i : Int)).1.2.1 = m → cdec ((wO (elW l (i : Int)).1.2.1 (elW l (i : Int)).1.2.2.1 { r with cf := [] }) = { r with cf := [] }) = true := fun m hm he => cdec_iff.2 (by unfold wO; rw [opq_eq, he]; exact wF_read hm)
  by_cases e1 : (elW l (i : Int)).1.2.1 = 1
  · have d1 : ((elW l (i : Int)).1.2.1 == 1) = true := beq_iff_eq.2 e1
    have k12 := rd 1 (by decide) e1
    exact Tr.follow_get (pa_1 l r i) (by simp only [k1, k2, k3, k4, k5, k6, k7, k8, k9, k10, k11, k12, cne, d1])
  have c1 : ((elW l (i : Int)).1.2.1 == 1) = false := beq_eq_false_iff_ne.2 e1
  by_cases e3 : (elW l (i : Int)).1.2.1 = 3
  · have d3 : ((elW l (i : Int)).1.2.1 == 3) = true := beq_iff_eq.2 e3
    have k12 := rd 3 (by decide) e3
    exact Tr.follow_get (pa_3 l r i) (by simp only [k1, k2, k3, k4, k5, k6, k7, k8, k9, k10, k11, k12, cne, d3, c1])
  have c3 : ((elW l (i : Int)).1.2.1 == 3) = false := beq_eq_false_iff_ne.2 e3
  by_cases e6 : (elW l (i : Int)).1.2.1 = 6
  · have d6 : ((elW l (i : Int)).1.2.1 == 6) = true := beq_iff_eq.2 e6
    have k12 := rd 6 (by decide) e6
    exact Tr.follow_get (pa_6 l r i) (by simp only [k1, k2, k3, k4, k5, k6, k7, k8, k9, k10, k11, k12, cne, d6, c1, c3])
  have c6 : ((elW l (i : Int)).1.2.1 == 6) = false := beq_eq_false_iff_ne.2 e6
  by_cases e12 : (elW l (i : Int)).1.2.1 = 12
  · have d12 : ((elW l (i : Int)).1.2.1 == 12) = true := beq_iff_eq.2 e12
    have k12 := rd 12 (by decide) e12
    exact Tr.follow_get (pa_12 l r i) (by simp only [k1, k2, k3, k4, k5, k6, k7, k8, k9, k10, k11, k12, cne, d12, c1, c3, c6])
  have c12 : ((elW l (i : Int)).1.2.1 == 12) = false := beq_eq_false_iff_ne.2 e12
  by_cases e15 : (elW l (i : Int)).1.2.1 = 15
  · have d15 : ((elW l (i : Int)).1.2.1 == 15) = true := beq_iff_eq.2 e15
    have k12 := rd 15 (by decide) e15
    exact Tr.follow_get (pa_15 l r i) (by simp only [k1, k2, k3, k4, k5, k6, k7, k8, k9, k10, k11, k12, cne, d15, c1, c3, c6, c12])
  have c15 : ((elW l (i : Int)).1.2.1 == 15) = false := beq_eq_false_iff_ne.2 e15
  by_cases e16 : (elW l (i : Int)).1.2.1 = 16
  · have d16 : ((elW l (i : Int)).1.2.1 == 16) = true := beq_iff_eq.2 e16
    have k12 := rd 16 (by decide) e16
    exact Tr.follow_get (pa_16 l r i) (by simp only [k1, k2, k3, k4, k5, k6, k7, k8, k9, k10, k11, k12, cne, d16, c1, c3, c6, c12, c15])
  have c16 : ((elW l (i : Int)).1.2.1 == 16) = false := beq_eq_false_iff_ne.2 e16
  exact Tr.follow_get (pa_w l r i) (by simp only [k1, k2, k3, k4, k5, k6, k7, k8, k9, k10, k11, cne, c1, c3, c6, c12, c15, c16])
theorem pb_round {l : List Wt} {qs0 : List Qe} {r : Rg} (h : RI r) (ha : AcOk l) {i : Nat} (hi : i < l.length) : (pR8 l (pB8 l qs0 r i)).get = some (.normal, pB8 l qs0 (wO (elW l (i : Int)).1.2.1 (elW l (i : Int)).1.2.2.1 r) ((i : Int) + 1)) := by
  have hl := ha.few
  have k1 := decide_eq_true (show (i : Int) < (l.length : Int) by omega)
  have k2 : Sx.inB (i : Int) l.length = true := inB_mk ⟨by omega, by omega⟩
  have k3 := decide_eq_true (show ((i : Nat) : Int).toNat < l.length by omega)
  have k4 : inR64 ((i : Int) + 1) = true := inR64_mk (by omega)
  have hw := ha.at hi
  have k5 : rng64 (elW l (i : Int)).1.2.2.1 = true := rng64_iff.2 hw
  obtain ⟨k6, k7⟩ := len2 h
  have k6 : decide (r.qs.length ≤ (1000 : Nat)) = true := k6
  have k8 : rV r = true := h.v
  have hI := wO_I (n := (elW l (i : Int)).1.2.1) h hw
  obtain ⟨k9, k10⟩ := len2 hI
  by_cases h14 : (elW l (i : Int)).1.2.1 = 14
  · have c : ∀ m : Int, m ≠ 14 → ((elW l (i : Int)).1.2.1 == m) = false := fun m hm => by rw [h14]; exact beq_eq_false_iff_ne.2 (Ne.symm hm)
    have c2 : ((elW l (i : Int)).1.2.1 != 14) = false := by rw [h14]; rfl
    exact Tr.follow_get (pb_s l qs0 r i) (by simp only [k1, k2, k3, k4, k5, k6, k7, k8, c 1 (by decide), c 3 (by decide), c 6 (by decide), c 12 (by decide), c 15 (by decide), c 16 (by decide), c2])
  have cne : ((elW l (i : Int)).1.2.1 != 14) = true := bne_iff_ne.2 h14
  have k11 : cdec (Apt r (wO (elW l (i : Int)).1.2.1 (elW l (i : Int)).1.2.2.1 r)) = true := cdec_iff.2 (wO_apt h h14)
  have rd : ∀ m : Int, (m = 1 ∨ m = 3 ∨ m = 6 ∨ m = 12 ∨ m = 15 ∨ m = 16) → (elW l (i : Int)).1.2.1 = m → cdec ((wO (elW l (i : Int)).1.2.1 (elW l (i : Int)).1.2.2.1 r) = r) = true := fun m hm he => cdec_iff.2 (by unfold wO; rw [opq_eq, he]; exact wF_read hm)
  by_cases e1 : (elW l (i : Int)).1.2.1 = 1
  · have d1 : ((elW l (i : Int)).1.2.1 == 1) = true := beq_iff_eq.2 e1
    have k12 := rd 1 (by decide) e1
    exact Tr.follow_get (pb_1 l qs0 r i) (by simp only [k1, k2, k3, k4, k5, k6, k7, k8, k9, k10, k11, k12, cne, d1])
  have c1 : ((elW l (i : Int)).1.2.1 == 1) = false := beq_eq_false_iff_ne.2 e1
  by_cases e3 : (elW l (i : Int)).1.2.1 = 3
  · have d3 : ((elW l (i : Int)).1.2.1 == 3) = true := beq_iff_eq.2 e3
    have k12 := rd 3 (by decide) e3
    exact Tr.follow_get (pb_3 l qs0 r i) (by simp only [k1, k2, k3, k4, k5, k6, k7, k8, k9, k10, k11, k12, cne, d3, c1])
  have c3 : ((elW l (i : Int)).1.2.1 == 3) = false := beq_eq_false_iff_ne.2 e3
  by_cases e6 : (elW l (i : Int)).1.2.1 = 6
  · have d6 : ((elW l (i : Int)).1.2.1 == 6) = true := beq_iff_eq.2 e6
    have k12 := rd 6 (by decide) e6
    exact Tr.follow_get (pb_6 l qs0 r i) (by simp only [k1, k2, k3, k4, k5, k6, k7, k8, k9, k10, k11, k12, cne, d6, c1, c3])
  have c6 : ((elW l (i : Int)).1.2.1 == 6) = false := beq_eq_false_iff_ne.2 e6
  by_cases e12 : (elW l (i : Int)).1.2.1 = 12
  · have d12 : ((elW l (i : Int)).1.2.1 == 12) = true := beq_iff_eq.2 e12
    have k12 := rd 12 (by decide) e12
    exact Tr.follow_get (pb_12 l qs0 r i) (by simp only [k1, k2, k3, k4, k5, k6, k7, k8, k9, k10, k11, k12, cne, d12, c1, c3, c6])
  have c12 : ((elW l (i : Int)).1.2.1 == 12) = false := beq_eq_false_iff_ne.2 e12
  by_cases e15 : (elW l (i : Int)).1.2.1 = 15
  · have d15 : ((elW l (i : Int)).1.2.1 == 15) = true := beq_iff_eq.2 e15
    have k12 := rd 15 (by decide) e15
    exact Tr.follow_get (pb_15 l qs0 r i) (by simp only [k1, k2, k3, k4, k5, k6, k7, k8, k9, k10, k11, k12, cne, d15, c1, c3, c6, c12])
  have c15 : ((elW l (i : Int)).1.2.1 == 15) = false := beq_eq_false_iff_ne.2 e15
  by_cases e16 : (elW l (i : Int)).1.2.1 = 16
  · have d16 : ((elW l (i : Int)).1.2.1 == 16) = true := beq_iff_eq.2 e16
    have k12 := rd 16 (by decide) e16
    exact Tr.follow_get (pb_16 l qs0 r i) (by simp only [k1, k2, k3, k4, k5, k6, k7, k8, k9, k10, k11, k12, cne, d16, c1, c3, c6, c12, c15])
  have c16 : ((elW l (i : Int)).1.2.1 == 16) = false := beq_eq_false_iff_ne.2 e16
  exact Tr.follow_get (pb_w l qs0 r i) (by simp only [k1, k2, k3, k4, k5, k6, k7, k8, k9, k10, k11, cne, c1, c3, c6, c12, c15, c16])
@[reducible] def pSt (l : List Wt) (r : Rg) : Nat → List SV × List (SO C18)
  | 0 => pA8 l r 0
  | k + 1 => pB8 l r.qs (rP r (l.take (k + 1))) ((k + 1 : Nat) : Int)
theorem p_round {l : List Wt} {r : Rg} (hc : r.cf = []) (h : RI r) (ha : AcOk l) {i : Nat} (hi : i < l.length) : (pR8 l (pSt l r i)).get = some (.normal, pSt l r (i + 1)) := by
  have hr : { r with cf := [] } = r := by cases r; simp only at hc; subst hc; rfl
  have e : rP r (l.take (i + 1)) = wO (elW l (i : Int)).1.2.1 (elW l (i : Int)).1.2.2.1 (rP r (l.take i)) := by
    unfold rP
    rw [List.take_add_one, List.getElem?_eq_getElem hi, List.foldl_append, elW_at hi]; rfl
  cases i with
  | zero =>
    have hp := pa_round (r := r) (by rw [hr]; exact h) ha hi
    rw [hr] at hp
    refine hp.trans ?_
    show _ = some (Ex.normal, pB8 l r.qs (rP r (l.take (0 + 1))) ((0 + 1 : Nat) : Int))
    rw [e]; rfl
  | succ j =>
    have hp := pb_round (qs0 := r.qs) (r := rP r (l.take (j + 1))) (rP_I h (fun a hm => ha.wd a (List.mem_of_mem_take hm))) ha hi
    refine hp.trans ?_
    show _ = some (Ex.normal, pB8 l r.qs (rP r (l.take (j + 1 + 1))) ((j + 1 + 1 : Nat) : Int))
    rw [e]; rfl
theorem p_end {l : List Wt} {r : Rg} : (pR8 l (pSt l r l.length)).get = some (.exit 0, pSt l r l.length) := by
  have k1 : decide ((l.length : Int) < (l.length : Int)) = false := decide_eq_false (Int.lt_irrefl _)
  cases hn : l.length with
  | zero =>
    rw [hn] at k1
    exact Tr.follow_get (pa_end l r 0) (by rw [hn]; rfl)
  | succ j =>
    rw [hn] at k1
    exact Tr.follow_get (pb_end l r.qs _ ((j + 1 : Nat) : Int)) (by rw [hn, k1])
theorem p8_loop : loopOf Try.prog 12 0 = some (((loopOf Try.prog 12 0).get!).1, (loopOf Try.prog 12 0).get!.2) := by kernel_rfl
def p8Leaf (l : List Wt) (r : Rg) : Tr (Ex × List SV × List (SO C18)) := .br (decide (l.length = 0)) (.leaf (.exit 0, pA8 l r 0)) (.leaf (.exit 0, pB8 l r.qs (opq (rP r l)) (l.length : Int)))
theorem p8Leaf_get (l : List Wt) (r : Rg) : (p8Leaf l r).get = some (.exit 0, pSt l r l.length) := by
  unfold p8Leaf
  rw [opq_eq]
  cases hn : l.length with
  | zero => rfl
  | succ j =>
    have e : (l.take (j + 1)) = l := List.take_of_length_le (by omega)
    show some (Ex.exit 0, pB8 l r.qs (rP r l) _) = some (Ex.exit 0, pB8 l r.qs (rP r (l.take (j + 1))) _)
    rw [e]
theorem p8_run {l : List Wt} {r : Rg} (hc : r.cf = []) (h : RI r) (ha : AcOk l) :
    Keeps 3 (pSt l r 0).2 (pSt l r l.length).2 ∧ LoopRun Try.prog ((loopOf Try.prog 12 0).get!).1 (loopOf Try.prog 12 0).get!.2 3 (LI.st pSl ⟨(pSt l r 0).1, 3, (pSt l r 0).2⟩) fun x T => ∃ vs os, (x = .exit 0 ∧ (vs, os) = pSt l r l.length) ∧ T = ⟨zipT pSl vs, numH 0 os, os.length⟩ := by
  constructor
  · cases l.length <;> exact Keeps.of3 (by simp) rfl
  · refine loop_li (σ := Nat) (st := pSt l r) (Inv := fun i => i ≤ l.length) (μ := fun i => l.length - i) (d := 10) (unr := unP) (sp := sfP) (ls := Sx.addL 12 3 (loopS iSl8 [] i8Loop) noLs) plain mixed sfP_ok (addL_ok i8_loop i8Loop_ok noLs_ok) p8_loop (fun i hi => ?_) 0 (Nat.zero_le _)
    by_cases h5 : i < l.length
    · exact ⟨_, p_round hc h ha h5, fun _ => ⟨i + 1, by omega, by omega, rfl⟩, nofun⟩
    · obtain rfl : i = l.length := by omega
      exact ⟨_, p_end, nofun, fun _ => ⟨rfl, rfl⟩⟩
def p8Loop : LoopFn C18 := fun li => match li with
  | ⟨[.h 0, .h 1, .raw (.int .i64 (.ofNat 0)), .raw (.bool false)], 3, [.ss 71 4 5 l, .box [.raw (.int .i64 k), .raw (.int .u64 o), .raw (.int .u64 g), .raw (.int .u8 s), .raw (.int .i64 se), .raw (.int .i64 at'), .h 2, .raw (.slice none 0 0), .raw (.int .u8 ge), .raw (.int .u8 it)] 64, .sl true false 77 qs]⟩ =>
    .br (cdec (RI ⟨k, o, g, s, se, at', ge, it, qs, []⟩ ∧ AcOk l)) (p8Leaf l ⟨k, o, g, s, se, at', ge, it, qs, []⟩) .fail
  | _ => .fail
theorem p8Loop_ok : ∀ tm hp n x, (loopS pSl [] p8Loop tm hp n).get = some x → InLoop Try.prog ((loopOf Try.prog 12 0).get!).1 (loopOf Try.prog 12 0).get!.2 tm hp n fun e tm hp n => (e, tm, hp, n) = x := loopS_of fun li r h => by
  unfold p8Loop at h
  split at h
  · rename_i l k o g s se at' ge it qs
    obtain ⟨h1, g1⟩ := Tr.get_ask.1 h
    obtain ⟨h2, h3⟩ := cdec_iff.1 h1
    have hr := Option.some.inj (g1.symm.trans (p8Leaf_get _ _))
    subst hr
    exact p8_run rfl h2 h3
  · cases h
end
end Go.Proofs.Ytknkemjbikbhgaa
