/-
  Chapter 18: RegsConfig, its inner loop. Own work; nothing here is trusted.
-/
import Derived.Test.YtknkemjbikbhgaaCh18CfgP
import Derived.Test.YtknkemjbikbhgaaCh18CfgL
namespace Go.Proofs.Ytknkemjbikbhgaa
open Go Go.Sx Go.RowKit
set_option maxRecDepth 1000000
set_option maxHeartbeats 8000000
set_option linter.unusedVariables false
set_option linter.unusedSimpArgs false
noncomputable section
theorem cA_round {fc : Bool} {cfg : List Int} {ob : OB} {og : OG} {ws : List Int} {gn e : Int} {l : List Wt} {r : Rg} (h : RI r) (ha : AcQ l) {i : Nat} (hi : i < l.length) {k c n : Int} (hk : k = (i : Int)) (hc : 0 ≤ c ∧ c ≤ 2000) (hn : 0 < n ∧ n ≤ 2) : (c8R ob og (c8A fc cfg ob og ws gn e l r k c n)).get = some (.normal, bif chB r (elW l k).1.2.2.2 (bsW (elW l k)) then c8B fc cfg ob og ws gn e l r (ackO r (elW l k).1.2.2.2 (bsW (elW l k))) (k + 1) (c + 1) (n - 1) else c8A fc cfg ob og ws gn e l r (k + 1) c (n - 1)) := by
  have hl := ha.few
  subst hk
  have k1 := decide_eq_true (show (i : Int) < (l.length : Int) by omega)
  have k2 : Sx.inB (i : Int) l.length = true := inB_mk ⟨by omega, by omega⟩
  have k3 := decide_eq_true (show ((i : Nat) : Int).toNat < l.length by omega)
  have k4 : inR64 ((i : Int) + 1) = true := inR64_mk (by omega)
  have k10 : inR64 (c + 1) = true := inR64_mk (by omega)
  have k11 : inR64 (n - 1) = true := inR64_mk (by omega)
  have k12 := decide_eq_true hn.1
  obtain ⟨hw, hm, hbs⟩ := ha.at hi
  obtain ⟨k6, k7⟩ := len8 h
  have k8 := h.v
  have kf := fun hc => ack_f (m := (elW l (i : Int)).1.2.2.2) (bs := bsW (elW l (i : Int))) h hc
  unfold ackO at kf ⊢
  cases hno : isNo (elW l (i : Int)).2.1 with
  | true =>
    have hb9 : bsW (elW l (i : Int)) = [] := by unfold bsW; rw [hno]
    rw [hb9] at hbs kf ⊢
    have k9 := decide_eq_true hbs
    cases hcb : chB r (elW l (i : Int)).1.2.2.2 [] with
    | true =>
      obtain ⟨f1, f2, f3, f4⟩ := kf hcb
      have f5 := f1.v
      have hp := cA_rt fc cfg ob og ws gn e l r (i : Int) c n
      exact Tr.follow_get hp (by simp only [k1, k2, k3, k4, k6, k7, k8, k9, k10, k11, k12, hno, hm, hcb, f2, f3, f4, f5])
    | false =>
      have hp := cA_rf fc cfg ob og ws gn e l r (i : Int) c n
      exact Tr.follow_get hp (by simp only [k1, k2, k3, k4, k6, k7, k8, k9, k10, k11, k12, hno, hm, hcb])
  | false =>
    have hb9 : bsW (elW l (i : Int)) = (elW l (i : Int)).2.2 := by unfold bsW; rw [hno]
    rw [hb9] at hbs kf ⊢
    have k9 := decide_eq_true hbs
    cases hcb : chB r (elW l (i : Int)).1.2.2.2 (elW l (i : Int)).2.2 with
    | true =>
      obtain ⟨f1, f2, f3, f4⟩ := kf hcb
      have f5 := f1.v
      have hp := cA_ht fc cfg ob og ws gn e l r (i : Int) c n
      exact Tr.follow_get hp (by simp only [k1, k2, k3, k4, k6, k7, k8, k9, k10, k11, k12, hno, hm, hcb, f2, f3, f4, f5])
    | false =>
      have hp := cA_hf fc cfg ob og ws gn e l r (i : Int) c n
      exact Tr.follow_get hp (by simp only [k1, k2, k3, k4, k6, k7, k8, k9, k10, k11, k12, hno, hm, hcb])
theorem cA_stop {fc : Bool} {cfg : List Int} {ob : OB} {og : OG} {ws : List Int} {gn e : Int} {l : List Wt} {r : Rg} {k c n : Int} (h : n ≤ 0 ∨ (l.length : Int) ≤ k) : (c8R ob og (c8A fc cfg ob og ws gn e l r k c n)).get = some (.exit 2, c8A fc cfg ob og ws gn e l r k c n) := by
  by_cases hn : 0 < n
  · have k1 := decide_eq_true hn
    have k2 := decide_eq_false (show ¬ k < (l.length : Int) by omega)
    exact Tr.follow_get (cA_out fc cfg ob og ws gn e l r k c n) (by simp only [k1, k2])
  · have k1 := decide_eq_false hn
    exact Tr.follow_get (cA_end fc cfg ob og ws gn e l r k c n) (by simp only [k1])
theorem cB_round {fc : Bool} {cfg : List Int} {ob : OB} {og : OG} {ws : List Int} {gn e : Int} {l : List Wt} {r x : Rg} (h : RI x) (ha : AcQ l) {i : Nat} (hi : i < l.length) {k c n : Int} (hk : k = (i : Int)) (hc : 0 ≤ c ∧ c ≤ 2000) (hn : 0 < n ∧ n ≤ 2) : (c8R ob og (c8B fc cfg ob og ws gn e l r x k c n)).get = some (.normal, bif chB x (elW l k).1.2.2.2 (bsW (elW l k)) then c8B fc cfg ob og ws gn e l r (ackO x (elW l k).1.2.2.2 (bsW (elW l k))) (k + 1) (c + 1) (n - 1) else c8B fc cfg ob og ws gn e l r x (k + 1) c (n - 1)) := by
  have hl := ha.few
  subst hk
  have k1 := decide_eq_true (show (i : Int) < (l.length : Int) by omega)
  have k2 : Sx.inB (i : Int) l.length = true := inB_mk ⟨by omega, by omega⟩
  have k3 := decide_eq_true (show ((i : Nat) : Int).toNat < l.length by omega)
  have k4 : inR64 ((i : Int) + 1) = true := inR64_mk (by omega)
  have k10 : inR64 (c + 1) = true := inR64_mk (by omega)
  have k11 : inR64 (n - 1) = true := inR64_mk (by omega)
  have k12 := decide_eq_true hn.1
  obtain ⟨hw, hm, hbs⟩ := ha.at hi
  obtain ⟨k6, k7⟩ := len8 h
  have k8 := h.v
  have kf := fun hc => ack_f (m := (elW l (i : Int)).1.2.2.2) (bs := bsW (elW l (i : Int))) h hc
  unfold ackO at kf ⊢
  cases hno : isNo (elW l (i : Int)).2.1 with
  | true =>
    have hb9 : bsW (elW l (i : Int)) = [] := by unfold bsW; rw [hno]
    rw [hb9] at hbs kf ⊢
    have k9 := decide_eq_true hbs
    cases hcb : chB x (elW l (i : Int)).1.2.2.2 [] with
    | true =>
      obtain ⟨f1, f2, f3, f4⟩ := kf hcb
      have f5 := f1.v
      have hp := cB_rt fc cfg ob og ws gn e l r x (i : Int) c n
      exact Tr.follow_get hp (by simp only [k1, k2, k3, k4, k6, k7, k8, k9, k10, k11, k12, hno, hm, hcb, f2, f3, f4, f5])
    | false =>
      have hp := cB_rf fc cfg ob og ws gn e l r x (i : Int) c n
      exact Tr.follow_get hp (by simp only [k1, k2, k3, k4, k6, k7, k8, k9, k10, k11, k12, hno, hm, hcb])
  | false =>
    have hb9 : bsW (elW l (i : Int)) = (elW l (i : Int)).2.2 := by unfold bsW; rw [hno]
    rw [hb9] at hbs kf ⊢
    have k9 := decide_eq_true hbs
    cases hcb : chB x (elW l (i : Int)).1.2.2.2 (elW l (i : Int)).2.2 with
    | true =>
      obtain ⟨f1, f2, f3, f4⟩ := kf hcb
      have f5 := f1.v
      have hp := cB_ht fc cfg ob og ws gn e l r x (i : Int) c n
      exact Tr.follow_get hp (by simp only [k1, k2, k3, k4, k6, k7, k8, k9, k10, k11, k12, hno, hm, hcb, f2, f3, f4, f5])
    | false =>
      have hp := cB_hf fc cfg ob og ws gn e l r x (i : Int) c n
      exact Tr.follow_get hp (by simp only [k1, k2, k3, k4, k6, k7, k8, k9, k10, k11, k12, hno, hm, hcb])
theorem cB_stop {fc : Bool} {cfg : List Int} {ob : OB} {og : OG} {ws : List Int} {gn e : Int} {l : List Wt} {r x : Rg} {k c n : Int} (h : n ≤ 0 ∨ (l.length : Int) ≤ k) : (c8R ob og (c8B fc cfg ob og ws gn e l r x k c n)).get = some (.exit 2, c8B fc cfg ob og ws gn e l r x k c n) := by
  by_cases hn : 0 < n
  · have k1 := decide_eq_true hn
    have k2 := decide_eq_false (show ¬ k < (l.length : Int) by omega)
    exact Tr.follow_get (cB_out fc cfg ob og ws gn e l r x k c n) (by simp only [k1, k2])
  · have k1 := decide_eq_false hn
    exact Tr.follow_get (cB_end fc cfg ob og ws gn e l r x k c n) (by simp only [k1])
@[reducible] def c8S (fc : Bool) (cfg : List Int) (ob : OB) (og : OG) (ws : List Int) (gn e : Int) (l : List Wt) (r : Rg) (c : Nat) (p : Rg × Nat) (k n : Int) : List SV × List (SO C18) := match decide (p.2 = c) with
  | true => c8A fc cfg ob og ws gn e l r k (c : Int) n
  | false => c8B fc cfg ob og ws gn e l r p.1 k (p.2 : Int) n
theorem c8_round {fc : Bool} {cfg : List Int} {ob : OB} {og : OG} {ws : List Int} {gn e : Int} {l : List Wt} {r : Rg} {c : Nat} {p : Rg × Nat} (h : RI p.1) (hp : c ≤ p.2 ∧ p.2 ≤ 2000 ∧ (p.2 = c → p = (r, c))) (ha : AcQ l) {i : Nat} (hi : i < l.length) {n : Int} (hn : 0 < n ∧ n ≤ 2) : (c8R ob og (c8S fc cfg ob og ws gn e l r c p (i : Int) n)).get = some (.normal, c8S fc cfg ob og ws gn e l r c (cStep (elW l (i : Int)) p) ((i + 1 : Nat) : Int) (n - 1)) := by
  obtain ⟨p1, p2⟩ := p
  by_cases ee : p2 = c
  · have e2 := hp.2.2 ee
    obtain ⟨rfl, rfl⟩ := Prod.mk.inj e2
    have hq := cA_round (fc := fc) (cfg := cfg) (ob := ob) (og := og) (ws := ws) (gn := gn) (e := e) h ha hi rfl (c := (p2 : Int)) (by omega) hn
    unfold cStep
    cases hc : chB p1 (elW l (i : Int)).1.2.2.2 (bsW (elW l (i : Int))) with
    | true =>
      rw [hc] at hq
      rw [if_pos rfl]
      unfold c8S
      rw [show decide ((p1, p2).2 = p2) = true from decide_eq_true rfl, show decide ((ackO p1 (elW l (i : Int)).1.2.2.2 (bsW (elW l (i : Int))), p2 + 1).2 = p2) = false from decide_eq_false (Nat.succ_ne_self _)]
      exact hq
    | false =>
      rw [hc] at hq
      rw [if_neg Bool.false_ne_true]
      unfold c8S
      rw [show decide ((p1, p2).2 = p2) = true from decide_eq_true rfl]
      exact hq
  · have hq := cB_round (fc := fc) (cfg := cfg) (ob := ob) (og := og) (ws := ws) (gn := gn) (e := e) (r := r) h ha hi rfl (c := (p2 : Int)) (by omega) hn
    have hp1 : c ≤ p2 := hp.1
    unfold cStep
    cases hc : chB p1 (elW l (i : Int)).1.2.2.2 (bsW (elW l (i : Int))) with
    | true =>
      rw [hc] at hq
      rw [if_pos rfl]
      unfold c8S
      rw [show decide ((p1, p2).2 = c) = false from decide_eq_false ee, show decide ((ackO p1 (elW l (i : Int)).1.2.2.2 (bsW (elW l (i : Int))), p2 + 1).2 = c) = false from decide_eq_false (show ¬ p2 + 1 = c by omega)]
      exact hq
    | false =>
      rw [hc] at hq
      rw [if_neg Bool.false_ne_true]
      unfold c8S
      rw [show decide ((p1, p2).2 = c) = false from decide_eq_false ee]
      exact hq
theorem c8_stop {fc : Bool} {cfg : List Int} {ob : OB} {og : OG} {ws : List Int} {gn e : Int} {l : List Wt} {r : Rg} {c : Nat} {p : Rg × Nat} {k n : Int} (h : n ≤ 0 ∨ (l.length : Int) ≤ k) : (c8R ob og (c8S fc cfg ob og ws gn e l r c p k n)).get = some (.exit 2, c8S fc cfg ob og ws gn e l r c p k n) := by
  unfold c8S
  cases decide (p.2 = c) with
  | true => exact cA_stop h
  | false => exact cB_stop h
theorem c8_loop : loopOf Try.prog 11 2 = some (((loopOf Try.prog 11 2).get!).1, (loopOf Try.prog 11 2).get!.2) := by kernel_rfl
/-- Rounds of the inner loop. -/
def cM (l : List Wt) (k n : Int) : Nat := min n.toNat (l.length - k.toNat)
def cK (l : List Wt) (k n : Int) : Int := opq (k + (cM l k n : Int))
def cZ (l : List Wt) (k n : Int) : Int := opq (n - (cM l k n : Int))
def cP (l : List Wt) (r : Rg) (k c n : Int) : Rg × Nat := opq (rC (r, c.toNat) ((l.drop k.toNat).take (cM l k n)))
structure CGo (l : List Wt) (r : Rg) (k c n : Int) : Prop where
  i : RI r
  q : AcQ l
  k : 0 ≤ k ∧ k ≤ (l.length : Int)
  c : 0 ≤ c ∧ c ≤ 1000
  n : 0 ≤ n ∧ n ≤ 2
abbrev c8E (fc : Bool) (cfg : List Int) (ob : OB) (og : OG) (ws : List Int) (gn e : Int) (l : List Wt) (r : Rg) (k c n : Int) : List SV × List (SO C18) := c8S fc cfg ob og ws gn e l r c.toNat (rC (r, c.toNat) ((l.drop k.toNat).take (cM l k n))) (k + (cM l k n : Int)) (n - (cM l k n : Int))
theorem rC_I {r : Rg} {c : Nat} {l : List Wt} (h : RI r) : RI (rC (r, c) l).1 := by
  suffices H : ∀ (l : List Wt) (p : Rg × Nat), RI p.1 → RI (rC p l).1 from H l _ h
  intro l
  induction l with
  | nil => exact fun p h => h
  | cons a l ih =>
    intro p h
    refine ih (cStep a p) ?_
    unfold cStep
    by_cases hc : chB p.1 a.1.2.2.2 (bsW a) = true
    · rw [if_pos hc]; exact (ack_f h hc).1
    · rw [if_neg hc]; exact h
theorem c8S_keep {fc : Bool} {cfg : List Int} {ob : OB} {og : OG} {ws : List Int} {gn e : Int} {l : List Wt} {r : Rg} {c : Nat} {p : Rg × Nat} {k n k' c' n' : Int} : Keeps (c8N ob og) (c8A fc cfg ob og ws gn e l r k' c' n').2 (c8S fc cfg ob og ws gn e l r c p k n).2 := by
  unfold c8S
  cases decide (p.2 = c) <;> cases ob <;> cases og <;> exact Keeps.of3 (by simp [c8A, c8B, c8N]) rfl
theorem c8_run {fc : Bool} {cfg : List Int} {ob : OB} {og : OG} {ws : List Int} {gn e : Int} {l : List Wt} {r : Rg} {k c n : Int} (h : CGo l r k c n) :
    Keeps (c8N ob og) (c8A fc cfg ob og ws gn e l r k c n).2 (c8E fc cfg ob og ws gn e l r k c n).2 ∧ LoopRun Try.prog ((loopOf Try.prog 11 2).get!).1 (loopOf Try.prog 11 2).get!.2 (c8N ob og) (LI.st cSl8 ⟨(c8A fc cfg ob og ws gn e l r k c n).1, c8N ob og, (c8A fc cfg ob og ws gn e l r k c n).2⟩) fun x T => ∃ vs os, (x = .exit 2 ∧ (vs, os) = c8E fc cfg ob og ws gn e l r k c n) ∧ T = ⟨zipT cSl8 vs, numH 0 os, os.length⟩ := by
  obtain ⟨hr, hq, hk, hc, hn⟩ := h
  have hl := hq.few
  obtain ⟨K, rfl⟩ := Int.eq_ofNat_of_zero_le hk.1
  obtain ⟨N, rfl⟩ := Int.eq_ofNat_of_zero_le hn.1
  obtain ⟨D, rfl⟩ := Int.eq_ofNat_of_zero_le hc.1
  have eM : cM l (K : Int) (N : Int) = min N (l.length - K) := rfl
  have st0 : c8A fc cfg ob og ws gn e l r (K : Int) (D : Int) (N : Int) = c8S fc cfg ob og ws gn e l r D (rC (r, D) ((l.drop K).take 0)) ((K + 0 : Nat) : Int) ((N : Int) - ((0 : Nat) : Int)) := by
    unfold c8S
    rw [show (rC (r, D) ((l.drop K).take 0)) = (r, D) from rfl, show decide ((r, D).2 = D) = true from decide_eq_true rfl]
    show _ = c8A fc cfg ob og ws gn e l r ((K + 0 : Nat) : Int) (D : Int) ((N : Int) - ((0 : Nat) : Int))
    rw [Nat.add_zero, show (N : Int) - ((0 : Nat) : Int) = (N : Int) by omega]
  constructor
  · exact c8S_keep
  · rw [st0]
    refine (loop_li (σ := Nat) (st := fun j => c8S fc cfg ob og ws gn e l r D (rC (r, D) ((l.drop K).take j)) ((K + j : Nat) : Int) ((N : Int) - (j : Int))) (Inv := fun j => j ≤ cM l (K : Int) (N : Int)) (μ := fun j => cM l (K : Int) (N : Int) - j) (d := 10) (unr := fun _ _ => 20) (sp := sfC8) (ls := noLs) plain mixed sfC8_ok noLs_ok c8_loop (fun j hj => ?_) 0 (Nat.zero_le _))
    have hj : j ≤ min N (l.length - K) := hj
    have hR := rC_I (r := r) (c := D) (l := (l.drop K).take j) hr
    have hB := rC_n (r, D) ((l.drop K).take j)
    have hL : ((l.drop K).take j).length ≤ 1000 := by rw [List.length_take, List.length_drop]; omega
    by_cases h5 : j < min N (l.length - K)
    · refine ⟨_, c8_round hR ⟨hB.1, Nat.le_trans hB.2.1 (by show D + ((l.drop K).take j).length ≤ 2000; omega), hB.2.2⟩ hq (i := K + j) (by omega) (n := (N : Int) - (j : Int)) (by omega), fun _ => ⟨j + 1, by show j + 1 ≤ min N (l.length - K); omega, by show cM l (K : Int) (N : Int) - (j + 1) < cM l (K : Int) (N : Int) - j; rw [eM]; omega, ?_⟩, nofun⟩
      have e1 : elW l ((K + j : Nat) : Int) = elW (l.drop K) (j : Int) := by
        rw [elW_at (show K + j < l.length by omega), elW_at (show j < (l.drop K).length by rw [List.length_drop]; omega), List.getElem_drop]
      show c8S fc cfg ob og ws gn e l r D (cStep (elW l ((K + j : Nat) : Int)) (rC (r, D) ((l.drop K).take j))) ((K + j + 1 : Nat) : Int) ((N : Int) - (j : Int) - 1) = c8S fc cfg ob og ws gn e l r D (rC (r, D) ((l.drop K).take (j + 1))) ((K + (j + 1) : Nat) : Int) ((N : Int) - ((j + 1 : Nat) : Int))
      rw [e1, ← rC_step (show j < (l.drop K).length by rw [List.length_drop]; omega), Nat.add_assoc, show (N : Int) - (j : Int) - 1 = (N : Int) - ((j + 1 : Nat) : Int) by omega]
    · refine ⟨_, c8_stop (by omega), nofun, fun _ => ⟨rfl, ?_⟩⟩
      obtain rfl : j = cM l (K : Int) (N : Int) := by rw [eM]; omega
      rfl
def c8Leaf (fc : Bool) (cfg : List Int) (ob : OB) (og : OG) (ws : List Int) (gn e : Int) (l : List Wt) (r : Rg) (k c n : Int) : Tr (Ex × List SV × List (SO C18)) := .br (decide ((cP l r k c n).2 = c.toNat)) (.leaf (.exit 2, c8A fc cfg ob og ws gn e l r (cK l k n) c (cZ l k n))) (.leaf (.exit 2, c8B fc cfg ob og ws gn e l r (cP l r k c n).1 (cK l k n) ((cP l r k c n).2 : Int) (cZ l k n)))
theorem c8Leaf_get {fc : Bool} {cfg : List Int} {ob : OB} {og : OG} {ws : List Int} {gn e : Int} {l : List Wt} {r : Rg} {k c n : Int} (hc : 0 ≤ c) : (c8Leaf fc cfg ob og ws gn e l r k c n).get = some (.exit 2, c8E fc cfg ob og ws gn e l r k c n) := by
  unfold c8Leaf cP cK cZ c8E c8S
  simp only [opq_eq]
  cases decide ((rC (r, c.toNat) ((l.drop k.toNat).take (cM l k n))).2 = c.toNat) with
  | true =>
    show some (Ex.exit 2, c8A fc cfg ob og ws gn e l r _ c _) = some (Ex.exit 2, c8A fc cfg ob og ws gn e l r _ ((c.toNat : Nat) : Int) _)
    rw [Int.toNat_of_nonneg hc]
  | false => rfl
def c8Loop : LoopFn C18 := fun li => match li with
  | ⟨[.h 0, .h 1, .raw (.int .i64 k), .raw (.int .i64 c), .raw (.int .i64 n), .raw (.bool false), .raw (.int .i64 e), .h 2, .h 3, .h 4, .h 5, .raw (.int .u64 gn)], 8, [.ss 71 4 5 l, .box [.raw (.int .i64 kk), .raw (.int .u64 o), .raw (.int .u64 g), .raw (.int .u8 s), .raw (.int .i64 se), .raw (.int .i64 at'), .h 6, .h 7, .raw (.int .u8 ge), .raw (.int .u8 it)] 64, .sl false fc 5 cfg, .sl false fb 3 bt, .sl true false 5 got, .sl true false 5 ws, .sl true false 77 qs, .sl true false 5 cf]⟩ =>
    .br (cdec (CGo l ⟨kk, o, g, s, se, at', ge, it, qs, cf⟩ k c n)) (c8Leaf fc cfg (some (fb, bt)) (some got) ws gn e l ⟨kk, o, g, s, se, at', ge, it, qs, cf⟩ k c n) .fail
  | ⟨[.h 0, .h 1, .raw (.int .i64 k), .raw (.int .i64 c), .raw (.int .i64 n), .raw (.bool false), .raw (.int .i64 e), .h 2, .h 3, .raw (.slice none 0 0), .h 4, .raw (.int .u64 gn)], 7, [.ss 71 4 5 l, .box [.raw (.int .i64 kk), .raw (.int .u64 o), .raw (.int .u64 g), .raw (.int .u8 s), .raw (.int .i64 se), .raw (.int .i64 at'), .h 5, .h 6, .raw (.int .u8 ge), .raw (.int .u8 it)] 64, .sl false fc 5 cfg, .sl false fb 3 bt, .sl true false 5 ws, .sl true false 77 qs, .sl true false 5 cf]⟩ =>
    .br (cdec (CGo l ⟨kk, o, g, s, se, at', ge, it, qs, cf⟩ k c n)) (c8Leaf fc cfg (some (fb, bt)) none ws gn e l ⟨kk, o, g, s, se, at', ge, it, qs, cf⟩ k c n) .fail
  | ⟨[.h 0, .h 1, .raw (.int .i64 k), .raw (.int .i64 c), .raw (.int .i64 n), .raw (.bool false), .raw (.int .i64 e), .h 2, .raw (.slice none 0 0), .h 3, .h 4, .raw (.int .u64 gn)], 7, [.ss 71 4 5 l, .box [.raw (.int .i64 kk), .raw (.int .u64 o), .raw (.int .u64 g), .raw (.int .u8 s), .raw (.int .i64 se), .raw (.int .i64 at'), .h 5, .h 6, .raw (.int .u8 ge), .raw (.int .u8 it)] 64, .sl false fc 5 cfg, .sl true false 5 got, .sl true false 5 ws, .sl true false 77 qs, .sl true false 5 cf]⟩ =>
    .br (cdec (CGo l ⟨kk, o, g, s, se, at', ge, it, qs, cf⟩ k c n)) (c8Leaf fc cfg none (some got) ws gn e l ⟨kk, o, g, s, se, at', ge, it, qs, cf⟩ k c n) .fail
  | ⟨[.h 0, .h 1, .raw (.int .i64 k), .raw (.int .i64 c), .raw (.int .i64 n), .raw (.bool false), .raw (.int .i64 e), .h 2, .raw (.slice none 0 0), .raw (.slice none 0 0), .h 3, .raw (.int .u64 gn)], 6, [.ss 71 4 5 l, .box [.raw (.int .i64 kk), .raw (.int .u64 o), .raw (.int .u64 g), .raw (.int .u8 s), .raw (.int .i64 se), .raw (.int .i64 at'), .h 4, .h 5, .raw (.int .u8 ge), .raw (.int .u8 it)] 64, .sl false fc 5 cfg, .sl true false 5 ws, .sl true false 77 qs, .sl true false 5 cf]⟩ =>
    .br (cdec (CGo l ⟨kk, o, g, s, se, at', ge, it, qs, cf⟩ k c n)) (c8Leaf fc cfg none none ws gn e l ⟨kk, o, g, s, se, at', ge, it, qs, cf⟩ k c n) .fail
  | _ => .fail
theorem c8Loop_ok : ∀ tm hp n x, (loopS cSl8 [] c8Loop tm hp n).get = some x → InLoop Try.prog ((loopOf Try.prog 11 2).get!).1 (loopOf Try.prog 11 2).get!.2 tm hp n fun e tm hp n => (e, tm, hp, n) = x := loopS_of fun li r h => by
  unfold c8Loop at h
  split at h
  · rename_i k c n e gn l kk o g s se at' ge it fc cfg fb bt got ws qs cf
    obtain ⟨h1, g1⟩ := Tr.get_ask.1 h
    have h2 := cdec_iff.1 h1
    have hr := Option.some.inj (g1.symm.trans (c8Leaf_get h2.c.1))
    subst hr
    exact c8_run (ob := (some (fb, bt))) (og := (some got)) h2
  · rename_i k c n e gn l kk o g s se at' ge it fc cfg fb bt ws qs cf
    obtain ⟨h1, g1⟩ := Tr.get_ask.1 h
    have h2 := cdec_iff.1 h1
    have hr := Option.some.inj (g1.symm.trans (c8Leaf_get h2.c.1))
    subst hr
    exact c8_run (ob := (some (fb, bt))) (og := none) h2
  · rename_i k c n e gn l kk o g s se at' ge it fc cfg got ws qs cf
    obtain ⟨h1, g1⟩ := Tr.get_ask.1 h
    have h2 := cdec_iff.1 h1
    have hr := Option.some.inj (g1.symm.trans (c8Leaf_get h2.c.1))
    subst hr
    exact c8_run (ob := none) (og := (some got)) h2
  · rename_i k c n e gn l kk o g s se at' ge it fc cfg ws qs cf
    obtain ⟨h1, g1⟩ := Tr.get_ask.1 h
    have h2 := cdec_iff.1 h1
    have hr := Option.some.inj (g1.symm.trans (c8Leaf_get h2.c.1))
    subst hr
    exact c8_run (ob := none) (og := none) h2
  · cases h
end
end Go.Proofs.Ytknkemjbikbhgaa
