/-
  Chapter 24: FilterTables, its loops over commands and over the map, told by hand. Own work; nothing here is trusted.
-/
import Derived.Test.YtgepgnjjhgmfnaaCh24Tb6
namespace Go.Proofs.Ytgepgnjjhgmfnaa
open Go Go.Sx Go.RowKit
set_option maxRecDepth 1000000
set_option maxHeartbeats 8000000
set_option linter.unusedVariables false
set_option linter.unusedSimpArgs false
noncomputable section
/-- What is far from some blocks stands since the begin. -/
structure FarS (w0 : World) (S : Nat → Prop) (ρ : Asg) (os : List (SO C24)) (w : World) : Prop where
  sys : w.os = w0.os
  tape : w.tape = w0.tape
  out : w.output = w0.output
  size : w0.heap.size ≤ w.heap.size
  old : ∀ b, b < w0.heap.size → ¬ S b → w.heap[b]? = w0.heap[b]?
  mine : ∀ g, Mine ρ os g → w0.heap.size ≤ g ∨ S g
theorem FarS.step {w0 : World} {S : Nat → Prop} {ρ ρ' : Asg} {os os' : List (SO C24)} {w w' : World} (h : FarS w0 S ρ os w) (s : Stood ρ os w w') (hm : ∀ g, Mine ρ' os' g → w.heap.size ≤ g ∨ Mine ρ os g) : FarS w0 S ρ' os' w' :=
  ⟨s.sys.trans h.sys, s.tape.trans h.tape, s.out.trans h.out, Nat.le_trans h.size s.size,
    fun b hb hc => (s.old b (Nat.lt_of_lt_of_le hb h.size) fun hm => (h.mine b hm).elim (fun h' => by omega) hc).trans (h.old b hb hc),
    fun g hg => (hm g hg).elim (fun h' => .inl (Nat.le_trans h.size h')) (h.mine g)⟩
/-- A state between two parts. -/
def St (w0 : World) (S fz : Nat → Prop) (slots : List Nat) (vs : List SV) (os : List (SO C24)) (a : Act) (w : World) : Prop :=
  a.tmps.size = 167 ∧ a.defers = [] ∧ ∃ ρ, Self fz ρ os w ∧ TmOk ρ (zipT slots vs) a ∧ FarS w0 S ρ os w
theorem st_step {w0 : World} {S fz : Nat → Prop} {c : Code} (hc : lps 0 c = []) {slots outs : List Nat} {ivs : List SV} {os : List (SO C24)} {x : Ex} {vs : List SV} {os' : List (SO C24)}
    (h : (pieceL C24 Try.prog sfT2 noLs (fun _ _ => 20) 10 6 167 c slots outs ⟨ivs, 0, os⟩).get = some (x, vs, os')) {w : World} {a : Act} (hs : St w0 S fz slots ivs os a w) :
    c.wp Try.prog (fun e a w => e = exitOf x ∧ St w0 S fz outs vs os' a w) a w := by
  obtain ⟨fn, c0, h1, h2, h3, _⟩ := f6_ex
  obtain ⟨hN, hD, ρ, hS1, hT, hF⟩ := hs
  refine wp_mono (self_step plain mixed sfT2_ok noLs_ok h1 h2 h3 (fun x hx => by rw [hc] at hx; cases hx) h hN hD hS1 hT) fun e a' w' hq => ?_
  obtain ⟨rfl, hN', hD', ρ', hS', s', m', hT'⟩ := hq
  exact ⟨rfl, hN', hD', ρ', hS', hT', hF.step s' m'⟩
theorem St.tm {w0 : World} {S fz : Nat → Prop} {slots : List Nat} {vs : List SV} {os : List (SO C24)} {a : Act} {w : World} (h : St w0 S fz slots vs os a w) {t : Nat} {v : Value} (ht : find t (zipT slots vs) = some (.raw v)) : a.tmps[t]? = some v := by
  obtain ⟨_, _, ρ, _, hT, _⟩ := h
  obtain ⟨u, x, y⟩ := hT t _ ht
  cases x; exact y
/-- The filter after so many commands. -/
def runG (l : Bs) : Nat → Gw
  | 0 => gw0
  | k + 1 => stG (runG l k) (xG (runG l k) l (k : Int))
/-- Commands that are followed. -/
structure Good (F : Fr) (l : Bs) : Prop where
  len : l.length ≤ 1000
  pos : 0 < l.length
  real : ∀ k, k < l.length → eN l (k : Int) = false
  byt : ∀ k, k < l.length → byB (eB l (k : Int)) = true
  one : F.2.2.2.1.2.1 ≤ 32
  grp : F.2.2.2.2.1.2.1 ≤ 32
  tab : ∃ a b, xG gw0 l 0 = .tab a b
  sm : ∀ k, k < l.length → smX (pw (runG l k)).2.2.2.1 (pw (runG l k)).2.2.2.2.1 (pw (runG l k)).2.2.2.2.2 = true
  cmd : ∀ k, 0 < k → k < l.length → (∃ x y z, xG (runG l k) l (k : Int) = .keep x y z) ∨ ∃ x, xG (runG l k) l (k : Int) = .vl x
section
variable {w0 : World} {S fz : Nat → Prop} {F : Fr} {m : List (Int × Bool)} {l : Bs}
theorem loop2 (hg : Good F l) {a : Act} {w : World} (h : St w0 S fz sl5 (mV 0) (mO F (gw gw0) m l) a w) :
    (Code.block 2 (.loop cdM)).wp Try.prog (fun e a w => e = .normal ∧ St w0 S fz sl5 (mV (l.length : Int)) (mO F (gw (runG l l.length)) m l) a w) a w := by
  refine wp_block (wp_loop (fun a w => ∃ k, k ≤ l.length ∧ St w0 S fz sl5 (mV ((k : Nat) : Int)) (mO F (gw (runG l k)) m l) a w) (fun a w => mu8 l.length a.tmps[11]?) ⟨0, Nat.zero_le _, h⟩ ?_)
  rintro a w ⟨k, hk, h⟩
  by_cases hlt : k < l.length
  · have ht : (mR sl5 F (gw (runG l k)) m l (k : Int)).get = some (.normal, mV ((k + 1 : Nat) : Int), mO F (gw (runG l (k + 1))) m l) := by
      by_cases h0 : 0 < k
      · exact m_go hlt h0 hg.len (hg.real k hlt) (hg.byt k hlt) (hg.sm k hlt) (hg.cmd k h0 hlt)
      · obtain rfl : k = 0 := by omega
        obtain ⟨x, y, hx⟩ := hg.tab
        exact m_tab hlt (hg.real 0 hlt) (hg.byt 0 hlt) hg.one hg.grp hx
    refine wp_mono (st_step lpM ht h) fun e a' w' hq => ?_
    obtain ⟨rfl, h'⟩ := hq
    refine ⟨⟨k + 1, hlt, h'⟩, ?_⟩
    rw [h.tm (t := 11) rfl, h'.tm (t := 11) rfl]
    show l.length - ((k + 1 : Nat) : Int).toNat < l.length - ((k : Nat) : Int).toNat
    omega
  · obtain rfl : k = l.length := by omega
    refine wp_mono (st_step lpM m_stop h) fun e a' w' hq => ?_
    obtain ⟨rfl, h'⟩ := hq
    exact ⟨rfl, h'⟩
theorem loop2_err (hl : 0 < l.length) (hn : eN l 0 = false) (hb : byB (eB l 0) = true) (h1 : 32 < F.2.2.2.1.2.1 ∨ 32 < F.2.2.2.2.1.2.1) (hx : xG gw0 l 0 = .err) {a : Act} {w : World} (h : St w0 S fz sl5 (mV 0) (mO F (gw gw0) m l) a w) :
    (Code.block 2 (.loop cdM)).wp Try.prog (fun e a w => e = .ret ∧ St w0 S fz [4] [.raw (.bool true)] [] a w) a w := by
  refine wp_block (wp_loop (fun a w => St w0 S fz sl5 (mV 0) (mO F (gw gw0) m l) a w) (fun a w => 0) h ?_)
  intro a w h
  refine wp_mono (st_step lpM (m_err hl hn hb h1 hx) h) fun e a' w' hq => ?_
  obtain ⟨rfl, h'⟩ := hq
  exact ⟨rfl, h'⟩
theorem loop3 {G : Gw} (hs : srtV (pw G).2.2.2.2.2) (hl : (pw G).2.2.2.2.2.length ≤ 1000) (hm : ∀ n : Nat, n < 4096 → (hasK m (n : Int) = true ↔ (n : Int) ∈ (pw G).2.2.2.2.2)) {a : Act} {w : World} (h : St w0 S fz sl4 (naV 0 0) (naO F (gw G) m) a w) :
    (Code.block 4 (.loop cdN)).wp Try.prog (fun e a w => e = .normal ∧ St w0 S fz sl4 (naV ((pw G).2.2.2.2.2.length : Int) 4096) (naO F (gw G) m) a w) a w := by
  generalize hV : (pw G).2.2.2.2.2 = V at hs hl hm ⊢
  refine wp_block (wp_loop (fun a w => ∃ n k : Nat, n ≤ 4096 ∧ k ≤ V.length ∧ (∀ j (hj : j < V.length), j < k → V[j] < (n : Int)) ∧ (∀ j (hj : j < V.length), k ≤ j → (n : Int) ≤ V[j]) ∧ St w0 S fz sl4 (naV (k : Int) (n : Int)) (naO F (gw G) m) a w) (fun a w => mu8 4096 a.tmps[15]?)
    ⟨0, 0, Nat.zero_le _, Nat.zero_le _, fun j hj h => absurd h (Nat.not_lt_zero _), fun j hj _ => (hs.2 _ (List.getElem_mem hj)).1, h⟩ ?_)
  rintro a w ⟨n, k, hn, hk, hlo, hhi, h⟩
  by_cases hlt : n < 4096
  · cases hh : hasK m (n : Int) with
    | false =>
      have hno : (n : Int) ∉ V := fun hin => by have := (hm n hlt).2 hin; rw [hh] at this; cases this
      refine wp_mono (st_step lpN (n_no hlt hh) h) fun e a' w' hq => ?_
      obtain ⟨rfl, h'⟩ := hq
      refine ⟨⟨n + 1, k, hlt, hk, fun j hj hjk => ?_, fun j hj hjk => ?_, h'⟩, ?_⟩
      · have := hlo j hj hjk; omega
      · have h1 := hhi j hj hjk
        have h2 : V[j] ≠ (n : Int) := fun e => hno (e ▸ List.getElem_mem hj)
        omega
      · rw [h.tm (t := 15) rfl, h'.tm (t := 15) rfl]
        show 4096 - ((n + 1 : Nat) : Int).toNat < 4096 - ((n : Nat) : Int).toNat
        omega
    | true =>
      obtain ⟨j, hj, hje⟩ := List.getElem_of_mem ((hm n hlt).1 hh)
      have hkj : k = j := by
        rcases Nat.lt_trichotomy k j with h1 | h1 | h1
        · have h2 := hhi k (by omega) (Nat.le_refl _)
          have h3 := List.pairwise_iff_getElem.1 hs.1 k j (by omega) hj h1
          omega
        · exact h1
        · have := hlo j hj h1; omega
      subst hkj
      have he : V.getD k 0 = (n : Int) := by rw [getD_get hj, hje]
      refine wp_mono (st_step lpN (n_yes hlt hh (by rw [hV]; exact hj) (by rw [hV]; exact hl) (by rw [hV]; exact he)) h) fun e a' w' hq => ?_
      obtain ⟨rfl, h'⟩ := hq
      refine ⟨⟨n + 1, k + 1, hlt, hj, fun i hi hik => ?_, fun i hi hik => ?_, h'⟩, ?_⟩
      · rcases Nat.lt_or_ge i k with h1 | h1
        · have := hlo i hi h1; omega
        · obtain rfl : i = k := by omega
          omega
      · have := List.pairwise_iff_getElem.1 hs.1 k i hj hi (by omega)
        omega
      · rw [h.tm (t := 15) rfl, h'.tm (t := 15) rfl]
        show 4096 - ((n + 1 : Nat) : Int).toNat < 4096 - ((n : Nat) : Int).toNat
        omega
  · obtain rfl : n = 4096 := by omega
    have hkl : k = V.length := by
      rcases Nat.lt_or_ge k V.length with h1 | h1
      · have h2 := hhi k h1 (Nat.le_refl _)
        have h3 := (hs.2 _ (List.getElem_mem h1)).2
        omega
      · omega
    subst hkl
    refine wp_mono (st_step lpN n_stop h) fun e a' w' hq => ?_
    obtain ⟨rfl, h'⟩ := hq
    exact ⟨rfl, h'⟩
end
end
end Go.Proofs.Ytgepgnjjhgmfnaa
