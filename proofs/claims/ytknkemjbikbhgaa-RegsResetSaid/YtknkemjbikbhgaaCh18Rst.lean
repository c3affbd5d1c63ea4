/-
  Chapter 18: RegsReset, its loops. Own work; nothing here is trusted.
-/
import Derived.Test.YtknkemjbikbhgaaCh18RstP
import Derived.Test.YtknkemjbikbhgaaCh18Rd
namespace Go.Proofs.Ytknkemjbikbhgaa
open Go Go.Sx Go.RowKit
set_option maxRecDepth 1000000
set_option maxHeartbeats 8000000
set_option linter.unusedVariables false
set_option linter.unusedSimpArgs false
noncomputable section
theorem ra_round {l : List Wt} {mb : MB} {r : Rg} (h : RI r) (ha : AcQ l) {i : Nat} (hi : i < l.length) : (a8R mb (a8A l mb r i)).get = some (.normal, a8B l mb r (dnW (elW l (i : Int)) r) ((i : Int) + 1)) := by
  have hl := ha.few
  have k1 := decide_eq_true (show (i : Int) < (l.length : Int) by omega)
  have k2 : Sx.inB (i : Int) l.length = true := inB_mk ⟨by omega, by omega⟩
  have k3 := decide_eq_true (show ((i : Nat) : Int).toNat < l.length by omega)
  have k4 : inR64 ((i : Int) + 1) = true := inR64_mk (by omega)
  obtain ⟨hw, hm, hb⟩ := ha.at hi
  have k5 : (rng64 (elW l (i : Int)).1.2.2.1 && inR64 (elW l (i : Int)).1.2.2.2) = true := by rw [rng64_iff.2 hw, hm]; rfl
  obtain ⟨k6, k7⟩ := len8 h
  have k8 := h.v
  unfold dnW
  unfold bsW at hb ⊢
  cases hn : isNo (elW l (i : Int)).2.1 with
  | true =>
    have hp := ra_r l mb r i
    rw [k5] at hp
    exact Tr.follow_get hp (by simp only [k1, k2, k3, k4, k6, k7, k8, hn])
  | false =>
    rw [hn] at hb
    have k9 := decide_eq_true (show (elW l (i : Int)).2.2.length ≤ 1000 from hb)
    have hp := ra_h l mb r i
    rw [k5] at hp
    exact Tr.follow_get hp (by simp only [k1, k2, k3, k4, k6, k7, k8, k9, hn])
theorem rb_round {l : List Wt} {mb : MB} {r n : Rg} (h : RI n) (ha : AcQ l) {i : Nat} (hi : i < l.length) : (a8R mb (a8B l mb r n i)).get = some (.normal, a8B l mb r (dnW (elW l (i : Int)) n) ((i : Int) + 1)) := by
  have hl := ha.few
  have k1 := decide_eq_true (show (i : Int) < (l.length : Int) by omega)
  have k2 : Sx.inB (i : Int) l.length = true := inB_mk ⟨by omega, by omega⟩
  have k3 := decide_eq_true (show ((i : Nat) : Int).toNat < l.length by omega)
  have k4 : inR64 ((i : Int) + 1) = true := inR64_mk (by omega)
  obtain ⟨hw, hm, hb⟩ := ha.at hi
  have k5 : (rng64 (elW l (i : Int)).1.2.2.1 && inR64 (elW l (i : Int)).1.2.2.2) = true := by rw [rng64_iff.2 hw, hm]; rfl
  obtain ⟨k6, k7⟩ := len8 h
  have k8 := h.v
  unfold dnW
  unfold bsW at hb ⊢
  cases hn : isNo (elW l (i : Int)).2.1 with
  | true =>
    have hp := rb_r l mb r n i
    rw [k5] at hp
    exact Tr.follow_get hp (by simp only [k1, k2, k3, k4, k6, k7, k8, hn])
  | false =>
    rw [hn] at hb
    have k9 := decide_eq_true (show (elW l (i : Int)).2.2.length ≤ 1000 from hb)
    have hp := rb_h l mb r n i
    rw [k5] at hp
    exact Tr.follow_get hp (by simp only [k1, k2, k3, k4, k6, k7, k8, k9, hn])
theorem rc_round {m : List Wt} {r : Rg} (h : RI r) (ha : AcQ m) {i : Nat} (hi : i < m.length) : (b8R (b8A m r i)).get = some (.normal, b8B m r (dnW (elW m (i : Int)) r) ((i : Int) + 1)) := by
  have hl := ha.few
  have k1 := decide_eq_true (show (i : Int) < (m.length : Int) by omega)
  have k2 : Sx.inB (i : Int) m.length = true := inB_mk ⟨by omega, by omega⟩
  have k3 := decide_eq_true (show ((i : Nat) : Int).toNat < m.length by omega)
  have k4 : inR64 ((i : Int) + 1) = true := inR64_mk (by omega)
  obtain ⟨hw, hm, hb⟩ := ha.at hi
  have k5 : (rng64 (elW m (i : Int)).1.2.2.1 && inR64 (elW m (i : Int)).1.2.2.2) = true := by rw [rng64_iff.2 hw, hm]; rfl
  obtain ⟨k6, k7⟩ := len8 h
  have k8 := h.v
  unfold dnW
  unfold bsW at hb ⊢
  cases hn : isNo (elW m (i : Int)).2.1 with
  | true =>
    have hp := rc_r m r i
    rw [k5] at hp
    exact Tr.follow_get hp (by simp only [k1, k2, k3, k4, k6, k7, k8, hn])
  | false =>
    rw [hn] at hb
    have k9 := decide_eq_true (show (elW m (i : Int)).2.2.length ≤ 1000 from hb)
    have hp := rc_h m r i
    rw [k5] at hp
    exact Tr.follow_get hp (by simp only [k1, k2, k3, k4, k6, k7, k8, k9, hn])
theorem rd_round {m : List Wt} {r n : Rg} (h : RI n) (ha : AcQ m) {i : Nat} (hi : i < m.length) : (b8R (b8B m r n i)).get = some (.normal, b8B m r (dnW (elW m (i : Int)) n) ((i : Int) + 1)) := by
  have hl := ha.few
  have k1 := decide_eq_true (show (i : Int) < (m.length : Int) by omega)
  have k2 : Sx.inB (i : Int) m.length = true := inB_mk ⟨by omega, by omega⟩
  have k3 := decide_eq_true (show ((i : Nat) : Int).toNat < m.length by omega)
  have k4 : inR64 ((i : Int) + 1) = true := inR64_mk (by omega)
  obtain ⟨hw, hm, hb⟩ := ha.at hi
  have k5 : (rng64 (elW m (i : Int)).1.2.2.1 && inR64 (elW m (i : Int)).1.2.2.2) = true := by rw [rng64_iff.2 hw, hm]; rfl
  obtain ⟨k6, k7⟩ := len8 h
  have k8 := h.v
  unfold dnW
  unfold bsW at hb ⊢
  cases hn : isNo (elW m (i : Int)).2.1 with
  | true =>
    have hp := rd_r m r n i
    rw [k5] at hp
    exact Tr.follow_get hp (by simp only [k1, k2, k3, k4, k6, k7, k8, hn])
  | false =>
    rw [hn] at hb
    have k9 := decide_eq_true (show (elW m (i : Int)).2.2.length ≤ 1000 from hb)
    have hp := rd_h m r n i
    rw [k5] at hp
    exact Tr.follow_get hp (by simp only [k1, k2, k3, k4, k6, k7, k8, k9, hn])
@[reducible] def a8St (l : List Wt) (mb : MB) (r : Rg) : Nat → List SV × List (SO C18)
  | 0 => a8A l mb r 0
  | k + 1 => a8B l mb r (rD r (l.take (k + 1))) ((k + 1 : Nat) : Int)
theorem a8_round {l : List Wt} {mb : MB} {r : Rg} (h : RI r) (ha : AcQ l) {i : Nat} (hi : i < l.length) : (a8R mb (a8St l mb r i)).get = some (.normal, a8St l mb r (i + 1)) := by
  have e := rD_step (r := r) hi
  cases i with
  | zero =>
    refine (ra_round h ha hi).trans ?_
    show _ = some (Ex.normal, a8B l mb r (rD r (l.take (0 + 1))) ((0 + 1 : Nat) : Int))
    rw [e]; rfl
  | succ j =>
    refine (rb_round (r := r) (n := rD r (l.take (j + 1))) (rD_I h (fun a hm => ha.wd a (List.mem_of_mem_take hm))).1 ha hi).trans ?_
    show _ = some (Ex.normal, a8B l mb r (rD r (l.take (j + 1 + 1))) ((j + 1 + 1 : Nat) : Int))
    rw [e]; rfl
theorem a8_end {l : List Wt} {mb : MB} {r : Rg} : (a8R mb (a8St l mb r l.length)).get = some (.exit 0, a8St l mb r l.length) := by
  have k1 : decide ((l.length : Int) < (l.length : Int)) = false := decide_eq_false (Int.lt_irrefl _)
  cases hn : l.length with
  | zero =>
    rw [hn] at k1
    exact Tr.follow_get (ra_end l mb r 0) (by rw [hn]; rfl)
  | succ j =>
    rw [hn] at k1
    exact Tr.follow_get (rb_end l mb r _ ((j + 1 : Nat) : Int)) (by rw [hn, k1])
theorem a8_loop : loopOf Try.prog 15 0 = some (((loopOf Try.prog 15 0).get!).1, (loopOf Try.prog 15 0).get!.2) := by kernel_rfl
def a8Leaf (l : List Wt) (mb : MB) (r : Rg) : Tr (Ex × List SV × List (SO C18)) := .br (decide (l.length = 0)) (.leaf (.exit 0, a8A l mb r 0)) (.leaf (.exit 0, a8B l mb r (opq (rD r l)) (l.length : Int)))
theorem a8Leaf_get (l : List Wt) (mb : MB) (r : Rg) : (a8Leaf l mb r).get = some (.exit 0, a8St l mb r l.length) := by
  unfold a8Leaf
  rw [opq_eq]
  cases hn : l.length with
  | zero => rfl
  | succ j =>
    have e : (l.take (j + 1)) = l := List.take_of_length_le (by omega)
    show some (Ex.exit 0, a8B l mb r (rD r l) ((j + 1 : Nat) : Int)) = some (Ex.exit 0, a8B l mb r (rD r (l.take (j + 1))) ((j + 1 : Nat) : Int))
    rw [e]
theorem a8_run {l : List Wt} {mb : MB} {r : Rg} (h : RI r) (ha : AcQ l) :
    Keeps (a8N mb) (a8St l mb r 0).2 (a8St l mb r l.length).2 ∧ LoopRun Try.prog ((loopOf Try.prog 15 0).get!).1 (loopOf Try.prog 15 0).get!.2 (a8N mb) (LI.st aSl8 ⟨(a8St l mb r 0).1, a8N mb, (a8St l mb r 0).2⟩) fun x T => ∃ vs os, (x = .exit 0 ∧ (vs, os) = a8St l mb r l.length) ∧ T = ⟨zipT aSl8 vs, numH 0 os, os.length⟩ := by
  constructor
  · cases mb <;> cases l.length <;> exact Keeps.of3 (by simp [a8N]) rfl
  · refine loop_li (σ := Nat) (st := a8St l mb r) (Inv := fun i => i ≤ l.length) (μ := fun i => l.length - i) (d := 10) (unr := fun _ _ => 20) (sp := sfR8) (ls := noLs) plain mixed sfR8_ok noLs_ok a8_loop (fun i hi => ?_) 0 (Nat.zero_le _)
    by_cases h5 : i < l.length
    · exact ⟨_, a8_round h ha h5, fun _ => ⟨i + 1, by omega, by omega, rfl⟩, nofun⟩
    · obtain rfl : i = l.length := by omega
      exact ⟨_, a8_end, nofun, fun _ => ⟨rfl, rfl⟩⟩
@[reducible] def b8St (m : List Wt) (r : Rg) : Nat → List SV × List (SO C18)
  | 0 => b8A m r 0
  | k + 1 => b8B m r (rD r (m.take (k + 1))) ((k + 1 : Nat) : Int)
theorem b8_round {m : List Wt} {r : Rg} (h : RI r) (ha : AcQ m) {i : Nat} (hi : i < m.length) : (b8R (b8St m r i)).get = some (.normal, b8St m r (i + 1)) := by
  have e := rD_step (r := r) hi
  cases i with
  | zero =>
    refine (rc_round h ha hi).trans ?_
    show _ = some (Ex.normal, b8B m r (rD r (m.take (0 + 1))) ((0 + 1 : Nat) : Int))
    rw [e]; rfl
  | succ j =>
    refine (rd_round (r := r) (n := rD r (m.take (j + 1))) (rD_I h (fun a hm => ha.wd a (List.mem_of_mem_take hm))).1 ha hi).trans ?_
    show _ = some (Ex.normal, b8B m r (rD r (m.take (j + 1 + 1))) ((j + 1 + 1 : Nat) : Int))
    rw [e]; rfl
theorem b8_end {m : List Wt} {r : Rg} : (b8R (b8St m r m.length)).get = some (.exit 2, b8St m r m.length) := by
  have k1 : decide ((m.length : Int) < (m.length : Int)) = false := decide_eq_false (Int.lt_irrefl _)
  cases hn : m.length with
  | zero =>
    rw [hn] at k1
    exact Tr.follow_get (rc_end m r 0) (by rw [hn]; rfl)
  | succ j =>
    rw [hn] at k1
    exact Tr.follow_get (rd_end m r _ ((j + 1 : Nat) : Int)) (by rw [hn, k1])
theorem b8_loop : loopOf Try.prog 15 2 = some (((loopOf Try.prog 15 2).get!).1, (loopOf Try.prog 15 2).get!.2) := by kernel_rfl
def b8Leaf (m : List Wt) (r : Rg) : Tr (Ex × List SV × List (SO C18)) := .br (decide (m.length = 0)) (.leaf (.exit 2, b8A m r 0)) (.leaf (.exit 2, b8B m r (opq (rD r m)) (m.length : Int)))
theorem b8Leaf_get (m : List Wt) (r : Rg) : (b8Leaf m r).get = some (.exit 2, b8St m r m.length) := by
  unfold b8Leaf
  rw [opq_eq]
  cases hn : m.length with
  | zero => rfl
  | succ j =>
    have e : (m.take (j + 1)) = m := List.take_of_length_le (by omega)
    show some (Ex.exit 2, b8B m r (rD r m) ((j + 1 : Nat) : Int)) = some (Ex.exit 2, b8B m r (rD r (m.take (j + 1))) ((j + 1 : Nat) : Int))
    rw [e]
theorem b8_run {m : List Wt} {r : Rg} (h : RI r) (ha : AcQ m) :
    Keeps (7) (b8St m r 0).2 (b8St m r m.length).2 ∧ LoopRun Try.prog ((loopOf Try.prog 15 2).get!).1 (loopOf Try.prog 15 2).get!.2 (7) (LI.st b8Sl ⟨(b8St m r 0).1, 7, (b8St m r 0).2⟩) fun x T => ∃ vs os, (x = .exit 2 ∧ (vs, os) = b8St m r m.length) ∧ T = ⟨zipT b8Sl vs, numH 0 os, os.length⟩ := by
  constructor
  · cases m.length <;> exact Keeps.of3 (by simp [a8N]) rfl
  · refine loop_li (σ := Nat) (st := b8St m  r) (Inv := fun i => i ≤ m.length) (μ := fun i => m.length - i) (d := 10) (unr := fun _ _ => 20) (sp := sfR8) (ls := noLs) plain mixed sfR8_ok noLs_ok b8_loop (fun i hi => ?_) 0 (Nat.zero_le _)
    by_cases h5 : i < m.length
    · exact ⟨_, b8_round h ha h5, fun _ => ⟨i + 1, by omega, by omega, rfl⟩, nofun⟩
    · obtain rfl : i = m.length := by omega
      exact ⟨_, b8_end, nofun, fun _ => ⟨rfl, rfl⟩⟩
def a8Loop : LoopFn C18 := fun li => match li with
  | ⟨[.h 0, .h 1, .h 2, .h 3, .raw (.int .i64 (.ofNat 0))], 6, [.ss 71 4 5 l, .ss 71 4 5 m, .box [.raw (.int .i64 k), .raw (.int .u64 o), .raw (.int .u64 g), .raw (.int .u8 s), .raw (.int .i64 se), .raw (.int .i64 at'), .h 4, .h 5, .raw (.int .u8 ge), .raw (.int .u8 it)] 64, .box [.raw (.int .i64 k2), .raw (.int .u64 o2), .raw (.int .u64 g2), .raw (.int .u8 s2), .raw (.int .i64 se2), .raw (.int .i64 at2), .h 4, .h 5, .raw (.int .u8 ge2), .raw (.int .u8 it2)] 64, .sl true false 77 qs, .sl true false 5 cf]⟩ =>
    .br (cdec (RI ⟨k, o, g, s, se, at', ge, it, qs, cf⟩ ∧ AcQ l ∧ (⟨k2, o2, g2, s2, se2, at2, ge2, it2, qs, cf⟩ : Rg) = ⟨k, o, g, s, se, at', ge, it, qs, cf⟩)) (a8Leaf l (some m) ⟨k, o, g, s, se, at', ge, it, qs, cf⟩) .fail
  | ⟨[.h 0, .raw (.slice none 0 0), .h 1, .h 2, .raw (.int .i64 (.ofNat 0))], 5, [.ss 71 4 5 l, .box [.raw (.int .i64 k), .raw (.int .u64 o), .raw (.int .u64 g), .raw (.int .u8 s), .raw (.int .i64 se), .raw (.int .i64 at'), .h 3, .h 4, .raw (.int .u8 ge), .raw (.int .u8 it)] 64, .box [.raw (.int .i64 k2), .raw (.int .u64 o2), .raw (.int .u64 g2), .raw (.int .u8 s2), .raw (.int .i64 se2), .raw (.int .i64 at2), .h 3, .h 4, .raw (.int .u8 ge2), .raw (.int .u8 it2)] 64, .sl true false 77 qs, .sl true false 5 cf]⟩ =>
    .br (cdec (RI ⟨k, o, g, s, se, at', ge, it, qs, cf⟩ ∧ AcQ l ∧ (⟨k2, o2, g2, s2, se2, at2, ge2, it2, qs, cf⟩ : Rg) = ⟨k, o, g, s, se, at', ge, it, qs, cf⟩)) (a8Leaf l none ⟨k, o, g, s, se, at', ge, it, qs, cf⟩) .fail
  | _ => .fail
theorem a8Loop_ok : ∀ tm hp n x, (loopS aSl8 [] a8Loop tm hp n).get = some x → InLoop Try.prog ((loopOf Try.prog 15 0).get!).1 (loopOf Try.prog 15 0).get!.2 tm hp n fun e tm hp n => (e, tm, hp, n) = x := loopS_of fun li r h => by
  unfold a8Loop at h
  split at h
  · rename_i l m k o g s se at' ge it k2 o2 g2 s2 se2 at2 ge2 it2 qs cf
    obtain ⟨h1, g1⟩ := Tr.get_ask.1 h
    obtain ⟨h2, h3, h4⟩ := cdec_iff.1 h1
    have hr := Option.some.inj (g1.symm.trans (a8Leaf_get _ _ _))
    subst hr
    obtain ⟨rfl, rfl, rfl, rfl, rfl, rfl, rfl, rfl, _, _⟩ := Rg.mk.inj h4
    exact a8_run (mb := some m) h2 h3
  · rename_i l k o g s se at' ge it k2 o2 g2 s2 se2 at2 ge2 it2 qs cf
    obtain ⟨h1, g1⟩ := Tr.get_ask.1 h
    obtain ⟨h2, h3, h4⟩ := cdec_iff.1 h1
    have hr := Option.some.inj (g1.symm.trans (a8Leaf_get _ _ _))
    subst hr
    obtain ⟨rfl, rfl, rfl, rfl, rfl, rfl, rfl, rfl, _, _⟩ := Rg.mk.inj h4
    exact a8_run (mb := none) h2 h3
  · cases h
def b8Loop : LoopFn C18 := fun li => match li with
  | ⟨[.h 0, .h 1, .h 2, .raw (.int .i64 (.ofNat 0))], 7, [.ss 71 4 5 m, .box [.raw (.int .i64 k), .raw (.int .u64 o), .raw (.int .u64 g), .raw (.int .u8 s), .raw (.int .i64 se), .raw (.int .i64 at'), .h 3, .h 4, .raw (.int .u8 ge), .raw (.int .u8 it)] 64, .box [.raw (.int .i64 k2), .raw (.int .u64 o2), .raw (.int .u64 g2), .raw (.int .u8 s2), .raw (.int .i64 se2), .raw (.int .i64 at2), .h 5, .h 6, .raw (.int .u8 ge2), .raw (.int .u8 it2)] 64, .sl true false 77 qs, .sl true false 5 cf, .sl true false 77 qs2, .sl true false 5 cf2]⟩ =>
    .br (cdec (RI ⟨k, o, g, s, se, at', ge, it, qs, cf⟩ ∧ AcQ m ∧ (⟨k2, o2, g2, s2, se2, at2, ge2, it2, qs2, cf2⟩ : Rg) = ⟨k, o, g, s, se, at', ge, it, qs, cf⟩)) (b8Leaf m ⟨k, o, g, s, se, at', ge, it, qs, cf⟩) .fail
  | _ => .fail
theorem b8Loop_ok : ∀ tm hp n x, (loopS b8Sl [] b8Loop tm hp n).get = some x → InLoop Try.prog ((loopOf Try.prog 15 2).get!).1 (loopOf Try.prog 15 2).get!.2 tm hp n fun e tm hp n => (e, tm, hp, n) = x := loopS_of fun li r h => by
  unfold b8Loop at h
  split at h
  · rename_i m k o g s se at' ge it k2 o2 g2 s2 se2 at2 ge2 it2 qs cf qs2 cf2
    obtain ⟨h1, g1⟩ := Tr.get_ask.1 h
    obtain ⟨h2, h3, h4⟩ := cdec_iff.1 h1
    have hr := Option.some.inj (g1.symm.trans (b8Leaf_get _ _))
    subst hr
    obtain ⟨rfl, rfl, rfl, rfl, rfl, rfl, rfl, rfl, e1, e2⟩ := Rg.mk.inj h4
    have e1 : (qs2 : List Qe) = qs := e1
    have e2 : (cf2 : List Int) = cf := e2
    subst e1 e2
    exact b8_run h2 h3
  · cases h
end
end Go.Proofs.Ytknkemjbikbhgaa
