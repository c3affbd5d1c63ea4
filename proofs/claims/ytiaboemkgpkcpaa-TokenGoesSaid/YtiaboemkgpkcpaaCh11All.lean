/-
  Chapter 11: All and Count. Own work; nothing here is trusted.
-/
import Derived.Test.YtiaboemkgpkcpaaCh11All0
namespace Go.Proofs.Ytiaboemkgpkcpaa
open Go Go.Sx Go.RowKit
set_option maxRecDepth 1000000
set_option maxHeartbeats 8000000
set_option linter.unusedVariables false
set_option linter.unusedSimpArgs false
noncomputable section
def opq11 {α : Type} (a : α) : α := Classical.choose (⟨a, rfl⟩ : ∃ x, x = a)
theorem opq11_eq {α : Type} (a : α) : opq11 a = a := Classical.choose_spec (⟨a, rfl⟩ : ∃ x, x = a)
abbrev aX := Option (Ex × List SV × List (SO C11))
@[reducible] def aNxA (v : Lo Tk) (s n K : Int) : aX := bro (inR64 (K + 1)) (some (.normal, aA v s n (K + 1))) (some (.normal, aA v s n (IntKind.i64.wrap (K + 1))))
@[reducible] def aNxB (v : Lo Tk) (us : List Int) (s n K : Int) : aX := bro (inR64 (K + 1)) (some (.normal, aB v us s n (K + 1))) (some (.normal, aB v us s n (IntKind.i64.wrap (K + 1))))
noncomputable abbrev rmA (k : Nat) : Bool := roomB k Try.prog.types[(3 : Nat)].bytes
theorem aA_tree (a b : Bool) (ts : List Tk) (s n K : Int) : (aR (some (a, b, ts)) (aA (some (a, b, ts)) s n K)).get =
  bro (decide (K < n)) (bro (inB K ts.length) (bro (decide (K.toNat < ts.length)) (bro ((elT ts K).2.1 == s) (aNxB (some (a, b, ts)) [(elT ts K).1] s n K) (aNxA (some (a, b, ts)) s n K)) none) none) (some (.exit 0, aA (some (a, b, ts)) s n K)) := by kernel_rfl
theorem aB_tree (a b : Bool) (ts : List Tk) (us : List Int) (s n K : Int) : (aR (some (a, b, ts)) (aB (some (a, b, ts)) us s n K)).get =
  bro (decide (K < n)) (bro (inB K ts.length) (bro (decide (K.toNat < ts.length)) (bro ((elT ts K).2.1 == s) (bro (rmA (us.length + [(elT ts K).1].length)) (aNxB (some (a, b, ts)) (us ++ [(elT ts K).1]) s n K) none) (aNxB (some (a, b, ts)) us s n K)) none) none) (some (.exit 0, aB (some (a, b, ts)) us s n K)) := by kernel_rfl
theorem aN_tree (s n K : Int) : (aR none (aA none s n K)).get = bro (decide (K < n)) none (some (.exit 0, aA none s n K)) := by kernel_rfl
theorem byA3 : Try.prog.types[(3 : Nat)].bytes ≤ 64 := of_decide_eq_true (by kernel_rfl)
theorem rmA_ok {n : Nat} (h : n ≤ 200000) : rmA n = true := decide_eq_true (Nat.le_trans (Nat.mul_le_mul h byA3) (by decide))
/-- Those in a state, among the first. -/
def alS (ts : List Tk) (s : Int) (k : Nat) : List Int := ((ts.take k).filter fun x => x.2.1 == s).map (·.1)
@[reducible] def aSt (v : Lo Tk) (us : List Int) (s n K : Int) : List SV × List (SO C11) := match us with
  | [] => aA v s n K
  | x :: us => aB v (x :: us) s n K
theorem alS_step {ts : List Tk} {s : Int} {k : Nat} (hk : k < ts.length) : alS ts s (k + 1) = bif ((elT ts (k : Int)).2.1 == s) then alS ts s k ++ [(elT ts (k : Int)).1] else alS ts s k := by
  unfold alS
  rw [List.take_add_one, List.getElem?_eq_getElem hk, elT_get hk, Option.toList_some, List.filter_append, List.map_append, List.filter_cons]
  cases (ts[k].2.1 == s) with
  | true => rfl
  | false => exact List.append_nil _
theorem alS_len (ts : List Tk) (s : Int) (k : Nat) : (alS ts s k).length ≤ ts.length := by
  unfold alS
  rw [List.length_map]
  refine Nat.le_trans (List.length_filter_le _ _) ?_
  rw [List.length_take]; omega
theorem a_round {a b : Bool} {ts : List Tk} {s : Int} {us : List Int} {k : Nat} (hk : k < ts.length) (hl : ts.length ≤ 100000) (hu : us.length ≤ 100000) :
    (aR (some (a, b, ts)) (aSt (some (a, b, ts)) us s (ts.length : Int) (k : Int))).get = some (.normal, aSt (some (a, b, ts)) (bif ((elT ts (k : Int)).2.1 == s) then us ++ [(elT ts (k : Int)).1] else us) s (ts.length : Int) ((k + 1 : Nat) : Int)) := by
  have k1 := decide_eq_true (show (k : Int) < (ts.length : Int) by omega)
  have k2 : Sx.inB (k : Int) ts.length = true := inB_mk ⟨by omega, by omega⟩
  have k3 := decide_eq_true (show ((k : Nat) : Int).toNat < ts.length by omega)
  have k4 : inR64 ((k : Int) + 1) = true := inR64_mk (by omega)
  cases us with
  | nil =>
    refine (aA_tree a b ts s (ts.length : Int) (k : Int)).trans ?_
    unfold aNxA aNxB
    rw [k1, k2, k3, k4]
    cases ((elT ts (k : Int)).2.1 == s) <;> rfl
  | cons x us =>
    have k5 : rmA ((x :: us).length + [(elT ts (k : Int)).1].length) = true := rmA_ok (by show (x :: us).length + 1 ≤ _; omega)
    refine (aB_tree a b ts (x :: us) s (ts.length : Int) (k : Int)).trans ?_
    unfold aNxB
    rw [k1, k2, k3, k4, k5]
    cases ((elT ts (k : Int)).2.1 == s) <;> rfl
theorem a_end {a b : Bool} {ts : List Tk} {s : Int} {us : List Int} : (aR (some (a, b, ts)) (aSt (some (a, b, ts)) us s (ts.length : Int) (ts.length : Int))).get = some (.exit 0, aSt (some (a, b, ts)) us s (ts.length : Int) (ts.length : Int)) := by
  have k1 : decide ((ts.length : Int) < (ts.length : Int)) = false := decide_eq_false (Int.lt_irrefl _)
  cases us with
  | nil => exact (aA_tree a b ts s _ _).trans (by rw [k1]; rfl)
  | cons x us => exact (aB_tree a b ts (x :: us) s _ _).trans (by rw [k1]; rfl)
theorem a_loop : loopOf Try.prog 15 0 = some (((loopOf Try.prog 15 0).get!).1, (loopOf Try.prog 15 0).get!.2) := by kernel_rfl
theorem aSt_keep (v : Lo Tk) (us : List Int) (s n K : Int) : Keeps (nx v 0) (aA v s n 0).2 (aSt v us s n K).2 := by
  cases us <;> cases v <;> exact Keeps.of3 (Nat.le_of_ble_eq_true rfl) rfl
theorem a_run {v : Lo Tk} {s : Int} (hl : (lo v).length ≤ 100000) :
    Keeps (nx v 0) (aA v s ((lo v).length : Int) 0).2 (aSt v (alS (lo v) s (lo v).length) s ((lo v).length : Int) ((lo v).length : Int)).2 ∧ LoopRun Try.prog ((loopOf Try.prog 15 0).get!).1 (loopOf Try.prog 15 0).get!.2 (nx v 0) (LI.st aSl ⟨(aA v s ((lo v).length : Int) 0).1, nx v 0, (aA v s ((lo v).length : Int) 0).2⟩) fun x T => ∃ vs os, (x = .exit 0 ∧ (vs, os) = aSt v (alS (lo v) s (lo v).length) s ((lo v).length : Int) ((lo v).length : Int)) ∧ T = ⟨zipT aSl vs, numH 0 os, os.length⟩ := by
  refine ⟨aSt_keep _ _ _ _ _, ?_⟩
  refine loop_li (σ := Nat) (st := fun k => aSt v (alS (lo v) s k) s ((lo v).length : Int) (k : Int)) (Inv := fun k => k ≤ (lo v).length) (μ := fun k => (lo v).length - k) (d := 10) (unr := fun _ _ => 20) (sp := noSp) (ls := noLs) plain mixed noSp_ok noLs_ok a_loop (fun k hk => ?_) 0 (Nat.zero_le _)
  cases v with
  | none =>
    obtain rfl : k = 0 := Nat.le_zero.1 hk
    have e2 : (aR none (aA none s 0 0)).get = some (.exit 0, aA none s 0 0) := (aN_tree s 0 0).trans rfl
    exact ⟨_, e2, nofun, fun _ => ⟨rfl, rfl⟩⟩
  | some y =>
    obtain ⟨a, b, ts⟩ := y
    have hl : ts.length ≤ 100000 := hl
    by_cases h5 : k < ts.length
    · refine ⟨_, a_round h5 hl (Nat.le_trans (alS_len ts s k) hl), fun _ => ⟨k + 1, h5, by show ts.length - (k + 1) < ts.length - k; omega, ?_⟩, nofun⟩
      show aSt _ (bif _ then _ else _) _ _ _ = aSt _ (alS ts s (k + 1)) _ _ _
      rw [alS_step h5]
    · have hk : k ≤ ts.length := hk
      obtain rfl : k = ts.length := by omega
      exact ⟨_, a_end, nofun, fun _ => ⟨rfl, rfl⟩⟩
noncomputable def aLeaf (v : Lo Tk) (L : List Int) (s n : Int) : Tr (Ex × List SV × List (SO C11)) := .br (decide ((opq11 L).length = 0)) (.leaf (.exit 0, aA v s n n)) (.leaf (.exit 0, aB v (opq11 L) s n n))
theorem aLeaf_get (v : Lo Tk) (L : List Int) (s n : Int) : (aLeaf v L s n).get = some (.exit 0, aSt v L s n n) := by
  unfold aLeaf
  rw [opq11_eq]
  cases L <;> rfl
noncomputable def aLoop : LoopFn C11 := fun li => match li with
  | ⟨[.raw (.int .i64 s), sv, .raw (.int .i64 n), .raw (.int .i64 (.ofNat 0)), .raw (.slice none 0 0)], nb, os⟩ => match decT sv 0 os with
    | some (v, []) => match Nat.beq nb (nx v 0) with
      | true => withL v fun ts => .br (decide (n = (ts.length : Int) ∧ ts.length ≤ 100000)) (aLeaf v (alS ts s ts.length) s n) .fail
      | false => .fail
    | _ => .fail
  | _ => .fail
theorem aLoop_ok : ∀ tm hp n x, (loopS aSl [] aLoop tm hp n).get = some x → InLoop Try.prog ((loopOf Try.prog 15 0).get!).1 (loopOf Try.prog 15 0).get!.2 tm hp n fun e tm hp n => (e, tm, hp, n) = x := loopS_of fun li r h => by
  unfold aLoop at h
  split at h
  · rename_i s sv n nb os
    split at h
    · rename_i v hd
      obtain ⟨rfl, rfl⟩ := decT_eq hd
      split at h
      · rename_i hb
        obtain rfl := Nat.eq_of_beq_eq_true hb
        rw [withL_eq] at h
        obtain ⟨h1, h2⟩ := Tr.get_ask.1 h
        obtain ⟨rfl, h3⟩ := of_decide_eq_true h1
        have hr := Option.some.inj (h2.symm.trans (aLeaf_get _ _ _ _))
        subst hr
        rw [List.append_nil]
        exact a_run (v := v) (s := s) h3
      · cases h
    · cases h
  · cases h
def lsAl : LoopT C11 := Sx.addL 15 0 (loopS aSl [] aLoop) noLs
theorem lsAl_ok : LoopTOk Try.prog lsAl := addL_ok a_loop aLoop_ok noLs_ok
abbrev unAl (g b : Nat) : Nat := match g, b with
  | 15, 0 => 0 | _, _ => 20
def sfAl : SpecT C11 := addS 9 (seeS chkT) noSp
theorem sfAl_ok : SpecTOk Try.prog sfAl := addS_ok (seeS_ok chkT_ok) noSp_ok
abbrev fC (v : Lo Tk) (s : Int) := fnC C11 Try.prog sfAl lsAl unAl 10 10 [.agg [hS v 0], .raw (.int .i64 s)] (obT v)
end
end Go.Proofs.Ytiaboemkgpkcpaa
