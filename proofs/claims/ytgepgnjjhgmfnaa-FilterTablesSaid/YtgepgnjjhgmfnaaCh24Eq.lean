/-
  Chapter 24: loops that compare two lists; lists and filters that are the same. Own work; nothing here is trusted.
-/
import Derived.Test.YtgepgnjjhgmfnaaCh24Eq0
namespace Go.Proofs.Ytgepgnjjhgmfnaa
open Go Go.Sx Go.RowKit
set_option maxRecDepth 1000000
set_option maxHeartbeats 8000000
set_option linter.unusedVariables false
set_option linter.unusedSimpArgs false
noncomputable section
def neI (ts us : List Int) (k : Nat) : Bool := elI ts (k : Int) != elI us (k : Int)
def neA (ts us : List Mac) (k : Nat) : Bool := !eqM (elA ts (k : Int)) (elA us (k : Int))
theorem qA_ne (a b c d : Bool) (ts us : List Int) (K : Int) : Tr.follow [true, true, true, true, true, true] (rA (some (a, b, ts)) (some (c, d, us)) K) = some ([decide (K < (ts.length : Int)), inB K ts.length, decide (K.toNat < ts.length), inB K us.length, decide (K.toNat < us.length), elI ts K != elI us K], (.ret, qA (some (a, b, ts)) (some (c, d, us)) K)) := by kernel_rfl
theorem qA_eq (a b c d : Bool) (ts us : List Int) (K : Int) : Tr.follow [true, true, true, true, true, false, true] (rA (some (a, b, ts)) (some (c, d, us)) K) = some ([decide (K < (ts.length : Int)), inB K ts.length, decide (K.toNat < ts.length), inB K us.length, decide (K.toNat < us.length), elI ts K != elI us K, inR64 (K + 1)], (.normal, qA (some (a, b, ts)) (some (c, d, us)) (K + 1))) := by kernel_rfl
theorem qA_end (v w : Lo Int) (K : Int) : Tr.follow [false] (rA v w K) = some ([decide (K < ((lo v).length : Int))], (.exit 0, qA v w K)) := by cases v <;> cases w <;> kernel_rfl
theorem rA_round {v w : Lo Int} {k : Nat} (hk : k < (lo v).length) (hu : (lo w).length = (lo v).length) (hl : (lo v).length ≤ 100000) :
    (rA v w (k : Int)).get = bro (neI (lo v) (lo w) k) (some (.ret, qA v w (k : Int))) (some (.normal, qA v w ((k + 1 : Nat) : Int))) := by
  cases v with
  | none => exact absurd hk (Nat.not_lt_zero _)
  | some x =>
  cases w with
  | none => exact absurd (show k < 0 by have : (0 : Nat) = _ := hu; rw [this]; exact hk) (Nat.not_lt_zero _)
  | some y =>
  obtain ⟨a, b, ts⟩ := x
  obtain ⟨c, d, us⟩ := y
  change k < ts.length at hk
  change us.length = ts.length at hu
  change ts.length ≤ 100000 at hl
  have k1 := decide_eq_true (show (k : Int) < (ts.length : Int) by omega)
  have k2 : Sx.inB (k : Int) ts.length = true := inB_mk ⟨by omega, by omega⟩
  have k3 := decide_eq_true (show ((k : Nat) : Int).toNat < ts.length by omega)
  have k4 : inR64 ((k : Int) + 1) = true := inR64_mk (by omega)
  have k5 : Sx.inB (k : Int) us.length = true := inB_mk ⟨by omega, by omega⟩
  have k6 := decide_eq_true (show ((k : Nat) : Int).toNat < us.length by omega)
  show (rA (some (a, b, ts)) (some (c, d, us)) (k : Int)).get = bro (neI ts us k) _ _
  unfold neI
  have h1 := qA_ne a b c d ts us (k : Int)
  have h2 := qA_eq a b c d ts us (k : Int)
  generalize (elI ts (k : Int) != elI us (k : Int)) = z at h1 h2 ⊢
  cases z with
  | true => exact Tr.follow_get h1 (by simp only [k1, k2, k3, k5, k6])
  | false => exact Tr.follow_get h2 (by simp only [k1, k2, k3, k4, k5, k6])
def loopA : LoopFn C24 := fun li => match li with
  | ⟨[s, t, .raw (.int .i64 (.ofNat 0)), .raw (.bool false)], nb, os⟩ => match decI s 0 os with
    | some (v, os1) => match decI t (nx v 0) os1 with
      | some (w, []) => match Nat.beq nb (nx w (nx v 0)) with
        | true => .br (decide ((lo v).length ≤ 100000 ∧ (lo w).length = (lo v).length)) (.br (noneP (neI (lo v) (lo w)) (lo v).length) (.leaf (.exit 0, qA v w ((lo v).length : Int))) (.leaf (.ret, qA v w (fstP (neI (lo v) (lo w)) (lo v).length : Int)))) .fail
        | false => .fail
      | _ => .fail
    | none => .fail
  | _ => .fail
theorem lpA : loopOf Try.prog 23 0 = some (((loopOf Try.prog 23 0).get!).1, (loopOf Try.prog 23 0).get!.2) := by kernel_rfl
theorem loopA_ok : ∀ tm hp n x, (loopS [0, 1, 5, 4] [] loopA tm hp n).get = some x → InLoop Try.prog ((loopOf Try.prog 23 0).get!).1 (loopOf Try.prog 23 0).get!.2 tm hp n fun e tm hp n => (e, tm, hp, n) = x := loopS_of fun li r h => by
  unfold loopA at h
  split at h
  · rename_i s t nb os
    split at h
    · rename_i v os1 h1
      split at h
      · rename_i w h2
        split at h
        · rename_i hnb
          obtain ⟨rfl, rfl⟩ := decI_eq h1
          obtain ⟨rfl, rfl⟩ := decI_eq h2
          have hnb := Nat.eq_of_beq_eq_true hnb
          subst hnb
          clear h1 h2
          obtain ⟨hl, hC⟩ := Tr.get_ask.1 h
          clear h
          have hl : (lo v).length ≤ 100000 ∧ (lo w).length = (lo v).length := of_decide_eq_true hl
          have hr : r.2.2 = (qA v w 0).2 := by
            rcases Tr.get_br.1 hC with ⟨_, hD⟩ | ⟨_, hD⟩ <;> (simp only [Tr.get, Option.some.injEq] at hD; subst hD; rfl)
          rw [List.append_nil]
          refine ⟨by rw [hr]; exact keeps_same (by cases v <;> cases w <;> rfl), ?_⟩
          refine scan_li (n := (lo v).length) (stN := fun k => qA v w (k : Int)) (stR := fun k => qA v w (k : Int)) (p := neI (lo v) (lo w)) (d := 10) (unr := fun _ _ => 20) (sp := noSp) (ls := noLs) (b := 0) plain mixed noSp_ok noLs_ok lpA (fun k hk => rA_round hk hl.2 hl.1) ?_ hC
          exact Tr.follow_get (qA_end v w _) (by rw [decide_eq_false (Int.lt_irrefl _)])
        · cases h
      · cases h
    · cases h
  · cases h
theorem qB_ne (a b c d : Bool) (ts us : List Int) (K : Int) : Tr.follow [true, true, true, true, true, true] (rB (some (a, b, ts)) (some (c, d, us)) K) = some ([decide (K < (ts.length : Int)), inB K ts.length, decide (K.toNat < ts.length), inB K us.length, decide (K.toNat < us.length), elI ts K != elI us K], (.ret, qB (some (a, b, ts)) (some (c, d, us)) K)) := by kernel_rfl
theorem qB_eq (a b c d : Bool) (ts us : List Int) (K : Int) : Tr.follow [true, true, true, true, true, false, true] (rB (some (a, b, ts)) (some (c, d, us)) K) = some ([decide (K < (ts.length : Int)), inB K ts.length, decide (K.toNat < ts.length), inB K us.length, decide (K.toNat < us.length), elI ts K != elI us K, inR64 (K + 1)], (.normal, qB (some (a, b, ts)) (some (c, d, us)) (K + 1))) := by kernel_rfl
theorem qB_end (v w : Lo Int) (K : Int) : Tr.follow [false] (rB v w K) = some ([decide (K < ((lo v).length : Int))], (.exit 0, qB v w K)) := by cases v <;> cases w <;> kernel_rfl
theorem rB_round {v w : Lo Int} {k : Nat} (hk : k < (lo v).length) (hu : (lo w).length = (lo v).length) (hl : (lo v).length ≤ 100000) :
    (rB v w (k : Int)).get = bro (neI (lo v) (lo w) k) (some (.ret, qB v w (k : Int))) (some (.normal, qB v w ((k + 1 : Nat) : Int))) := by
  cases v with
  | none => exact absurd hk (Nat.not_lt_zero _)
  | some x =>
  cases w with
  | none => exact absurd (show k < 0 by have : (0 : Nat) = _ := hu; rw [this]; exact hk) (Nat.not_lt_zero _)
  | some y =>
  obtain ⟨a, b, ts⟩ := x
  obtain ⟨c, d, us⟩ := y
  change k < ts.length at hk
  change us.length = ts.length at hu
  change ts.length ≤ 100000 at hl
  have k1 := decide_eq_true (show (k : Int) < (ts.length : Int) by omega)
  have k2 : Sx.inB (k : Int) ts.length = true := inB_mk ⟨by omega, by omega⟩
  have k3 := decide_eq_true (show ((k : Nat) : Int).toNat < ts.length by omega)
  have k4 : inR64 ((k : Int) + 1) = true := inR64_mk (by omega)
  have k5 : Sx.inB (k : Int) us.length = true := inB_mk ⟨by omega, by omega⟩
  have k6 := decide_eq_true (show ((k : Nat) : Int).toNat < us.length by omega)
  show (rB (some (a, b, ts)) (some (c, d, us)) (k : Int)).get = bro (neI ts us k) _ _
  unfold neI
  have h1 := qB_ne a b c d ts us (k : Int)
  have h2 := qB_eq a b c d ts us (k : Int)
  generalize (elI ts (k : Int) != elI us (k : Int)) = z at h1 h2 ⊢
  cases z with
  | true => exact Tr.follow_get h1 (by simp only [k1, k2, k3, k5, k6])
  | false => exact Tr.follow_get h2 (by simp only [k1, k2, k3, k4, k5, k6])
def loopB : LoopFn C24 := fun li => match li with
  | ⟨[s, t, .raw (.int .i64 n), .raw (.int .i64 (.ofNat 0)), .raw (.bool false)], nb, os⟩ => match decI s 0 os with
    | some (v, os1) => match decI t (nx v 0) os1 with
      | some (w, []) => match Nat.beq nb (nx w (nx v 0)) with
        | true => .br (n == ((lo v).length : Int)) (.br (decide ((lo v).length ≤ 100000 ∧ (lo w).length = (lo v).length)) (.br (noneP (neI (lo v) (lo w)) (lo v).length) (.leaf (.exit 0, qB v w ((lo v).length : Int))) (.leaf (.ret, qB v w (fstP (neI (lo v) (lo w)) (lo v).length : Int)))) .fail) .fail
        | false => .fail
      | _ => .fail
    | none => .fail
  | _ => .fail
theorem lpB : loopOf Try.prog 46 0 = some (((loopOf Try.prog 46 0).get!).1, (loopOf Try.prog 46 0).get!.2) := by kernel_rfl
theorem loopB_ok : ∀ tm hp n x, (loopS [0, 1, 12, 13, 4] [] loopB tm hp n).get = some x → InLoop Try.prog ((loopOf Try.prog 46 0).get!).1 (loopOf Try.prog 46 0).get!.2 tm hp n fun e tm hp n => (e, tm, hp, n) = x := loopS_of fun li r h => by
  unfold loopB at h
  split at h
  · rename_i s t n nb os
    split at h
    · rename_i v os1 h1
      split at h
      · rename_i w h2
        split at h
        · rename_i hnb
          obtain ⟨rfl, rfl⟩ := decI_eq h1
          obtain ⟨rfl, rfl⟩ := decI_eq h2
          have hnb := Nat.eq_of_beq_eq_true hnb
          subst hnb
          clear h1 h2
          obtain ⟨hn0, hB⟩ := Tr.get_ask.1 h
          obtain ⟨hl, hC⟩ := Tr.get_ask.1 hB
          clear h hB
          have hn0 := eq_of_beq hn0
          subst hn0
          have hl : (lo v).length ≤ 100000 ∧ (lo w).length = (lo v).length := of_decide_eq_true hl
          have hr : r.2.2 = (qB v w 0).2 := by
            rcases Tr.get_br.1 hC with ⟨_, hD⟩ | ⟨_, hD⟩ <;> (simp only [Tr.get, Option.some.injEq] at hD; subst hD; rfl)
          rw [List.append_nil]
          refine ⟨by rw [hr]; exact keeps_same (by cases v <;> cases w <;> rfl), ?_⟩
          refine scan_li (n := (lo v).length) (stN := fun k => qB v w (k : Int)) (stR := fun k => qB v w (k : Int)) (p := neI (lo v) (lo w)) (d := 10) (unr := fun _ _ => 20) (sp := noSp) (ls := noLs) (b := 0) plain mixed noSp_ok noLs_ok lpB (fun k hk => rB_round hk hl.2 hl.1) ?_ hC
          exact Tr.follow_get (qB_end v w _) (by rw [decide_eq_false (Int.lt_irrefl _)])
        · cases h
      · cases h
    · cases h
  · cases h
theorem qC_ne (a b c d : Bool) (ts us : List Mac) (K : Int) : Tr.follow [true, true, true, true, true, true] (rC (some (a, b, ts)) (some (c, d, us)) K) = some ([decide (K < (ts.length : Int)), inB K ts.length, decide (K.toNat < ts.length), inB K us.length, decide (K.toNat < us.length), !eqM (elA ts K) (elA us K)], (.ret, qC (some (a, b, ts)) (some (c, d, us)) K)) := by kernel_rfl
theorem qC_eq (a b c d : Bool) (ts us : List Mac) (K : Int) : Tr.follow [true, true, true, true, true, false, true] (rC (some (a, b, ts)) (some (c, d, us)) K) = some ([decide (K < (ts.length : Int)), inB K ts.length, decide (K.toNat < ts.length), inB K us.length, decide (K.toNat < us.length), !eqM (elA ts K) (elA us K), inR64 (K + 1)], (.normal, qC (some (a, b, ts)) (some (c, d, us)) (K + 1))) := by kernel_rfl
theorem qC_end (v w : Lo Mac) (K : Int) : Tr.follow [false] (rC v w K) = some ([decide (K < ((lo v).length : Int))], (.exit 0, qC v w K)) := by cases v <;> cases w <;> kernel_rfl
theorem rC_round {v w : Lo Mac} {k : Nat} (hk : k < (lo v).length) (hu : (lo w).length = (lo v).length) (hl : (lo v).length ≤ 100000) :
    (rC v w (k : Int)).get = bro (neA (lo v) (lo w) k) (some (.ret, qC v w (k : Int))) (some (.normal, qC v w ((k + 1 : Nat) : Int))) := by
  cases v with
  | none => exact absurd hk (Nat.not_lt_zero _)
  | some x =>
  cases w with
  | none => exact absurd (show k < 0 by have : (0 : Nat) = _ := hu; rw [this]; exact hk) (Nat.not_lt_zero _)
  | some y =>
  obtain ⟨a, b, ts⟩ := x
  obtain ⟨c, d, us⟩ := y
  change k < ts.length at hk
  change us.length = ts.length at hu
  change ts.length ≤ 100000 at hl
  have k1 := decide_eq_true (show (k : Int) < (ts.length : Int) by omega)
  have k2 : Sx.inB (k : Int) ts.length = true := inB_mk ⟨by omega, by omega⟩
  have k3 := decide_eq_true (show ((k : Nat) : Int).toNat < ts.length by omega)
  have k4 : inR64 ((k : Int) + 1) = true := inR64_mk (by omega)
  have k5 : Sx.inB (k : Int) us.length = true := inB_mk ⟨by omega, by omega⟩
  have k6 := decide_eq_true (show ((k : Nat) : Int).toNat < us.length by omega)
  show (rC (some (a, b, ts)) (some (c, d, us)) (k : Int)).get = bro (neA ts us k) _ _
  unfold neA
  have h1 := qC_ne a b c d ts us (k : Int)
  have h2 := qC_eq a b c d ts us (k : Int)
  generalize (!eqM (elA ts (k : Int)) (elA us (k : Int))) = z at h1 h2 ⊢
  cases z with
  | true => exact Tr.follow_get h1 (by simp only [k1, k2, k3, k5, k6])
  | false => exact Tr.follow_get h2 (by simp only [k1, k2, k3, k4, k5, k6])
def loopC : LoopFn C24 := fun li => match li with
  | ⟨[s, t, .raw (.int .i64 (.ofNat 0)), .raw (.bool false)], nb, os⟩ => match decM s 0 os with
    | some (v, os1) => match decM t (nx v 0) os1 with
      | some (w, []) => match Nat.beq nb (nx w (nx v 0)) with
        | true => .br (decide ((lo v).length ≤ 100000 ∧ (lo w).length = (lo v).length)) (.br (noneP (neA (lo v) (lo w)) (lo v).length) (.leaf (.exit 0, qC v w ((lo v).length : Int))) (.leaf (.ret, qC v w (fstP (neA (lo v) (lo w)) (lo v).length : Int)))) .fail
        | false => .fail
      | _ => .fail
    | none => .fail
  | _ => .fail
theorem lpC : loopOf Try.prog 25 0 = some (((loopOf Try.prog 25 0).get!).1, (loopOf Try.prog 25 0).get!.2) := by kernel_rfl
theorem loopC_ok : ∀ tm hp n x, (loopS [0, 1, 5, 4] [] loopC tm hp n).get = some x → InLoop Try.prog ((loopOf Try.prog 25 0).get!).1 (loopOf Try.prog 25 0).get!.2 tm hp n fun e tm hp n => (e, tm, hp, n) = x := loopS_of fun li r h => by
  unfold loopC at h
  split at h
  · rename_i s t nb os
    split at h
    · rename_i v os1 h1
      split at h
      · rename_i w h2
        split at h
        · rename_i hnb
          obtain ⟨rfl, rfl⟩ := decM_eq h1
          obtain ⟨rfl, rfl⟩ := decM_eq h2
          have hnb := Nat.eq_of_beq_eq_true hnb
          subst hnb
          clear h1 h2
          obtain ⟨hl, hC⟩ := Tr.get_ask.1 h
          clear h
          have hl : (lo v).length ≤ 100000 ∧ (lo w).length = (lo v).length := of_decide_eq_true hl
          have hr : r.2.2 = (qC v w 0).2 := by
            rcases Tr.get_br.1 hC with ⟨_, hD⟩ | ⟨_, hD⟩ <;> (simp only [Tr.get, Option.some.injEq] at hD; subst hD; rfl)
          rw [List.append_nil]
          refine ⟨by rw [hr]; exact keeps_same (by cases v <;> cases w <;> rfl), ?_⟩
          refine scan_li (n := (lo v).length) (stN := fun k => qC v w (k : Int)) (stR := fun k => qC v w (k : Int)) (p := neA (lo v) (lo w)) (d := 10) (unr := fun _ _ => 20) (sp := noSp) (ls := noLs) (b := 0) plain mixed noSp_ok noLs_ok lpC (fun k hk => rC_round hk hl.2 hl.1) ?_ hC
          exact Tr.follow_get (qC_end v w _) (by rw [decide_eq_false (Int.lt_irrefl _)])
        · cases h
      · cases h
    · cases h
  · cases h
theorem qD_ne (a b c d : Bool) (ts us : List Mac) (K : Int) : Tr.follow [true, true, true, true, true, true] (rD (some (a, b, ts)) (some (c, d, us)) K) = some ([decide (K < (ts.length : Int)), inB K ts.length, decide (K.toNat < ts.length), inB K us.length, decide (K.toNat < us.length), !eqM (elA ts K) (elA us K)], (.ret, qD (some (a, b, ts)) (some (c, d, us)) K)) := by kernel_rfl
theorem qD_eq (a b c d : Bool) (ts us : List Mac) (K : Int) : Tr.follow [true, true, true, true, true, false, true] (rD (some (a, b, ts)) (some (c, d, us)) K) = some ([decide (K < (ts.length : Int)), inB K ts.length, decide (K.toNat < ts.length), inB K us.length, decide (K.toNat < us.length), !eqM (elA ts K) (elA us K), inR64 (K + 1)], (.normal, qD (some (a, b, ts)) (some (c, d, us)) (K + 1))) := by kernel_rfl
theorem qD_end (v w : Lo Mac) (K : Int) : Tr.follow [false] (rD v w K) = some ([decide (K < ((lo v).length : Int))], (.exit 0, qD v w K)) := by cases v <;> cases w <;> kernel_rfl
theorem rD_round {v w : Lo Mac} {k : Nat} (hk : k < (lo v).length) (hu : (lo w).length = (lo v).length) (hl : (lo v).length ≤ 100000) :
    (rD v w (k : Int)).get = bro (neA (lo v) (lo w) k) (some (.ret, qD v w (k : Int))) (some (.normal, qD v w ((k + 1 : Nat) : Int))) := by
  cases v with
  | none => exact absurd hk (Nat.not_lt_zero _)
  | some x =>
  cases w with
  | none => exact absurd (show k < 0 by have : (0 : Nat) = _ := hu; rw [this]; exact hk) (Nat.not_lt_zero _)
  | some y =>
  obtain ⟨a, b, ts⟩ := x
  obtain ⟨c, d, us⟩ := y
  change k < ts.length at hk
  change us.length = ts.length at hu
  change ts.length ≤ 100000 at hl
  have k1 := decide_eq_true (show (k : Int) < (ts.length : Int) by omega)
  have k2 : Sx.inB (k : Int) ts.length = true := inB_mk ⟨by omega, by omega⟩
  have k3 := decide_eq_true (show ((k : Nat) : Int).toNat < ts.length by omega)
  have k4 : inR64 ((k : Int) + 1) = true := inR64_mk (by omega)
  have k5 : Sx.inB (k : Int) us.length = true := inB_mk ⟨by omega, by omega⟩
  have k6 := decide_eq_true (show ((k : Nat) : Int).toNat < us.length by omega)
  show (rD (some (a, b, ts)) (some (c, d, us)) (k : Int)).get = bro (neA ts us k) _ _
  unfold neA
  have h1 := qD_ne a b c d ts us (k : Int)
  have h2 := qD_eq a b c d ts us (k : Int)
  generalize (!eqM (elA ts (k : Int)) (elA us (k : Int))) = z at h1 h2 ⊢
  cases z with
  | true => exact Tr.follow_get h1 (by simp only [k1, k2, k3, k5, k6])
  | false => exact Tr.follow_get h2 (by simp only [k1, k2, k3, k4, k5, k6])
def loopD : LoopFn C24 := fun li => match li with
  | ⟨[s, t, .raw (.int .i64 n), .raw (.int .i64 (.ofNat 0)), .raw (.bool false)], nb, os⟩ => match decM s 0 os with
    | some (v, os1) => match decM t (nx v 0) os1 with
      | some (w, []) => match Nat.beq nb (nx w (nx v 0)) with
        | true => .br (n == ((lo v).length : Int)) (.br (decide ((lo v).length ≤ 100000 ∧ (lo w).length = (lo v).length)) (.br (noneP (neA (lo v) (lo w)) (lo v).length) (.leaf (.exit 0, qD v w ((lo v).length : Int))) (.leaf (.ret, qD v w (fstP (neA (lo v) (lo w)) (lo v).length : Int)))) .fail) .fail
        | false => .fail
      | _ => .fail
    | none => .fail
  | _ => .fail
theorem lpD : loopOf Try.prog 45 0 = some (((loopOf Try.prog 45 0).get!).1, (loopOf Try.prog 45 0).get!.2) := by kernel_rfl
theorem loopD_ok : ∀ tm hp n x, (loopS [0, 1, 12, 13, 4] [] loopD tm hp n).get = some x → InLoop Try.prog ((loopOf Try.prog 45 0).get!).1 (loopOf Try.prog 45 0).get!.2 tm hp n fun e tm hp n => (e, tm, hp, n) = x := loopS_of fun li r h => by
  unfold loopD at h
  split at h
  · rename_i s t n nb os
    split at h
    · rename_i v os1 h1
      split at h
      · rename_i w h2
        split at h
        · rename_i hnb
          obtain ⟨rfl, rfl⟩ := decM_eq h1
          obtain ⟨rfl, rfl⟩ := decM_eq h2
          have hnb := Nat.eq_of_beq_eq_true hnb
          subst hnb
          clear h1 h2
          obtain ⟨hn0, hB⟩ := Tr.get_ask.1 h
          obtain ⟨hl, hC⟩ := Tr.get_ask.1 hB
          clear h hB
          have hn0 := eq_of_beq hn0
          subst hn0
          have hl : (lo v).length ≤ 100000 ∧ (lo w).length = (lo v).length := of_decide_eq_true hl
          have hr : r.2.2 = (qD v w 0).2 := by
            rcases Tr.get_br.1 hC with ⟨_, hD⟩ | ⟨_, hD⟩ <;> (simp only [Tr.get, Option.some.injEq] at hD; subst hD; rfl)
          rw [List.append_nil]
          refine ⟨by rw [hr]; exact keeps_same (by cases v <;> cases w <;> rfl), ?_⟩
          refine scan_li (n := (lo v).length) (stN := fun k => qD v w (k : Int)) (stR := fun k => qD v w (k : Int)) (p := neA (lo v) (lo w)) (d := 10) (unr := fun _ _ => 20) (sp := noSp) (ls := noLs) (b := 0) plain mixed noSp_ok noLs_ok lpD (fun k hk => rD_round hk hl.2 hl.1) ?_ hC
          exact Tr.follow_get (qD_end v w _) (by rw [decide_eq_false (Int.lt_irrefl _)])
        · cases h
      · cases h
    · cases h
  · cases h

def lsE : LoopT C24 := Sx.addL 23 0 (loopS [0, 1, 5, 4] [] loopA) (Sx.addL 46 0 (loopS [0, 1, 12, 13, 4] [] loopB) (Sx.addL 25 0 (loopS [0, 1, 5, 4] [] loopC) (Sx.addL 45 0 (loopS [0, 1, 12, 13, 4] [] loopD) noLs)))
theorem lsE_ok : LoopTOk Try.prog lsE := addL_ok lpA loopA_ok (addL_ok lpB loopB_ok (addL_ok lpC loopC_ok (addL_ok lpD loopD_ok noLs_ok)))
abbrev unE (g b : Nat) : Nat := match g, b with
  | 23, 0 => 0 | 46, 0 => 0 | 25, 0 => 0 | 45, 0 => 0 | _, _ => 20
/-- Lists that are the same. -/
def eqL {α : Type} [DecidableEq α] (ts us : List α) : Bool := decide (ts = us)
theorem eqL_self {α : Type} [DecidableEq α] (ts : List α) : eqL ts ts = true := decide_eq_true rfl
theorem eqL_of {α : Type} [DecidableEq α] {ts us : List α} (h : ts = us) : eqL ts us = true := decide_eq_true h
theorem eqL_off {α : Type} [DecidableEq α] {ts us : List α} (h : ts.length ≠ us.length) : eqL ts us = false := decide_eq_false fun e => h (by rw [e])
theorem eqM_iff {x y : Mac} : eqM x y = true ↔ x = y := by
  obtain ⟨a0, a1, a2, a3, a4, a5⟩ := x
  obtain ⟨b0, b1, b2, b3, b4, b5⟩ := y
  simp only [eqM, Bool.and_eq_true, beq_iff_eq, Bool.and_true, Prod.mk.injEq]
theorem eqL_int {ts us : List Int} (h : us.length = ts.length) : eqL ts us = noneP (neI ts us) ts.length := by
  rw [Bool.eq_iff_iff, noneP_iff]
  unfold eqL
  rw [decide_eq_true_iff]
  constructor
  · rintro rfl k hk
    unfold neI
    exact bne_self_eq_false _
  · intro hk
    refine List.ext_getElem h.symm fun i h1 h2 => ?_
    have := hk i h1
    unfold neI at this
    have e1 : elI ts (i : Int) = ts[i] := by show ts.getD i 0 = _; rw [List.getD_eq_getElem?_getD, List.getElem?_eq_getElem h1]; rfl
    have e2 : elI us (i : Int) = us[i] := by show us.getD i 0 = _; rw [List.getD_eq_getElem?_getD, List.getElem?_eq_getElem h2]; rfl
    rw [e1, e2] at this
    simpa using this
theorem eqL_mac {ts us : List Mac} (h : us.length = ts.length) : eqL ts us = noneP (neA ts us) ts.length := by
  rw [Bool.eq_iff_iff, noneP_iff]
  unfold eqL
  rw [decide_eq_true_iff]
  constructor
  · rintro rfl k hk
    unfold neA
    rw [eqM_iff.2 rfl]; rfl
  · intro hk
    refine List.ext_getElem h.symm fun i h1 h2 => ?_
    have := hk i h1
    unfold neA at this
    have e1 : elA ts (i : Int) = ts[i] := by show ts.getD i mac0 = _; rw [List.getD_eq_getElem?_getD, List.getElem?_eq_getElem h1]; rfl
    have e2 : elA us (i : Int) = us[i] := by show us.getD i mac0 = _; rw [List.getD_eq_getElem?_getD, List.getElem?_eq_getElem h2]; rfl
    rw [e1, e2] at this
    exact eqM_iff.1 (by simpa using this)
abbrev fE (g : Nat) (s t : SV) (os : List (SO C24)) := fnC C24 Try.prog noSp lsE unE 10 g [s, t] os
theorem lA_ne (v w : Lo Int) : Tr.follow [true] (fE 23 (hS v 0) (hS w (nx v 0)) (obI v ++ obI w)) = some ([((lo v).length : Int) != ((lo w).length : Int)], (.raw (.bool false), [])) := by cases v <;> cases w <;> kernel_rfl
theorem lA_eq (v w : Lo Int) : Tr.follow [false, true, true] (fE 23 (hS v 0) (hS w (nx v 0)) (obI v ++ obI w)) = some ([((lo v).length : Int) != ((lo w).length : Int), decide ((lo v).length ≤ 100000 ∧ (lo w).length = (lo v).length), noneP (neI (lo v) (lo w)) (lo v).length], (.raw (.bool true), [])) := by cases v <;> cases w <;> kernel_rfl
theorem lA_df (v w : Lo Int) : Tr.follow [false, true, false] (fE 23 (hS v 0) (hS w (nx v 0)) (obI v ++ obI w)) = some ([((lo v).length : Int) != ((lo w).length : Int), decide ((lo v).length ≤ 100000 ∧ (lo w).length = (lo v).length), noneP (neI (lo v) (lo w)) (lo v).length], (.raw (.bool false), [])) := by cases v <;> cases w <;> kernel_rfl
def intsT : FnF C24 := fun args os => match args with
  | [s, t] => match decI s 0 os with
    | some (v, os1) => match decI t (nx v 0) os1 with
      | some (w, []) => withL v fun a => withL w fun b => .br (decide (a.length ≤ 100000)) (.leaf (.raw (.bool (eqL a b)), [])) .fail
      | _ => .fail
    | _ => .fail
  | _ => .fail
theorem intsT_ok : ∀ args os r, (intsT args os).get = some r → Fn0 Try.prog 23 args os r := fun args os r h => by
  unfold intsT at h
  split at h
  · rename_i s t
    split at h
    · rename_i v os1 h1
      split at h
      · rename_i w h2
        obtain ⟨rfl, rfl⟩ := decI_eq h1
        obtain ⟨rfl, rfl⟩ := decI_eq h2
        simp only [withL_eq] at h
        obtain ⟨hl, h3⟩ := Tr.get_ask.1 h
        clear h h1 h2
        have hl : (lo v).length ≤ 100000 := of_decide_eq_true hl
        rw [List.append_nil]
        refine fnC_ok (sp := noSp) (ls := lsE) (unr := unE) (d := 10) plain mixed noSp_ok lsE_ok (Eq.trans ?_ h3)
        by_cases he : (lo w).length = (lo v).length
        · have k1 : (((lo v).length : Int) != ((lo w).length : Int)) = false := by rw [he]; exact bne_self_eq_false _
          have k2 : decide ((lo v).length ≤ 100000 ∧ (lo w).length = (lo v).length) = true := decide_eq_true ⟨hl, he⟩
          have k3 : (((lo v).length : Int) == ((lo v).length : Int)) = true := beq_self_eq_true _
          rw [eqL_int he]
          cases hn : noneP (neI (lo v) (lo w)) (lo v).length with
          | true => exact Tr.follow_get (lA_eq v w) (by simp only [k1, k2, k3, hn])
          | false => exact Tr.follow_get (lA_df v w) (by simp only [k1, k2, k3, hn])
        · have k1 : (((lo v).length : Int) != ((lo w).length : Int)) = true := bne_iff_ne.2 fun e => he (by omega)
          rw [eqL_off fun e => he e.symm]
          exact Tr.follow_get (lA_ne v w) (by simp only [k1])
      · cases h
    · cases h
  · cases h
theorem lB_ne (v w : Lo Int) : Tr.follow [true] (fE 46 (hS v 0) (hS w (nx v 0)) (obI v ++ obI w)) = some ([((lo v).length : Int) != ((lo w).length : Int)], (.raw (.bool false), [])) := by cases v <;> cases w <;> kernel_rfl
theorem lB_eq (v w : Lo Int) : Tr.follow [false, true, true, true] (fE 46 (hS v 0) (hS w (nx v 0)) (obI v ++ obI w)) = some ([((lo v).length : Int) != ((lo w).length : Int), ((lo v).length : Int) == ((lo v).length : Int), decide ((lo v).length ≤ 100000 ∧ (lo w).length = (lo v).length), noneP (neI (lo v) (lo w)) (lo v).length], (.raw (.bool true), [])) := by cases v <;> cases w <;> kernel_rfl
theorem lB_df (v w : Lo Int) : Tr.follow [false, true, true, false] (fE 46 (hS v 0) (hS w (nx v 0)) (obI v ++ obI w)) = some ([((lo v).length : Int) != ((lo w).length : Int), ((lo v).length : Int) == ((lo v).length : Int), decide ((lo v).length ≤ 100000 ∧ (lo w).length = (lo v).length), noneP (neI (lo v) (lo w)) (lo v).length], (.raw (.bool false), [])) := by cases v <;> cases w <;> kernel_rfl
def eqiT : FnF C24 := fun args os => match args with
  | [s, t] => match decI s 0 os with
    | some (v, os1) => match decI t (nx v 0) os1 with
      | some (w, []) => withL v fun a => withL w fun b => .br (decide (a.length ≤ 100000)) (.leaf (.raw (.bool (eqL a b)), [])) .fail
      | _ => .fail
    | _ => .fail
  | _ => .fail
theorem eqiT_ok : ∀ args os r, (eqiT args os).get = some r → Fn0 Try.prog 46 args os r := fun args os r h => by
  unfold eqiT at h
  split at h
  · rename_i s t
    split at h
    · rename_i v os1 h1
      split at h
      · rename_i w h2
        obtain ⟨rfl, rfl⟩ := decI_eq h1
        obtain ⟨rfl, rfl⟩ := decI_eq h2
        simp only [withL_eq] at h
        obtain ⟨hl, h3⟩ := Tr.get_ask.1 h
        clear h h1 h2
        have hl : (lo v).length ≤ 100000 := of_decide_eq_true hl
        rw [List.append_nil]
        refine fnC_ok (sp := noSp) (ls := lsE) (unr := unE) (d := 10) plain mixed noSp_ok lsE_ok (Eq.trans ?_ h3)
        by_cases he : (lo w).length = (lo v).length
        · have k1 : (((lo v).length : Int) != ((lo w).length : Int)) = false := by rw [he]; exact bne_self_eq_false _
          have k2 : decide ((lo v).length ≤ 100000 ∧ (lo w).length = (lo v).length) = true := decide_eq_true ⟨hl, he⟩
          have k3 : (((lo v).length : Int) == ((lo v).length : Int)) = true := beq_self_eq_true _
          rw [eqL_int he]
          cases hn : noneP (neI (lo v) (lo w)) (lo v).length with
          | true => exact Tr.follow_get (lB_eq v w) (by simp only [k1, k2, k3, hn])
          | false => exact Tr.follow_get (lB_df v w) (by simp only [k1, k2, k3, hn])
        · have k1 : (((lo v).length : Int) != ((lo w).length : Int)) = true := bne_iff_ne.2 fun e => he (by omega)
          rw [eqL_off fun e => he e.symm]
          exact Tr.follow_get (lB_ne v w) (by simp only [k1])
      · cases h
    · cases h
  · cases h
theorem lC_ne (v w : Lo Mac) : Tr.follow [true] (fE 25 (hS v 0) (hS w (nx v 0)) (obM v ++ obM w)) = some ([((lo v).length : Int) != ((lo w).length : Int)], (.raw (.bool false), [])) := by cases v <;> cases w <;> kernel_rfl
theorem lC_eq (v w : Lo Mac) : Tr.follow [false, true, true] (fE 25 (hS v 0) (hS w (nx v 0)) (obM v ++ obM w)) = some ([((lo v).length : Int) != ((lo w).length : Int), decide ((lo v).length ≤ 100000 ∧ (lo w).length = (lo v).length), noneP (neA (lo v) (lo w)) (lo v).length], (.raw (.bool true), [])) := by cases v <;> cases w <;> kernel_rfl
theorem lC_df (v w : Lo Mac) : Tr.follow [false, true, false] (fE 25 (hS v 0) (hS w (nx v 0)) (obM v ++ obM w)) = some ([((lo v).length : Int) != ((lo w).length : Int), decide ((lo v).length ≤ 100000 ∧ (lo w).length = (lo v).length), noneP (neA (lo v) (lo w)) (lo v).length], (.raw (.bool false), [])) := by cases v <;> cases w <;> kernel_rfl
def macsT : FnF C24 := fun args os => match args with
  | [s, t] => match decM s 0 os with
    | some (v, os1) => match decM t (nx v 0) os1 with
      | some (w, []) => withL v fun a => withL w fun b => .br (decide (a.length ≤ 100000)) (.leaf (.raw (.bool (eqL a b)), [])) .fail
      | _ => .fail
    | _ => .fail
  | _ => .fail
theorem macsT_ok : ∀ args os r, (macsT args os).get = some r → Fn0 Try.prog 25 args os r := fun args os r h => by
  unfold macsT at h
  split at h
  · rename_i s t
    split at h
    · rename_i v os1 h1
      split at h
      · rename_i w h2
        obtain ⟨rfl, rfl⟩ := decM_eq h1
        obtain ⟨rfl, rfl⟩ := decM_eq h2
        simp only [withL_eq] at h
        obtain ⟨hl, h3⟩ := Tr.get_ask.1 h
        clear h h1 h2
        have hl : (lo v).length ≤ 100000 := of_decide_eq_true hl
        rw [List.append_nil]
        refine fnC_ok (sp := noSp) (ls := lsE) (unr := unE) (d := 10) plain mixed noSp_ok lsE_ok (Eq.trans ?_ h3)
        by_cases he : (lo w).length = (lo v).length
        · have k1 : (((lo v).length : Int) != ((lo w).length : Int)) = false := by rw [he]; exact bne_self_eq_false _
          have k2 : decide ((lo v).length ≤ 100000 ∧ (lo w).length = (lo v).length) = true := decide_eq_true ⟨hl, he⟩
          have k3 : (((lo v).length : Int) == ((lo v).length : Int)) = true := beq_self_eq_true _
          rw [eqL_mac he]
          cases hn : noneP (neA (lo v) (lo w)) (lo v).length with
          | true => exact Tr.follow_get (lC_eq v w) (by simp only [k1, k2, k3, hn])
          | false => exact Tr.follow_get (lC_df v w) (by simp only [k1, k2, k3, hn])
        · have k1 : (((lo v).length : Int) != ((lo w).length : Int)) = true := bne_iff_ne.2 fun e => he (by omega)
          rw [eqL_off fun e => he e.symm]
          exact Tr.follow_get (lC_ne v w) (by simp only [k1])
      · cases h
    · cases h
  · cases h
theorem lD_ne (v w : Lo Mac) : Tr.follow [true] (fE 45 (hS v 0) (hS w (nx v 0)) (obM v ++ obM w)) = some ([((lo v).length : Int) != ((lo w).length : Int)], (.raw (.bool false), [])) := by cases v <;> cases w <;> kernel_rfl
theorem lD_eq (v w : Lo Mac) : Tr.follow [false, true, true, true] (fE 45 (hS v 0) (hS w (nx v 0)) (obM v ++ obM w)) = some ([((lo v).length : Int) != ((lo w).length : Int), ((lo v).length : Int) == ((lo v).length : Int), decide ((lo v).length ≤ 100000 ∧ (lo w).length = (lo v).length), noneP (neA (lo v) (lo w)) (lo v).length], (.raw (.bool true), [])) := by cases v <;> cases w <;> kernel_rfl
theorem lD_df (v w : Lo Mac) : Tr.follow [false, true, true, false] (fE 45 (hS v 0) (hS w (nx v 0)) (obM v ++ obM w)) = some ([((lo v).length : Int) != ((lo w).length : Int), ((lo v).length : Int) == ((lo v).length : Int), decide ((lo v).length ≤ 100000 ∧ (lo w).length = (lo v).length), noneP (neA (lo v) (lo w)) (lo v).length], (.raw (.bool false), [])) := by cases v <;> cases w <;> kernel_rfl
def eqmT : FnF C24 := fun args os => match args with
  | [s, t] => match decM s 0 os with
    | some (v, os1) => match decM t (nx v 0) os1 with
      | some (w, []) => withL v fun a => withL w fun b => .br (decide (a.length ≤ 100000)) (.leaf (.raw (.bool (eqL a b)), [])) .fail
      | _ => .fail
    | _ => .fail
  | _ => .fail
theorem eqmT_ok : ∀ args os r, (eqmT args os).get = some r → Fn0 Try.prog 45 args os r := fun args os r h => by
  unfold eqmT at h
  split at h
  · rename_i s t
    split at h
    · rename_i v os1 h1
      split at h
      · rename_i w h2
        obtain ⟨rfl, rfl⟩ := decM_eq h1
        obtain ⟨rfl, rfl⟩ := decM_eq h2
        simp only [withL_eq] at h
        obtain ⟨hl, h3⟩ := Tr.get_ask.1 h
        clear h h1 h2
        have hl : (lo v).length ≤ 100000 := of_decide_eq_true hl
        rw [List.append_nil]
        refine fnC_ok (sp := noSp) (ls := lsE) (unr := unE) (d := 10) plain mixed noSp_ok lsE_ok (Eq.trans ?_ h3)
        by_cases he : (lo w).length = (lo v).length
        · have k1 : (((lo v).length : Int) != ((lo w).length : Int)) = false := by rw [he]; exact bne_self_eq_false _
          have k2 : decide ((lo v).length ≤ 100000 ∧ (lo w).length = (lo v).length) = true := decide_eq_true ⟨hl, he⟩
          have k3 : (((lo v).length : Int) == ((lo v).length : Int)) = true := beq_self_eq_true _
          rw [eqL_mac he]
          cases hn : noneP (neA (lo v) (lo w)) (lo v).length with
          | true => exact Tr.follow_get (lD_eq v w) (by simp only [k1, k2, k3, hn])
          | false => exact Tr.follow_get (lD_df v w) (by simp only [k1, k2, k3, hn])
        · have k1 : (((lo v).length : Int) != ((lo w).length : Int)) = true := bne_iff_ne.2 fun e => he (by omega)
          rw [eqL_off fun e => he e.symm]
          exact Tr.follow_get (lD_ne v w) (by simp only [k1])
      · cases h
    · cases h
  · cases h
end
end Go.Proofs.Ytgepgnjjhgmfnaa
