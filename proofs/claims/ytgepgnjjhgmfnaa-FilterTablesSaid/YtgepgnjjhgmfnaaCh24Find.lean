/-
  Chapter 24: loops that look for a place: Check's, Index's. Own work; nothing here is trusted.
-/
import Derived.Test.YtgepgnjjhgmfnaaCh24Base
namespace Go.Proofs.Ytgepgnjjhgmfnaa
open Go Go.Sx Go.RowKit
set_option maxRecDepth 1000000
set_option maxHeartbeats 8000000
set_option linter.unusedVariables false
set_option linter.unusedSimpArgs false
noncomputable section

theorem c_end (m : Mac) (p q : Bool) (o g : Lo Mac) (a b : Bool) (ts : List Int) (K : Int) : Tr.follow [false] (cRound m p q o g (some (a, b, ts)) K) =
  some ([decide (K < (↑(ts).length : Int))],
  (.exit 0, cSt m p q o g (some (a, b, ts)) K 0)) := by cases o <;> cases g <;> kernel_rfl
theorem c_neg (m : Mac) (p q : Bool) (o g : Lo Mac) (a b : Bool) (ts : List Int) (K : Int) : Tr.follow [true, true, true, true, true, true, true, true, true, true, true, true] (cRound m p q o g (some (a, b, ts)) K) =
  some ([decide (K < (↑(ts).length : Int)),
  inB K ts.length,
  decide (K.toNat < ts.length),
  decide (elI ts K < (0 : Int)),
  true,
  true,
  true,
  true,
  true,
  true,
  true,
  true],
  (.ret, cSt m p q o g (some (a, b, ts)) K 2)) := by cases o <;> cases g <;> kernel_rfl
theorem c_big (m : Mac) (p q : Bool) (o g : Lo Mac) (a b : Bool) (ts : List Int) (K : Int) : Tr.follow [true, true, true, false, false, true, true, true, true, true, true] (cRound m p q o g (some (a, b, ts)) K) =
  some ([decide (K < (↑(ts).length : Int)),
  inB K ts.length,
  decide (K.toNat < ts.length),
  decide (elI ts K < (0 : Int)),
  false,
  decide ((4095 : Int) < elI ts K),
  true,
  true,
  true,
  true,
  true],
  (.ret, cSt m p q o g (some (a, b, ts)) K 2)) := by cases o <;> cases g <;> kernel_rfl
theorem c_fst (m : Mac) (p q : Bool) (o g : Lo Mac) (a b : Bool) (ts : List Int) (K : Int) : Tr.follow [true, true, true, false, false, false, false, false, false, false, false, false, false, false, false, false, false, false, false, true] (cRound m p q o g (some (a, b, ts)) K) =
  some ([decide (K < (↑(ts).length : Int)),
  inB K ts.length,
  decide (K.toNat < ts.length),
  decide (elI ts K < (0 : Int)),
  false,
  decide ((4095 : Int) < elI ts K),
  false,
  false,
  decide ((0 : Int) < K),
  false,
  false,
  false,
  false,
  false,
  false,
  false,
  false,
  false,
  false,
  inR64 (K + (1 : Int))],
  (.normal, cSt m p q o g (some (a, b, ts)) (K + 1) 0)) := by cases o <;> cases g <;> kernel_rfl
theorem c_ok (m : Mac) (p q : Bool) (o g : Lo Mac) (a b : Bool) (ts : List Int) (K : Int) : Tr.follow [true, true, true, false, false, false, false, false, true, true, true, true, true, true, true, true, true, true, true, false, false, true] (cRound m p q o g (some (a, b, ts)) K) =
  some ([decide (K < (↑(ts).length : Int)),
  inB K ts.length,
  decide (K.toNat < ts.length),
  decide (elI ts K < (0 : Int)),
  false,
  decide ((4095 : Int) < elI ts K),
  false,
  false,
  decide ((0 : Int) < K),
  true,
  true,
  true,
  inR64 (K - (1 : Int)),
  true,
  inB (K - (1 : Int)) ts.length,
  true,
  decide ((K - (1 : Int)).toNat < ts.length),
  true,
  true,
  false,
  decide (elI ts K ≤ elI ts (K - 1)),
  inR64 (K + (1 : Int))],
  (.normal, cSt m p q o g (some (a, b, ts)) (K + 1) 0)) := by cases o <;> cases g <;> kernel_rfl
theorem c_dec (m : Mac) (p q : Bool) (o g : Lo Mac) (a b : Bool) (ts : List Int) (K : Int) : Tr.follow [true, true, true, false, false, false, false, false, true, true, true, true, true, true, true, true, true, true, true, false, true] (cRound m p q o g (some (a, b, ts)) K) =
  some ([decide (K < (↑(ts).length : Int)),
  inB K ts.length,
  decide (K.toNat < ts.length),
  decide (elI ts K < (0 : Int)),
  false,
  decide ((4095 : Int) < elI ts K),
  false,
  false,
  decide ((0 : Int) < K),
  true,
  true,
  true,
  inR64 (K - (1 : Int)),
  true,
  inB (K - (1 : Int)) ts.length,
  true,
  decide ((K - (1 : Int)).toNat < ts.length),
  true,
  true,
  false,
  decide (elI ts K ≤ elI ts (K - 1))],
  (.ret, cSt m p q o g (some (a, b, ts)) K 2)) := by cases o <;> cases g <;> kernel_rfl
theorem i_end (a b : Bool) (ts : List Int) (x K : Int) : Tr.follow [false] (iRound (some (a, b, ts)) x K) =
  some ([decide (K < (↑(ts).length : Int))],
  (.exit 0, iSt (some (a, b, ts)) x K 0)) := by kernel_rfl
theorem i_hit (a b : Bool) (ts : List Int) (x K : Int) : Tr.follow [true, true, true, true] (iRound (some (a, b, ts)) x K) =
  some ([decide (K < (↑(ts).length : Int)),
  inB K ts.length,
  decide (K.toNat < ts.length),
  x == elI ts K],
  (.ret, iSt (some (a, b, ts)) x K K)) := by kernel_rfl
theorem i_nxt (a b : Bool) (ts : List Int) (x K : Int) : Tr.follow [true, true, true, false, true] (iRound (some (a, b, ts)) x K) =
  some ([decide (K < (↑(ts).length : Int)),
  inB K ts.length,
  decide (K.toNat < ts.length),
  x == elI ts K,
  inR64 (K + (1 : Int))],
  (.normal, iSt (some (a, b, ts)) x (K + 1) 0)) := by kernel_rfl
theorem a_end (a b : Bool) (ts : List Mac) (x : Mac) (K : Int) : Tr.follow [false] (aRound (some (a, b, ts)) x K) =
  some ([decide (K < (↑(ts).length : Int))],
  (.exit 0, aSt (some (a, b, ts)) x K 0)) := by kernel_rfl
theorem a_hit (a b : Bool) (ts : List Mac) (x : Mac) (K : Int) : Tr.follow [true, true, true, true] (aRound (some (a, b, ts)) x K) =
  some ([decide (K < (↑(ts).length : Int)),
  inB K ts.length,
  decide (K.toNat < ts.length),
  x.fst == (elA ts K).fst && (x.snd.fst == (elA ts K).snd.fst && (x.snd.snd.fst == (elA ts K).snd.snd.fst && (x.snd.snd.snd.fst == (elA ts K).snd.snd.snd.fst && (x.snd.snd.snd.snd.fst == (elA ts K).snd.snd.snd.snd.fst && (x.snd.snd.snd.snd.snd == (elA ts K).snd.snd.snd.snd.snd && true)))))],
  (.ret, aSt (some (a, b, ts)) x K K)) := by kernel_rfl
theorem a_nxt (a b : Bool) (ts : List Mac) (x : Mac) (K : Int) : Tr.follow [true, true, true, false, true] (aRound (some (a, b, ts)) x K) =
  some ([decide (K < (↑(ts).length : Int)),
  inB K ts.length,
  decide (K.toNat < ts.length),
  x.fst == (elA ts K).fst && (x.snd.fst == (elA ts K).snd.fst && (x.snd.snd.fst == (elA ts K).snd.snd.fst && (x.snd.snd.snd.fst == (elA ts K).snd.snd.snd.fst && (x.snd.snd.snd.snd.fst == (elA ts K).snd.snd.snd.snd.fst && (x.snd.snd.snd.snd.snd == (elA ts K).snd.snd.snd.snd.snd && true))))),
  inR64 (K + (1 : Int))],
  (.normal, aSt (some (a, b, ts)) x (K + 1) 0)) := by kernel_rfl

/-- A number that is amiss. -/
def badV (ts : List Int) (k : Nat) : Bool := decide (elI ts (k : Int) < 0) || (decide ((4095 : Int) < elI ts (k : Int)) || (decide (0 < (k : Int)) && decide (elI ts (k : Int) ≤ elI ts ((k : Int) - 1))))
theorem c_round {m : Mac} {p q : Bool} {o g : Lo Mac} {a b : Bool} {ts : List Int} {k : Nat} (hk : k < ts.length) (hl : ts.length ≤ 100000) :
    (cRound m p q o g (some (a, b, ts)) (k : Int)).get = bro (badV ts k) (some (.ret, cSt m p q o g (some (a, b, ts)) (k : Int) 2)) (some (.normal, cSt m p q o g (some (a, b, ts)) ((k + 1 : Nat) : Int) 0)) := by
  have k1 := decide_eq_true (show (k : Int) < (ts.length : Int) by omega)
  have k2 : Sx.inB (k : Int) ts.length = true := inB_mk ⟨by omega, by omega⟩
  have k3 := decide_eq_true (show ((k : Nat) : Int).toNat < ts.length by omega)
  have k4 : inR64 ((k : Int) + 1) = true := inR64_mk (by omega)
  unfold badV
  by_cases h1 : elI ts (k : Int) < 0
  · rw [decide_eq_true h1]
    exact Tr.follow_get (c_neg m p q o g a b ts k) (by simp only [k1, k2, k3, decide_eq_true h1])
  have e1 := decide_eq_false h1
  rw [e1]
  by_cases h2 : (4095 : Int) < elI ts (k : Int)
  · rw [decide_eq_true h2]
    exact Tr.follow_get (c_big m p q o g a b ts k) (by simp only [k1, k2, k3, e1, decide_eq_true h2])
  have e2 := decide_eq_false h2
  rw [e2]
  by_cases h3 : 0 < (k : Int)
  · have e3 := decide_eq_true h3
    have k5 : inR64 ((k : Int) - 1) = true := inR64_mk (by omega)
    have k6 : Sx.inB ((k : Int) - 1) ts.length = true := inB_mk ⟨by omega, by omega⟩
    have k7 := decide_eq_true (show ((k : Int) - 1).toNat < ts.length by omega)
    rw [e3]
    by_cases h4 : elI ts (k : Int) ≤ elI ts ((k : Int) - 1)
    · rw [decide_eq_true h4]
      exact Tr.follow_get (c_dec m p q o g a b ts k) (by simp only [k1, k2, k3, k5, k6, k7, e1, e2, e3, decide_eq_true h4])
    · rw [decide_eq_false h4]
      exact Tr.follow_get (c_ok m p q o g a b ts k) (by simp only [k1, k2, k3, k4, k5, k6, k7, e1, e2, e3, decide_eq_false h4])
  · have e3 := decide_eq_false h3
    rw [e3]
    exact Tr.follow_get (c_fst m p q o g a b ts k) (by simp only [k1, k2, k3, k4, e1, e2, e3])
theorem c_endN (m : Mac) (p q : Bool) (o g : Lo Mac) (K : Int) (hK : decide (K < 0) = false) : (cRound m p q o g none K).get = some (.exit 0, cSt m p q o g none K 0) := by
  have h : Tr.follow [false] (cRound m p q o g none K) = some ([decide (K < 0)], (.exit 0, cSt m p q o g none K 0)) := by cases o <;> cases g <;> kernel_rfl
  exact Tr.follow_get h (by rw [hK])
def isHS {α : Type} (s : SV) (o : Lo α) (k : Nat) : Bool := match o, s with
  | none, .raw (.slice none 0 0) => true
  | some _, .h i => Nat.beq i k
  | _, _ => false
theorem isHS_eq {α : Type} {s : SV} {o : Lo α} {k : Nat} (h : isHS s o k = true) : s = hS o k := by
  unfold isHS at h
  split at h
  · rfl
  · rw [Nat.eq_of_beq_eq_true h]
  · cases h
/-- The list in a slot, and in a filter behind a pointer. -/
def cLoop : LoopFn C24 := fun li => match li with
  | ⟨[.h 0, s, .raw (.int .i64 n), .raw (.int .i64 (.ofNat 0)), .raw (.int .i64 (.ofNat 0))], nb, .box cs 26 :: os⟩ => match fltD cs with
    | some (m, p, q, so, sg, sv) => match decI s 1 os with
      | some (v, os1) => match decM so (nx v 1) os1 with
        | some (o, os2) => match decM sg (nx o (nx v 1)) os2 with
          | some (g, []) => match Nat.beq nb (cNb o g v), isHS sv v 1 with
            | true, true => .br (n == ((lo v).length : Int)) (.br (decide ((lo v).length ≤ 100000)) (.br (noneP (badV (lo v)) (lo v).length) (.leaf (.exit 0, cSt m p q o g v ((lo v).length : Int) 0)) (.leaf (.ret, cSt m p q o g v (fstP (badV (lo v)) (lo v).length : Int) 2))) .fail) .fail
            | _, _ => .fail
          | _ => .fail
        | none => .fail
      | none => .fail
    | none => .fail
  | _ => .fail
theorem c_loop : loopOf Try.prog 11 0 = some (((loopOf Try.prog 11 0).get!).1, (loopOf Try.prog 11 0).get!.2) := by kernel_rfl
theorem cSt_len (m : Mac) (p q : Bool) (o g : Lo Mac) (v : Lo Int) (K R : Int) : (cSt m p q o g v K R).2.length = cNb o g v := by
  cases o <;> cases g <;> cases v <;> rfl
theorem cLoop_ok : ∀ tm hp n x, (loopS [1, 16, 17, 18, 2] [] cLoop tm hp n).get = some x → InLoop Try.prog ((loopOf Try.prog 11 0).get!).1 (loopOf Try.prog 11 0).get!.2 tm hp n fun e tm hp n => (e, tm, hp, n) = x := loopS_of fun li r h => by
  unfold cLoop at h
  split at h
  · rename_i s n nb cs os
    split at h
    · rename_i m p q so sg sv hcs
      split at h
      · rename_i v os1 h1
        split at h
        · rename_i o os3 h3
          split at h
          · rename_i g h4
            split at h
            · rename_i hnb hsv
              obtain ⟨rfl, rfl⟩ := decI_eq h1
              obtain ⟨rfl, rfl⟩ := decM_eq h3
              obtain ⟨rfl, rfl⟩ := decM_eq h4
              have hnb := Nat.eq_of_beq_eq_true hnb
              subst hnb
              obtain rfl := fltD_eq hcs
              obtain rfl := isHS_eq hsv
              clear h1 h3 h4 hcs hsv
              obtain ⟨hn0, hB⟩ := Tr.get_ask.1 h
              obtain ⟨hl, hC⟩ := Tr.get_ask.1 hB
              clear h hB
              have hn0 := eq_of_beq hn0
              subst hn0
              have hl : (lo v).length ≤ 100000 := of_decide_eq_true hl
              have hr : r.2.2 = (cSt m p q o g v 0 0).2 := by
                rcases Tr.get_br.1 hC with ⟨_, hD⟩ | ⟨_, hD⟩ <;> (simp only [Tr.get, Option.some.injEq] at hD; subst hD; rfl)
              have e1 : Sx.LI.mk [SV.h 0, hS v 1, .raw (.int .i64 ((lo v).length : Int)), .raw (.int .i64 (.ofNat 0)), .raw (.int .i64 (.ofNat 0))] (cNb o g v) (.box (fltL m p q (hS o (nx v 1)) (hS g (nx o (nx v 1))) (hS v 1)) 26 :: (obI v ++ (obM o ++ (obM g ++ [])))) = ⟨(cSt m p q o g v 0 0).1, cNb o g v, (cSt m p q o g v 0 0).2⟩ := by
                rw [List.append_nil]; rfl
              rw [e1]
              refine ⟨by rw [hr]; exact keeps_same (cSt_len m p q o g v 0 0).symm, ?_⟩
              refine scan_li (n := (lo v).length) (stN := fun k => cSt m p q o g v (k : Int) 0) (stR := fun k => cSt m p q o g v (k : Int) 2) (p := badV (lo v)) (d := 10) (unr := fun _ _ => 20) (sp := noSp) (ls := noLs) (b := 0) plain mixed noSp_ok noLs_ok c_loop (fun k hk => ?_) ?_ hC
              · cases v with
                | none => exact absurd hk (Nat.not_lt_zero _)
                | some x => obtain ⟨a, b, ts⟩ := x; exact c_round hk hl
              · cases v with
                | none => exact c_endN m p q o g _ (by decide)
                | some x => obtain ⟨a, b, ts⟩ := x; exact Tr.follow_get (c_end m p q o g a b ts _) (by rw [decide_eq_false (Int.lt_irrefl _)])
            · cases h
          · cases h
        · cases h
      · cases h
    · cases h
  · cases h
/-! ### Index -/
def eqI (ts : List Int) (x : Int) (k : Nat) : Bool := x == elI ts (k : Int)
def eqM (x y : Mac) : Bool := x.1 == y.1 && (x.2.1 == y.2.1 && (x.2.2.1 == y.2.2.1 && (x.2.2.2.1 == y.2.2.2.1 && (x.2.2.2.2.1 == y.2.2.2.2.1 && (x.2.2.2.2.2 == y.2.2.2.2.2 && true)))))
def eqA (ts : List Mac) (x : Mac) (k : Nat) : Bool := eqM x (elA ts (k : Int))
theorem i_endN (x K : Int) (hK : decide (K < 0) = false) : (iRound none x K).get = some (.exit 0, iSt none x K 0) := by
  have h : Tr.follow [false] (iRound none x K) = some ([decide (K < 0)], (.exit 0, iSt none x K 0)) := by kernel_rfl
  exact Tr.follow_get h (by rw [hK])
theorem a_endN (x : Mac) (K : Int) (hK : decide (K < 0) = false) : (aRound none x K).get = some (.exit 0, aSt none x K 0) := by
  have h : Tr.follow [false] (aRound none x K) = some ([decide (K < 0)], (.exit 0, aSt none x K 0)) := by kernel_rfl
  exact Tr.follow_get h (by rw [hK])
theorem i_round {a b : Bool} {ts : List Int} {x : Int} {k : Nat} (hk : k < ts.length) (hl : ts.length ≤ 100000) :
    (iRound (some (a, b, ts)) x (k : Int)).get = bro (eqI ts x k) (some (.ret, iSt (some (a, b, ts)) x (k : Int) (k : Int))) (some (.normal, iSt (some (a, b, ts)) x ((k + 1 : Nat) : Int) 0)) := by
  have k1 := decide_eq_true (show (k : Int) < (ts.length : Int) by omega)
  have k2 : Sx.inB (k : Int) ts.length = true := inB_mk ⟨by omega, by omega⟩
  have k3 := decide_eq_true (show ((k : Nat) : Int).toNat < ts.length by omega)
  have k4 : inR64 ((k : Int) + 1) = true := inR64_mk (by omega)
  unfold eqI
  cases h : (x == elI ts (k : Int)) with
  | true => exact Tr.follow_get (i_hit a b ts x k) (by simp only [k1, k2, k3, h])
  | false => exact Tr.follow_get (i_nxt a b ts x k) (by simp only [k1, k2, k3, k4, h])
theorem a_round {a b : Bool} {ts : List Mac} {x : Mac} {k : Nat} (hk : k < ts.length) (hl : ts.length ≤ 100000) :
    (aRound (some (a, b, ts)) x (k : Int)).get = bro (eqA ts x k) (some (.ret, aSt (some (a, b, ts)) x (k : Int) (k : Int))) (some (.normal, aSt (some (a, b, ts)) x ((k + 1 : Nat) : Int) 0)) := by
  have k1 := decide_eq_true (show (k : Int) < (ts.length : Int) by omega)
  have k2 : Sx.inB (k : Int) ts.length = true := inB_mk ⟨by omega, by omega⟩
  have k3 := decide_eq_true (show ((k : Nat) : Int).toNat < ts.length by omega)
  have k4 : inR64 ((k : Int) + 1) = true := inR64_mk (by omega)
  unfold eqA eqM
  have h1 := a_hit a b ts x k
  have h2 := a_nxt a b ts x k
  generalize (x.1 == (elA ts (k : Int)).1 && (x.2.1 == (elA ts (k : Int)).2.1 && (x.2.2.1 == (elA ts (k : Int)).2.2.1 && (x.2.2.2.1 == (elA ts (k : Int)).2.2.2.1 && (x.2.2.2.2.1 == (elA ts (k : Int)).2.2.2.2.1 && (x.2.2.2.2.2 == (elA ts (k : Int)).2.2.2.2.2 && true)))))) = c at h1 h2 ⊢
  cases c with
  | true => exact Tr.follow_get h1 (by simp only [k1, k2, k3])
  | false => exact Tr.follow_get h2 (by simp only [k1, k2, k3, k4])
def iLoop : LoopFn C24 := fun li => match li with
  | ⟨[s, .raw (.int .i64 x), .raw (.int .i64 n), .raw (.int .i64 (.ofNat 0)), .raw (.int .i64 (.ofNat 0))], nb, os⟩ => match decI s 0 os with
    | some (v, []) => match Nat.beq nb (nx v 0) with
      | true => .br (n == ((lo v).length : Int)) (.br (decide ((lo v).length ≤ 100000)) (.br (noneP (eqI (lo v) x) (lo v).length) (.leaf (.exit 0, iSt v x ((lo v).length : Int) 0)) (.leaf (.ret, iSt v x (fstP (eqI (lo v) x) (lo v).length : Int) (fstP (eqI (lo v) x) (lo v).length : Int)))) .fail) .fail
      | false => .fail
    | _ => .fail
  | _ => .fail
theorem i_loop : loopOf Try.prog 63 0 = some (((loopOf Try.prog 63 0).get!).1, (loopOf Try.prog 63 0).get!.2) := by kernel_rfl
theorem iLoop_ok : ∀ tm hp n x, (loopS [0, 1, 7, 8, 4] [] iLoop tm hp n).get = some x → InLoop Try.prog ((loopOf Try.prog 63 0).get!).1 (loopOf Try.prog 63 0).get!.2 tm hp n fun e tm hp n => (e, tm, hp, n) = x := loopS_of fun li r h => by
  unfold iLoop at h
  split at h
  · rename_i s x n nb os
    split at h
    · rename_i v h1
      split at h
      · rename_i hnb
        obtain ⟨rfl, rfl⟩ := decI_eq h1
        have hnb := Nat.eq_of_beq_eq_true hnb
        subst hnb
        clear h1
        obtain ⟨hn0, hB⟩ := Tr.get_ask.1 h
        obtain ⟨hl, hC⟩ := Tr.get_ask.1 hB
        clear h hB
        have hn0 := eq_of_beq hn0
        subst hn0
        have hl : (lo v).length ≤ 100000 := of_decide_eq_true hl
        have hr : r.2.2 = (iSt v x 0 0).2 := by
          rcases Tr.get_br.1 hC with ⟨_, hD⟩ | ⟨_, hD⟩ <;> (simp only [Tr.get, Option.some.injEq] at hD; subst hD; rfl)
        have e1 : Sx.LI.mk [hS v 0, .raw (.int .i64 x), .raw (.int .i64 ((lo v).length : Int)), .raw (.int .i64 (.ofNat 0)), .raw (.int .i64 (.ofNat 0))] (nx v 0) (obI v ++ []) = ⟨(iSt v x 0 0).1, nx v 0, (iSt v x 0 0).2⟩ := by
          rw [List.append_nil]; rfl
        rw [e1]
        refine ⟨by rw [hr]; exact keeps_same (by cases v <;> rfl), ?_⟩
        refine scan_li (n := (lo v).length) (stN := fun k => iSt v x (k : Int) 0) (stR := fun k => iSt v x (k : Int) (k : Int)) (p := eqI (lo v) x) (d := 10) (unr := fun _ _ => 20) (sp := noSp) (ls := noLs) (b := 0) plain mixed noSp_ok noLs_ok i_loop (fun k hk => ?_) ?_ hC
        · cases v with
          | none => exact absurd hk (Nat.not_lt_zero _)
          | some y => obtain ⟨a, b, ts⟩ := y; exact i_round hk hl
        · cases v with
          | none => exact i_endN x _ (by decide)
          | some y => obtain ⟨a, b, ts⟩ := y; exact Tr.follow_get (i_end a b ts x _) (by rw [decide_eq_false (Int.lt_irrefl _)])
      · cases h
    · cases h
  · cases h
def mac1D (cs : List SV) : Option Mac := match cs with
  | [a0, a1, a2, a3, a4, a5] => macD a0 a1 a2 a3 a4 a5
  | _ => none
theorem mac1D_eq {cs : List SV} {m : Mac} (h : mac1D cs = some m) : cs = macL m := by
  unfold mac1D at h
  split at h
  · exact macD_eq h
  · cases h
def aLoop : LoopFn C24 := fun li => match li with
  | ⟨[s, .h j, .raw (.int .i64 n), .raw (.int .i64 (.ofNat 0)), .raw (.int .i64 (.ofNat 0))], nb, os⟩ => match decM s 0 os with
    | some (v, [.box cs 22]) => match mac1D cs with
      | some x => match Nat.beq nb (nx v 0 + 1), Nat.beq j (nx v 0) with
        | true, true => .br (n == ((lo v).length : Int)) (.br (decide ((lo v).length ≤ 100000)) (.br (noneP (eqA (lo v) x) (lo v).length) (.leaf (.exit 0, aSt v x ((lo v).length : Int) 0)) (.leaf (.ret, aSt v x (fstP (eqA (lo v) x) (lo v).length : Int) (fstP (eqA (lo v) x) (lo v).length : Int)))) .fail) .fail
        | _, _ => .fail
      | none => .fail
    | _ => .fail
  | _ => .fail
theorem a_loop : loopOf Try.prog 64 0 = some (((loopOf Try.prog 64 0).get!).1, (loopOf Try.prog 64 0).get!.2) := by kernel_rfl
theorem aLoop_ok : ∀ tm hp n x, (loopS [0, 3, 7, 8, 4] [] aLoop tm hp n).get = some x → InLoop Try.prog ((loopOf Try.prog 64 0).get!).1 (loopOf Try.prog 64 0).get!.2 tm hp n fun e tm hp n => (e, tm, hp, n) = x := loopS_of fun li r h => by
  unfold aLoop at h
  split at h
  · rename_i s j n nb os
    split at h
    · rename_i v cs h1
      split at h
      · rename_i x hx
        split at h
        · rename_i hnb hj
          obtain ⟨rfl, rfl⟩ := decM_eq h1
          have hnb := Nat.eq_of_beq_eq_true hnb
          have hj := Nat.eq_of_beq_eq_true hj
          subst hnb hj
          obtain rfl := mac1D_eq hx
          clear h1 hx
          obtain ⟨hn0, hB⟩ := Tr.get_ask.1 h
          obtain ⟨hl, hC⟩ := Tr.get_ask.1 hB
          clear h hB
          have hn0 := eq_of_beq hn0
          subst hn0
          have hl : (lo v).length ≤ 100000 := of_decide_eq_true hl
          have hr : r.2.2 = (aSt v x 0 0).2 := by
            rcases Tr.get_br.1 hC with ⟨_, hD⟩ | ⟨_, hD⟩ <;> (simp only [Tr.get, Option.some.injEq] at hD; subst hD; rfl)
          refine ⟨by rw [hr]; exact keeps_same (by cases v <;> rfl), ?_⟩
          refine scan_li (n := (lo v).length) (stN := fun k => aSt v x (k : Int) 0) (stR := fun k => aSt v x (k : Int) (k : Int)) (p := eqA (lo v) x) (d := 10) (unr := fun _ _ => 20) (sp := noSp) (ls := noLs) (b := 0) plain mixed noSp_ok noLs_ok a_loop (fun k hk => ?_) ?_ hC
          · cases v with
            | none => exact absurd hk (Nat.not_lt_zero _)
            | some y => obtain ⟨a, b, ts⟩ := y; exact a_round hk hl
          · cases v with
            | none => exact a_endN x _ (by decide)
            | some y => obtain ⟨a, b, ts⟩ := y; exact Tr.follow_get (a_end a b ts x _) (by rw [decide_eq_false (Int.lt_irrefl _)])
        · cases h
      · cases h
    · cases h
  · cases h
def lsF : LoopT C24 := Sx.addL 11 0 (loopS [1, 16, 17, 18, 2] [] cLoop) (Sx.addL 63 0 (loopS [0, 1, 7, 8, 4] [] iLoop) (Sx.addL 64 0 (loopS [0, 3, 7, 8, 4] [] aLoop) noLs))
theorem lsF_ok : LoopTOk Try.prog lsF := addL_ok c_loop cLoop_ok (addL_ok i_loop iLoop_ok (addL_ok a_loop aLoop_ok noLs_ok))
abbrev unF (g b : Nat) : Nat := match g, b with
  | 11, 0 => 0 | 63, 0 => 0 | 64, 0 => 0 | _, _ => 20
end
end Go.Proofs.Ytgepgnjjhgmfnaa
