/-
  Chapter 8: the loops of the free list, reckoned. Own work; nothing here is trusted.
-/
import Derived.Test.YtkhlmlcjedbkcaaCh08Law
namespace Go.Proofs.Ytkhlmlcjedbkcaa
open Go Go.Sx Go.RowKit
set_option maxRecDepth 1000000
set_option maxHeartbeats 8000000
set_option linter.unusedVariables false
set_option linter.unusedSimpArgs false
noncomputable section
theorem getD_drop {ts : List Int} {i : Nat} (hi : i < ts.length) : ts.drop i = ts.getD i 0 :: ts.drop (i + 1) := by
  rw [List.drop_eq_getElem_cons hi, List.getD_eq_getElem?_getD, List.getElem?_eq_getElem hi]; rfl
def eqL (ts us : List Int) : Bool := ts == us
def small (ts : List Int) : Bool := decide (ts.length ≤ 1000)
/-! ### Ints and Equal -/
theorem e_path (o1 f1 o2 f2 : Bool) (ts us : List Int) (i : Int) : Tr.follow [true, true, true, true, true, false, true] (eRound o1 f1 o2 f2 ts us i) = some ([decide (i < (ts.length : Int)), inB i ts.length, decide (i.toNat < ts.length), inB i us.length, decide (i.toNat < us.length), ts.getD i.toNat 0 != us.getD i.toNat 0, inR64 (i + 1)], (.normal, eSt o1 f1 o2 f2 ts us (i + 1))) := by kernel_rfl
theorem e_end (o1 f1 o2 f2 : Bool) (ts us : List Int) (i : Int) : Tr.follow [false] (eRound o1 f1 o2 f2 ts us i) = some ([decide (i < (ts.length : Int))], (.exit 0, eSt o1 f1 o2 f2 ts us i)) := by kernel_rfl
theorem q_path (o1 f1 o2 f2 : Bool) (ts us : List Int) (i : Int) : Tr.follow [true, true, true, true, true, false, true] (qRound o1 f1 o2 f2 ts us i) = some ([decide (i < (ts.length : Int)), inB i ts.length, decide (i.toNat < ts.length), inB i us.length, decide (i.toNat < us.length), ts.getD i.toNat 0 != us.getD i.toNat 0, inR64 (i + 1)], (.normal, qSt o1 f1 o2 f2 ts us (i + 1))) := by kernel_rfl
theorem q_end (o1 f1 o2 f2 : Bool) (ts us : List Int) (i : Int) : Tr.follow [false] (qRound o1 f1 o2 f2 ts us i) = some ([decide (i < (ts.length : Int))], (.exit 0, qSt o1 f1 o2 f2 ts us i)) := by kernel_rfl
def eLoop : LoopFn C8 := fun li => match li with
  | ⟨[.h 0, .h 1, .raw (.int .i64 (.ofNat 0)), .raw (.bool false)], 2, [.sl o1 f1 3 ts, .sl o2 f2 3 us]⟩ => .br (eqL ts us && small ts) (.leaf (.exit 0, eSt o1 f1 o2 f2 ts us (ts.length : Int))) .fail
  | _ => .fail
def qLoop : LoopFn C8 := fun li => match li with
  | ⟨[.h 0, .h 1, .raw (.int .i64 n), .raw (.int .i64 (.ofNat 0)), .raw (.bool false)], 2, [.sl o1 f1 3 ts, .sl o2 f2 3 us]⟩ => .br (n == (ts.length : Int)) (.br (eqL ts us && small ts) (.leaf (.exit 0, qSt o1 f1 o2 f2 ts us (ts.length : Int))) .fail) .fail
  | _ => .fail
theorem e_loop : loopOf Try.prog 11 0 = some (26, (loopOf Try.prog 11 0).get!.2) := by kernel_rfl
theorem q_loop : loopOf Try.prog 18 0 = some (26, (loopOf Try.prog 18 0).get!.2) := by kernel_rfl
theorem eLoop_ok : ∀ tm hp n x, (loopS [0, 1, 5, 4] [] eLoop tm hp n).get = some x → InLoop Try.prog 26 (loopOf Try.prog 11 0).get!.2 tm hp n fun e tm hp n => (e, tm, hp, n) = x := loopS_of fun li r h => by
  unfold eLoop at h
  split at h
  · rename_i o1 f1 ts o2 f2 us
    obtain ⟨hs, h2⟩ := Tr.get_ask.1 h
    simp only [Tr.get, Option.some.injEq] at h2
    subst h2
    rw [Bool.and_eq_true] at hs
    change List Int at ts us
    obtain rfl : ts = us := eq_of_beq hs.1
    have hl : ts.length ≤ 1000 := of_decide_eq_true hs.2
    refine ⟨Keeps.of (Nat.le_refl 2) rfl (fun o ho => by cases ho), ?_⟩
    refine loop_li (σ := Nat) (st := fun x => eSt o1 f1 o2 f2 ts ts (x : Int)) (Inv := fun x => x ≤ ts.length) (μ := fun x => ts.length - x) (d := 10) (unr := fun _ _ => 20) (sp := noSp) (ls := noLs) plain mixed noSp_ok noLs_ok e_loop (fun n hn => ?_) 0 (Nat.zero_le _)
    by_cases h5 : n < ts.length
    · refine ⟨_, Tr.follow_get (e_path o1 f1 o2 f2 ts ts (n : Int)) ?_, fun _ => ⟨n + 1, by omega, by omega, rfl⟩, nofun⟩
      rw [decide_eq_true (show (n : Int) < (ts.length : Int) by omega), inB_mk ⟨by omega, by omega⟩, decide_eq_true (show ((n : Int)).toNat < ts.length by exact h5), inR64_mk (by omega), bne_self_eq_false' _]
    · have : n = ts.length := by omega
      subst this
      exact ⟨_, Tr.follow_get (e_end o1 f1 o2 f2 ts ts _) (by rw [decide_eq_false (by omega)]), nofun, fun _ => ⟨rfl, rfl⟩⟩
  · cases h
theorem qLoop_ok : ∀ tm hp n x, (loopS [0, 1, 12, 13, 4] [] qLoop tm hp n).get = some x → InLoop Try.prog 26 (loopOf Try.prog 18 0).get!.2 tm hp n fun e tm hp n => (e, tm, hp, n) = x := loopS_of fun li r h => by
  unfold qLoop at h
  split at h
  · rename_i n0 o1 f1 ts o2 f2 us
    obtain ⟨hn0, h⟩ := Tr.get_ask.1 h
    obtain ⟨hs, h2⟩ := Tr.get_ask.1 h
    simp only [Tr.get, Option.some.injEq] at h2
    subst h2
    rw [Bool.and_eq_true] at hs
    have hn0 := eq_of_beq hn0
    subst hn0
    change List Int at ts us
    obtain rfl : ts = us := eq_of_beq hs.1
    have hl : ts.length ≤ 1000 := of_decide_eq_true hs.2
    refine ⟨Keeps.of (Nat.le_refl 2) rfl (fun o ho => by cases ho), ?_⟩
    refine loop_li (σ := Nat) (st := fun x => qSt o1 f1 o2 f2 ts ts (x : Int)) (Inv := fun x => x ≤ ts.length) (μ := fun x => ts.length - x) (d := 10) (unr := fun _ _ => 20) (sp := noSp) (ls := noLs) plain mixed noSp_ok noLs_ok q_loop (fun n hn => ?_) 0 (Nat.zero_le _)
    by_cases h5 : n < ts.length
    · refine ⟨_, Tr.follow_get (q_path o1 f1 o2 f2 ts ts (n : Int)) ?_, fun _ => ⟨n + 1, by omega, by omega, rfl⟩, nofun⟩
      rw [decide_eq_true (show (n : Int) < (ts.length : Int) by omega), inB_mk ⟨by omega, by omega⟩, decide_eq_true (show ((n : Int)).toNat < ts.length by exact h5), inR64_mk (by omega), bne_self_eq_false' _]
    · have : n = ts.length := by omega
      subst this
      exact ⟨_, Tr.follow_get (q_end o1 f1 o2 f2 ts ts _) (by rw [decide_eq_false (by omega)]), nofun, fun _ => ⟨rfl, rfl⟩⟩
  · cases h
/-! ### New -/
def upto : Nat → List Int
  | 0 => []
  | n + 1 => upto n ++ [(n : Int)]
theorem upto_len : ∀ n, (upto n).length = n
  | 0 => rfl
  | n + 1 => by simp [upto, upto_len n]
theorem nw_p0 (n i : Int) : Tr.follow [true, true, false, true] (nwRound0 n i) = some ([decide (i < n), true, false, inR64 (i + 1)], (.normal, nwSt1 n (i + 1) false [i])) := by kernel_rfl
theorem nw_p1 (n i : Int) (ts : List Int) : Tr.follow [true, true, true] (nwRound1 n i false ts) = some ([decide (i < n), roomB (ts.length + [i].length) Try.prog.types[(3 : Nat)].bytes, inR64 (i + 1)], (.normal, nwSt1 n (i + 1) false (ts ++ [i]))) := by kernel_rfl
theorem nw_e1 (n i : Int) (ts : List Int) : Tr.follow [false] (nwRound1 n i false ts) = some ([decide (i < n)], (.exit 0, nwSt1 n i false ts)) := by kernel_rfl
def nwLoop : LoopFn C8 := fun li => match li with
  | ⟨[.raw (.int .i64 n), .raw (.int .i64 (.ofNat 0)), .h 0, .h 1, .raw (.int .i64 (.ofNat 0))], 2, [.box [.raw (.int .i64 n2), .raw (.slice none 0 0)] 26, .box [.raw (.int .i64 (.ofNat 0)), .raw (.slice none 0 0)] 26]⟩ =>
    .br (n2 == n && decide (1 ≤ n ∧ n ≤ 1000)) (.leaf (.exit 0, nwSt1 n n false (upto n.toNat))) .fail
  | _ => .fail
theorem nw_loop : loopOf Try.prog 8 0 = some (27, (loopOf Try.prog 8 0).get!.2) := by kernel_rfl
@[reducible] noncomputable def nwAt (n : Int) : Nat → List SV × List (SO C8)
  | 0 => nwSt0 n 0
  | k + 1 => nwSt1 n ((k + 1 : Nat) : Int) false (upto (k + 1))
theorem nwLoop_ok : ∀ tm hp n x, (loopS [15, 16, 4, 2, 3] [] nwLoop tm hp n).get = some x → InLoop Try.prog 27 (loopOf Try.prog 8 0).get!.2 tm hp n fun e tm hp n => (e, tm, hp, n) = x := loopS_of fun li r h => by
  unfold nwLoop at h
  split at h
  · rename_i n n2
    obtain ⟨hs, h2⟩ := Tr.get_ask.1 h
    simp only [Tr.get, Option.some.injEq] at h2
    subst h2
    rw [Bool.and_eq_true] at hs
    obtain rfl := eq_of_beq hs.1
    have hn := of_decide_eq_true hs.2
    obtain ⟨N, rfl⟩ := Int.eq_ofNat_of_zero_le (show 0 ≤ n2 by omega)
    refine ⟨Keeps.of (show 2 ≤ 3 by decide) rfl (fun o ho => by simp at ho; subst ho; rfl), ?_⟩
    refine loop_li (σ := Nat) (st := nwAt (N : Int)) (Inv := fun k => k ≤ N) (μ := fun k => N - k) (d := 10) (unr := fun _ _ => 20) (sp := noSp) (ls := noLs) plain mixed noSp_ok noLs_ok nw_loop (fun k hk => ?_) 0 (Nat.zero_le _)
    by_cases h5 : k < N
    · match k with
      | 0 =>
        refine ⟨_, Tr.follow_get (nw_p0 (N : Int) 0) ?_, fun _ => ⟨1, by omega, by omega, rfl⟩, nofun⟩
        rw [decide_eq_true (show (0 : Int) < (N : Int) by omega)]; rfl
      | k + 1 =>
        refine ⟨_, Tr.follow_get (nw_p1 (N : Int) ((k + 1 : Nat) : Int) (upto (k + 1))) ?_, fun _ => ⟨k + 1 + 1, by omega, by omega, rfl⟩, nofun⟩
        rw [decide_eq_true (show ((k + 1 : Nat) : Int) < (N : Int) by omega), inR64_mk (by omega), upto_len,
          show roomB (k + 1 + [((k + 1 : Nat) : Int)].length) Try.prog.types[(3 : Nat)].bytes = true from decide_eq_true (by
            show (k + 1 + 1) * 8 ≤ 140737488355328
            omega)]
    · have : k = N := by omega
      subst this
      match k with
      | 0 => omega
      | k + 1 =>
        exact ⟨_, Tr.follow_get (nw_e1 _ ((k + 1 : Nat) : Int) (upto (k + 1))) (by rw [decide_eq_false (by omega)]), nofun, fun _ => ⟨rfl, rfl⟩⟩
  · cases h
end
end Go.Proofs.Ytkhlmlcjedbkcaa
