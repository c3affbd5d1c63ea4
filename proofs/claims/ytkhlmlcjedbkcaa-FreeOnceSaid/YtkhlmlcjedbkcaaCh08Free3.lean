/-
  Chapter 8: the loops over a bitmap (printed by a program of our own). Own work; nothing here is trusted.
-/
import Derived.Test.YtkhlmlcjedbkcaaCh08Free2
namespace Go.Proofs.Ytkhlmlcjedbkcaa
open Go Go.Sx Go.RowKit
set_option maxRecDepth 1000000
set_option maxHeartbeats 8000000
set_option linter.unusedVariables false
set_option linter.unusedSimpArgs false
noncomputable section
theorem b_path (own full f : Bool) (size : Int) (ts m : List Int) (i : Int) : Tr.follow [true, true, true, false, false, false, false, false, false, false, false, true, false, true, false, true, false, false, false, false, false, false, false, false, false, true, true, true, false, false, true, true, true] (bRound own full f size ts m i) = some ([decide (i < (ts.length : Int)), Sx.inB i ts.length, decide (i.toNat < ts.length), decide (ts.getD i.toNat 0 < 0), false, false, false, decide (size ≤ ts.getD i.toNat 0), false, false, false, inR64 (Int.tdiv (ts.getD i.toNat 0) 64), false, Sx.inB (Int.tdiv (ts.getD i.toNat 0) 64) m.length, false, decide ((Int.tdiv (ts.getD i.toNat 0) 64).toNat < m.length), false, false, false, false, decide (Int.tmod (ts.getD i.toNat 0) 64 < 0), false, false, bitOf m (ts.getD i.toNat 0), false, inR64 (Int.tdiv (ts.getD i.toNat 0) 64), Sx.inB (Int.tdiv (ts.getD i.toNat 0) 64) m.length, decide ((Int.tdiv (ts.getD i.toNat 0) 64).toNat < m.length), false, decide (Int.tmod (ts.getD i.toNat 0) 64 < 0), Sx.inB (Int.tdiv (ts.getD i.toNat 0) 64) m.length, decide ((Int.tdiv (ts.getD i.toNat 0) 64).toNat < m.length), inR64 (i + 1)], (.normal, bSt own full f size ts (setOf m (ts.getD i.toNat 0)) (i + 1))) := by kernel_rfl
theorem b_end (own full f : Bool) (size : Int) (ts m : List Int) (i : Int) : Tr.follow [false] (bRound own full f size ts m i) = some ([decide (i < (ts.length : Int))], (.exit 0, bSt own full f size ts m i)) := by kernel_rfl
theorem a_path (own full o2 f2 f : Bool) (size : Int) (ts us m : List Int) (i : Int) : Tr.follow [true, true, true, false, false, false, false, false, true] (aRound own full o2 f2 f size ts us m i) = some ([decide (i < (us.length : Int)), Sx.inB i us.length, decide (i.toNat < us.length), decide (us.getD i.toNat 0 < 0), false, false, false, decide (size ≤ us.getD i.toNat 0), inR64 (i + 1)], (.normal, aSt own full o2 f2 f size ts us m (i + 1))) := by kernel_rfl
theorem a_end (own full o2 f2 f : Bool) (size : Int) (ts us m : List Int) (i : Int) : Tr.follow [false] (aRound own full o2 f2 f size ts us m i) = some ([decide (i < (us.length : Int))], (.exit 0, aSt own full o2 f2 f size ts us m i)) := by kernel_rfl
theorem c_path (own full o2 f2 f : Bool) (size : Int) (ts us m : List Int) (i : Int) : Tr.follow [true, true, true, false, true, true, true, false, false, false, false, true, true, true, false, false, true, true, true] (cRound own full o2 f2 f size ts us m i) = some ([decide (i < (us.length : Int)), Sx.inB i us.length, decide (i.toNat < us.length), false, inR64 (Int.tdiv (us.getD i.toNat 0) 64), Sx.inB (Int.tdiv (us.getD i.toNat 0) 64) m.length, decide ((Int.tdiv (us.getD i.toNat 0) 64).toNat < m.length), false, decide (Int.tmod (us.getD i.toNat 0) 64 < 0), bitOf m (us.getD i.toNat 0), false, inR64 (Int.tdiv (us.getD i.toNat 0) 64), Sx.inB (Int.tdiv (us.getD i.toNat 0) 64) m.length, decide ((Int.tdiv (us.getD i.toNat 0) 64).toNat < m.length), false, decide (Int.tmod (us.getD i.toNat 0) 64 < 0), Sx.inB (Int.tdiv (us.getD i.toNat 0) 64) m.length, decide ((Int.tdiv (us.getD i.toNat 0) 64).toNat < m.length), inR64 (i + 1)], (.normal, cSt own full o2 f2 f size ts us (setOf m (us.getD i.toNat 0)) (i + 1))) := by kernel_rfl
theorem c_end (own full o2 f2 f : Bool) (size : Int) (ts us m : List Int) (i : Int) : Tr.follow [false] (cRound own full o2 f2 f size ts us m i) = some ([decide (i < (us.length : Int))], (.exit 2, cSt own full o2 f2 f size ts us m i)) := by kernel_rfl
def fits (size : Int) (ts m : List Int) : Bool := decide (size ≤ 1000 ∧ size ≤ 64 * (m.length : Int) ∧ ts.length ≤ 1000)
def inAll (size : Int) (ts : List Int) : Bool := ts.all (inS size)
def bLoop : LoopFn C8 := fun li => match li with
  | ⟨[.h 0, .h 1, .h 2, .raw (.int .i64 n), .raw (.int .i64 (.ofNat 0)), .raw (.slice none 0 0), .raw (.bool false)], 3, [.box [.raw (.int .i64 size), .h 2] 26, .sl true f 45 m, .sl own full 3 ts]⟩ =>
    .br (n == (ts.length : Int)) (.br (fits size ts m) (.br (addOk size ts m) (.leaf (.exit 0, bSt own full f size ts (addL ts m) (ts.length : Int))) .fail) .fail) .fail
  | _ => .fail
def aLoop : LoopFn C8 := fun li => match li with
  | ⟨[.h 0, .h 1, .h 2, .h 3, .h 3, .raw (.int .i64 n), .raw (.int .i64 (.ofNat 0)), .raw (.int .i64 (.ofNat 0))], 5, [.box [.raw (.int .i64 size), .h 4] 26, .box [.raw (.int .i64 (.ofNat 0)), .raw (.slice none 0 0)] 26, .sl true f 45 m, .sl o2 f2 3 us, .sl own full 3 ts]⟩ =>
    .br (n == (us.length : Int)) (.br (inAll size us && small us) (.leaf (.exit 0, aSt own full o2 f2 f size ts us m (us.length : Int))) .fail) .fail
  | _ => .fail
def cLoop : LoopFn C8 := fun li => match li with
  | ⟨[.h 0, .h 1, .h 2, .h 3, .h 3, .raw (.int .i64 n), .raw (.int .i64 (.ofNat 0)), .raw (.int .i64 (.ofNat 0))], 5, [.box [.raw (.int .i64 size), .h 4] 26, .box [.raw (.int .i64 (.ofNat 0)), .raw (.slice none 0 0)] 26, .sl true f 45 m, .sl o2 f2 3 us, .sl own full 3 ts]⟩ =>
    .br (n == (us.length : Int)) (.br (fits size us m) (.br (addOk size us m) (.leaf (.exit 2, cSt own full o2 f2 f size ts us (addL us m) (us.length : Int))) .fail) .fail) .fail
  | _ => .fail
theorem b_loop : loopOf Try.prog 17 0 = some (67, (loopOf Try.prog 17 0).get!.2) := by kernel_rfl
theorem a_loop : loopOf Try.prog 10 0 = some (79, (loopOf Try.prog 10 0).get!.2) := by kernel_rfl
theorem c_loop : loopOf Try.prog 10 2 = some (79, (loopOf Try.prog 10 2).get!.2) := by kernel_rfl
theorem word_in {size x : Int} {m : List Int} (hx : 0 ≤ x ∧ x < size) (hs : size ≤ 1000 ∧ size ≤ 64 * (m.length : Int)) : inR64 (Int.tdiv x 64) = true ∧ Sx.inB (Int.tdiv x 64) m.length = true ∧ decide ((Int.tdiv x 64).toNat < m.length) = true ∧ decide (Int.tmod x 64 < 0) = false := by
  obtain ⟨x1, x2, x3, x4⟩ := wi_bi hx.1
  unfold wi bi at *
  exact ⟨inR64_mk (by omega), inB_mk ⟨by omega, by omega⟩, decide_eq_true (by omega), decide_eq_false (by omega)⟩
theorem bLoop_ok : ∀ tm hp n x, (loopS [1, 4, 29, 30, 31, 2, 3] [] bLoop tm hp n).get = some x → InLoop Try.prog 67 (loopOf Try.prog 17 0).get!.2 tm hp n fun e tm hp n => (e, tm, hp, n) = x := loopS_of fun li r h => by
  unfold bLoop at h
  split at h
  · rename_i n size f m own full ts
    obtain ⟨hn0, h⟩ := Tr.get_ask.1 h
    obtain ⟨hs, h⟩ := Tr.get_ask.1 h
    obtain ⟨hk, h2⟩ := Tr.get_ask.1 h
    simp only [Tr.get, Option.some.injEq] at h2
    subst h2
    have hn0 := eq_of_beq hn0
    subst hn0
    change List Int at ts m
    have hs : size ≤ 1000 ∧ size ≤ 64 * (m.length : Int) ∧ ts.length ≤ 1000 := of_decide_eq_true hs
    refine ⟨Keeps.of (Nat.le_refl 3) rfl (fun o ho => by cases ho), ?_⟩
    generalize hS : addL ts m = S
    refine loop_li (σ := Nat × List Int) (st := fun x => bSt own full f size ts x.2 (x.1 : Int)) (Inv := fun x => x.1 ≤ ts.length ∧ x.2.length = m.length ∧ addOk size (ts.drop x.1) x.2 = true ∧ addL (ts.drop x.1) x.2 = S) (μ := fun x => ts.length - x.1) (d := 10) (unr := fun _ _ => 20) (sp := noSp) (ls := noLs) plain mixed noSp_ok noLs_ok b_loop (fun x hx => ?_) (0, m) ⟨Nat.zero_le _, rfl, hk, hS⟩
    obtain ⟨k, m'⟩ := x
    obtain ⟨hi, hl, hok, hf⟩ := hx
    simp only at hi hl hok hf
    by_cases h5 : k < ts.length
    · rw [getD_drop h5] at hok hf
      simp only [addOk, inS, Bool.and_eq_true, Bool.not_eq_true'] at hok
      obtain ⟨hr, hb, hok⟩ := hok
      have hr := of_decide_eq_true hr
      obtain ⟨w1, w2, w3, w4⟩ := word_in (m := m') hr ⟨hs.1, by rw [hl]; exact hs.2.1⟩
      have hp := b_path own full f size ts m' (k : Int)
      rw [show ((k : Nat) : Int).toNat = k from rfl] at hp
      simp only [decide_eq_true (show (k : Int) < (ts.length : Int) by omega), inB_mk (i := (k : Int)) (n := ts.length) ⟨by omega, by omega⟩, decide_eq_true h5, decide_eq_false (show ¬ ts.getD k 0 < 0 by omega), decide_eq_false (show ¬ size ≤ ts.getD k 0 by omega), w1, w2, w3, w4, hb, inR64_mk (r := (k : Int) + 1) (by omega)] at hp
      exact ⟨_, Tr.follow_get hp rfl, fun _ => ⟨(k + 1, setOf m' (ts.getD k 0)), ⟨by omega, by rw [set_len]; exact hl, hok, hf⟩, by simp only; omega, rfl⟩, nofun⟩
    · have : k = ts.length := by omega
      subst this
      have hs' : m' = S := by rw [List.drop_length] at hf; exact hf
      subst hs'
      exact ⟨_, Tr.follow_get (b_end own full f size ts m' _) (by rw [decide_eq_false (by omega)]), nofun, fun _ => ⟨rfl, rfl⟩⟩
  · cases h
theorem cLoop_ok : ∀ tm hp n x, (loopS [2, 4, 6, 1, 37, 38, 39, 5] [] cLoop tm hp n).get = some x → InLoop Try.prog 79 (loopOf Try.prog 10 2).get!.2 tm hp n fun e tm hp n => (e, tm, hp, n) = x := loopS_of fun li r h => by
  unfold cLoop at h
  split at h
  · rename_i n size f m o2 f2 us own full ts
    obtain ⟨hn0, h⟩ := Tr.get_ask.1 h
    obtain ⟨hs, h⟩ := Tr.get_ask.1 h
    obtain ⟨hk, h2⟩ := Tr.get_ask.1 h
    simp only [Tr.get, Option.some.injEq] at h2
    subst h2
    have hn0 := eq_of_beq hn0
    subst hn0
    change List Int at ts us m
    have hs : size ≤ 1000 ∧ size ≤ 64 * (m.length : Int) ∧ us.length ≤ 1000 := of_decide_eq_true hs
    refine ⟨Keeps.of (Nat.le_refl 5) rfl (fun o ho => by cases ho), ?_⟩
    generalize hS : addL us m = S
    refine loop_li (σ := Nat × List Int) (st := fun x => cSt own full o2 f2 f size ts us x.2 (x.1 : Int)) (Inv := fun x => x.1 ≤ us.length ∧ x.2.length = m.length ∧ addOk size (us.drop x.1) x.2 = true ∧ addL (us.drop x.1) x.2 = S) (μ := fun x => us.length - x.1) (d := 10) (unr := fun _ _ => 20) (sp := noSp) (ls := noLs) plain mixed noSp_ok noLs_ok c_loop (fun x hx => ?_) (0, m) ⟨Nat.zero_le _, rfl, hk, hS⟩
    obtain ⟨k, m'⟩ := x
    obtain ⟨hi, hl, hok, hf⟩ := hx
    simp only at hi hl hok hf
    by_cases h5 : k < us.length
    · rw [getD_drop h5] at hok hf
      simp only [addOk, inS, Bool.and_eq_true, Bool.not_eq_true'] at hok
      obtain ⟨hr, hb, hok⟩ := hok
      have hr := of_decide_eq_true hr
      obtain ⟨w1, w2, w3, w4⟩ := word_in (m := m') hr ⟨hs.1, by rw [hl]; exact hs.2.1⟩
      have hp := c_path own full o2 f2 f size ts us m' (k : Int)
      rw [show ((k : Nat) : Int).toNat = k from rfl] at hp
      simp only [decide_eq_true (show (k : Int) < (us.length : Int) by omega), inB_mk (i := (k : Int)) (n := us.length) ⟨by omega, by omega⟩, decide_eq_true h5, decide_eq_false (show ¬ us.getD k 0 < 0 by omega), decide_eq_false (show ¬ size ≤ us.getD k 0 by omega), w1, w2, w3, w4, hb, inR64_mk (r := (k : Int) + 1) (by omega)] at hp
      exact ⟨_, Tr.follow_get hp rfl, fun _ => ⟨(k + 1, setOf m' (us.getD k 0)), ⟨by omega, by rw [set_len]; exact hl, hok, hf⟩, by simp only; omega, rfl⟩, nofun⟩
    · have : k = us.length := by omega
      subst this
      have hs' : m' = S := by rw [List.drop_length] at hf; exact hf
      subst hs'
      exact ⟨_, Tr.follow_get (c_end own full o2 f2 f size ts us m' _) (by rw [decide_eq_false (by omega)]), nofun, fun _ => ⟨rfl, rfl⟩⟩
  · cases h
theorem aLoop_ok : ∀ tm hp n x, (loopS [2, 4, 6, 1, 21, 22, 23, 5] [] aLoop tm hp n).get = some x → InLoop Try.prog 79 (loopOf Try.prog 10 0).get!.2 tm hp n fun e tm hp n => (e, tm, hp, n) = x := loopS_of fun li r h => by
  unfold aLoop at h
  split at h
  · rename_i n size f m o2 f2 us own full ts
    obtain ⟨hn0, h⟩ := Tr.get_ask.1 h
    obtain ⟨hs, h2⟩ := Tr.get_ask.1 h
    simp only [Tr.get, Option.some.injEq] at h2
    subst h2
    have hn0 := eq_of_beq hn0
    subst hn0
    rw [Bool.and_eq_true] at hs
    change List Int at ts us m
    have hl : us.length ≤ 1000 := of_decide_eq_true hs.2
    have hin : ∀ k, k < us.length → 0 ≤ us.getD k 0 ∧ us.getD k 0 < size := fun k hk => by
      have h1 := hs.1
      unfold inAll at h1
      rw [List.all_eq_true] at h1
      exact of_decide_eq_true (h1 (us.getD k 0) (by rw [List.getD_eq_getElem?_getD, List.getElem?_eq_getElem hk]; exact List.getElem_mem hk))
    refine ⟨Keeps.of (Nat.le_refl 5) rfl (fun o ho => by cases ho), ?_⟩
    refine loop_li (σ := Nat) (st := fun x => aSt own full o2 f2 f size ts us m (x : Int)) (Inv := fun x => x ≤ us.length) (μ := fun x => us.length - x) (d := 10) (unr := fun _ _ => 20) (sp := noSp) (ls := noLs) plain mixed noSp_ok noLs_ok a_loop (fun k hk => ?_) 0 (Nat.zero_le _)
    by_cases h5 : k < us.length
    · have hr := hin k h5
      have hp := a_path own full o2 f2 f size ts us m (k : Int)
      rw [show ((k : Nat) : Int).toNat = k from rfl] at hp
      simp only [decide_eq_true (show (k : Int) < (us.length : Int) by omega), inB_mk (i := (k : Int)) (n := us.length) ⟨by omega, by omega⟩, decide_eq_true h5, decide_eq_false (show ¬ us.getD k 0 < 0 by omega), decide_eq_false (show ¬ size ≤ us.getD k 0 by omega), inR64_mk (r := (k : Int) + 1) (by omega)] at hp
      exact ⟨_, Tr.follow_get hp rfl, fun _ => ⟨k + 1, by omega, by omega, rfl⟩, nofun⟩
    · have : k = us.length := by omega
      subst this
      exact ⟨_, Tr.follow_get (a_end own full o2 f2 f size ts us m _) (by rw [decide_eq_false (by omega)]), nofun, fun _ => ⟨rfl, rfl⟩⟩
  · cases h
def l8 : LoopT C8 := Sx.addL 8 0 (loopS [15, 16, 4, 2, 3] [] nwLoop) (Sx.addL 10 0 (loopS [2, 4, 6, 1, 21, 22, 23, 5] [] aLoop) (Sx.addL 10 2 (loopS [2, 4, 6, 1, 37, 38, 39, 5] [] cLoop) (Sx.addL 11 0 (loopS [0, 1, 5, 4] [] eLoop) (Sx.addL 17 0 (loopS [1, 4, 29, 30, 31, 2, 3] [] bLoop) (Sx.addL 18 0 (loopS [0, 1, 12, 13, 4] [] qLoop) noLs)))))
theorem l8_ok : LoopTOk Try.prog l8 := addL_ok nw_loop nwLoop_ok (addL_ok a_loop aLoop_ok (addL_ok c_loop cLoop_ok (addL_ok e_loop eLoop_ok (addL_ok b_loop bLoop_ok (addL_ok q_loop qLoop_ok noLs_ok)))))
end
end Go.Proofs.Ytkhlmlcjedbkcaa
