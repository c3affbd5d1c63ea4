/-
  Chapter 27: ready's loop. Own work; nothing here is trusted.
-/
import Derived.Test.YtgegagndihffpaaCh27Guest0
namespace Go.Proofs.Ytgegagndihffpaa
open Go Go.Sx Go.RowKit
set_option maxRecDepth 1000000
set_option maxHeartbeats 8000000
set_option linter.unusedVariables false
set_option linter.unusedSimpArgs false
noncomputable section

theorem rA_end (f : Bool) (most : Int) (on : Bool) (n : Int) (ts : List Pt) (k : Int) : Tr.follow [false] (rA f most on n ts k) =
  some ([decide (k < n)],
  (Ex.exit (0 : Nat), [SV.raw (Value.bool on), SV.h (0 : Nat), SV.h (1 : Nat), SV.raw (Value.slice none (0 : Nat) (0 : Nat)), SV.raw (Value.int IntKind.i64 n), SV.raw (Value.int IntKind.i64 k)], [SO.box [SV.raw (Value.int IntKind.i64 most), SV.raw (Value.bool on), SV.h (2 : Nat)] (27 : Nat), SO.box [SV.raw (Value.int IntKind.i64 (0 : Int)), SV.raw (Value.bool false), SV.raw (Value.slice none (0 : Nat) (0 : Nat))] (27 : Nat), SO.sl true f (46 : Nat) ts])) := by kernel_rfl
theorem rA_on (f : Bool) (most n : Int) (ts : List Pt) (k : Int) : Tr.follow [true, true, true, true, true, false, true, false, true] (rA f most true n ts k) =
  some ([decide (k < n),
  inB k ts.length,
  decide (k.toNat < ts.length),
  decide (k.toNat < (set5 ts k false).length),
  decide (k.toNat < (set4 (set5 ts k false) k false).length),
  false,
  true,
  false,
  inR64 (k + (1 : Int))],
  (Ex.normal, [SV.raw (Value.bool true), SV.h (0 : Nat), SV.h (1 : Nat), SV.h (3 : Nat), SV.raw (Value.int IntKind.i64 n), SV.raw (Value.int IntKind.i64 (k + (1 : Int)))], [SO.box [SV.raw (Value.int IntKind.i64 most), SV.raw (Value.bool true), SV.h (2 : Nat)] (27 : Nat), SO.box [SV.raw (Value.int IntKind.i64 (0 : Int)), SV.raw (Value.bool false), SV.raw (Value.slice none (0 : Nat) (0 : Nat))] (27 : Nat), SO.sl true f (46 : Nat) (set4 (set5 ts k false) k false), SO.sl true false (38 : Nat) [(((set4 (set5 ts k false) k false).getD k.toNat (0, ByteArray.empty, false, false, false, false)).fst % (4294967296 : Int), (1 : Int), (1 : Int), ByteArray.empty)]])) := by kernel_rfl
theorem rA_off (f : Bool) (most n : Int) (ts : List Pt) (k : Int) : Tr.follow [true, true, true, true, true, true, true, true, true] (rA f most false n ts k) =
  some ([decide (k < n),
  inB k ts.length,
  decide (k.toNat < ts.length),
  decide (k.toNat < (set5 ts k false).length),
  decide (k.toNat < (set4 (set5 ts k false) k false).length),
  true,
  true,
  true,
  inR64 (k + (1 : Int))],
  (Ex.normal, [SV.raw (Value.bool false), SV.h (0 : Nat), SV.h (1 : Nat), SV.raw (Value.slice none (0 : Nat) (0 : Nat)), SV.raw (Value.int IntKind.i64 n), SV.raw (Value.int IntKind.i64 (k + (1 : Int)))], [SO.box [SV.raw (Value.int IntKind.i64 most), SV.raw (Value.bool false), SV.h (2 : Nat)] (27 : Nat), SO.box [SV.raw (Value.int IntKind.i64 (0 : Int)), SV.raw (Value.bool false), SV.raw (Value.slice none (0 : Nat) (0 : Nat))] (27 : Nat), SO.sl true f (46 : Nat) (set4 (set5 ts k false) k false)])) := by kernel_rfl
theorem rB_end (f f2 : Bool) (most : Int) (on : Bool) (n : Int) (ts : List Pt) (ms : List Mg) (k : Int) : Tr.follow [false] (rB f f2 most on n ts ms k) =
  some ([decide (k < n)],
  (Ex.exit (0 : Nat), [SV.raw (Value.bool on), SV.h (0 : Nat), SV.h (1 : Nat), SV.h (3 : Nat), SV.raw (Value.int IntKind.i64 n), SV.raw (Value.int IntKind.i64 k)], [SO.box [SV.raw (Value.int IntKind.i64 most), SV.raw (Value.bool on), SV.h (2 : Nat)] (27 : Nat), SO.box [SV.raw (Value.int IntKind.i64 (0 : Int)), SV.raw (Value.bool false), SV.raw (Value.slice none (0 : Nat) (0 : Nat))] (27 : Nat), SO.sl true f (46 : Nat) ts, SO.sl true f2 (38 : Nat) ms])) := by kernel_rfl
theorem rB_on (f f2 : Bool) (most n : Int) (ts : List Pt) (ms : List Mg) (k : Int) : Tr.follow [true, true, true, true, true, false, true, true] (rB f f2 most true n ts ms k) =
  some ([decide (k < n),
  inB k ts.length,
  decide (k.toNat < ts.length),
  decide (k.toNat < (set5 ts k false).length),
  decide (k.toNat < (set4 (set5 ts k false) k false).length),
  false,
  roomB (ms.length + [(((set4 (set5 ts k false) k false).getD k.toNat (0, ByteArray.empty, false, false, false, false)).fst % (4294967296 : Int), (1 : Int), (1 : Int), ByteArray.empty)].length) Try.prog.types[(38 : Nat)].bytes,
  inR64 (k + (1 : Int))],
  (Ex.normal, [SV.raw (Value.bool true), SV.h (0 : Nat), SV.h (1 : Nat), SV.h (3 : Nat), SV.raw (Value.int IntKind.i64 n), SV.raw (Value.int IntKind.i64 (k + (1 : Int)))], [SO.box [SV.raw (Value.int IntKind.i64 most), SV.raw (Value.bool true), SV.h (2 : Nat)] (27 : Nat), SO.box [SV.raw (Value.int IntKind.i64 (0 : Int)), SV.raw (Value.bool false), SV.raw (Value.slice none (0 : Nat) (0 : Nat))] (27 : Nat), SO.sl true f (46 : Nat) (set4 (set5 ts k false) k false), SO.sl true false (38 : Nat) (ms ++ [(((set4 (set5 ts k false) k false).getD k.toNat (0, ByteArray.empty, false, false, false, false)).fst % (4294967296 : Int), (1 : Int), (1 : Int), ByteArray.empty)])])) := by kernel_rfl
abbrev clrP (ts : List Pt) (k : Int) : List Pt := set4 (set5 ts k false) k false
abbrev addM (ts : List Pt) (k : Int) : Mg := (((clrP ts k).getD k.toNat (0, ByteArray.empty, false, false, false, false)).fst % 4294967296, 1, 1, ByteArray.empty)
abbrev RS := List Pt × Option (List Mg)
def stepR (on : Bool) (s : RS) (k : Nat) : RS := match on with
  | true => (clrP s.1 (k : Int), some (s.2.getD [] ++ [addM s.1 (k : Int)]))
  | false => (clrP s.1 (k : Int), s.2)
theorem clr_len (ts : List Pt) (k : Int) : (clrP ts k).length = ts.length := by
  unfold clrP set4 set5; rw [List.length_set, List.length_set]
theorem set5_len (ts : List Pt) (k : Int) (b : Bool) : (set5 ts k b).length = ts.length := List.length_set
theorem set4_len (ts : List Pt) (k : Int) (b : Bool) : (set4 ts k b).length = ts.length := List.length_set
@[reducible] def rSt (f f2 : Bool) (most : Int) (on : Bool) (n : Int) (x : Nat × RS) : List SV × List (SO C27) := match x.2.2 with
  | none => rStA f most on n x.2.1 (x.1 : Int)
  | some ms => rStB f false most on n x.2.1 ms (x.1 : Int)
theorem bytes38 : Try.prog.types[(38 : Nat)].bytes ≤ 1000 := by
  have h : Nat.ble Try.prog.types[(38 : Nat)].bytes 1000 = true := by kernel_rfl
  exact Nat.le_of_ble_eq_true h
theorem r_round {f f2 : Bool} {most : Int} {on : Bool} {s : RS} {k : Nat} (hl : s.1.length ≤ 1000) (hk : k < s.1.length) (hm : (s.2.getD []).length ≤ 1000) (ho : on = false → s.2 = none) :
    ∃ y, (roundG C27 Try.prog noSp noLs (fun _ _ => 20) 10 30 0 rSlots ⟨(rSt f f2 most on (s.1.length : Int) (k, s)).1, 3, (rSt f f2 most on (s.1.length : Int) (k, s)).2⟩).get = some y ∧ isNorm y.1 = true ∧ y.2 = rSt f f2 most on (s.1.length : Int) (k + 1, stepR on s k) := by
  obtain ⟨ts, ms⟩ := s
  simp only at hl hk hm ho
  have k1 := decide_eq_true (show (k : Int) < (ts.length : Int) by omega)
  have k2 : Sx.inB (k : Int) ts.length = true := inB_mk ⟨by omega, by omega⟩
  have k3 := decide_eq_true (show ((k : Nat) : Int).toNat < ts.length from hk)
  have k4 : inR64 ((k : Int) + 1) = true := inR64_mk (by omega)
  have k5 := decide_eq_true (show ((k : Nat) : Int).toNat < (set5 ts (k : Int) false).length by rw [set5_len]; exact hk)
  have k6 := decide_eq_true (show ((k : Nat) : Int).toNat < (set4 (set5 ts (k : Int) false) (k : Int) false).length by rw [set4_len, set5_len]; exact hk)
  have hb := bytes38
  have room : ∀ n : Nat, n ≤ 1001 → roomB n Try.prog.types[(38 : Nat)].bytes = true := fun n h => decide_eq_true (Nat.le_trans (Nat.mul_le_mul h hb) (by decide))
  cases on with
  | false =>
    obtain rfl : ms = none := ho rfl
    exact ⟨_, Tr.follow_get (rA_off f most (ts.length : Int) ts k) (by rw [k1, k2, k3, k4, k5, k6]), rfl, rfl⟩
  | true =>
    cases ms with
    | none => exact ⟨_, Tr.follow_get (rA_on f most (ts.length : Int) ts k) (by rw [k1, k2, k3, k4, k5, k6]), rfl, rfl⟩
    | some ms =>
      have hm : ms.length ≤ 1000 := hm
      exact ⟨_, Tr.follow_get (rB_on f false most (ts.length : Int) ts ms k) (by rw [k1, k2, k3, k4, k5, k6, room _ (by simp; omega)]), rfl, rfl⟩
theorem drop_range {n k : Nat} (h : k < n) : (List.range n).drop k = k :: (List.range n).drop (k + 1) := by
  rw [List.drop_eq_getElem_cons (by simpa using h)]
  simp
def runR (on : Bool) (ts : List Pt) : RS := (List.range ts.length).foldl (stepR on) (ts, none)
def saidR (s : RS) : Bool := s.2.isSome
def rLoop : LoopFn C27 := fun li => match li with
  | ⟨[.raw (.bool on), .h 0, .h 1, .raw (.slice none 0 0), .raw (.int .i64 n), .raw (.int .i64 (.ofNat 0))], 3, [.box [.raw (.int .i64 most), .raw (.bool on2), .h 2] 27, .box [.raw (.int .i64 (.ofNat 0)), .raw (.bool false), .raw (.slice none 0 0)] 27, .sl true f 46 ts]⟩ =>
    .br (on2 == on) (.br (n == (ts.length : Int)) (.br (decide (ts.length ≤ 300)) (.br (saidR (runR on ts)) (.leaf (.exit 0, rStB f false most on (ts.length : Int) (runR on ts).1 ((runR on ts).2.getD []) (ts.length : Int))) (.leaf (.exit 0, rStA f most on (ts.length : Int) (runR on ts).1 (ts.length : Int)))) .fail) .fail) .fail
  | _ => .fail
theorem r_loop : loopOf Try.prog 30 0 = some (43, (loopOf Try.prog 30 0).get!.2) := by kernel_rfl
theorem stepR_inv {on : Bool} {s : RS} {k n : Nat} (h1 : s.1.length = n) (h2 : (s.2.getD []).length ≤ k) (h3 : on = false → s.2 = none) :
    (stepR on s k).1.length = n ∧ ((stepR on s k).2.getD []).length ≤ k + 1 ∧ (on = false → (stepR on s k).2 = none) := by
  cases on with
  | false => exact ⟨(clr_len _ _).trans h1, Nat.le_trans h2 (Nat.le_succ _), fun _ => h3 rfl⟩
  | true =>
    refine ⟨(clr_len _ _).trans h1, ?_, nofun⟩
    show (s.2.getD [] ++ [addM s.1 (k : Int)]).length ≤ k + 1
    rw [List.length_append]
    exact Nat.succ_le_succ h2
theorem rLoop_ok : ∀ tm hp n x, (loopS [1, 2, 4, 6, 18, 19] [] rLoop tm hp n).get = some x → InLoop Try.prog 43 (loopOf Try.prog 30 0).get!.2 tm hp n fun e tm hp n => (e, tm, hp, n) = x := loopS_of fun li r h => by
  unfold rLoop at h
  split at h
  · rename_i on n most on2 f ts
    obtain ⟨ho, hA⟩ := Tr.get_ask.1 h
    obtain ⟨hn0, hB⟩ := Tr.get_ask.1 hA
    obtain ⟨hl, hC⟩ := Tr.get_ask.1 hB
    clear h hA hB
    have ho := eq_of_beq ho
    subst ho
    have hn0 := eq_of_beq hn0
    subst hn0
    change List Pt at ts
    have hl : ts.length ≤ 300 := of_decide_eq_true hl
    obtain rfl : r = (.exit 0, rSt f false most on2 (ts.length : Int) (ts.length, runR on2 ts)) := by
      generalize runR on2 ts = S at hC ⊢
      obtain ⟨us, ms⟩ := S
      cases ms with
      | none => exact (Option.some.inj hC).symm
      | some l0 => exact (Option.some.inj hC).symm
    clear hC
    generalize hS : runR on2 ts = S
    refine ⟨?_, ?_⟩
    · obtain ⟨us, ms⟩ := S
      cases ms with
      | none => exact Keeps.of2 (Nat.le_refl 3) rfl (fun o ho => by cases ho)
      | some l0 => exact Keeps.of2 (show 3 ≤ 4 by decide) rfl (fun o ho => by
          simp only [List.drop, List.mem_cons, List.not_mem_nil, or_false] at ho
          subst ho; exact .inl rfl)
    refine loop_li (σ := Nat × RS) (st := rSt f false most on2 (ts.length : Int)) (Inv := fun x => x.1 ≤ ts.length ∧ x.2.1.length = ts.length ∧ (x.2.2.getD []).length ≤ x.1 ∧ (on2 = false → x.2.2 = none) ∧ ((List.range ts.length).drop x.1).foldl (stepR on2) x.2 = S) (μ := fun x => ts.length - x.1) (d := 10) (unr := fun _ _ => 20) (sp := noSp) (ls := noLs) plain mixed noSp_ok noLs_ok r_loop (fun x hx => ?_) (0, (ts, none)) ⟨Nat.zero_le _, rfl, Nat.le_refl _, fun _ => rfl, hS⟩
    obtain ⟨k, s⟩ := x
    obtain ⟨hi, h1, h2, h3, hf⟩ := hx
    simp only at hi h1 h2 h3 hf
    by_cases h5 : k < ts.length
    · obtain ⟨y, r1, r2, r3⟩ := r_round (f := f) (f2 := false) (most := most) (on := on2) (s := s) (k := k) (by omega) (by omega) (by omega) h3
      rw [h1] at r1 r3
      obtain ⟨g1, g2, g3⟩ := stepR_inv (on := on2) (k := k) h1 h2 h3
      refine ⟨y, r1, fun _ => ⟨(k + 1, stepR on2 s k), ⟨by omega, g1, g2, g3, ?_⟩, by simp only; omega, r3⟩, fun h => by rw [r2] at h; cases h⟩
      rw [drop_range h5] at hf
      exact hf
    · have : k = ts.length := by omega
      subst this
      have hs' : s = S := by rw [List.drop_of_length_le (by rw [List.length_range]; exact Nat.le_refl _)] at hf; exact hf
      subst hs'
      obtain ⟨us, ms⟩ := s
      cases ms with
      | none => exact ⟨_, Tr.follow_get (rA_end f most on2 (ts.length : Int) us _) (by rw [decide_eq_false (by omega)]), nofun, fun _ => ⟨rfl, rfl⟩⟩
      | some l0 => exact ⟨_, Tr.follow_get (rB_end f false most on2 (ts.length : Int) us l0 _) (by rw [decide_eq_false (by omega)]), nofun, fun _ => ⟨rfl, rfl⟩⟩
  · cases h
end
end Go.Proofs.Ytgegagndihffpaa
