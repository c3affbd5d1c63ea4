/-
  Chapter 27: the loops of Equal and IndexFunc. Own work; nothing here is trusted.
-/
import Derived.Test.YtgegagndihffpaaCh27Chk
import Derived.Test.YtgegagndihffpaaSxC
namespace Go.Proofs.Ytgegagndihffpaa
open Go Go.Sx Go.RowKit
set_option maxRecDepth 1000000
set_option maxHeartbeats 8000000
set_option linter.unusedVariables false
set_option linter.unusedSimpArgs false
noncomputable section
theorem q_tree (o1 f1 o2 f2 : Bool) (ts us : List Pt) (k : Int) : (qRound o1 f1 o2 f2 ts us k).get =
  bro (decide (k < (↑ts.length : Int))) (bro (inB k ts.length) (bro (decide (k.toNat < ts.length)) (bro (inB k us.length) (bro (decide (k.toNat < us.length)) (bro (!((elP ts k).fst == (elP us k).fst && ((elP ts k).snd.fst.toList == (elP us k).snd.fst.toList && ((elP ts k).snd.snd.fst == (elP us k).snd.snd.fst && ((elP ts k).snd.snd.snd.fst == (elP us k).snd.snd.snd.fst && ((elP ts k).snd.snd.snd.snd.fst == (elP us k).snd.snd.snd.snd.fst && ((elP ts k).snd.snd.snd.snd.snd == (elP us k).snd.snd.snd.snd.snd && true))))))) (some (Ex.ret, [SV.h (0 : Nat), SV.h (1 : Nat), SV.raw (Value.int IntKind.i64 (↑ts.length : Int)), SV.raw (Value.int IntKind.i64 k), SV.raw (Value.bool false)], [SO.sl o1 f1 (46 : Nat) ts, SO.sl o2 f2 (46 : Nat) us])) (bro (inR64 (k + (1 : Int))) (some (Ex.normal, [SV.h (0 : Nat), SV.h (1 : Nat), SV.raw (Value.int IntKind.i64 (↑ts.length : Int)), SV.raw (Value.int IntKind.i64 (k + (1 : Int))), SV.raw (Value.bool false)], [SO.sl o1 f1 (46 : Nat) ts, SO.sl o2 f2 (46 : Nat) us])) (some (Ex.normal, [SV.h (0 : Nat), SV.h (1 : Nat), SV.raw (Value.int IntKind.i64 (↑ts.length : Int)), SV.raw (Value.int IntKind.i64 (IntKind.i64.wrap (k + (1 : Int)))), SV.raw (Value.bool false)], [SO.sl o1 f1 (46 : Nat) ts, SO.sl o2 f2 (46 : Nat) us])))) (none)) (none)) (none)) (none)) (some (Ex.exit (0 : Nat), [SV.h (0 : Nat), SV.h (1 : Nat), SV.raw (Value.int IntKind.i64 (↑ts.length : Int)), SV.raw (Value.int IntKind.i64 k), SV.raw (Value.bool false)], [SO.sl o1 f1 (46 : Nat) ts, SO.sl o2 f2 (46 : Nat) us])) := by kernel_rfl
theorem i_treeA (o f : Bool) (ts : List Pt) (id : Int) (k : Int) : (iRoundA o f ts id k).get =
  bro (decide (k < (↑ts.length : Int))) (bro (inB k ts.length) (bro (decide (k.toNat < ts.length)) (bro ((elP ts k).fst == id) (some (Ex.ret, [SV.h (0 : Nat), SV.fn (39 : Nat) [SV.h (1 : Nat)], SV.raw (Value.int IntKind.i64 (↑ts.length : Int)), SV.raw (Value.int IntKind.i64 k), SV.raw (Value.int IntKind.i64 k)], [SO.sl o f (46 : Nat) ts, SO.box [SV.raw (Value.int IntKind.i64 id)] (3 : Nat)])) (bro (inR64 (k + (1 : Int))) (some (Ex.normal, [SV.h (0 : Nat), SV.fn (39 : Nat) [SV.h (1 : Nat)], SV.raw (Value.int IntKind.i64 (↑ts.length : Int)), SV.raw (Value.int IntKind.i64 (k + (1 : Int))), SV.raw (Value.int IntKind.i64 (0 : Int))], [SO.sl o f (46 : Nat) ts, SO.box [SV.raw (Value.int IntKind.i64 id)] (3 : Nat)])) (some (Ex.normal, [SV.h (0 : Nat), SV.fn (39 : Nat) [SV.h (1 : Nat)], SV.raw (Value.int IntKind.i64 (↑ts.length : Int)), SV.raw (Value.int IntKind.i64 (IntKind.i64.wrap (k + (1 : Int)))), SV.raw (Value.int IntKind.i64 (0 : Int))], [SO.sl o f (46 : Nat) ts, SO.box [SV.raw (Value.int IntKind.i64 id)] (3 : Nat)])))) (none)) (none)) (some (Ex.exit (0 : Nat), [SV.h (0 : Nat), SV.fn (39 : Nat) [SV.h (1 : Nat)], SV.raw (Value.int IntKind.i64 (↑ts.length : Int)), SV.raw (Value.int IntKind.i64 k), SV.raw (Value.int IntKind.i64 (0 : Int))], [SO.sl o f (46 : Nat) ts, SO.box [SV.raw (Value.int IntKind.i64 id)] (3 : Nat)])) := by kernel_rfl
theorem i_treeB (o f : Bool) (ts : List Pt) (x : Pt) (k : Int) : (iRoundB o f ts x k).get =
  bro (decide (k < (↑ts.length : Int))) (bro (inB k ts.length) (bro (decide (k.toNat < ts.length)) (bro (decide (x.fst < (elP ts k).fst)) (some (Ex.ret, [SV.h (0 : Nat), SV.fn (41 : Nat) [SV.h (1 : Nat)], SV.raw (Value.int IntKind.i64 (↑ts.length : Int)), SV.raw (Value.int IntKind.i64 k), SV.raw (Value.int IntKind.i64 k)], [SO.sl o f (46 : Nat) ts, SO.box [SV.raw (Value.int IntKind.i64 x.fst), SV.raw (Value.string x.snd.1), SV.raw (Value.bool x.snd.snd.fst), SV.raw (Value.bool x.snd.snd.snd.fst), SV.raw (Value.bool x.snd.snd.snd.snd.fst), SV.raw (Value.bool x.snd.snd.snd.snd.snd)] (46 : Nat)])) (bro (inR64 (k + (1 : Int))) (some (Ex.normal, [SV.h (0 : Nat), SV.fn (41 : Nat) [SV.h (1 : Nat)], SV.raw (Value.int IntKind.i64 (↑ts.length : Int)), SV.raw (Value.int IntKind.i64 (k + (1 : Int))), SV.raw (Value.int IntKind.i64 (0 : Int))], [SO.sl o f (46 : Nat) ts, SO.box [SV.raw (Value.int IntKind.i64 x.fst), SV.raw (Value.string x.snd.1), SV.raw (Value.bool x.snd.snd.fst), SV.raw (Value.bool x.snd.snd.snd.fst), SV.raw (Value.bool x.snd.snd.snd.snd.fst), SV.raw (Value.bool x.snd.snd.snd.snd.snd)] (46 : Nat)])) (some (Ex.normal, [SV.h (0 : Nat), SV.fn (41 : Nat) [SV.h (1 : Nat)], SV.raw (Value.int IntKind.i64 (↑ts.length : Int)), SV.raw (Value.int IntKind.i64 (IntKind.i64.wrap (k + (1 : Int)))), SV.raw (Value.int IntKind.i64 (0 : Int))], [SO.sl o f (46 : Nat) ts, SO.box [SV.raw (Value.int IntKind.i64 x.fst), SV.raw (Value.string x.snd.1), SV.raw (Value.bool x.snd.snd.fst), SV.raw (Value.bool x.snd.snd.snd.fst), SV.raw (Value.bool x.snd.snd.snd.snd.fst), SV.raw (Value.bool x.snd.snd.snd.snd.snd)] (46 : Nat)])))) (none)) (none)) (some (Ex.exit (0 : Nat), [SV.h (0 : Nat), SV.fn (41 : Nat) [SV.h (1 : Nat)], SV.raw (Value.int IntKind.i64 (↑ts.length : Int)), SV.raw (Value.int IntKind.i64 k), SV.raw (Value.int IntKind.i64 (0 : Int))], [SO.sl o f (46 : Nat) ts, SO.box [SV.raw (Value.int IntKind.i64 x.fst), SV.raw (Value.string x.snd.1), SV.raw (Value.bool x.snd.snd.fst), SV.raw (Value.bool x.snd.snd.snd.fst), SV.raw (Value.bool x.snd.snd.snd.snd.fst), SV.raw (Value.bool x.snd.snd.snd.snd.snd)] (46 : Nat)])) := by kernel_rfl

/-- Two ports that differ, as the program looks at it. -/
def neP (x y : Pt) : Bool := !(x.1 == y.1 && (x.2.1.toList == y.2.1.toList && (x.2.2.1 == y.2.2.1 && (x.2.2.2.1 == y.2.2.2.1 && (x.2.2.2.2.1 == y.2.2.2.2.1 && (x.2.2.2.2.2 == y.2.2.2.2.2 && true))))))
theorem q_round {o1 f1 o2 f2 : Bool} {ts us : List Pt} {k : Nat} (hk : k < ts.length) (hu : us.length = ts.length) (hl : ts.length ≤ 100000) :
    (qRound o1 f1 o2 f2 ts us k).get = bro (neP (elP ts k) (elP us k)) (some (.ret, qSt o1 f1 o2 f2 ts us k)) (some (.normal, qSt o1 f1 o2 f2 ts us ((k + 1 : Nat) : Int))) := by
  rw [q_tree]
  have k1 := decide_eq_true (show (k : Int) < (ts.length : Int) by omega)
  have k2 : Sx.inB (k : Int) ts.length = true := inB_mk ⟨by omega, by omega⟩
  have k3 := decide_eq_true (show ((k : Nat) : Int).toNat < ts.length by omega)
  have k4 : inR64 ((k : Int) + 1) = true := inR64_mk (by omega)
  have k5 : Sx.inB (k : Int) us.length = true := inB_mk ⟨by omega, by omega⟩
  have k6 := decide_eq_true (show ((k : Nat) : Int).toNat < us.length by omega)
  simp only [k1, k2, k3, k4, k5, k6, bro_true]
  rfl
theorem q_end {o1 f1 o2 f2 : Bool} {ts us : List Pt} : (qRound o1 f1 o2 f2 ts us (ts.length : Int)).get = some (.exit 0, qSt o1 f1 o2 f2 ts us (ts.length : Int)) := by
  rw [q_tree, decide_eq_false (Int.lt_irrefl _)]; rfl
abbrev neL (ts us : List Pt) (k : Nat) : Bool := neP (elP ts k) (elP us k)
def qLoop : LoopFn C27 := fun li => match li with
  | ⟨[.h 0, .h 1, .raw (.int .i64 n), .raw (.int .i64 (.ofNat 0)), .raw (.bool false)], 2, [.sl o1 f1 46 ts, .sl o2 f2 46 us]⟩ =>
    .br (n == (ts.length : Int)) (.br (decide (ts.length ≤ 100000 ∧ us.length = ts.length)) (.br (noneP (neL ts us) ts.length) (.leaf (.exit 0, qSt o1 f1 o2 f2 ts us (ts.length : Int))) (.leaf (.ret, qSt o1 f1 o2 f2 ts us (fstP (neL ts us) ts.length : Int)))) .fail) .fail
  | _ => .fail
theorem q_loop : loopOf Try.prog 36 0 = some (26, (loopOf Try.prog 36 0).get!.2) := by kernel_rfl
theorem qLoop_ok : ∀ tm hp n x, (loopS [0, 1, 12, 13, 4] [] qLoop tm hp n).get = some x → InLoop Try.prog 26 (loopOf Try.prog 36 0).get!.2 tm hp n fun e tm hp n => (e, tm, hp, n) = x := loopS_of fun li r h => by
  unfold qLoop at h
  split at h
  · rename_i n o1 f1 ts o2 f2 us
    obtain ⟨hn0, hB⟩ := Tr.get_ask.1 h
    obtain ⟨hl, hC⟩ := Tr.get_ask.1 hB
    clear h hB
    have hn0 := eq_of_beq hn0
    subst hn0
    change List Pt at ts us
    have hl : ts.length ≤ 100000 ∧ us.length = ts.length := of_decide_eq_true hl
    have hr : r.2.2 = (qSt o1 f1 o2 f2 ts us 0).2 := by
      rcases Tr.get_br.1 hC with ⟨_, hD⟩ | ⟨_, hD⟩ <;> (simp only [Tr.get, Option.some.injEq] at hD; subst hD; rfl)
    refine ⟨by rw [hr]; exact Keeps.of (Nat.le_refl 2) rfl (fun o ho => by cases ho), ?_⟩
    exact scan_li (n := ts.length) (stN := fun k => qSt o1 f1 o2 f2 ts us (k : Int)) (stR := fun k => qSt o1 f1 o2 f2 ts us (k : Int)) (p := neL ts us) (d := 10) (unr := fun _ _ => 20) plain mixed noSp_ok noLs_ok q_loop (fun k hk => q_round hk hl.2 hl.1) q_end hC
  · cases h
theorem iA_round {o f : Bool} {ts : List Pt} {id : Int} {k : Nat} (hk : k < ts.length) (hl : ts.length ≤ 100000) :
    (iRoundA o f ts id k).get = bro ((elP ts k).1 == id) (some (.ret, iStA o f ts id k k)) (some (.normal, iStA o f ts id ((k + 1 : Nat) : Int) 0)) := by
  rw [i_treeA]
  have k1 := decide_eq_true (show (k : Int) < (ts.length : Int) by omega)
  have k2 : Sx.inB (k : Int) ts.length = true := inB_mk ⟨by omega, by omega⟩
  have k3 := decide_eq_true (show ((k : Nat) : Int).toNat < ts.length by omega)
  have k4 : inR64 ((k : Int) + 1) = true := inR64_mk (by omega)
  simp only [k1, k2, k3, k4, bro_true]
  rfl
theorem iA_end {o f : Bool} {ts : List Pt} {id : Int} : (iRoundA o f ts id (ts.length : Int)).get = some (.exit 0, iStA o f ts id (ts.length : Int) 0) := by
  rw [i_treeA, decide_eq_false (Int.lt_irrefl _)]; rfl
theorem iB_round {o f : Bool} {ts : List Pt} {x : Pt} {k : Nat} (hk : k < ts.length) (hl : ts.length ≤ 100000) :
    (iRoundB o f ts x k).get = bro (decide (x.1 < (elP ts k).1)) (some (.ret, iStB o f ts x k k)) (some (.normal, iStB o f ts x ((k + 1 : Nat) : Int) 0)) := by
  rw [i_treeB]
  have k1 := decide_eq_true (show (k : Int) < (ts.length : Int) by omega)
  have k2 : Sx.inB (k : Int) ts.length = true := inB_mk ⟨by omega, by omega⟩
  have k3 := decide_eq_true (show ((k : Nat) : Int).toNat < ts.length by omega)
  have k4 : inR64 ((k : Int) + 1) = true := inR64_mk (by omega)
  simp only [k1, k2, k3, k4, bro_true]
  rfl
theorem iB_end {o f : Bool} {ts : List Pt} {x : Pt} : (iRoundB o f ts x (ts.length : Int)).get = some (.exit 0, iStB o f ts x (ts.length : Int) 0) := by
  rw [i_treeB, decide_eq_false (Int.lt_irrefl _)]; rfl
abbrev isI (ts : List Pt) (id : Int) (k : Nat) : Bool := (elP ts k).1 == id
abbrev isB (ts : List Pt) (a : Int) (k : Nat) : Bool := decide (a < (elP ts k).1)
def iLoop : LoopFn C27 := fun li => match li with
  | ⟨[.h 0, .fn 39 [.h 1], .raw (.int .i64 n), .raw (.int .i64 (.ofNat 0)), .raw (.int .i64 (.ofNat 0))], 2, [.sl o f 46 ts, .box [.raw (.int .i64 id)] 3]⟩ =>
    .br (n == (ts.length : Int)) (.br (decide (ts.length ≤ 100000)) (.br (noneP (isI ts id) ts.length) (.leaf (.exit 0, iStA o f ts id (ts.length : Int) 0)) (.leaf (.ret, iStA o f ts id (fstP (isI ts id) ts.length : Int) (fstP (isI ts id) ts.length : Int)))) .fail) .fail
  | ⟨[.h 0, .fn 41 [.h 1], .raw (.int .i64 n), .raw (.int .i64 (.ofNat 0)), .raw (.int .i64 (.ofNat 0))], 2, [.sl o f 46 ts, .box [.raw (.int .i64 a), .raw (.string b), .raw (.bool c), .raw (.bool d), .raw (.bool e), .raw (.bool g)] 46]⟩ =>
    .br (n == (ts.length : Int)) (.br (decide (ts.length ≤ 100000)) (.br (noneP (isB ts a) ts.length) (.leaf (.exit 0, iStB o f ts (a, b, c, d, e, g) (ts.length : Int) 0)) (.leaf (.ret, iStB o f ts (a, b, c, d, e, g) (fstP (isB ts a) ts.length : Int) (fstP (isB ts a) ts.length : Int)))) .fail) .fail
  | _ => .fail
theorem i_loop : loopOf Try.prog 38 0 = some (19, (loopOf Try.prog 38 0).get!.2) := by kernel_rfl
theorem iLoop_ok : ∀ tm hp n x, (loopS [0, 1, 7, 8, 4] [] iLoop tm hp n).get = some x → InLoop Try.prog 19 (loopOf Try.prog 38 0).get!.2 tm hp n fun e tm hp n => (e, tm, hp, n) = x := loopS_of fun li r h => by
  unfold iLoop at h
  split at h
  · rename_i n o f ts id
    obtain ⟨hn0, hB⟩ := Tr.get_ask.1 h
    obtain ⟨hl, hC⟩ := Tr.get_ask.1 hB
    clear h hB
    have hn0 := eq_of_beq hn0
    subst hn0
    change List Pt at ts
    have hl : ts.length ≤ 100000 := of_decide_eq_true hl
    have hr : r.2.2 = (iStA o f ts id 0 0).2 := by
      rcases Tr.get_br.1 hC with ⟨_, hD⟩ | ⟨_, hD⟩ <;> (simp only [Tr.get, Option.some.injEq] at hD; subst hD; rfl)
    refine ⟨by rw [hr]; exact Keeps.of (Nat.le_refl 2) rfl (fun o ho => by cases ho), ?_⟩
    exact scan_li (n := ts.length) (stN := fun k => iStA o f ts id (k : Int) 0) (stR := fun k => iStA o f ts id (k : Int) (k : Int)) (p := isI ts id) (d := 10) (unr := fun _ _ => 20) plain mixed noSp_ok noLs_ok i_loop (fun k hk => iA_round hk hl) iA_end hC
  · rename_i n o f ts a b c d e g
    obtain ⟨hn0, hB⟩ := Tr.get_ask.1 h
    obtain ⟨hl, hC⟩ := Tr.get_ask.1 hB
    clear h hB
    have hn0 := eq_of_beq hn0
    subst hn0
    change List Pt at ts
    have hl : ts.length ≤ 100000 := of_decide_eq_true hl
    have hr : r.2.2 = (iStB o f ts (a, b, c, d, e, g) 0 0).2 := by
      rcases Tr.get_br.1 hC with ⟨_, hD⟩ | ⟨_, hD⟩ <;> (simp only [Tr.get, Option.some.injEq] at hD; subst hD; rfl)
    refine ⟨by rw [hr]; exact Keeps.of (Nat.le_refl 2) rfl (fun o ho => by cases ho), ?_⟩
    exact scan_li (n := ts.length) (stN := fun k => iStB o f ts (a, b, c, d, e, g) (k : Int) 0) (stR := fun k => iStB o f ts (a, b, c, d, e, g) (k : Int) (k : Int)) (p := isB ts a) (d := 10) (unr := fun _ _ => 20) plain mixed noSp_ok noLs_ok i_loop (fun k hk => iB_round hk hl) iB_end hC
  · cases h
def lsF : LoopT C27 := Sx.addL 13 0 (loopS [1, 14, 15, 16, 2] [] kLoop) (Sx.addL 36 0 (loopS [0, 1, 12, 13, 4] [] qLoop) (Sx.addL 38 0 (loopS [0, 1, 7, 8, 4] [] iLoop) noLs))
theorem lsF_ok : LoopTOk Try.prog lsF := addL_ok k_loop kLoop_ok (addL_ok q_loop qLoop_ok (addL_ok i_loop iLoop_ok noLs_ok))
abbrev unF (g b : Nat) : Nat := match g, b with
  | 13, 0 => 0 | 36, 0 => 0 | 38, 0 => 0 | _, _ => 20
abbrev fF := fnC C27 Try.prog noSp lsF unF 10
end
end Go.Proofs.Ytgegagndihffpaa
