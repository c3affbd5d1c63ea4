/-
  Chapter 24: commands that tell addresses, their loops. Own work; nothing here is trusted.
-/
import Derived.Test.YtgepgnjjhgmfnaaCh24Mk0
namespace Go.Proofs.Ytgepgnjjhgmfnaa
open Go Go.Sx Go.RowKit
set_option maxRecDepth 1000000
set_option maxHeartbeats 8000000
set_option linter.unusedVariables false
set_option linter.unusedSimpArgs false
noncomputable section
/-- An address's bytes; all of them. -/
abbrev mcB (m : Mac) : List Int := [m.1, m.2.1, m.2.2.1, m.2.2.2.1, m.2.2.2.2.1, m.2.2.2.2.2]
def mcsB : List Mac → List Int
  | [] => []
  | m :: r => mcB m ++ mcsB r
abbrev mkA (bs : List Int) (ms : List Mac) : List Int := bs ++ mcsB ms
theorem mcsB_app (l r : List Mac) : mcsB (l ++ r) = mcsB l ++ mcsB r := by
  induction l with
  | nil => rfl
  | cons x l ih => show mcB x ++ mcsB (l ++ r) = mcB x ++ mcsB l ++ mcsB r; rw [ih, List.append_assoc]
theorem mcsB_len (l : List Mac) : (mcsB l).length = 6 * l.length := by
  induction l with
  | nil => rfl
  | cons x l ih => show (mcB x ++ mcsB l).length = _; simp only [List.length_append, ih, List.length_cons, List.length_nil]; omega
theorem mcsB_take {ms : List Mac} {j : Nat} (h : j < ms.length) : mcsB (ms.take (j + 1)) = mcsB (ms.take j) ++ mcB (ms.getD j mac0) := by
  rw [List.take_add_one, List.getElem?_eq_getElem h, mcsB_app, List.getD_eq_getElem?_getD, List.getElem?_eq_getElem h]
  show mcsB _ ++ (mcB _ ++ []) = _
  rw [List.append_nil]; rfl
theorem by5 : Try.prog.types[(5 : Nat)].bytes ≤ 64 := of_decide_eq_true (by kernel_rfl)
theorem room5 {n : Nat} (h : n ≤ 100000) : roomB n Try.prog.types[(5 : Nat)].bytes = true := decide_eq_true (Nat.le_trans (Nat.mul_le_mul h by5) (by decide))
theorem mk_tree (g : Lo Mac) (b : Bool) (ms : List Mac) (bs : List Int) (n K : Int) : (mkR g (some (false, b, ms)) bs n K).get =
  bro (decide (K < n)) (bro (inB K ms.length) (bro (decide (K.toNat < ms.length)) (bro (roomB (bs.length + (mcB (ms.getD K.toNat mac0)).length) Try.prog.types[(5 : Nat)].bytes) (bro (inR64 (K + (1 : Int))) (some (.normal, mkS g (some (false, b, ms)) (bs ++ mcB (ms.getD K.toNat mac0)) n (K + 1))) (some (.normal, mkS g (some (false, b, ms)) (bs ++ mcB (ms.getD K.toNat mac0)) n (IntKind.i64.wrap (K + 1))))) none) none) none) (some (.exit 0, mkS g (some (false, b, ms)) bs n K)) := by cases g <;> kernel_rfl
theorem mk_tree0 (g : Lo Mac) (bs : List Int) (n K : Int) : (mkR g none bs n K).get = bro (decide (K < n)) none (some (.exit 0, mkS g none bs n K)) := by cases g <;> kernel_rfl
@[reducible] def mkT (g l : Lo Mac) (bs : List Int) (j : Nat) : List SV × List (SO C24) := mkS g l (bs ++ mcsB ((lo l).take j)) ((lo l).length : Int) (j : Int)
theorem mk_nil (g : Lo Mac) (bs : List Int) (n K : Int) (h : K = n) : (mkR g none bs n K).get = some (.exit 0, mkS g none bs n K) := by
  subst h
  exact (mk_tree0 g bs K K).trans (by rw [decide_eq_false (Int.lt_irrefl K)]; rfl)
theorem mk_round {g : Lo Mac} {f : Bool} {ms : List Mac} {bs : List Int} {j : Nat} (h5 : j < ms.length) (h : ms.length ≤ 1000) (hb : bs.length ≤ 50000) : (mkR g (some (false, f, ms)) (bs ++ mcsB (ms.take j)) (ms.length : Int) (j : Int)).get = some (.normal, mkT g (some (false, f, ms)) bs (j + 1)) := by
  have k1 := decide_eq_true (show (j : Int) < (ms.length : Int) by omega)
  have k2 : Sx.inB (j : Int) ms.length = true := inB_mk ⟨by omega, by omega⟩
  have k3 := decide_eq_true (show ((j : Nat) : Int).toNat < ms.length by omega)
  have k4 : inR64 ((j : Int) + 1) = true := inR64_mk (by omega)
  have hlen : (bs ++ mcsB (ms.take j)).length ≤ 60000 := by rw [List.length_append, mcsB_len, List.length_take]; omega
  have k5 : roomB ((bs ++ mcsB (ms.take j)).length + (mcB (ms.getD ((j : Nat) : Int).toNat mac0)).length) Try.prog.types[(5 : Nat)].bytes = true := room5 (by show _ + 6 ≤ 100000; omega)
  refine (mk_tree g f ms (bs ++ mcsB (ms.take j)) (ms.length : Int) (j : Int)).trans ?_
  rw [k1, k2, k3, k4, k5]
  show some (Ex.normal, mkS g (some (false, f, ms)) (bs ++ mcsB (ms.take j) ++ mcB (ms.getD j mac0)) _ _) = some (Ex.normal, mkS g (some (false, f, ms)) (bs ++ mcsB (ms.take (j + 1))) _ _)
  rw [mcsB_take h5, List.append_assoc]
  rfl
theorem mk_end (g : Lo Mac) (f : Bool) (ms : List Mac) (bs : List Int) : (mkR g (some (false, f, ms)) (bs ++ mcsB (ms.take ms.length)) (ms.length : Int) (ms.length : Int)).get = some (.exit 0, mkT g (some (false, f, ms)) bs ms.length) := by
  have k1 : decide ((ms.length : Int) < (ms.length : Int)) = false := decide_eq_false (Int.lt_irrefl _)
  exact (mk_tree g f ms _ (ms.length : Int) (ms.length : Int)).trans (by rw [k1]; rfl)
theorem mk_loop : loopOf Try.prog 53 0 = some (((loopOf Try.prog 53 0).get!).1, (loopOf Try.prog 53 0).get!.2) := by kernel_rfl
theorem mk_run {g l : Lo Mac} (hl : vw l = l) {bs : List Int} (h : (lo l).length ≤ 1000) (hb : bs.length ≤ 50000) :
    Keeps (mkN g l) (mkS g l bs ((lo l).length : Int) 0).2 (mkS g l (mkA bs (lo l)) ((lo l).length : Int) ((lo l).length : Int)).2 ∧ LoopRun Try.prog ((loopOf Try.prog 53 0).get!).1 (loopOf Try.prog 53 0).get!.2 (mkN g l) (LI.st [1, 5, 6, 0] ⟨(mkS g l bs ((lo l).length : Int) 0).1, mkN g l, (mkS g l bs ((lo l).length : Int) 0).2⟩) fun x T => ∃ vs os, (x = .exit 0 ∧ (vs, os) = mkS g l (mkA bs (lo l)) ((lo l).length : Int) ((lo l).length : Int)) ∧ T = ⟨zipT [1, 5, 6, 0] vs, numH 0 os, os.length⟩ := by
  have e0 : mkS g l bs ((lo l).length : Int) 0 = mkT g l bs 0 := by
    show mkS g l bs _ _ = mkS g l (bs ++ []) _ _; rw [List.append_nil]; rfl
  have e1 : mkS g l (mkA bs (lo l)) ((lo l).length : Int) ((lo l).length : Int) = mkT g l bs (lo l).length := by
    show _ = mkS g l (bs ++ mcsB ((lo l).take (lo l).length)) _ _; rw [List.take_length]
  rw [e0, e1]
  constructor
  · cases l <;> cases g <;> exact Keeps.of3 (Nat.le_of_ble_eq_true rfl) rfl
  · refine loop_li (σ := Nat) (st := mkT g l bs) (Inv := fun j => j ≤ (lo l).length) (μ := fun j => (lo l).length - j) (d := 10) (unr := fun _ _ => 20) (sp := noSp) (ls := noLs) plain mixed noSp_ok noLs_ok mk_loop (fun j hj => ?_) 0 (Nat.zero_le _)
    cases l with
    | none =>
      obtain rfl : j = 0 := Nat.le_zero.1 hj
      exact ⟨_, mk_nil _ _ _ _ rfl, nofun, fun _ => ⟨rfl, rfl⟩⟩
    | some x =>
      obtain ⟨a, f, ms⟩ := x
      obtain rfl : false = a := congrArg (fun o : Lo Mac => match o with | none => false | some x => x.1) hl
      have h : ms.length ≤ 1000 := h
      have hj : j ≤ ms.length := hj
      by_cases h5 : j < ms.length
      · exact ⟨_, mk_round h5 h hb, fun _ => ⟨j + 1, h5, by show ms.length - (j + 1) < ms.length - j; omega, rfl⟩, nofun⟩
      · obtain rfl : j = ms.length := by omega
        exact ⟨_, mk_end g f ms bs, nofun, fun _ => ⟨rfl, rfl⟩⟩
theorem mp_tree (g : Lo Mac) (b : Bool) (ms : List Mac) (bs : List Int) (n K : Int) : (mpR g (some (false, b, ms)) bs n K).get =
  bro (decide (K < n)) (bro (inB K ms.length) (bro (decide (K.toNat < ms.length)) (bro (roomB (bs.length + (mcB (ms.getD K.toNat mac0)).length) Try.prog.types[(5 : Nat)].bytes) (bro (inR64 (K + (1 : Int))) (some (.normal, mpS g (some (false, b, ms)) (bs ++ mcB (ms.getD K.toNat mac0)) n (K + 1))) (some (.normal, mpS g (some (false, b, ms)) (bs ++ mcB (ms.getD K.toNat mac0)) n (IntKind.i64.wrap (K + 1))))) none) none) none) (some (.exit 2, mpS g (some (false, b, ms)) bs n K)) := by cases g <;> kernel_rfl
theorem mp_tree0 (g : Lo Mac) (bs : List Int) (n K : Int) : (mpR g none bs n K).get = bro (decide (K < n)) none (some (.exit 2, mpS g none bs n K)) := by cases g <;> kernel_rfl
@[reducible] def mpT (g l : Lo Mac) (bs : List Int) (j : Nat) : List SV × List (SO C24) := mpS g l (bs ++ mcsB ((lo l).take j)) ((lo l).length : Int) (j : Int)
theorem mp_nil (g : Lo Mac) (bs : List Int) (n K : Int) (h : K = n) : (mpR g none bs n K).get = some (.exit 2, mpS g none bs n K) := by
  subst h
  exact (mp_tree0 g bs K K).trans (by rw [decide_eq_false (Int.lt_irrefl K)]; rfl)
theorem mp_round {g : Lo Mac} {f : Bool} {ms : List Mac} {bs : List Int} {j : Nat} (h5 : j < ms.length) (h : ms.length ≤ 1000) (hb : bs.length ≤ 50000) : (mpR g (some (false, f, ms)) (bs ++ mcsB (ms.take j)) (ms.length : Int) (j : Int)).get = some (.normal, mpT g (some (false, f, ms)) bs (j + 1)) := by
  have k1 := decide_eq_true (show (j : Int) < (ms.length : Int) by omega)
  have k2 : Sx.inB (j : Int) ms.length = true := inB_mk ⟨by omega, by omega⟩
  have k3 := decide_eq_true (show ((j : Nat) : Int).toNat < ms.length by omega)
  have k4 : inR64 ((j : Int) + 1) = true := inR64_mk (by omega)
  have hlen : (bs ++ mcsB (ms.take j)).length ≤ 60000 := by rw [List.length_append, mcsB_len, List.length_take]; omega
  have k5 : roomB ((bs ++ mcsB (ms.take j)).length + (mcB (ms.getD ((j : Nat) : Int).toNat mac0)).length) Try.prog.types[(5 : Nat)].bytes = true := room5 (by show _ + 6 ≤ 100000; omega)
  refine (mp_tree g f ms (bs ++ mcsB (ms.take j)) (ms.length : Int) (j : Int)).trans ?_
  rw [k1, k2, k3, k4, k5]
  show some (Ex.normal, mpS g (some (false, f, ms)) (bs ++ mcsB (ms.take j) ++ mcB (ms.getD j mac0)) _ _) = some (Ex.normal, mpS g (some (false, f, ms)) (bs ++ mcsB (ms.take (j + 1))) _ _)
  rw [mcsB_take h5, List.append_assoc]
  rfl
theorem mp_end (g : Lo Mac) (f : Bool) (ms : List Mac) (bs : List Int) : (mpR g (some (false, f, ms)) (bs ++ mcsB (ms.take ms.length)) (ms.length : Int) (ms.length : Int)).get = some (.exit 2, mpT g (some (false, f, ms)) bs ms.length) := by
  have k1 : decide ((ms.length : Int) < (ms.length : Int)) = false := decide_eq_false (Int.lt_irrefl _)
  exact (mp_tree g f ms _ (ms.length : Int) (ms.length : Int)).trans (by rw [k1]; rfl)
theorem mp_loop : loopOf Try.prog 20 2 = some (((loopOf Try.prog 20 2).get!).1, (loopOf Try.prog 20 2).get!.2) := by kernel_rfl
theorem mp_run {g l : Lo Mac} (hl : vw l = l) {bs : List Int} (h : (lo l).length ≤ 1000) (hb : bs.length ≤ 50000) :
    Keeps (mpN g l) (mpS g l bs ((lo l).length : Int) 0).2 (mpS g l (mkA bs (lo l)) ((lo l).length : Int) ((lo l).length : Int)).2 ∧ LoopRun Try.prog ((loopOf Try.prog 20 2).get!).1 (loopOf Try.prog 20 2).get!.2 (mpN g l) (LI.st [14, 15, 34, 35, 36, 5] ⟨(mpS g l bs ((lo l).length : Int) 0).1, mpN g l, (mpS g l bs ((lo l).length : Int) 0).2⟩) fun x T => ∃ vs os, (x = .exit 2 ∧ (vs, os) = mpS g l (mkA bs (lo l)) ((lo l).length : Int) ((lo l).length : Int)) ∧ T = ⟨zipT [14, 15, 34, 35, 36, 5] vs, numH 0 os, os.length⟩ := by
  have e0 : mpS g l bs ((lo l).length : Int) 0 = mpT g l bs 0 := by
    show mpS g l bs _ _ = mpS g l (bs ++ []) _ _; rw [List.append_nil]; rfl
  have e1 : mpS g l (mkA bs (lo l)) ((lo l).length : Int) ((lo l).length : Int) = mpT g l bs (lo l).length := by
    show _ = mpS g l (bs ++ mcsB ((lo l).take (lo l).length)) _ _; rw [List.take_length]
  rw [e0, e1]
  constructor
  · cases l <;> cases g <;> exact Keeps.of3 (Nat.le_of_ble_eq_true rfl) rfl
  · refine loop_li (σ := Nat) (st := mpT g l bs) (Inv := fun j => j ≤ (lo l).length) (μ := fun j => (lo l).length - j) (d := 10) (unr := fun _ _ => 20) (sp := noSp) (ls := noLs) plain mixed noSp_ok noLs_ok mp_loop (fun j hj => ?_) 0 (Nat.zero_le _)
    cases l with
    | none =>
      obtain rfl : j = 0 := Nat.le_zero.1 hj
      exact ⟨_, mp_nil _ _ _ _ rfl, nofun, fun _ => ⟨rfl, rfl⟩⟩
    | some x =>
      obtain ⟨a, f, ms⟩ := x
      obtain rfl : false = a := congrArg (fun o : Lo Mac => match o with | none => false | some x => x.1) hl
      have h : ms.length ≤ 1000 := h
      have hj : j ≤ ms.length := hj
      by_cases h5 : j < ms.length
      · exact ⟨_, mp_round h5 h hb, fun _ => ⟨j + 1, h5, by show ms.length - (j + 1) < ms.length - j; omega, rfl⟩, nofun⟩
      · obtain rfl : j = ms.length := by omega
        exact ⟨_, mp_end g f ms bs, nofun, fun _ => ⟨rfl, rfl⟩⟩
theorem mq_tree (g : Lo Mac) (b : Bool) (ms : List Mac) (bs : List Int) (n K : Int) : (mqR g (some (false, b, ms)) bs n K).get =
  bro (decide (K < n)) (bro (inB K ms.length) (bro (decide (K.toNat < ms.length)) (bro (roomB (bs.length + (mcB (ms.getD K.toNat mac0)).length) Try.prog.types[(5 : Nat)].bytes) (bro (inR64 (K + (1 : Int))) (some (.normal, mqS g (some (false, b, ms)) (bs ++ mcB (ms.getD K.toNat mac0)) n (K + 1))) (some (.normal, mqS g (some (false, b, ms)) (bs ++ mcB (ms.getD K.toNat mac0)) n (IntKind.i64.wrap (K + 1))))) none) none) none) (some (.exit 2, mqS g (some (false, b, ms)) bs n K)) := by cases g <;> kernel_rfl
theorem mq_tree0 (g : Lo Mac) (bs : List Int) (n K : Int) : (mqR g none bs n K).get = bro (decide (K < n)) none (some (.exit 2, mqS g none bs n K)) := by cases g <;> kernel_rfl
@[reducible] def mqT (g l : Lo Mac) (bs : List Int) (j : Nat) : List SV × List (SO C24) := mqS g l (bs ++ mcsB ((lo l).take j)) ((lo l).length : Int) (j : Int)
theorem mq_nil (g : Lo Mac) (bs : List Int) (n K : Int) (h : K = n) : (mqR g none bs n K).get = some (.exit 2, mqS g none bs n K) := by
  subst h
  exact (mq_tree0 g bs K K).trans (by rw [decide_eq_false (Int.lt_irrefl K)]; rfl)
theorem mq_round {g : Lo Mac} {f : Bool} {ms : List Mac} {bs : List Int} {j : Nat} (h5 : j < ms.length) (h : ms.length ≤ 1000) (hb : bs.length ≤ 50000) : (mqR g (some (false, f, ms)) (bs ++ mcsB (ms.take j)) (ms.length : Int) (j : Int)).get = some (.normal, mqT g (some (false, f, ms)) bs (j + 1)) := by
  have k1 := decide_eq_true (show (j : Int) < (ms.length : Int) by omega)
  have k2 : Sx.inB (j : Int) ms.length = true := inB_mk ⟨by omega, by omega⟩
  have k3 := decide_eq_true (show ((j : Nat) : Int).toNat < ms.length by omega)
  have k4 : inR64 ((j : Int) + 1) = true := inR64_mk (by omega)
  have hlen : (bs ++ mcsB (ms.take j)).length ≤ 60000 := by rw [List.length_append, mcsB_len, List.length_take]; omega
  have k5 : roomB ((bs ++ mcsB (ms.take j)).length + (mcB (ms.getD ((j : Nat) : Int).toNat mac0)).length) Try.prog.types[(5 : Nat)].bytes = true := room5 (by show _ + 6 ≤ 100000; omega)
  refine (mq_tree g f ms (bs ++ mcsB (ms.take j)) (ms.length : Int) (j : Int)).trans ?_
  rw [k1, k2, k3, k4, k5]
  show some (Ex.normal, mqS g (some (false, f, ms)) (bs ++ mcsB (ms.take j) ++ mcB (ms.getD j mac0)) _ _) = some (Ex.normal, mqS g (some (false, f, ms)) (bs ++ mcsB (ms.take (j + 1))) _ _)
  rw [mcsB_take h5, List.append_assoc]
  rfl
theorem mq_end (g : Lo Mac) (f : Bool) (ms : List Mac) (bs : List Int) : (mqR g (some (false, f, ms)) (bs ++ mcsB (ms.take ms.length)) (ms.length : Int) (ms.length : Int)).get = some (.exit 2, mqT g (some (false, f, ms)) bs ms.length) := by
  have k1 : decide ((ms.length : Int) < (ms.length : Int)) = false := decide_eq_false (Int.lt_irrefl _)
  exact (mq_tree g f ms _ (ms.length : Int) (ms.length : Int)).trans (by rw [k1]; rfl)
theorem mq_loop : loopOf Try.prog 20 2 = some (((loopOf Try.prog 20 2).get!).1, (loopOf Try.prog 20 2).get!.2) := by kernel_rfl
theorem mq_run {g l : Lo Mac} (hl : vw l = l) {bs : List Int} (h : (lo l).length ≤ 1000) (hb : bs.length ≤ 50000) :
    Keeps (mqN g l) (mqS g l bs ((lo l).length : Int) 0).2 (mqS g l (mkA bs (lo l)) ((lo l).length : Int) ((lo l).length : Int)).2 ∧ LoopRun Try.prog ((loopOf Try.prog 20 2).get!).1 (loopOf Try.prog 20 2).get!.2 (mqN g l) (LI.st [14, 15, 34, 35, 36, 5] ⟨(mqS g l bs ((lo l).length : Int) 0).1, mqN g l, (mqS g l bs ((lo l).length : Int) 0).2⟩) fun x T => ∃ vs os, (x = .exit 2 ∧ (vs, os) = mqS g l (mkA bs (lo l)) ((lo l).length : Int) ((lo l).length : Int)) ∧ T = ⟨zipT [14, 15, 34, 35, 36, 5] vs, numH 0 os, os.length⟩ := by
  have e0 : mqS g l bs ((lo l).length : Int) 0 = mqT g l bs 0 := by
    show mqS g l bs _ _ = mqS g l (bs ++ []) _ _; rw [List.append_nil]; rfl
  have e1 : mqS g l (mkA bs (lo l)) ((lo l).length : Int) ((lo l).length : Int) = mqT g l bs (lo l).length := by
    show _ = mqS g l (bs ++ mcsB ((lo l).take (lo l).length)) _ _; rw [List.take_length]
  rw [e0, e1]
  constructor
  · cases l <;> cases g <;> exact Keeps.of3 (Nat.le_of_ble_eq_true rfl) rfl
  · refine loop_li (σ := Nat) (st := mqT g l bs) (Inv := fun j => j ≤ (lo l).length) (μ := fun j => (lo l).length - j) (d := 10) (unr := fun _ _ => 20) (sp := noSp) (ls := noLs) plain mixed noSp_ok noLs_ok mq_loop (fun j hj => ?_) 0 (Nat.zero_le _)
    cases l with
    | none =>
      obtain rfl : j = 0 := Nat.le_zero.1 hj
      exact ⟨_, mq_nil _ _ _ _ rfl, nofun, fun _ => ⟨rfl, rfl⟩⟩
    | some x =>
      obtain ⟨a, f, ms⟩ := x
      obtain rfl : false = a := congrArg (fun o : Lo Mac => match o with | none => false | some x => x.1) hl
      have h : ms.length ≤ 1000 := h
      have hj : j ≤ ms.length := hj
      by_cases h5 : j < ms.length
      · exact ⟨_, mq_round h5 h hb, fun _ => ⟨j + 1, h5, by show ms.length - (j + 1) < ms.length - j; omega, rfl⟩, nofun⟩
      · obtain rfl : j = ms.length := by omega
        exact ⟨_, mq_end g f ms bs, nofun, fun _ => ⟨rfl, rfl⟩⟩
def isVw {α : Type} : Lo α → Bool
  | none => true
  | some (a, _, _) => !a
theorem isVw_eq {α : Type} {o : Lo α} (h : isVw o = true) : vw o = o := by
  cases o with
  | none => rfl
  | some x => obtain ⟨a, b, l⟩ := x; cases a with | false => rfl | true => cases h
def smK (l : Lo Mac) (bs : List Int) (n : Int) : Bool := decide (n = ((lo l).length : Int) ∧ (lo l).length ≤ 1000 ∧ bs.length ≤ 50000)
theorem smK_eq {l : Lo Mac} {bs : List Int} {n : Int} (h : smK l bs n = true) : n = ((lo l).length : Int) ∧ (lo l).length ≤ 1000 ∧ bs.length ≤ 50000 := of_decide_eq_true h
def mkLoop : LoopFn C24 := fun li => match li with
  | ⟨[s, .raw (.int .i64 n), .raw (.int .i64 (.ofNat 0)), .h k], nb, os⟩ => match decM s 0 os with
    | some (l, [.sl true false 5 bs]) => match isVw l, Nat.beq nb (mkN none l), Nat.beq k (mkN none l) with
      | true, true, true => .br (smK l bs n) (.leaf (.exit 0, mkS none l (mkA bs (lo l)) n n)) .fail
      | _, _, _ => .fail
    | _ => .fail
  | _ => .fail
theorem mkLoop_ok : ∀ tm hp n x, (loopS [1, 5, 6] [0] mkLoop tm hp n).get = some x → InLoop Try.prog ((loopOf Try.prog 53 0).get!).1 (loopOf Try.prog 53 0).get!.2 tm hp n fun e tm hp n => (e, tm, hp, n) = x := loopS_of fun li r h => by
  unfold mkLoop at h
  split at h
  · rename_i s n k nb os
    split at h
    · rename_i l bs hd
      obtain ⟨rfl, rfl⟩ := decM_eq hd
      split at h
      · rename_i hv hn hk
        obtain rfl := Nat.eq_of_beq_eq_true hn
        obtain rfl := Nat.eq_of_beq_eq_true hk
        obtain ⟨h1, h2⟩ := Tr.get_ask.1 h
        obtain ⟨rfl, h3, h4⟩ := smK_eq h1
        simp only [Tr.get, Option.some.injEq] at h2
        subst h2
        exact mk_run (g := none) (isVw_eq hv) (bs := bs) h3 h4
      · cases h
    · cases h
  · cases h
def mpLoop : LoopFn C24 := fun li => match li with
  | ⟨[.agg [s0, s1], .raw (.int .i64 (.ofNat q)), s, .raw (.int .i64 n), .raw (.int .i64 (.ofNat 0)), .h k], nb, os⟩ => match decM s0 0 os with
    | some (o, os1) => match decM s1 (nx o 0) os1 with
      | some (g, [.sl true false 5 bs]) => match isVw o, isVw g, Nat.beq nb (mpN g o), Nat.beq k (mpN g o), q with
        | true, true, true, true, 0 => match isS o 0 s with
          | true => .br (smK o bs n) (.leaf (.exit 2, mpS g o (mkA bs (lo o)) n n)) .fail
          | false => .fail
        | true, true, true, true, 1 => match isS g (nx o 0) s with
          | true => .br (smK g bs n) (.leaf (.exit 2, mqS o g (mkA bs (lo g)) n n)) .fail
          | false => .fail
        | _, _, _, _, _ => .fail
      | _ => .fail
    | _ => .fail
  | _ => .fail
theorem mpLoop_ok : ∀ tm hp n x, (loopS [14, 15, 34, 35, 36] [5] mpLoop tm hp n).get = some x → InLoop Try.prog ((loopOf Try.prog 20 2).get!).1 (loopOf Try.prog 20 2).get!.2 tm hp n fun e tm hp n => (e, tm, hp, n) = x := loopS_of fun li r h => by
  unfold mpLoop at h
  split at h
  · rename_i s0 s1 q s n k nb os
    split at h
    · rename_i o os1 hd
      obtain ⟨rfl, rfl⟩ := decM_eq hd
      split at h
      · rename_i g bs hd
        obtain ⟨rfl, rfl⟩ := decM_eq hd
        split at h
        · rename_i hv hw hn hk
          obtain rfl := Nat.eq_of_beq_eq_true hn
          obtain rfl := Nat.eq_of_beq_eq_true hk
          split at h
          · rename_i hs
            obtain rfl := isS_eq hs
            obtain ⟨h1, h2⟩ := Tr.get_ask.1 h
            obtain ⟨rfl, h3, h4⟩ := smK_eq h1
            simp only [Tr.get, Option.some.injEq] at h2
            subst h2
            exact mp_run (g := g) (isVw_eq hv) (bs := bs) h3 h4
          · cases h
        · rename_i hv hw hn hk
          obtain rfl := Nat.eq_of_beq_eq_true hn
          obtain rfl := Nat.eq_of_beq_eq_true hk
          split at h
          · rename_i hs
            obtain rfl := isS_eq hs
            obtain ⟨h1, h2⟩ := Tr.get_ask.1 h
            obtain ⟨rfl, h3, h4⟩ := smK_eq h1
            simp only [Tr.get, Option.some.injEq] at h2
            subst h2
            exact mq_run (g := o) (isVw_eq hw) (bs := bs) h3 h4
          · cases h
        · cases h
      · cases h
    · cases h
  · cases h
def lsMk : LoopT C24 := Sx.addL 53 0 (loopS [1, 5, 6] [0] mkLoop) (Sx.addL 20 2 (loopS [14, 15, 34, 35, 36] [5] mpLoop) noLs)
theorem lsMk_ok : LoopTOk Try.prog lsMk := addL_ok mk_loop mkLoop_ok (addL_ok mp_loop mpLoop_ok noLs_ok)
abbrev unMk (g b : Nat) : Nat := match g, b with
  | 53, 0 => 0 | 20, 2 => 0 | _, _ => 20
abbrev f24Tb (g : Nat) (o l : Lo Mac) := fnC C24 Try.prog noSp lsMk unMk 10 g [hS o 0, hS l (nx o 0)] (obM (vw o) ++ obM (vw l))
end
end Go.Proofs.Ytgepgnjjhgmfnaa
