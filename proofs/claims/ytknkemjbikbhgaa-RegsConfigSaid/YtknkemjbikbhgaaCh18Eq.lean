/-
  Chapter 18: lists of queues and of bytes compared; Same. Own work; nothing here is trusted.
-/
import Derived.Test.YtknkemjbikbhgaaCh18Rg
namespace Go.Proofs.Ytknkemjbikbhgaa
open Go Go.Sx Go.RowKit
set_option maxRecDepth 1000000
set_option maxHeartbeats 8000000
set_option linter.unusedVariables false
set_option linter.unusedSimpArgs false
noncomputable section
abbrev elB (qs : List Int) (i : Int) : Int := qs.getD i.toNat 0
def neq (x y : Qe) : Bool := !(x.1 == y.1 && (x.2.1 == y.2.1 && (x.2.2.1 == y.2.2.1 && (x.2.2.2.1 == y.2.2.2.1 && (x.2.2.2.2.1 == y.2.2.2.2.1 && (x.2.2.2.2.2 == y.2.2.2.2.2 && true))))))
abbrev eqSl : List Nat := [0, 1, 12, 13, 4]
abbrev eqSt (o1 f1 o2 f2 : Bool) (ts us : List Qe) (k : Int) : List SV × List (SO C18) := ([.h 0, .h 1, .raw (.int .i64 (ts.length : Int)), .raw (.int .i64 k), .raw (.bool false)], [.sl o1 f1 77 ts, .sl o2 f2 77 us])
abbrev eqRd (o1 f1 o2 f2 : Bool) (ts us : List Qe) (k : Int) := roundG C18 Try.prog noSp noLs (fun _ _ => 20) 10 66 0 eqSl ⟨(eqSt o1 f1 o2 f2 ts us k).1, 2, (eqSt o1 f1 o2 f2 ts us k).2⟩
abbrev eqN (o1 f1 o2 f2 : Bool) (ts us : List Qe) (k : Int) : Option (Ex × List SV × List (SO C18)) := some (.normal, eqSt o1 f1 o2 f2 ts us k)
theorem eq_tree (o1 f1 o2 f2 : Bool) (ts us : List Qe) (k : Int) : (eqRd o1 f1 o2 f2 ts us k).get =
  bro (decide (k < (ts.length : Int))) (bro (Sx.inB k ts.length) (bro (decide (k.toNat < ts.length)) (bro (Sx.inB k us.length) (bro (decide (k.toNat < us.length)) (bro (neq (elQ ts k) (elQ us k)) (some (.ret, eqSt o1 f1 o2 f2 ts us k)) (bro (inR64 (k + 1)) (eqN o1 f1 o2 f2 ts us (k + 1)) (eqN o1 f1 o2 f2 ts us (IntKind.i64.wrap (k + 1))))) none) none) none) none) (some (.exit 0, eqSt o1 f1 o2 f2 ts us k)) := by kernel_rfl
theorem eq_round {o1 f1 o2 f2 : Bool} {ts us : List Qe} {k : Nat} (hk : k < ts.length) (hu : us.length = ts.length) (hl : ts.length ≤ 100000) :
    (eqRd o1 f1 o2 f2 ts us k).get = bro (neq (elQ ts k) (elQ us k)) (some (.ret, eqSt o1 f1 o2 f2 ts us k)) (some (.normal, eqSt o1 f1 o2 f2 ts us ((k + 1 : Nat) : Int))) := by
  rw [eq_tree]
  have k1 := decide_eq_true (show (k : Int) < (ts.length : Int) by omega)
  have k2 : Sx.inB (k : Int) ts.length = true := inB_mk ⟨by omega, by omega⟩
  have k3 := decide_eq_true (show ((k : Nat) : Int).toNat < ts.length by omega)
  have k4 : inR64 ((k : Int) + 1) = true := inR64_mk (by omega)
  have k5 : Sx.inB (k : Int) us.length = true := inB_mk ⟨by omega, by omega⟩
  have k6 := decide_eq_true (show ((k : Nat) : Int).toNat < us.length by omega)
  simp only [k1, k2, k3, k4, k5, k6, bro_true]
  rfl
theorem eq_end {o1 f1 o2 f2 : Bool} {ts us : List Qe} : (eqRd o1 f1 o2 f2 ts us (ts.length : Int)).get = some (.exit 0, eqSt o1 f1 o2 f2 ts us (ts.length : Int)) := by
  rw [eq_tree, decide_eq_false (Int.lt_irrefl _)]; rfl
abbrev neqL (ts us : List Qe) (k : Nat) : Bool := neq (elQ ts k) (elQ us k)
def eqLoop : LoopFn C18 := fun li => match li with
  | ⟨[.h 0, .h 1, .raw (.int .i64 n), .raw (.int .i64 (.ofNat 0)), .raw (.bool false)], 2, [.sl o1 f1 77 ts, .sl o2 f2 77 us]⟩ =>
    .br (n == (ts.length : Int)) (.br (decide (ts.length ≤ 100000 ∧ us.length = ts.length)) (.br (noneP (neqL ts us) ts.length) (.leaf (.exit 0, eqSt o1 f1 o2 f2 ts us (ts.length : Int))) (.leaf (.ret, eqSt o1 f1 o2 f2 ts us (fstP (neqL ts us) ts.length : Int)))) .fail) .fail
  | _ => .fail
theorem eq_loop : loopOf Try.prog 66 0 = some (((loopOf Try.prog 66 0).get!).1, (loopOf Try.prog 66 0).get!.2) := by kernel_rfl
theorem eqLoop_ok : ∀ tm hp n x, (loopS eqSl [] eqLoop tm hp n).get = some x → InLoop Try.prog ((loopOf Try.prog 66 0).get!).1 (loopOf Try.prog 66 0).get!.2 tm hp n fun e tm hp n => (e, tm, hp, n) = x := loopS_of fun li r h => by
  unfold eqLoop at h
  split at h
  · rename_i n o1 f1 ts o2 f2 us
    obtain ⟨hn0, hB⟩ := Tr.get_ask.1 h
    obtain ⟨hl, hC⟩ := Tr.get_ask.1 hB
    clear h hB
    have hn0 := eq_of_beq hn0
    subst hn0
    change List Qe at ts us
    have hl : (ts : List Qe).length ≤ 100000 ∧ (us : List Qe).length = (ts : List Qe).length := of_decide_eq_true hl
    have hr : r.2.2 = (eqSt o1 f1 o2 f2 ts us 0).2 := by
      rcases Tr.get_br.1 hC with ⟨_, hD⟩ | ⟨_, hD⟩ <;> (simp only [Tr.get, Option.some.injEq] at hD; subst hD; rfl)
    refine ⟨by rw [hr]; exact Keeps.of (Nat.le_refl 2) rfl (fun o ho => by cases ho), ?_⟩
    exact scan_li (n := (ts : List Qe).length) (stN := fun k => eqSt o1 f1 o2 f2 ts us (k : Int)) (stR := fun k => eqSt o1 f1 o2 f2 ts us (k : Int)) (p := neqL ts us) (d := 10) (unr := fun _ _ => 20) plain mixed noSp_ok noLs_ok eq_loop (fun k hk => eq_round hk hl.2 hl.1) eq_end hC
  · cases h
/-- The same list. -/
def eqq (ts us : List Qe) : Bool := sel (decide (us.length = ts.length)) (noneP (neqL ts us) ts.length) false
abbrev fEq := fnC C18 Try.prog noSp (Sx.addL 66 0 (loopS eqSl [] eqLoop) noLs) (fun g b => match g, b with | 66, 0 => 0 | _, _ => 20) 10 66
theorem feq_tree (f1 f2 : Bool) (ts us : List Qe) : (fEq [.h 0, .h 1] [.sl false f1 77 ts, .sl false f2 77 us]).get =
  bro ((ts.length : Int) != (us.length : Int)) (some (.raw (.bool false), [])) (bro ((ts.length : Int) == (ts.length : Int)) (bro (decide (ts.length ≤ 100000 ∧ us.length = ts.length)) (bro (noneP (neqL ts us) ts.length) (some (.raw (.bool true), [])) (some (.raw (.bool false), []))) none) none) := by kernel_rfl
def eqT : FnF C18 := fun args os => match args, os with
  | [.h 0, .h 1], [.sl false f1 77 ts, .sl false f2 77 us] => .br (decide (ts.length ≤ 1000)) (.leaf (.raw (.bool (eqq ts us)), [])) .fail
  | [.h 0, .raw (.slice none 0 0)], [.sl false f1 77 ts] => .leaf (.raw (.bool (decide (ts.length = 0))), [])
  | _, _ => .fail
theorem feq_nil (f1 : Bool) (ts : List Qe) : (fnC C18 Try.prog noSp noLs (fun _ _ => 1) 10 66 [.h 0, nlS] [.sl false f1 77 ts]).get =
  bro ((ts.length : Int) != ((0 : Nat) : Int)) (some (.raw (.bool false), [])) (bro (decide ((0 : Int) < (ts.length : Int))) (bro (Sx.inB (0 : Int) ts.length) (bro (decide (Int.toNat (0 : Int) < ts.length)) none none) none) (some (.raw (.bool true), []))) := by kernel_rfl
theorem eqT_ok : ∀ args os r, (eqT args os).get = some r → Fn0 Try.prog 66 args os r := fun args os r h => by
  unfold eqT at h
  split at h
  · rename_i f1 ts f2 us
    obtain ⟨h1, g1⟩ := Tr.get_ask.1 h
    change List Qe at ts us
    have h1 : (ts : List Qe).length ≤ 1000 := of_decide_eq_true h1
    refine fnC_ok (sp := noSp) (ls := Sx.addL 66 0 (loopS eqSl [] eqLoop) noLs) (unr := fun g b => match g, b with | 66, 0 => 0 | _, _ => 20) (d := 10) plain mixed noSp_ok (addL_ok eq_loop eqLoop_ok noLs_ok) ?_
    refine (feq_tree f1 f2 ts us).trans (Eq.trans ?_ g1)
    unfold eqq
    by_cases hl : (us : List Qe).length = (ts : List Qe).length
    · rw [show (((ts : List Qe).length : Int) != ((us : List Qe).length : Int)) = false by rw [hl]; simp, beq_self_eq_true, decide_eq_true (show (ts : List Qe).length ≤ 100000 ∧ (us : List Qe).length = (ts : List Qe).length from ⟨by omega, hl⟩), decide_eq_true hl]
      show bro (noneP (neqL ts us) (ts : List Qe).length) _ _ = some (SV.raw (.bool (noneP (neqL ts us) (ts : List Qe).length)), [])
      cases noneP (neqL ts us) (ts : List Qe).length <;> rfl
    · rw [show (((ts : List Qe).length : Int) != ((us : List Qe).length : Int)) = true by simp; omega, decide_eq_false hl]; rfl
  · rename_i f1 ts
    simp only [Tr.get, Option.some.injEq] at h
    subst h
    change List Qe at ts
    refine fnC_ok (sp := noSp) (ls := noLs) (unr := fun _ _ => 1) (d := 10) plain mixed noSp_ok noLs_ok ?_
    refine (feq_nil f1 ts).trans ?_
    cases ts with
    | nil => rfl
    | cons x r =>
      have e : ((((x :: r : List Qe).length : Nat) : Int) != ((0 : Nat) : Int)) = true := by simp; omega
      show bro (((((x :: r : List Qe).length : Nat) : Int) != ((0 : Nat) : Int))) _ _ = _
      rw [e]; rfl
  · cases h
theorem eqq_refl (ts : List Qe) : eqq ts ts = true := by
  unfold eqq
  rw [decide_eq_true rfl]
  refine noneP_iff.2 fun k hk => ?_
  show neq (elQ ts k) (elQ ts k) = false
  unfold neq
  simp
def neb (x y : Int) : Bool := x != y
abbrev ebSl : List Nat := [0, 1, 12, 13, 4]
abbrev ebSt (o1 f1 o2 f2 : Bool) (ts us : List Int) (k : Int) : List SV × List (SO C18) := ([.h 0, .h 1, .raw (.int .i64 (ts.length : Int)), .raw (.int .i64 k), .raw (.bool false)], [.sl o1 f1 5 ts, .sl o2 f2 5 us])
abbrev ebRd (o1 f1 o2 f2 : Bool) (ts us : List Int) (k : Int) := roundG C18 Try.prog noSp noLs (fun _ _ => 20) 10 67 0 ebSl ⟨(ebSt o1 f1 o2 f2 ts us k).1, 2, (ebSt o1 f1 o2 f2 ts us k).2⟩
abbrev ebN (o1 f1 o2 f2 : Bool) (ts us : List Int) (k : Int) : Option (Ex × List SV × List (SO C18)) := some (.normal, ebSt o1 f1 o2 f2 ts us k)
theorem eb_tree (o1 f1 o2 f2 : Bool) (ts us : List Int) (k : Int) : (ebRd o1 f1 o2 f2 ts us k).get =
  bro (decide (k < (ts.length : Int))) (bro (Sx.inB k ts.length) (bro (decide (k.toNat < ts.length)) (bro (Sx.inB k us.length) (bro (decide (k.toNat < us.length)) (bro (neb (elB ts k) (elB us k)) (some (.ret, ebSt o1 f1 o2 f2 ts us k)) (bro (inR64 (k + 1)) (ebN o1 f1 o2 f2 ts us (k + 1)) (ebN o1 f1 o2 f2 ts us (IntKind.i64.wrap (k + 1))))) none) none) none) none) (some (.exit 0, ebSt o1 f1 o2 f2 ts us k)) := by kernel_rfl
theorem eb_round {o1 f1 o2 f2 : Bool} {ts us : List Int} {k : Nat} (hk : k < ts.length) (hu : us.length = ts.length) (hl : ts.length ≤ 100000) :
    (ebRd o1 f1 o2 f2 ts us k).get = bro (neb (elB ts k) (elB us k)) (some (.ret, ebSt o1 f1 o2 f2 ts us k)) (some (.normal, ebSt o1 f1 o2 f2 ts us ((k + 1 : Nat) : Int))) := by
  rw [eb_tree]
  have k1 := decide_eq_true (show (k : Int) < (ts.length : Int) by omega)
  have k2 : Sx.inB (k : Int) ts.length = true := inB_mk ⟨by omega, by omega⟩
  have k3 := decide_eq_true (show ((k : Nat) : Int).toNat < ts.length by omega)
  have k4 : inR64 ((k : Int) + 1) = true := inR64_mk (by omega)
  have k5 : Sx.inB (k : Int) us.length = true := inB_mk ⟨by omega, by omega⟩
  have k6 := decide_eq_true (show ((k : Nat) : Int).toNat < us.length by omega)
  simp only [k1, k2, k3, k4, k5, k6, bro_true]
  rfl
theorem eb_end {o1 f1 o2 f2 : Bool} {ts us : List Int} : (ebRd o1 f1 o2 f2 ts us (ts.length : Int)).get = some (.exit 0, ebSt o1 f1 o2 f2 ts us (ts.length : Int)) := by
  rw [eb_tree, decide_eq_false (Int.lt_irrefl _)]; rfl
abbrev nebL (ts us : List Int) (k : Nat) : Bool := neb (elB ts k) (elB us k)
def ebLoop : LoopFn C18 := fun li => match li with
  | ⟨[.h 0, .h 1, .raw (.int .i64 n), .raw (.int .i64 (.ofNat 0)), .raw (.bool false)], 2, [.sl o1 f1 5 ts, .sl o2 f2 5 us]⟩ =>
    .br (n == (ts.length : Int)) (.br (decide (ts.length ≤ 100000 ∧ us.length = ts.length)) (.br (noneP (nebL ts us) ts.length) (.leaf (.exit 0, ebSt o1 f1 o2 f2 ts us (ts.length : Int))) (.leaf (.ret, ebSt o1 f1 o2 f2 ts us (fstP (nebL ts us) ts.length : Int)))) .fail) .fail
  | _ => .fail
theorem eb_loop : loopOf Try.prog 67 0 = some (((loopOf Try.prog 67 0).get!).1, (loopOf Try.prog 67 0).get!.2) := by kernel_rfl
theorem ebLoop_ok : ∀ tm hp n x, (loopS ebSl [] ebLoop tm hp n).get = some x → InLoop Try.prog ((loopOf Try.prog 67 0).get!).1 (loopOf Try.prog 67 0).get!.2 tm hp n fun e tm hp n => (e, tm, hp, n) = x := loopS_of fun li r h => by
  unfold ebLoop at h
  split at h
  · rename_i n o1 f1 ts o2 f2 us
    obtain ⟨hn0, hB⟩ := Tr.get_ask.1 h
    obtain ⟨hl, hC⟩ := Tr.get_ask.1 hB
    clear h hB
    have hn0 := eq_of_beq hn0
    subst hn0
    change List Int at ts us
    have hl : (ts : List Int).length ≤ 100000 ∧ (us : List Int).length = (ts : List Int).length := of_decide_eq_true hl
    have hr : r.2.2 = (ebSt o1 f1 o2 f2 ts us 0).2 := by
      rcases Tr.get_br.1 hC with ⟨_, hD⟩ | ⟨_, hD⟩ <;> (simp only [Tr.get, Option.some.injEq] at hD; subst hD; rfl)
    refine ⟨by rw [hr]; exact Keeps.of (Nat.le_refl 2) rfl (fun o ho => by cases ho), ?_⟩
    exact scan_li (n := (ts : List Int).length) (stN := fun k => ebSt o1 f1 o2 f2 ts us (k : Int)) (stR := fun k => ebSt o1 f1 o2 f2 ts us (k : Int)) (p := nebL ts us) (d := 10) (unr := fun _ _ => 20) plain mixed noSp_ok noLs_ok eb_loop (fun k hk => eb_round hk hl.2 hl.1) eb_end hC
  · cases h
/-- The same list. -/
def eqb (ts us : List Int) : Bool := sel (decide (us.length = ts.length)) (noneP (nebL ts us) ts.length) false
abbrev fEb := fnC C18 Try.prog noSp (Sx.addL 67 0 (loopS ebSl [] ebLoop) noLs) (fun g b => match g, b with | 67, 0 => 0 | _, _ => 20) 10 67
theorem feb_tree (f1 f2 : Bool) (ts us : List Int) : (fEb [.h 0, .h 1] [.sl false f1 5 ts, .sl false f2 5 us]).get =
  bro ((ts.length : Int) != (us.length : Int)) (some (.raw (.bool false), [])) (bro ((ts.length : Int) == (ts.length : Int)) (bro (decide (ts.length ≤ 100000 ∧ us.length = ts.length)) (bro (noneP (nebL ts us) ts.length) (some (.raw (.bool true), [])) (some (.raw (.bool false), []))) none) none) := by kernel_rfl
def ebT : FnF C18 := fun args os => match args, os with
  | [.h 0, .h 1], [.sl false f1 5 ts, .sl false f2 5 us] => .br (decide (ts.length ≤ 1000)) (.leaf (.raw (.bool (eqb ts us)), [])) .fail
  | [.h 0, .raw (.slice none 0 0)], [.sl false f1 5 ts] => .leaf (.raw (.bool (decide (ts.length = 0))), [])
  | _, _ => .fail
theorem feb_nil (f1 : Bool) (ts : List Int) : (fnC C18 Try.prog noSp noLs (fun _ _ => 1) 10 67 [.h 0, nlS] [.sl false f1 5 ts]).get =
  bro ((ts.length : Int) != ((0 : Nat) : Int)) (some (.raw (.bool false), [])) (bro (decide ((0 : Int) < (ts.length : Int))) (bro (Sx.inB (0 : Int) ts.length) (bro (decide (Int.toNat (0 : Int) < ts.length)) none none) none) (some (.raw (.bool true), []))) := by kernel_rfl
theorem ebT_ok : ∀ args os r, (ebT args os).get = some r → Fn0 Try.prog 67 args os r := fun args os r h => by
  unfold ebT at h
  split at h
  · rename_i f1 ts f2 us
    obtain ⟨h1, g1⟩ := Tr.get_ask.1 h
    change List Int at ts us
    have h1 : (ts : List Int).length ≤ 1000 := of_decide_eq_true h1
    refine fnC_ok (sp := noSp) (ls := Sx.addL 67 0 (loopS ebSl [] ebLoop) noLs) (unr := fun g b => match g, b with | 67, 0 => 0 | _, _ => 20) (d := 10) plain mixed noSp_ok (addL_ok eb_loop ebLoop_ok noLs_ok) ?_
    refine (feb_tree f1 f2 ts us).trans (Eq.trans ?_ g1)
    unfold eqb
    by_cases hl : (us : List Int).length = (ts : List Int).length
    · rw [show (((ts : List Int).length : Int) != ((us : List Int).length : Int)) = false by rw [hl]; simp, beq_self_eq_true, decide_eq_true (show (ts : List Int).length ≤ 100000 ∧ (us : List Int).length = (ts : List Int).length from ⟨by omega, hl⟩), decide_eq_true hl]
      show bro (noneP (nebL ts us) (ts : List Int).length) _ _ = some (SV.raw (.bool (noneP (nebL ts us) (ts : List Int).length)), [])
      cases noneP (nebL ts us) (ts : List Int).length <;> rfl
    · rw [show (((ts : List Int).length : Int) != ((us : List Int).length : Int)) = true by simp; omega, decide_eq_false hl]; rfl
  · rename_i f1 ts
    simp only [Tr.get, Option.some.injEq] at h
    subst h
    change List Int at ts
    refine fnC_ok (sp := noSp) (ls := noLs) (unr := fun _ _ => 1) (d := 10) plain mixed noSp_ok noLs_ok ?_
    refine (feb_nil f1 ts).trans ?_
    cases ts with
    | nil => rfl
    | cons x r =>
      have e : ((((x :: r : List Int).length : Nat) : Int) != ((0 : Nat) : Int)) = true := by simp; omega
      show bro (((((x :: r : List Int).length : Nat) : Int) != ((0 : Nat) : Int))) _ _ = _
      rw [e]; rfl
  · cases h
theorem eqb_refl (ts : List Int) : eqb ts ts = true := by
  unfold eqb
  rw [decide_eq_true rfl]
  refine noneP_iff.2 fun k hk => ?_
  show neb (elB ts k) (elB ts k) = false
  unfold neb
  simp
def sf24 : SpecT C18 := addS 66 (seeS eqT) (addS 67 (seeS ebT) noSp)
theorem sf24_ok : SpecTOk Try.prog sf24 := addS_ok (seeS_ok eqT_ok) (addS_ok (seeS_ok ebT_ok) noSp_ok)
abbrev f24 := fnC C18 Try.prog sf24 noLs (fun _ _ => 20) 10
theorem sm_tree (a b : Rg) (f1 f2 f3 f4 : Bool) : (f24 48 [rA a (.h 0) (.h 1), rA b (.h 2) (.h 3)] [.sl false f1 77 a.qs, .sl false f2 5 a.cf, .sl false f3 77 b.qs, .sl false f4 5 b.cf]).get =
  bro (a.k == b.k && (a.o == b.o && (a.g == b.g && (a.s == b.s && true)))) (bro (a.se == b.se) (bro (a.at' == b.at') (bro (decide (a.qs.length ≤ (1000 : Nat))) (bro (eqq a.qs b.qs) (bro (decide (a.cf.length ≤ (1000 : Nat))) (bro (eqb a.cf b.cf) (bro (a.ge == b.ge) (some (SV.raw (Value.bool (a.it == b.it)), [])) (some (SV.raw (Value.bool false), []))) (some (SV.raw (Value.bool false), []))) (none)) (some (SV.raw (Value.bool false), []))) (none)) (some (SV.raw (Value.bool false), []))) (some (SV.raw (Value.bool false), []))) (some (SV.raw (Value.bool false), [])) := by kernel_rfl
theorem sm_tree0 (a b : Rg) (f1 f2 f3 f4 : Bool) : (f24 48 [rA a (.h 0) (.h 1), rA b (.h 2) nlS] [.sl false f1 77 a.qs, .sl false f2 5 a.cf, .sl false f3 77 b.qs]).get =
  bro (a.k == b.k && (a.o == b.o && (a.g == b.g && (a.s == b.s && true)))) (bro (a.se == b.se) (bro (a.at' == b.at') (bro (decide (a.qs.length ≤ (1000 : Nat))) (bro (eqq a.qs b.qs) (bro (decide (a.cf.length = (0 : Nat))) (bro (a.ge == b.ge) (some (SV.raw (Value.bool (a.it == b.it)), [])) (some (SV.raw (Value.bool false), []))) (some (SV.raw (Value.bool false), []))) (some (SV.raw (Value.bool false), []))) (none)) (some (SV.raw (Value.bool false), []))) (some (SV.raw (Value.bool false), []))) (some (SV.raw (Value.bool false), [])) := by kernel_rfl
/-- Decided, whatever it is. -/
def cdec (p : Prop) : Bool := @decide p (Classical.propDecidable p)
theorem cdec_iff {p : Prop} : cdec p = true ↔ p := @decide_eq_true_iff p (Classical.propDecidable p)
def samL (a b : Rg) : Tr (SV × List (SO C18)) := .br (cdec (a = b)) (.br (decide (a.qs.length ≤ 1000)) (.br (decide (a.cf.length ≤ 1000)) (.leaf (.raw (.bool true), [])) .fail) .fail) .fail
/-- Same, of what is the same. -/
def samT : FnF C18 := fun args os => match args, os with
  | [.agg [.raw (.int .i64 k), .raw (.int .u64 o), .raw (.int .u64 g), .raw (.int .u8 s), .raw (.int .i64 se), .raw (.int .i64 at'), .h 0, .h 1, .raw (.int .u8 ge), .raw (.int .u8 it)], .agg [.raw (.int .i64 k2), .raw (.int .u64 o2), .raw (.int .u64 g2), .raw (.int .u8 s2), .raw (.int .i64 se2), .raw (.int .i64 at2), .h 2, .h 3, .raw (.int .u8 ge2), .raw (.int .u8 it2)]], [.sl false f1 77 qs, .sl false f2 5 cf, .sl false f3 77 qs2, .sl false f4 5 cf2] =>
    samL ⟨k, o, g, s, se, at', ge, it, qs, cf⟩ ⟨k2, o2, g2, s2, se2, at2, ge2, it2, qs2, cf2⟩
  | [.agg [.raw (.int .i64 k), .raw (.int .u64 o), .raw (.int .u64 g), .raw (.int .u8 s), .raw (.int .i64 se), .raw (.int .i64 at'), .h 0, .h 1, .raw (.int .u8 ge), .raw (.int .u8 it)], .agg [.raw (.int .i64 k2), .raw (.int .u64 o2), .raw (.int .u64 g2), .raw (.int .u8 s2), .raw (.int .i64 se2), .raw (.int .i64 at2), .h 2, .raw (.slice none 0 0), .raw (.int .u8 ge2), .raw (.int .u8 it2)]], [.sl false f1 77 qs, .sl false f2 5 cf, .sl false f3 77 qs2] =>
    samL ⟨k, o, g, s, se, at', ge, it, qs, cf⟩ ⟨k2, o2, g2, s2, se2, at2, ge2, it2, qs2, []⟩
  | _, _ => .fail
theorem sam_get {a b : Rg} {r : SV × List (SO C18)} (h : (samL a b).get = some r) : a = b ∧ decide (a.qs.length ≤ 1000) = true ∧ decide (a.cf.length ≤ 1000) = true ∧ r = (.raw (.bool true), []) := by
  unfold samL at h
  obtain ⟨h1, g1⟩ := Tr.get_ask.1 h
  obtain ⟨h2, g2⟩ := Tr.get_ask.1 g1
  obtain ⟨h3, g3⟩ := Tr.get_ask.1 g2
  exact ⟨cdec_iff.1 h1, h2, h3, (Option.some.inj g3).symm⟩
theorem samT_ok : ∀ args os r, (samT args os).get = some r → Fn0 Try.prog 48 args os r := fun args os r h => by
  unfold samT at h
  split at h
  · rename_i k o g s se at' ge it k2 o2 g2 s2 se2 at2 ge2 it2 f1 qs f2 cf f3 qs2 f4 cf2
    obtain ⟨h1, h2, h3, rfl⟩ := sam_get h
    refine fnC_ok (sp := sf24) (ls := noLs) (unr := fun _ _ => 20) (d := 10) plain mixed sf24_ok noLs_ok ?_
    refine (sm_tree ⟨k, o, g, s, se, at', ge, it, qs, cf⟩ ⟨k2, o2, g2, s2, se2, at2, ge2, it2, qs2, cf2⟩ f1 f2 f3 f4).trans ?_
    rw [← h1]
    rw [h2, h3, eqq_refl, eqb_refl]
    simp only [beq_self_eq_true, Bool.and_true, Bool.and_self, bro_true]
  · rename_i k o g s se at' ge it k2 o2 g2 s2 se2 at2 ge2 it2 f1 qs f2 cf f3 qs2
    obtain ⟨h1, h2, h3, rfl⟩ := sam_get h
    refine fnC_ok (sp := sf24) (ls := noLs) (unr := fun _ _ => 20) (d := 10) plain mixed sf24_ok noLs_ok ?_
    refine (sm_tree0 ⟨k, o, g, s, se, at', ge, it, qs, cf⟩ ⟨k2, o2, g2, s2, se2, at2, ge2, it2, qs2, []⟩ f1 f2 f3 false).trans ?_
    rw [h1]
    rw [h1] at h2
    rw [h2, eqq_refl]
    simp only [beq_self_eq_true, Bool.and_true, Bool.and_self, bro_true, List.length_nil, decide_true]
  · cases h
end
end Go.Proofs.Ytknkemjbikbhgaa
