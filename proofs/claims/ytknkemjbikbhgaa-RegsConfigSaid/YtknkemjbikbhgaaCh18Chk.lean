/-
  Chapter 18: Check of registers. Own work; nothing here is trusted.
-/
import Derived.Test.YtknkemjbikbhgaaCh18Rdy
namespace Go.Proofs.Ytknkemjbikbhgaa
open Go Go.Sx Go.RowKit
set_option maxRecDepth 1000000
set_option maxHeartbeats 8000000
set_option linter.unusedVariables false
set_option linter.unusedSimpArgs false
noncomputable section
section
variable (k o g s se at' ge it : Int) (f1 : Bool) (qs : List Qe) (cb : CB)
abbrev kR (i : Int) : Option (Ex × List SV × List (SO C18)) := some (.ret, kSt k o g s se at' ge it f1 qs cb i 2)
abbrev kN (i : Int) : Option (Ex × List SV × List (SO C18)) := some (.normal, kSt k o g s se at' ge it f1 qs cb i 0)
abbrev kX (i : Int) : Option (Ex × List SV × List (SO C18)) := bro (inR64 (i + 1)) (kN k o g s se at' ge it f1 qs cb (i + 1)) (kN k o g s se at' ge it f1 qs cb (IntKind.i64.wrap (i + 1)))
theorem k_tree (i : Int) : (kRound k o g s se at' ge it f1 qs cb i).get =
  bro (decide (i < (qs.length : Int))) (bro (Sx.inB i qs.length) (bro (decide (i.toNat < qs.length)) (bro (decide ((elQ qs i).1 < 1)) (kR k o g s se at' ge it f1 qs cb i) (bro (decide (32768 < (elQ qs i).1)) (kR k o g s se at' ge it f1 qs cb i) (bro (decide ((elQ qs i).2.1 < 0)) (kR k o g s se at' ge it f1 qs cb i) (bro (decide ((elQ qs i).1 < (elQ qs i).2.1)) (kR k o g s se at' ge it f1 qs cb i) (bro (elQ qs i).2.2.1 (bro (rokB k o g s) (bro (!rdB g s (elQ qs i)) (kR k o g s se at' ge it f1 qs cb i) (kX k o g s se at' ge it f1 qs cb i)) none) (kX k o g s se at' ge it f1 qs cb i)))))) none) none)
    (some (.exit 0, kSt k o g s se at' ge it f1 qs cb i 0)) := by rcases cb with _ | ⟨f2, cf⟩ <;> kernel_rfl
end
/-- A queue that may not be. -/
def badQ (g s : Int) (q : Qe) : Bool := decide (q.1 < 1) || (decide (32768 < q.1) || (decide (q.2.1 < 0) || (decide (q.1 < q.2.1) || (q.2.2.1 && !rdB g s q))))
abbrev badL (g s : Int) (qs : List Qe) (i : Nat) : Bool := badQ g s (elQ qs (i : Int))
section
variable {k o g s se at' ge it : Int} {f1 : Bool} {qs : List Qe} {cb : CB}
theorem k_round (hk : rokB k o g s = true) (hl : qs.length ≤ 1000) {i : Nat} (hi : i < qs.length) : (kRound k o g s se at' ge it f1 qs cb (i : Int)).get = bro (badL g s qs i) (kR k o g s se at' ge it f1 qs cb (i : Int)) (some (.normal, kSt k o g s se at' ge it f1 qs cb ((i + 1 : Nat) : Int) 0)) := by
  rw [k_tree, decide_eq_true (show (i : Int) < (qs.length : Int) by omega), inB_mk (i := (i : Int)) (n := qs.length) ⟨by omega, by omega⟩, decide_eq_true (show ((i : Nat) : Int).toNat < qs.length by omega), hk]
  unfold badL badQ kX
  rw [inR64_mk (r := (i : Int) + 1) (by omega)]
  cases decide ((elQ qs (i : Int)).1 < 1) <;> cases decide (32768 < (elQ qs (i : Int)).1) <;> cases decide ((elQ qs (i : Int)).2.1 < 0) <;> cases decide ((elQ qs (i : Int)).1 < (elQ qs (i : Int)).2.1) <;> cases (elQ qs (i : Int)).2.2.1 <;> cases rdB g s (elQ qs (i : Int)) <;> rfl
theorem k_end : (kRound k o g s se at' ge it f1 qs cb (qs.length : Int)).get = some (.exit 0, kSt k o g s se at' ge it f1 qs cb (qs.length : Int) 0) := by
  rw [k_tree, decide_eq_false (Int.lt_irrefl _)]; rfl
end
theorem k_loop : loopOf Try.prog 50 0 = some (((loopOf Try.prog 50 0).get!).1, (loopOf Try.prog 50 0).get!.2) := by kernel_rfl
def kLeaf (k o g s se at' ge it : Int) (f1 : Bool) (qs : List Qe) (cb : CB) : Tr (Ex × List SV × List (SO C18)) := .br (noneP (badL g s qs) qs.length) (.leaf (.exit 0, kSt k o g s se at' ge it f1 qs cb (qs.length : Int) 0)) (.leaf (.ret, kSt k o g s se at' ge it f1 qs cb ((fstP (badL g s qs) qs.length : Nat) : Int) 2))
def kLoop : LoopFn C18 := fun li => match li with
  | ⟨[.h 0, .h 1, .raw (.int .i64 n), .raw (.int .i64 (.ofNat 0)), .raw (.int .i64 (.ofNat 0))], 3, [.box [.raw (.int .i64 k), .raw (.int .u64 o), .raw (.int .u64 g), .raw (.int .u8 s), .raw (.int .i64 se), .raw (.int .i64 at'), .h 1, .h 2, .raw (.int .u8 ge), .raw (.int .u8 it)] 64, .sl false f1 77 qs, .sl false f2 5 cf]⟩ =>
    .br (n == (qs.length : Int)) (.br (decide (qs.length ≤ 1000)) (.br (rokB k o g s) (kLeaf k o g s se at' ge it f1 qs (some (f2, cf))) .fail) .fail) .fail
  | ⟨[.h 0, .h 1, .raw (.int .i64 n), .raw (.int .i64 (.ofNat 0)), .raw (.int .i64 (.ofNat 0))], 2, [.box [.raw (.int .i64 k), .raw (.int .u64 o), .raw (.int .u64 g), .raw (.int .u8 s), .raw (.int .i64 se), .raw (.int .i64 at'), .h 1, .raw (.slice none 0 0), .raw (.int .u8 ge), .raw (.int .u8 it)] 64, .sl false f1 77 qs]⟩ =>
    .br (n == (qs.length : Int)) (.br (decide (qs.length ≤ 1000)) (.br (rokB k o g s) (kLeaf k o g s se at' ge it f1 qs none) .fail) .fail) .fail
  | _ => .fail
theorem k_run {k o g s se at' ge it : Int} {f1 : Bool} {qs : List Qe} {cb : CB} (hl : qs.length ≤ 1000) (hk : rokB k o g s = true) {r : Ex × List SV × List (SO C18)} (h : (kLeaf k o g s se at' ge it f1 qs cb).get = some r) :
    Keeps (cbN 2 cb) (kSt k o g s se at' ge it f1 qs cb 0 0).2 r.2.2 ∧ LoopRun Try.prog ((loopOf Try.prog 50 0).get!).1 (loopOf Try.prog 50 0).get!.2 (cbN 2 cb) (LI.st kSlots ⟨(kSt k o g s se at' ge it f1 qs cb 0 0).1, cbN 2 cb, (kSt k o g s se at' ge it f1 qs cb 0 0).2⟩) fun x T => ∃ vs os, (x = r.1 ∧ (vs, os) = r.2) ∧ T = ⟨zipT kSlots vs, numH 0 os, os.length⟩ := by
  constructor
  · have hr : r.2.2 = (kSt k o g s se at' ge it f1 qs cb 0 0).2 := by
      unfold kLeaf at h
      rcases cb with _ | ⟨f2, cf⟩ <;> rcases Tr.get_br.1 h with ⟨_, hD⟩ | ⟨_, hD⟩ <;> (simp only [Tr.get, Option.some.injEq] at hD; subst hD; rfl)
    rw [hr]
    rcases cb with _ | ⟨f2, cf⟩ <;> exact Keeps.of3 (by simp) rfl
  · exact scan_li (stN := fun i => kSt k o g s se at' ge it f1 qs cb (i : Int) 0) (stR := fun i => kSt k o g s se at' ge it f1 qs cb (i : Int) 2) (p := badL g s qs) (n := qs.length) plain mixed sf23_ok noLs_ok k_loop (fun i hi => k_round hk hl hi) k_end h
theorem kLoop_ok : ∀ tm hp n x, (loopS kSlots [] kLoop tm hp n).get = some x → InLoop Try.prog ((loopOf Try.prog 50 0).get!).1 (loopOf Try.prog 50 0).get!.2 tm hp n fun e tm hp n => (e, tm, hp, n) = x := loopS_of fun li r h => by
  unfold kLoop at h
  split at h
  · rename_i n k o g s se at' ge it f1 qs f2 cf
    obtain ⟨h1, g1⟩ := Tr.get_ask.1 h
    obtain ⟨h2, g2⟩ := Tr.get_ask.1 g1
    obtain ⟨h3, g3⟩ := Tr.get_ask.1 g2
    clear h g1 g2
    have h1 := eq_of_beq h1
    subst h1
    exact k_run (cb := some (f2, cf)) (of_decide_eq_true h2) h3 g3
  · rename_i n k o g s se at' ge it f1 qs
    obtain ⟨h1, g1⟩ := Tr.get_ask.1 h
    obtain ⟨h2, g2⟩ := Tr.get_ask.1 g1
    obtain ⟨h3, g3⟩ := Tr.get_ask.1 g2
    clear h g1 g2
    have h1 := eq_of_beq h1
    subst h1
    exact k_run (cb := none) (of_decide_eq_true h2) h3 g3
  · cases h
def lsK : LoopT C18 := Sx.addL 50 0 (loopS kSlots [] kLoop) noLs
theorem lsK_ok : LoopTOk Try.prog lsK := addL_ok k_loop kLoop_ok noLs_ok
abbrev unK (g b : Nat) : Nat := match g, b with
  | 50, 0 => 0 | _, _ => 20
abbrev fK := fnC C18 Try.prog sf23 lsK unK 10
end
end Go.Proofs.Ytknkemjbikbhgaa
