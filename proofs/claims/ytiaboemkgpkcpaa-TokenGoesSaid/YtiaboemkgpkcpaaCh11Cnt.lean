/-
  Chapter 11: Count. Own work; nothing here is trusted.
-/
import Derived.Test.YtiaboemkgpkcpaaCh11All
namespace Go.Proofs.Ytiaboemkgpkcpaa
open Go Go.Sx Go.RowKit
set_option maxRecDepth 1000000
set_option maxHeartbeats 8000000
set_option linter.unusedVariables false
noncomputable section
/-- What Count says of a list and a state. -/
def cnZ (ts : List Tk) (s : Int) : Int := bif okT ts then (bif s == 0 then 0 else ((alS ts s ts.length).length : Int)) else 0
theorem cn_tree (a b : Bool) (ts : List Tk) (s : Int) : (fC (some (a, b, ts)) s).get =
  bro (decide (ts.length ≤ (100000 : Nat))) (bro (okT ts) (bro (s == (0 : Int)) (some (SV.raw (Value.int IntKind.i64 (↑(0 : Nat) : Int)), [])) (bro (decide ((↑ts.length : Int) = (↑ts.length : Int) ∧ ts.length ≤ (100000 : Nat))) (bro (decide ((opq11 (alS ts s ts.length)).length = (0 : Nat))) (some (SV.raw (Value.int IntKind.i64 (↑(0 : Nat) : Int)), [])) (some (SV.raw (Value.int IntKind.i64 (↑(opq11 (alS ts s ts.length)).length : Int)), []))) (none))) (some (SV.raw (Value.int IntKind.i64 (↑(0 : Nat) : Int)), []))) (none) := by kernel_rfl
theorem cn_tree0 (s : Int) : (fC none s).get =
  bro (s == (0 : Int)) (some (SV.raw (Value.int IntKind.i64 (↑(0 : Nat) : Int)), [])) (bro (decide ((opq11 (alS ([] : List Tk) s ([] : List Tk).length)).length = (0 : Nat))) (some (SV.raw (Value.int IntKind.i64 (↑(0 : Nat) : Int)), [])) (some (SV.raw (Value.int IntKind.i64 (↑(opq11 (alS ([] : List Tk) s ([] : List Tk).length)).length : Int)), []))) := by kernel_rfl
theorem cn_get {v : Lo Tk} {s : Int} (hl : (lo v).length ≤ 100000) : (fC v s).get = some (.raw (.int .i64 (cnZ (lo v) s)), []) := by
  have key : ∀ ts : List Tk, bro (decide ((opq11 (alS ts s ts.length)).length = (0 : Nat))) (some (SV.raw (Value.int IntKind.i64 (↑(0 : Nat) : Int)), ([] : List (SO C11)))) (some (SV.raw (Value.int IntKind.i64 (↑(opq11 (alS ts s ts.length)).length : Int)), [])) = some (.raw (.int .i64 (((alS ts s ts.length).length : Nat) : Int)), []) := by
    intro ts
    rw [opq11_eq]
    by_cases h : (alS ts s ts.length).length = 0
    · rw [decide_eq_true h, h]; rfl
    · rw [decide_eq_false h]; rfl
  cases v with
  | none =>
    refine (cn_tree0 s).trans ?_
    have e : cnZ (lo (none : Lo Tk)) s = bif s == 0 then 0 else ((alS ([] : List Tk) s ([] : List Tk).length).length : Int) := rfl
    rw [e, key]
    cases (s == 0) <;> rfl
  | some y =>
    obtain ⟨a, b, ts⟩ := y
    have hl : ts.length ≤ 100000 := hl
    refine (cn_tree a b ts s).trans ?_
    show _ = some (SV.raw (.int .i64 (cnZ ts s)), [])
    unfold cnZ
    rw [decide_eq_true hl, decide_eq_true (⟨rfl, hl⟩ : (ts.length : Int) = (ts.length : Int) ∧ ts.length ≤ 100000), key]
    cases okT ts <;> cases (s == 0) <;> rfl
def countT : FnF C11 := fun args os => match args with
  | [.agg [sv], .raw (.int .i64 s)] => match decT sv 0 os with
    | some (v, []) => withL v fun ts => .br (decide (ts.length ≤ 100000)) (.leaf (.raw (.int .i64 (cnZ ts s)), [])) .fail
    | _ => .fail
  | _ => .fail
theorem countT_ok : ∀ args os r, (countT args os).get = some r → Fn0 Try.prog 10 args os r := fun args os r h => by
  unfold countT at h
  split at h
  · split at h
    · rename_i sv s v hv
      obtain ⟨rfl, rfl⟩ := decT_eq hv
      rw [withL_eq] at h
      obtain ⟨h1, h2⟩ := Tr.get_ask.1 h
      obtain rfl := Option.some.inj h2
      refine fnC_ok (sp := sfAl) (ls := lsAl) (unr := unAl) (d := 10) plain mixed sfAl_ok lsAl_ok (Eq.trans ?_ rfl)
      rw [List.append_nil]
      exact cn_get (of_decide_eq_true h1)
    · cases h
  · cases h
end
end Go.Proofs.Ytiaboemkgpkcpaa
