/-
  Chapter 11: TokenGoes' loop over a map, whatever its order. Own work; nothing here is trusted.
-/
import Derived.Test.YtiaboemkgpkcpaaCh11Rng1
namespace Go.Proofs.Ytiaboemkgpkcpaa
open Go Go.Sx Go.RowKit
set_option maxRecDepth 1000000
set_option maxHeartbeats 8000000
set_option linter.unusedVariables false
set_option linter.unusedSimpArgs false
noncomputable section
/-- The number of tokens that are on their way, so far. -/
def gC (c V : Int) : Int := bif (V.tmod 4 != 0) then c + 1 else c
theorem g_step {v : Lo Tk} {c K V : Int} {g : Nat} (hl : (lo v).length ≤ 100000) (he : stA (lo v) K = V.tmod 4) (hc : 0 ≤ c ∧ c ≤ 1000000) : (gR v c K V g).get = some (.normal, gVs (gC c V) K V g, gOs v) := by
  have k1 : (stA (lo v) K != V.tmod 4) = false := by rw [he]; exact bne_self_eq_false _
  have k2 : inR64 (c + 1) = true := inR64_mk (by omega)
  have fin : ∀ {α : Type} (f : Int → α), bro (V.tmod (4 : Int) != (0 : Int)) (bro (inR64 (c + (1 : Int))) (some (f (c + 1))) (some (f (IntKind.i64.wrap (c + (1 : Int)))))) (some (f c)) = some (f (gC c V)) := fun f => by
    unfold gC
    rw [k2]
    cases (V.tmod 4 != 0) <;> rfl
  cases v with
  | none => exact (by kernel_rfl : (gR none c K V g).get = bro (stA [] K != V.tmod (4 : Int)) (some (.ret, gVs c K V g, gOs none)) (bro (V.tmod (4 : Int) != (0 : Int)) (bro (inR64 (c + (1 : Int))) (some (.normal, gVs (c + 1) K V g, gOs none)) (some (.normal, gVs (IntKind.i64.wrap (c + 1)) K V g, gOs none))) (some (.normal, gVs c K V g, gOs none)))).trans (by
      have k1 : (stA [] K != V.tmod 4) = false := k1
      rw [k1]; exact fin fun c => (Ex.normal, gVs c K V g, gOs none))
  | some x =>
    obtain ⟨a, b, ts⟩ := x
    have hl : ts.length ≤ 100000 := hl
    exact (by kernel_rfl : (gR (some (a, b, ts)) c K V g).get = bro (decide (ts.length ≤ (100000 : Nat))) (bro (stA ts K != V.tmod (4 : Int)) (some (.ret, gVs c K V g, gOs (some (a, b, ts)))) (bro (V.tmod (4 : Int) != (0 : Int)) (bro (inR64 (c + (1 : Int))) (some (.normal, gVs (c + 1) K V g, gOs (some (a, b, ts)))) (some (.normal, gVs (IntKind.i64.wrap (c + 1)) K V g, gOs (some (a, b, ts))))) (some (.normal, gVs c K V g, gOs (some (a, b, ts)))))) none).trans (by
      have k1 : (stA ts K != V.tmod 4) = false := k1
      rw [decide_eq_true hl, k1]; exact fin fun c => (Ex.normal, gVs c K V g, gOs (some (a, b, ts))))
theorem put_get {a : Act} {t : Tmp} {v : Value} (h : t < a.tmps.size) : (a.put (some t) v).tmps[t]? = some v := by
  show (a.tmps.setIfInBounds t v)[t]? = _
  rw [Array.getElem?_setIfInBounds]; simp [h]
theorem put_ne {a : Act} {t u : Tmp} {v : Value} (h : t ≠ u) : (a.put (some t) v).tmps[u]? = a.tmps[u]? := by
  show (a.tmps.setIfInBounds t v)[u]? = _
  rw [Array.getElem?_setIfInBounds, if_neg h]
theorem eval_tmp {a : Act} {t : Tmp} {v : Value} (h : a.tmps[t]? = some v) : a.eval (.tmp t) = v := by
  show a.tmps.getD t undef = v
  simp [h]
/-- How many of the entries that were handed out are on their way. -/
def cntS : List MapEntry → Array Nat → Nat
  | [], _ => 0
  | e :: r, s => (if s.contains e.born && (valOf e.val).tmod 4 != 0 then 1 else 0) + cntS r s
theorem cntS_other (s : Array Nat) (b : Nat) : ∀ (es : List MapEntry), b ∉ es.map (·.born) → cntS es (s.push b) = cntS es s
  | [], _ => rfl
  | e :: r, h => by
    rw [List.map_cons, List.mem_cons, not_or] at h
    unfold cntS
    rw [cntS_other s b r h.2, contains_push]
    have : (e.born == b) = false := by simpa using fun h' => h.1 h'.symm
    rw [this, Bool.or_false]
theorem cntS_push (s : Array Nat) (e : MapEntry) (hs : s.contains e.born = false) : ∀ (es : List MapEntry), (es.map (·.born)).Nodup → e ∈ es → (cntS es (s.push e.born) : Int) = gC (cntS es s) (valOf e.val)
  | x :: r, hn, he => by
    rw [List.map_cons] at hn
    obtain ⟨h1, h2⟩ := List.nodup_cons.1 hn
    unfold cntS
    by_cases hx : x = e
    · subst hx
      rw [cntS_other s _ r h1, contains_push, hs]
      unfold gC
      simp only [beq_self_eq_true, Bool.or_true, Bool.true_and, Bool.false_and]
      cases ((valOf x.val).tmod 4 != 0) with
      | true => simp only [cond_true, if_true, Bool.false_eq_true, if_false] <;> omega
      | false => simp only [cond_false, Bool.false_eq_true, if_false] <;> omega
    · have he' : e ∈ r := (List.mem_cons.1 he).resolve_left fun h => hx h.symm
      have hb : (x.born == e.born) = false := by
        have : x.born ≠ e.born := fun h => h1 (by rw [h]; exact List.mem_map.2 ⟨e, he', rfl⟩)
        simpa using this
      have ih := cntS_push s e hs r h2 he'
      rw [contains_push, hb, Bool.or_false]
      unfold gC at ih ⊢
      cases hv : ((valOf e.val).tmod 4 != 0) with
      | true => rw [hv] at ih; simp only [cond_true] at ih ⊢; omega
      | false => rw [hv] at ih; simp only [cond_false] at ih ⊢; omega
theorem cntS_nil : ∀ (es : List MapEntry), cntS es #[] = 0
  | [] => rfl
  | e :: r => by unfold cntS; rw [cntS_nil r]; simp
theorem cntS_le : ∀ (es : List MapEntry) (s : Array Nat), cntS es s ≤ es.length
  | [], _ => Nat.le_refl _
  | e :: r, s => by
    unfold cntS
    have := cntS_le r s
    split <;> simp only [List.length_cons] <;> omega
theorem cntS_all (s : Array Nat) : ∀ (es : List MapEntry), (∀ x ∈ es, s.contains x.born = true) → cntS es s = (es.filter fun e => (valOf e.val).tmod 4 != 0).length
  | [], _ => rfl
  | e :: r, h => by
    unfold cntS
    rw [cntS_all s r fun x hx => h x (List.mem_cons_of_mem _ hx), h e List.mem_cons_self, Bool.true_and, List.filter_cons]
    cases ((valOf e.val).tmod 4 != 0) with
    | true => simp only [if_true, List.length_cons]; omega
    | false => simp only [Bool.false_eq_true, if_false]; omega
def goM (ts : List Tk) (m : List (Int × Int)) : Bool := decide (ts.length ≤ 100000) && (decide (m.length ≤ 100000) && m.all fun p => stA ts p.1 == p.2.tmod 4)
def cntG (m : List (Int × Int)) : Int := ((m.filter fun p => p.2.tmod 4 != 0).length : Int)
end
end Go.Proofs.Ytiaboemkgpkcpaa
