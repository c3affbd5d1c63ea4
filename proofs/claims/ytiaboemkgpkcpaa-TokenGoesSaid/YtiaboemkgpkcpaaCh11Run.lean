/-
  Chapter 11: Run as a specification. Own work; nothing here is trusted.
-/
import Derived.Test.YtiaboemkgpkcpaaCh11Run0
namespace Go.Proofs.Ytiaboemkgpkcpaa
open Go Go.Sx Go.RowKit
set_option maxRecDepth 1000000
set_option maxHeartbeats 8000000
set_option linter.unusedVariables false
set_option linter.unusedSimpArgs false
noncomputable section
@[reducible] def xA (v : Lo Tk) (K C : Int) : List SV × List (SO C11) := ([.h 0, hS v 1, .raw (.int .i64 ((lo v).length : Int)), .raw (.int .i64 K), .h (nx v 1), .raw (.int .i64 K), .raw (.int .i64 C)], nlB :: (obE v ++ [nlB]))
@[reducible] def xB (v : Lo Tk) (ts : List Tk) (K C : Int) : List SV × List (SO C11) := ([.h 0, hS v 1, .raw (.int .i64 ((lo v).length : Int)), .raw (.int .i64 K), .h (nx v 1), .raw (.int .i64 K), .raw (.int .i64 C)], .box [.h (nx v 1 + 1)] 26 :: (obE v ++ [.box [.h (nx v 1 + 1)] 26, .sl true false 47 ts]))

theorem ra_ok (a b : Bool) (es : List Tk) (K : Int) : Tr.follow [true, true, true, true, true, true, true, false, true] (rRA (some (a, b, es)) K) =
  some ([decide (K < (↑(es).length : Int)),
  inB K es.length,
  decide (K.toNat < es.length),
  true,
  true,
  evB (elT es K),
  acT [] (elT es K),
  false,
  inR64 (K + (1 : Int))],
  (.normal, rB (some (a, b, es)) (nwT [] (elT es K)) (K + 1))) := by kernel_rfl
theorem ra_8 (a b : Bool) (es : List Tk) (K : Int) : Tr.follow [true, true, true, true, true, true, false, true] (rRA (some (a, b, es)) K) =
  some ([decide (K < (↑(es).length : Int)),
  inB K es.length,
  decide (K.toNat < es.length),
  true,
  true,
  evB (elT es K),
  acT [] (elT es K),
  true],
  (.ret, xA (some (a, b, es)) K 8)) := by kernel_rfl
theorem ra_2 (a b : Bool) (es : List Tk) (K : Int) : Tr.follow [true, true, true, true, true, false, true] (rRA (some (a, b, es)) K) =
  some ([decide (K < (↑(es).length : Int)),
  inB K es.length,
  decide (K.toNat < es.length),
  true,
  true,
  evB (elT es K),
  true],
  (.ret, xA (some (a, b, es)) K 2)) := by kernel_rfl
theorem ra_end (a b : Bool) (es : List Tk) (K : Int) : Tr.follow [false] (rRA (some (a, b, es)) K) =
  some ([decide (K < (↑(es).length : Int))],
  (.exit 0, rA (some (a, b, es)) K)) := by kernel_rfl
theorem rb_ok (a b : Bool) (es ts : List Tk) (K : Int) : Tr.follow [true, true, true, true, true, true, true, false, true] (rRB (some (a, b, es)) ts K) =
  some ([decide (K < (↑(es).length : Int)),
  inB K es.length,
  decide (K.toNat < es.length),
  decide (ts.length ≤ (100000 : Nat)),
  okT ts,
  evB (elT es K),
  acT ts (elT es K),
  false,
  inR64 (K + (1 : Int))],
  (.normal, rB (some (a, b, es)) (nwT ts (elT es K)) (K + 1))) := by kernel_rfl
theorem rb_8 (a b : Bool) (es ts : List Tk) (K : Int) : Tr.follow [true, true, true, true, true, true, false, true] (rRB (some (a, b, es)) ts K) =
  some ([decide (K < (↑(es).length : Int)),
  inB K es.length,
  decide (K.toNat < es.length),
  decide (ts.length ≤ (100000 : Nat)),
  okT ts,
  evB (elT es K),
  acT ts (elT es K),
  true],
  (.ret, xB (some (a, b, es)) ts K 8)) := by kernel_rfl
theorem rb_2 (a b : Bool) (es ts : List Tk) (K : Int) : Tr.follow [true, true, true, true, true, false, true] (rRB (some (a, b, es)) ts K) =
  some ([decide (K < (↑(es).length : Int)),
  inB K es.length,
  decide (K.toNat < es.length),
  decide (ts.length ≤ (100000 : Nat)),
  okT ts,
  evB (elT es K),
  true],
  (.ret, xB (some (a, b, es)) ts K 2)) := by kernel_rfl
theorem rb_end (a b : Bool) (es ts : List Tk) (K : Int) : Tr.follow [false] (rRB (some (a, b, es)) ts K) =
  some ([decide (K < (↑(es).length : Int))],
  (.exit 0, rB (some (a, b, es)) ts K)) := by kernel_rfl
theorem rb_n (a b : Bool) (es ts : List Tk) (K : Int) : Tr.follow [true, true, true, true, false, true] (rRB (some (a, b, es)) ts K) =
  some ([decide (K < (↑(es).length : Int)),
  inB K es.length,
  decide (K.toNat < es.length),
  decide (ts.length ≤ (100000 : Nat)),
  okT ts,
  true],
  (.ret, xB (some (a, b, es)) ts K 2)) := by kernel_rfl

/-- The run of events: what is there, how many went, why it ended. -/
def goR : List Tk → List Tk → Nat → List Tk × Nat × Int
  | [], t, k => (t, k, 0)
  | e :: r, t, k => sel (okT t) (sel (evB e) (sel (acT t e) (goR r (nwT t e) (k + 1)) (t, k, 8)) (t, k, 2)) (t, k, 2)
def rT (es : List Tk) : List Tk := (goR es [] 0).1
def rC (es : List Tk) : Int := match goR es [] 0 with
  | (_, _, c) => c
def rK (es : List Tk) : Int := match goR es [] 0 with
  | (_, k, _) => (k : Int)
theorem len_nwT (t : List Tk) (e : Tk) : (nwT t e).length ≤ t.length + 1 := by
  unfold nwT
  cases (e.1 == 4) with
  | true =>
    show (delL _ _ _).length ≤ _
    simp only [delL, List.length_append, List.length_take, List.length_drop]; omega
  | false =>
    cases fdB t e.2.1 with
    | true => show (List.set _ _ _).length ≤ _; rw [List.length_set]; omega
    | false =>
      show (insL _ _ _).length ≤ _
      simp only [insL, List.length_append, List.length_take, List.length_drop, List.length_cons, List.length_nil]; omega
theorem drop_el {es : List Tk} {k : Nat} (h : k < es.length) : es.drop k = elT es (k : Int) :: es.drop (k + 1) := by
  rw [List.drop_eq_getElem_cons h, elT_get h]
/-- The state of the loop. -/
@[reducible] def rSt (v : Lo Tk) (x : Nat × List Tk) : List SV × List (SO C11) := match x.1 with
  | 0 => rA v 0
  | k + 1 => rB v x.2 ((k + 1 : Nat) : Int)
@[reducible] def xSt (v : Lo Tk) (k : Nat) (ts : List Tk) (c : Int) : List SV × List (SO C11) := match k with
  | 0 => xA v 0 c
  | k + 1 => xB v ts ((k + 1 : Nat) : Int) c
theorem r_loop : loopOf Try.prog 7 0 = some (((loopOf Try.prog 7 0).get!).1, (loopOf Try.prog 7 0).get!.2) := by kernel_rfl
theorem r_endN (K : Int) : Tr.follow [false] (rRA none K) = some ([decide (K < (0 : Int))], (.exit 0, rA none K)) := by kernel_rfl
/-- Where the run ends. -/
def Ends (v : Lo Tk) (G : List Tk × Nat × Int) (x : Ex) (vs : List SV) (os : List (SO C11)) : Prop :=
  (G.2.2 = 0 ∧ x = .exit 0 ∧ (vs, os) = rSt v (G.2.1, G.1)) ∨ (G.2.2 ≠ 0 ∧ x = .ret ∧ (vs, os) = xSt v G.2.1 G.1 G.2.2)
theorem r_run {v : Lo Tk} (hl : (lo v).length ≤ 1000) {G : List Tk × Nat × Int} (hG : goR (lo v) [] 0 = G) :
    LoopRun Try.prog ((loopOf Try.prog 7 0).get!).1 (loopOf Try.prog 7 0).get!.2 (nx v 1 + 1) (LI.st rSl ⟨(rA v 0).1, nx v 1 + 1, (rA v 0).2⟩) fun x T => ∃ vs os, Ends v G x vs os ∧ T = ⟨zipT rSl vs, numH 0 os, os.length⟩ := by
  refine loop_li (σ := Nat × List Tk) (st := rSt v) (Inv := fun x => x.1 ≤ (lo v).length ∧ x.2.length ≤ x.1 ∧ goR ((lo v).drop x.1) x.2 x.1 = G) (μ := fun x => (lo v).length - x.1) (d := 10) (unr := fun _ _ => 20) (sp := sfR) (ls := noLs) plain mixed sfR_ok noLs_ok r_loop (fun x hx => ?_) (0, []) ⟨Nat.zero_le _, Nat.le_refl _, hG⟩
  obtain ⟨k, ts⟩ := x
  obtain ⟨hk, hts, hg⟩ := hx
  simp only at hk hts hg
  cases v with
  | none =>
    have hk0 : k = 0 := Nat.le_zero.1 hk
    subst hk0
    have ht : ts = [] := List.eq_nil_of_length_eq_zero (Nat.le_zero.1 hts)
    subst ht
    refine ⟨_, Tr.follow_get (r_endN _) (by decide), nofun, fun _ => .inl ?_⟩
    subst hg
    exact ⟨rfl, rfl, rfl⟩
  | some y =>
    obtain ⟨a, b, es⟩ := y
    change k ≤ es.length at hk
    change es.length ≤ 1000 at hl
    change goR (es.drop k) ts k = G at hg
    by_cases hlt : k < es.length
    · rw [drop_el hlt] at hg
      have k1 := decide_eq_true (show (k : Int) < (es.length : Int) by omega)
      have k2 : Sx.inB (k : Int) es.length = true := inB_mk ⟨by omega, by omega⟩
      have k3 := decide_eq_true (show ((k : Nat) : Int).toNat < es.length by omega)
      have k4 : inR64 ((k : Int) + 1) = true := inR64_mk (by omega)
      have k5 : decide (ts.length ≤ 100000) = true := decide_eq_true (by omega)
      have hn := len_nwT ts (elT es (k : Int))
      have hm : es.length - (k + 1) < es.length - k := by omega
      unfold goR at hg
      cases k with
      | zero =>
        have ht : ts = [] := List.eq_nil_of_length_eq_zero (Nat.le_zero.1 hts)
        subst ht
        rw [okT_nil, sel_true] at hg
        have k1 : decide ((0 : Int) < (es.length : Int)) = true := k1
        have k2 : Sx.inB (0 : Int) es.length = true := k2
        have k3 : decide ((0 : Int).toNat < es.length) = true := k3
        have k4 : inR64 ((0 : Int) + 1) = true := k4
        change sel (evB (elT es 0)) (sel (acT [] (elT es 0)) (goR (es.drop (0 + 1)) (nwT [] (elT es 0)) (0 + 1)) _) _ = G at hg
        cases hev : evB (elT es 0) with
        | false =>
          rw [hev, sel_false] at hg
          subst hg
          exact ⟨_, Tr.follow_get (ra_2 a b es _) (by simp only [k1, k2, k3, hev]), nofun, fun _ => .inr ⟨(by show ¬ (_ : Int) = 0; first | exact (show ¬ (2 : Int) = 0 by decide) | exact (show ¬ (8 : Int) = 0 by decide)), rfl, rfl⟩⟩
        | true =>
          rw [hev, sel_true] at hg
          cases hac : acT [] (elT es 0) with
          | false =>
            rw [hac, sel_false] at hg
            subst hg
            exact ⟨_, Tr.follow_get (ra_8 a b es _) (by simp only [k1, k2, k3, hev, hac]), nofun, fun _ => .inr ⟨(by show ¬ (_ : Int) = 0; first | exact (show ¬ (2 : Int) = 0 by decide) | exact (show ¬ (8 : Int) = 0 by decide)), rfl, rfl⟩⟩
          | true =>
            rw [hac, sel_true] at hg
            exact ⟨_, Tr.follow_get (ra_ok a b es _) (by simp only [k1, k2, k3, k4, hev, hac]), fun _ => ⟨(0 + 1, nwT [] (elT es 0)), ⟨hlt, by simp only; omega, hg⟩, hm, rfl⟩, nofun⟩
      | succ j =>
        cases hok : okT ts with
        | false =>
          rw [hok, sel_false] at hg
          subst hg
          exact ⟨_, Tr.follow_get (rb_n a b es ts _) (by simp only [k1, k2, k3, k5, hok]), nofun, fun _ => .inr ⟨(by show ¬ (_ : Int) = 0; first | exact (show ¬ (2 : Int) = 0 by decide) | exact (show ¬ (8 : Int) = 0 by decide)), rfl, rfl⟩⟩
        | true =>
          rw [hok, sel_true] at hg
          cases hev : evB (elT es ((j + 1 : Nat) : Int)) with
          | false =>
            rw [hev, sel_false] at hg
            subst hg
            exact ⟨_, Tr.follow_get (rb_2 a b es ts _) (by simp only [k1, k2, k3, k5, hok, hev]), nofun, fun _ => .inr ⟨(by show ¬ (_ : Int) = 0; first | exact (show ¬ (2 : Int) = 0 by decide) | exact (show ¬ (8 : Int) = 0 by decide)), rfl, rfl⟩⟩
          | true =>
            rw [hev, sel_true] at hg
            cases hac : acT ts (elT es ((j + 1 : Nat) : Int)) with
            | false =>
              rw [hac, sel_false] at hg
              subst hg
              exact ⟨_, Tr.follow_get (rb_8 a b es ts _) (by simp only [k1, k2, k3, k5, hok, hev, hac]), nofun, fun _ => .inr ⟨(by show ¬ (_ : Int) = 0; first | exact (show ¬ (2 : Int) = 0 by decide) | exact (show ¬ (8 : Int) = 0 by decide)), rfl, rfl⟩⟩
            | true =>
              rw [hac, sel_true] at hg
              exact ⟨_, Tr.follow_get (rb_ok a b es ts _) (by simp only [k1, k2, k3, k4, k5, hok, hev, hac]), fun _ => ⟨(j + 1 + 1, nwT ts (elT es ((j + 1 : Nat) : Int))), ⟨hlt, by simp only; omega, hg⟩, hm, rfl⟩, nofun⟩
    · have hke : k = es.length := by omega
      subst hke
      rw [List.drop_length] at hg
      have hg : (ts, es.length, (0 : Int)) = G := hg
      subst hg
      have k1 : decide ((es.length : Int) < (es.length : Int)) = false := decide_eq_false (Int.lt_irrefl _)
      generalize hn : es.length = n at *
      cases n with
      | zero =>
        have ht : ts = [] := List.eq_nil_of_length_eq_zero (Nat.le_zero.1 hts)
        subst ht
        exact ⟨_, Tr.follow_get (ra_end a b es _) (by rw [hn]; decide), nofun, fun _ => .inl ⟨rfl, rfl, rfl⟩⟩
      | succ j => exact ⟨_, Tr.follow_get (rb_end a b es ts _) (by rw [hn]; rw [k1]), nofun, fun _ => .inl ⟨rfl, rfl, rfl⟩⟩
end
end Go.Proofs.Ytiaboemkgpkcpaa
