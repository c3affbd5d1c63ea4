/-
  Chapter 11: Run as a specification, the function. Own work; nothing here is trusted.
-/
import Derived.Test.YtiaboemkgpkcpaaCh11Run
namespace Go.Proofs.Ytiaboemkgpkcpaa
open Go Go.Sx Go.RowKit
set_option maxRecDepth 1000000
set_option maxHeartbeats 8000000
set_option linter.unusedVariables false
set_option linter.unusedSimpArgs false
noncomputable section
def nilB {α : Type} (l : List α) : Bool := match l with
  | [] => true
  | _ => false
def rLoop : LoopFn C11 := fun li => match li with
  | ⟨[.h 0, s, .raw (.int .i64 n), .raw (.int .i64 (.ofNat 0)), .h j, .raw (.int .i64 (.ofNat 0)), .raw (.int .i64 (.ofNat 0))], nb, .box [.raw (.slice none 0 0)] 26 :: os⟩ => match decE s 1 os with
    | some (v, [.box [.raw (.slice none 0 0)] 26]) => match Nat.beq nb (nx v 1 + 1), Nat.beq j (nx v 1) with
      | true, true => withL v fun es => .br (n == (es.length : Int)) (.br (decide (es.length ≤ 1000)) (.br (rC es == 0) (.br (nilB es) (.leaf (.exit 0, rA v 0)) (.leaf (.exit 0, rB v (rT es) (es.length : Int))))
          (.br (rK es == 0) (.leaf (.ret, xA v 0 (rC es))) (.leaf (.ret, xB v (rT es) (rK es) (rC es))))) .fail) .fail
      | _, _ => .fail
    | _ => .fail
  | _ => .fail
theorem goR_k : ∀ (es t : List Tk) (k : Nat), k ≤ (goR es t k).2.1 ∧ (goR es t k).2.1 ≤ k + es.length ∧ ((goR es t k).2.2 = 0 → (goR es t k).2.1 = k + es.length)
  | [], t, k => ⟨Nat.le_refl _, Nat.le_refl _, fun _ => rfl⟩
  | e :: r, t, k => by
    unfold goR
    cases okT t with
    | false => exact ⟨Nat.le_refl _, Nat.le_add_right _ _, fun h => absurd h (show ¬ (2 : Int) = 0 by decide)⟩
    | true =>
      cases evB e with
      | false => exact ⟨Nat.le_refl _, Nat.le_add_right _ _, fun h => absurd h (show ¬ (2 : Int) = 0 by decide)⟩
      | true =>
        cases acT t e with
        | false => exact ⟨Nat.le_refl _, Nat.le_add_right _ _, fun h => absurd h (show ¬ (8 : Int) = 0 by decide)⟩
        | true =>
          obtain ⟨h1, h2, h3⟩ := goR_k r (nwT t e) (k + 1)
          simp only [sel_true, List.length_cons]
          exact ⟨by omega, by omega, fun h => by have := h3 h; omega⟩
theorem rC_eq (es : List Tk) : rC es = (goR es [] 0).2.2 := rfl
theorem rK_eq (es : List Tk) : rK es = ((goR es [] 0).2.1 : Int) := rfl
theorem rT_eq (es : List Tk) : rT es = (goR es [] 0).1 := rfl
theorem rLoop_ok : ∀ tm hp n x, (loopS rSl [] rLoop tm hp n).get = some x → InLoop Try.prog ((loopOf Try.prog 7 0).get!).1 (loopOf Try.prog 7 0).get!.2 tm hp n fun e tm hp n => (e, tm, hp, n) = x := loopS_of fun li r h => by
  unfold rLoop at h
  split at h
  · rename_i s n j nb os
    split at h
    · rename_i v h1
      split at h
      · rename_i hnb hj
        obtain ⟨rfl, rfl⟩ := decE_eq h1
        have hnb := Nat.eq_of_beq_eq_true hnb
        have hj := Nat.eq_of_beq_eq_true hj
        subst hnb hj
        clear h1
        rw [withL_eq] at h
        obtain ⟨hn0, hB⟩ := Tr.get_ask.1 h
        obtain ⟨hl, hC⟩ := Tr.get_ask.1 hB
        clear h hB
        have hn0 := eq_of_beq hn0
        subst hn0
        have hl : (lo v).length ≤ 1000 := of_decide_eq_true hl
        have hrun := r_run hl rfl
        obtain ⟨g1, g2, g3⟩ := goR_k (lo v) [] 0
        rw [rC_eq, rK_eq, rT_eq] at hC
        have hE : ∀ x vs os, Ends v (goR (lo v) [] 0) x vs os → r = (x, vs, os) := by
          intro x vs os hE
          generalize hG : goR (lo v) [] 0 = G at hC hE g1 g2 g3
          obtain ⟨t, k, c⟩ := G
          simp only at hC g1 g2 g3
          rcases hE with ⟨e1, rfl, e2⟩ | ⟨e1, rfl, e2⟩
          · have e1 : c = 0 := e1
            subst e1
            have hk := g3 rfl
            have hC : (Tr.br (nilB (lo v)) (.leaf (Ex.exit 0, rA v 0)) (.leaf (Ex.exit 0, rB v t ((lo v).length : Int)))).get = some r := hC
            rw [Nat.zero_add] at hk
            subst hk
            generalize hlv : lo v = es at hC e2
            cases es with
            | nil => rw [show (vs, os) = rA v 0 from e2]; exact (Option.some.inj hC).symm
            | cons y l => rw [show (vs, os) = rB v t (((y :: l).length : Nat) : Int) from e2]; exact (Option.some.inj hC).symm
          · have hc : (c == 0) = false := beq_eq_false_iff_ne.2 e1
            rw [hc] at hC
            have hC : (Tr.br ((k : Int) == 0) (.leaf (Ex.ret, xA v 0 c)) (.leaf (Ex.ret, xB v t (k : Int) c))).get = some r := hC
            cases k with
            | zero => rw [show (vs, os) = xA v 0 c from e2]; exact (Option.some.inj hC).symm
            | succ k =>
              rw [show (((k + 1 : Nat) : Int) == 0) = false from beq_eq_false_iff_ne.2 (by omega)] at hC
              rw [show (vs, os) = xB v t ((k + 1 : Nat) : Int) c from e2]; exact (Option.some.inj hC).symm
        have hK : ∀ x vs os, Ends v (goR (lo v) [] 0) x vs os → Keeps (nx v 1 + 1) (nlB :: (obE v ++ [nlB])) os := by
          intro x vs os hE
          generalize goR (lo v) [] 0 = G at hE
          obtain ⟨t, k, c⟩ := G
          rcases hE with ⟨_, _, e2⟩ | ⟨_, _, e2⟩
          · cases k with
            | zero => cases e2; exact keeps_same (by cases v <;> rfl)
            | succ k => cases e2; cases v <;> exact Keeps.of3 (Nat.le_succ _) rfl
          · cases k with
            | zero => cases e2; exact keeps_same (by cases v <;> rfl)
            | succ k => cases e2; cases v <;> exact Keeps.of3 (Nat.le_succ _) rfl
        obtain ⟨x0, vs0, os0⟩ := r
        refine ⟨?_, ?_⟩
        · have : ∃ x vs os, Ends v (goR (lo v) [] 0) x vs os := by
            by_cases hc : (goR (lo v) [] 0).2.2 = 0
            · exact ⟨_, _, _, .inl ⟨hc, rfl, rfl⟩⟩
            · exact ⟨_, _, _, .inr ⟨hc, rfl, rfl⟩⟩
          obtain ⟨x, vs, os, hx⟩ := this
          have := hE x vs os hx
          cases this
          exact hK _ _ _ hx
        · intro B X ρ w a hX hN hD RR T b kk cs
          obtain ⟨e, a', w', ⟨x, T1, ρ', ⟨vs, os, hE', hT⟩, g⟩, harr⟩ := hrun B X ρ w a hX hN hD RR T b kk cs
          have := hE x vs os hE'
          cases this
          exact ⟨e, a', w', ⟨x0, T1, ρ', ⟨vs0, os0, ⟨rfl, rfl⟩, hT⟩, g⟩, harr⟩
      · cases h
    · cases h
  · cases h
def lsRn : LoopT C11 := Sx.addL 7 0 (loopS rSl [] rLoop) noLs
theorem lsRn_ok : LoopTOk Try.prog lsRn := addL_ok r_loop rLoop_ok noLs_ok
abbrev unR (g b : Nat) : Nat := match g, b with
  | 7, 0 => 0 | _, _ => 20
abbrev fR (v : Lo Tk) := fnC C11 Try.prog noSp lsRn unR 10 7 [hS v 0] (obE v)
theorem run_tree (v : Lo Tk) : (fR v).get = bro (((lo v).length : Int) == ((lo v).length : Int)) (bro (decide ((lo v).length ≤ 1000)) (bro (rC (lo v) == 0)
    (bro (nilB (lo v)) (some (.tup [.agg [.raw (.slice none 0 0)], .raw (.int .i64 (-1)), .raw (.int .i64 0)], [])) (some (.tup [.agg [.h (nx v 0)], .raw (.int .i64 (-1)), .raw (.int .i64 0)], [.sl true false 47 (rT (lo v))])))
    (bro (rK (lo v) == 0) (some (.tup [.agg [.raw (.slice none 0 0)], .raw (.int .i64 0), .raw (.int .i64 (rC (lo v)))], [])) (some (.tup [.agg [.h (nx v 0)], .raw (.int .i64 (rK (lo v))), .raw (.int .i64 (rC (lo v)))], [.sl true false 47 (rT (lo v))])))) none) none := by cases v <;> kernel_rfl
def runT : FnF C11 := fun args os => match args with
  | [s] => match decE s 0 os with
    | some (v, []) => withL v fun es => .br (decide (es.length ≤ 1000)) (.br (rC es == 0)
        (.br (nilB es) (.leaf (.tup [.agg [.raw (.slice none 0 0)], .raw (.int .i64 (-1)), .raw (.int .i64 0)], [])) (.leaf (.tup [.agg [.h (nx v 0)], .raw (.int .i64 (-1)), .raw (.int .i64 0)], [.sl true false 47 (rT es)])))
        (.br (rK es == 0) (.leaf (.tup [.agg [.raw (.slice none 0 0)], .raw (.int .i64 0), .raw (.int .i64 (rC es))], [])) (.leaf (.tup [.agg [.h (nx v 0)], .raw (.int .i64 (rK es)), .raw (.int .i64 (rC es))], [.sl true false 47 (rT es)])))) .fail
    | _ => .fail
  | _ => .fail
theorem runT_ok : ∀ args os r, (runT args os).get = some r → Fn0 Try.prog 7 args os r := fun args os r h => by
  unfold runT at h
  split at h
  · split at h
    · rename_i s v hv
      obtain ⟨rfl, rfl⟩ := decE_eq hv
      rw [withL_eq] at h
      refine fnC_ok (sp := noSp) (ls := lsRn) (unr := unR) (d := 10) plain mixed noSp_ok lsRn_ok (Eq.trans ?_ h)
      rw [List.append_nil]
      refine (run_tree v).trans ?_
      simp only [beq_self_eq_true, bro_true, get_bro]
      rfl
    · cases h
  · cases h
end
end Go.Proofs.Ytiaboemkgpkcpaa
