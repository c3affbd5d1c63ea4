/-
  Chapter 1: the closed forms as trees. Own work; nothing here is trusted.
-/
import Derived.Test.YtedhjmfobbmpoaaCh01Forms10
import Derived.Test.YtedhjmfobbmpoaaSxCanon
namespace Go.Proofs.Ytedhjmfobbmpoaa
open Go Go.Sx Go.RowKit
set_option maxRecDepth 1000000
set_option maxHeartbeats 8000000
set_option linter.unusedVariables false
set_option linter.unusedSimpArgs false
noncomputable section
def flT (F : List SV → Option SV) : FnF C0 := fun args os => match os with
  | [] => match F args with
    | some v => .leaf (v, [])
    | none => .fail
  | _ => .fail
theorem flT_ok {g : Nat} {F : List SV → Option SV} (h : FnOk Try.prog g F) : ∀ args os r, (flT F args os).get = some r → Fn0 (C := C0) Try.prog g args os r := fun args os r hr => by
  unfold flT at hr
  split at hr
  · split at hr
    · rename_i v hv
      simp only [Tr.get, Option.some.injEq] at hr
      subst hr
      intro B X ρ w vals hX RR hd
      obtain ⟨h1, h2, h3⟩ := h args v hv
      have hd' : denL (fun _ => none) args = some vals := by rw [denL_flat _ ρ args h1]; exact hd
      obtain ⟨g1, g2⟩ := h3 w vals hd'
      refine ⟨g1, g2.mono ?_⟩
      rintro e w' ⟨u, rfl, g3, g4⟩
      exact ⟨ρ, u, rfl, RR.below g4, by rw [den_flat ρ (fun _ => none) v h2]; exact g3⟩
    · cases hr
  · cases hr
def lv1T : FnF C0 := fun args os => match args, os with
  | [], [] => .leaf (.raw (.bool true), [])
  | _, _ => .fail
theorem lv1T_ok : ∀ args os r, (lv1T args os).get = some r → Fn0 Try.prog 10 args os r := fun args os r h => by
  unfold lv1T at h
  split at h
  · simp only [Tr.get, Option.some.injEq] at h
    subst h
    exact Fn0.const (vals0 := []) (by kernel_rfl) lives_walk fun _ => rfl
  · cases h
/-- What Pick answers. -/
def pkI (n m : Int) : Int := if m < 1 then 0 else n % m
def pkT : FnF C0 := fun args os => match args, os with
  | [.raw (.int .i64 n), .raw (.int .i64 m)], [] => .br (decide (1 ≤ m ∧ m ≤ 4611686018427387904)) (.leaf (.raw (.int .i64 (n % m)), [])) .fail
  | _, _ => .fail
def sf1 : SpecT C0 := addS 10 (viewS lv1T) (addS 14 (viewS (flT goH)) (addS 19 (viewS (flT betH)) (addS 20 (viewS (flT wordH)) noSp)))
theorem sf1_ok : SpecTOk Try.prog sf1 := addS_ok (viewS_ok lv1T_ok) (addS_ok (viewS_ok (flT_ok (fnBy (go_ok 14 (.inl rfl)) goH_eq))) (addS_ok (viewS_ok (flT_ok (fnBy (bet_ok 19 (.inl rfl)) betH_eq))) (addS_ok (viewS_ok (flT_ok (fnBy wordP_ok wordH_eq))) noSp_ok)))
abbrev rSlots : List Nat := [0, 2, 3, 4, 5]
abbrev rSt (size i a : Int) (b : Bool) (m : List (Int × Bool)) : List SV × List (SO C0) := ([.raw (.int .i64 size), .raw (.bool false), .h 0, .h 1, .raw (.int .i64 i)], [.box [.raw (.int .i64 a), .raw (.bool b)] 28, .mp .u16 4 m])
abbrev rRound (size i a : Int) (b : Bool) (m : List (Int × Bool)) := roundG C0 Try.prog sf1 noLs (fun _ _ => 20) 10 6 0 rSlots ⟨(rSt size i a b m).1, 2, (rSt size i a b m).2⟩
/-- The position behind so many steps. -/
def rAt (size : Int) (i : Int) : Int := if i < size then i else if i < 2 * size then i - size else 0
def rWr (size : Int) (i : Int) : Bool := decide (i < size) || decide (2 * size ≤ i)
def rWd (size : Int) (i : Int) : Int := if i < size then i + 32768 else i - size
abbrev nx (v : SV) : SV := cAt 0 v
theorem r_path (size i a : Int) (b : Bool) (m : List (Int × Bool)) : Tr.follow [true, true, false, false, false, false, false, false, false, false, false, false, false, false, false, false, false, false, false, false, false, false, false, false, false, false, false, true] (rRound size i a b m) = some
  ([inR64 (2 * size), decide (i < 2 * size), cI (cAt 1 (betV 0 true a b size)) != 0, false, false, false, cI (cAt 0 (betV 0 true a b size)) != i, false, false, false, (lkM m (cI (wordV a b))).getD false, false, false, false, false, false, size == 0, false, a != i.tmod size, false, false, false, false, false, false, !b == decide (i < size), cI (cAt 1 (goV a 1 size b)) != 0, inR64 (i + 1)],
   (.normal, rSt size (i + 1) (cI (cAt 0 (cAt 0 (goV a 1 size b)))) (cB (cAt 1 (cAt 0 (goV a 1 size b)))) (insM m (cI (wordV a b)) true))) := by kernel_rfl
theorem r_end (size i a : Int) (b : Bool) (m : List (Int × Bool)) : Tr.follow [true, false] (rRound size i a b m) = some ([inR64 (2 * size), decide (i < 2 * size)], (.exit 0, rSt size i a b m)) := by kernel_rfl
theorem lkM_ins {α : Type} (k : Int) (a : α) (x : Int) : ∀ m : List (Int × α), lkM (insM m k a) x = if x = k then some a else lkM m x
  | [] => by by_cases h : x = k <;> simp [insM, lkM, h]
  | (j, b) :: r => by
    by_cases hk : k = j
    · subst hk
      simp only [insM, decide_true]
      by_cases h : x = k <;> simp [lkM, h]
    · simp only [insM, decide_eq_false hk]
      by_cases h : x = j
      · subst h
        simp [lkM, show ¬ x = k from fun e => hk e.symm]
      · simp only [lkM, decide_eq_false h]
        exact lkM_ins k a x r
theorem bet_r {size i : Int} (hs : 1 ≤ size ∧ size ≤ 200) (hi : 0 ≤ i ∧ i < 2 * size) : betV 0 true (rAt size i) (rWr size i) size = .tup [.raw (.int .i64 i), .raw (.int .i64 0)] := by
  unfold betV rAt rWr
  by_cases h : i < size
  · rw [if_pos h, decide_eq_true h, decide_eq_true (by omega), decide_eq_false (show ¬ (i - 0 < 0) by omega)]
    simp
  · rw [if_neg h, if_pos hi.2, decide_eq_false h, decide_eq_false (show ¬ (2 * size ≤ i) by omega), decide_eq_true (by omega)]
    simp only [Bool.or_self, show (true == false) = false from rfl]
    rw [show i - size - 0 + size = i by omega]
theorem word_r {size i : Int} (hs : 1 ≤ size ∧ size ≤ 200) (hi : 0 ≤ i ∧ i < 2 * size) : cI (wordV (rAt size i) (rWr size i)) = rWd size i := by
  unfold wordV rAt rWr rWd
  by_cases h : i < size
  · rw [if_pos h, decide_eq_true h, if_pos h]
    simp only [Bool.true_or, cI]; omega
  · rw [if_neg h, if_pos hi.2, decide_eq_false h, decide_eq_false (show ¬ (2 * size ≤ i) by omega), if_neg h]
    simp only [Bool.or_self, cI]; omega
theorem go_r {size i : Int} (hs : 1 ≤ size ∧ size ≤ 200) (hi : 0 ≤ i ∧ i < 2 * size) : goV (rAt size i) 1 size (rWr size i) = .tup [posV (rAt size (i + 1)) (rWr size (i + 1)), .raw (.int .i64 0)] := by
  unfold goV rAt rWr
  by_cases h : i < size
  · rw [if_pos h, decide_eq_true h, decide_eq_true (show 1 ≤ size ∧ size ≤ 32768 ∧ 0 ≤ i ∧ i < size ∧ 0 ≤ (1 : Int) ∧ 1 ≤ size by omega)]
    by_cases h2 : i + 1 < size
    · rw [if_pos h2, decide_eq_false (show ¬ size ≤ i + 1 by omega), decide_eq_true h2]; simp
    · rw [if_neg h2, if_pos (by omega), decide_eq_true (show size ≤ i + 1 by omega), decide_eq_false h2, decide_eq_false (show ¬ 2 * size ≤ i + 1 by omega)]
      simp
  · rw [if_neg h, if_pos hi.2, decide_eq_false h, decide_eq_false (show ¬ (2 * size ≤ i) by omega), decide_eq_true (show 1 ≤ size ∧ size ≤ 32768 ∧ 0 ≤ i - size ∧ i - size < size ∧ 0 ≤ (1 : Int) ∧ 1 ≤ size by omega), if_neg (show ¬ i + 1 < size by omega), decide_eq_false (show ¬ i + 1 < size by omega)]
    by_cases h2 : i + 1 < 2 * size
    · rw [if_pos h2, decide_eq_false (show ¬ size ≤ i - size + 1 by omega), decide_eq_false (show ¬ 2 * size ≤ i + 1 by omega)]
      simp only [Bool.or_self]
      rw [show i - size + 1 = i + 1 - size by omega]
    · rw [if_neg h2, decide_eq_true (show size ≤ i - size + 1 by omega), decide_eq_true (show 2 * size ≤ i + 1 by omega)]
      simp only [Bool.or_self, Bool.not_false, Bool.or_true]
      rw [show i - size + 1 - size = 0 by omega]
theorem r_round {size i : Int} (hs : 1 ≤ size ∧ size ≤ 200) (hi : 0 ≤ i ∧ i < 2 * size) {m : List (Int × Bool)} (hm : ∀ x, lkM m x ≠ none → ∃ j, 0 ≤ j ∧ j < i ∧ x = rWd size j) :
    (rRound size i (rAt size i) (rWr size i) m).get = some (.normal, rSt size (i + 1) (rAt size (i + 1)) (rWr size (i + 1)) (insM m (rWd size i) true)) := by
  have e1 := bet_r hs hi
  have e2 := word_r hs hi
  have e3 := go_r hs hi
  have hno : lkM m (rWd size i) = none := by
    cases h : lkM m (rWd size i) with
    | none => rfl
    | some v =>
      obtain ⟨j, h1, h2, h3⟩ := hm _ (by rw [h]; nofun)
      unfold rWd at h3
      split at h3 <;> split at h3 <;> omega
  have hp := r_path size i (rAt size i) (rWr size i) m
  rw [e1, e2, e3, hno] at hp
  simp only [cI, cB, cAt, posV, List.getD_cons_zero, List.getD_cons_succ, Option.getD_none] at hp
  refine Tr.follow_get hp ?_
  have t : i.tmod size = rAt size i := by
    unfold rAt
    rw [Int.tmod_eq_emod_of_nonneg hi.1]
    by_cases h : i < size
    · rw [if_pos h, Int.emod_eq_of_lt hi.1 h]
    · rw [if_neg h, if_pos hi.2]
      have : i = (i - size) + size * 1 := by omega
      rw [this, Int.add_mul_emod_self_left, Int.emod_eq_of_lt (by omega) (by omega)]
      omega
  have w : (!rWr size i == decide (i < size)) = false := by
    unfold rWr
    rw [decide_eq_false (show ¬ 2 * size ≤ i by omega)]
    cases decide (i < size) <;> rfl
  rw [t, w, inR64_mk (by omega), inR64_mk (by omega), decide_eq_true hi.2, beq_eq_false_iff_ne.2 (show size ≠ 0 by omega)]
  simp
def rM (size : Int) : Nat → List (Int × Bool)
  | 0 => []
  | n + 1 => insM (rM size n) (rWd size (n : Int)) true
theorem rM_at (size : Int) : ∀ (n : Nat) (x : Int), lkM (rM size n) x ≠ none → ∃ j, 0 ≤ j ∧ j < (n : Int) ∧ x = rWd size j
  | 0, _, h => absurd rfl h
  | n + 1, x, h => by
    unfold rM at h
    rw [lkM_ins] at h
    by_cases hx : x = rWd size (n : Int)
    · exact ⟨n, by omega, by omega, hx⟩
    · rw [if_neg hx] at h
      obtain ⟨j, h1, h2, h3⟩ := rM_at size n x h
      exact ⟨j, h1, by omega, h3⟩
def rLoop : LoopFn C0 := fun li => match li with
  | ⟨[.raw (.int .i64 size), .raw (.bool false), .h 0, .h 1, .raw (.int .i64 (.ofNat 0))], 2, [.box [.raw (.int .i64 (.ofNat 0)), .raw (.bool true)] 28, .mp .u16 4 []]⟩ => .br (decide (1 ≤ size ∧ size ≤ 200)) (.leaf (.exit 0, rSt size (2 * size) 0 true (rM size (2 * size).toNat))) .fail
  | _ => .fail
theorem r_loop : loopOf Try.prog 6 0 = some (72, (loopOf Try.prog 6 0).get!.2) := by kernel_rfl
theorem rLoop_ok : ∀ tm hp n x, (loopS [0, 2, 3, 4, 5] [] rLoop tm hp n).get = some x → InLoop Try.prog 72 (loopOf Try.prog 6 0).get!.2 tm hp n fun e tm hp n => (e, tm, hp, n) = x := loopS_of fun li r h => by
  unfold rLoop at h
  split at h
  · rename_i size
    obtain ⟨hs, h2⟩ := Tr.get_ask.1 h
    simp only [Tr.get, Option.some.injEq] at h2
    subst h2
    have hs := of_decide_eq_true hs
    refine ⟨Keeps.of (Nat.le_refl 2) rfl (fun o ho => by cases ho), ?_⟩
    have e0 : rAt size 0 = 0 ∧ rWr size 0 = true := by unfold rAt rWr; rw [if_pos (by omega), decide_eq_true (by omega)]; exact ⟨rfl, rfl⟩
    have e1 : rAt size (2 * size) = 0 ∧ rWr size (2 * size) = true := by unfold rAt rWr; rw [if_neg (by omega), if_neg (by omega), decide_eq_true (show 2 * size ≤ 2 * size by omega)]; exact ⟨rfl, by simp⟩
    have := loop_li (σ := Nat) (st := fun i => rSt size (i : Int) (rAt size (i : Int)) (rWr size (i : Int)) (rM size i)) (nb := 2) (slots := rSlots) (Inv := fun i => (i : Int) ≤ 2 * size) (μ := fun i => (2 * size).toNat - i)
      (Q := fun x vs os => x = .exit 0 ∧ (vs, os) = rSt size (2 * size) 0 true (rM size (2 * size).toNat)) (d := 10) (unr := fun _ _ => 20) (sp := sf1) (ls := noLs) plain mixed sf1_ok noLs_ok r_loop (fun i hi => ?_) 0 (by show ((0 : Nat) : Int) ≤ _; omega)
    · simp only [show ((0 : Nat) : Int) = 0 from rfl, e0.1, e0.2] at this
      exact this
    · by_cases hlt : (i : Int) < 2 * size
      · refine ⟨_, r_round hs ⟨by omega, hlt⟩ (rM_at size i), fun _ => ⟨i + 1, by omega, by omega, ?_⟩, nofun⟩
        simp only [rM]; rfl
      · have hi' : (i : Int) = 2 * size := by omega
        have hi2 : i = (2 * size).toNat := by omega
        have hp := r_end size (i : Int) (rAt size (i : Int)) (rWr size (i : Int)) (rM size i)
        refine ⟨_, Tr.follow_get hp (by rw [inR64_mk (by omega), decide_eq_false hlt]), nofun, fun _ => ⟨rfl, ?_⟩⟩
        rw [hi', e1.1, e1.2, hi2]
  · cases h
def lr : LoopT C0 := addL 6 0 (loopS [0, 2, 3, 4, 5] [] rLoop) noLs
theorem lr_ok : LoopTOk Try.prog lr := addL_ok r_loop rLoop_ok noLs_ok
theorem pk_form (n m : Int) : (fnC C0 Try.prog noSp noLs (fun _ _ => 20) 10 13 [.raw (.int .i64 n), .raw (.int .i64 m)] []).get =
  bro (decide (m < 1)) (some (.raw (.int .i64 0), [])) (bro (m == 0) none (bro (decide (n.tmod m < 0)) (bro (inR64 (n.tmod m + m)) (some (.raw (.int .i64 (n.tmod m + m)), [])) (some (.raw (.int .i64 (IntKind.i64.wrap (n.tmod m + m))), []))) (some (.raw (.int .i64 (n.tmod m)), [])))) := by kernel_rfl
theorem pkT_ok : ∀ args os r, (pkT args os).get = some r → Fn0 Try.prog 13 args os r := fun args os r h => by
  unfold pkT at h
  split at h
  · rename_i n m
    obtain ⟨h1, h2⟩ := Tr.get_ask.1 h
    have h1 := of_decide_eq_true h1
    refine fnC_ok (sp := noSp) (ls := noLs) (unr := fun _ _ => 20) (d := 10) plain mixed noSp_ok noLs_ok ?_
    rw [pk_form, ← h2, decide_eq_false (show ¬ m < 1 by omega), beq_eq_false_iff_ne.2 (show m ≠ 0 by omega)]
    have t1 := Int.emod_nonneg n (show m ≠ 0 by omega)
    have t2 := Int.emod_lt_of_pos n (show 0 < m by omega)
    have t3 := Int.tmod_lt_of_pos n (show 0 < m by omega)
    have t4 : -m < n.tmod m := by
      have := Int.tmod_lt_of_pos (-n) (show 0 < m by omega)
      rw [Int.neg_tmod] at this; omega
    have t0 : n.tmod m = n % m ∨ n.tmod m = n % m - m := by
      have h := Int.tmod_eq_emod (a := n) (b := m)
      by_cases hc : 0 ≤ n ∨ m ∣ n
      · rw [if_pos hc] at h; left; simpa using h
      · rw [if_neg hc] at h; right; rw [h]; omega
    have t5 : n.tmod m < 0 → n.tmod m + m = n % m := fun h => by omega
    have t6 : ¬ n.tmod m < 0 → n.tmod m = n % m := fun h => by omega
    by_cases hn : n.tmod m < 0
    · rw [decide_eq_true hn, inR64_mk (by omega), ← t5 hn]; rfl
    · rw [decide_eq_false hn, ← t6 hn]; rfl
  · cases h
def sf2 : SpecT C0 := addS 10 (viewS lv1T) (addS 13 (viewS pkT) noSp)
theorem sf2_ok : SpecTOk Try.prog sf2 := addS_ok (viewS_ok lv1T_ok) (addS_ok (viewS_ok pkT_ok) noSp_ok)
abbrev fr := fnC C0 Try.prog sf2 lr (fun g _ => match g with | 6 => 0 | _ => 20) 10
end
end Go.Proofs.Ytedhjmfobbmpoaa
