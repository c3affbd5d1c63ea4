/-
  The symbolic evaluator: the other operations that leave the world alone. Own work; nothing here is trusted.
-/
import Derived.Test.YtkhlmlcjedbkcaaSxPure
namespace Go.Sx
noncomputable section
open Go.RowKit

variable {C : Tab} {P : Program}

/-- A pure operation's answer: a value, in the world as it was. -/
def PureOk (P : Program) (ρ : Asg) (w : World) (s : Sem Value) (x : SV) : Prop := ∃ u, s.run P w = .ok u w ∧ den ρ x = some u

def isAggS : SV → Bool
  | .agg _ => true
  | .raw v => match v with
    | .agg _ => true
    | _ => false
  | _ => false

theorem not_agg {ρ : Asg} {x : SV} {v : Value} (h : den ρ x = some v) (hone : ∀ i u, ρ i = some u → u.oneCell' = true) (hs : isAggS x = false) : v.cells = #[v] := by
  have key : ∀ u : Value, (∀ a, u ≠ .agg a) → u.cells = #[u] := fun u hu => by
    cases u <;> first | rfl | exact absurd rfl (hu _)
  apply key
  intro a ha
  subst ha
  cases x with
  | raw u => simp [den] at h; subst h; simp [isAggS] at hs
  | h id => have := hone id _ (show ρ id = some (.agg a) from h); simp [Value.oneCell'] at this
  | ep id off => simp [den, Option.bind_eq_some_iff, Option.map_eq_some_iff] at h
  | bs id off l c => simp [den, Option.bind_eq_some_iff, Option.map_eq_some_iff] at h
  | vs id sz off len cap =>
    simp only [den, Option.bind_eq_some_iff] at h
    obtain ⟨u, _, hu⟩ := h
    obtain ⟨_, _, _, e⟩ := vsV_slice hu
    cases e
  | el id i sz j => simp [den, Option.bind_eq_some_iff, Option.map_eq_some_iff] at h
  | agg cs => simp [isAggS] at hs
  | tup cs => simp [den, Option.map_eq_some_iff] at h
  | fn f cs => simp [den, Option.map_eq_some_iff] at h

theorem is_agg {ρ : Asg} {x : SV} {v : Value} (h : den ρ x = some v) (hs : isAggS x = true) : ∃ a, v = .agg a := by
  cases x with
  | raw u =>
    simp [den] at h; subst h
    cases u <;> simp [isAggS] at hs ⊢
  | agg cs =>
    simp only [den, Option.map_eq_some_iff] at h
    obtain ⟨l, _, rfl⟩ := h
    exact ⟨_, rfl⟩
  | _ => simp [isAggS] at hs

def shp (P : Program) (t : TypeId) (x : SV) : Bool := match aggT P t with
  | some true => isAggS x
  | some false => match isAggS x with
    | true => false
    | false => true
  | none => false

theorem shp_val {ρ : Asg} {t : TypeId} {x : SV} {v a : Value} (hs : shp P t x = true) (hone : ∀ i u, ρ i = some u → u.oneCell' = true) (h : den ρ x = some v) (ha : valOf P t v.cells.toList a) : a = v := by
  unfold shp at hs
  rcases ha with ⟨h1, rfl⟩ | ⟨h1, h2⟩
  · rw [h1] at hs
    obtain ⟨c, rfl⟩ := is_agg h hs
    simp [Value.cells]
  · rw [h1] at hs
    simp only at hs
    split at hs
    · cases hs
    · rename_i hb
      rw [not_agg h hone hb] at h2
      simpa using h2.symm

/-! ### ==, != and the like -/
def eqv (P : Program) (look : Nat → Option (SO C)) (t : TypeId) (x y : SV) : Tr Bool :=
  match x, y with
  | .h id, .raw (.pointer none) => match look id, P.underlying t with
    | some (.box _ _), some (.pointer _) => .leaf false
    | _, _ => .fail
  | .h id, .raw (.slice none _ _) => match look id, P.underlying t with
    | some (.sl _ _ _ _), some (.slice _) => .leaf false
    | _, _ => .fail
  | .vs _ _ _ _ _ _, .raw (.slice none _ _) => match P.underlying t with
    | some (.slice _) => .leaf false
    | _ => .fail
  | .ep _ _, .raw (.pointer none) => match P.underlying t with
    | some (.pointer _) => .leaf false
    | _ => .fail
  | .el _ _ _ _, .raw (.pointer none) => match P.underlying t with
    | some (.pointer _) => .leaf false
    | _ => .fail
  | .raw (.pointer none), .raw (.pointer none) => match P.underlying t with
    | some (.pointer _) => .leaf true
    | _ => .fail
  | .raw (.slice none _ _), .raw (.slice none _ _) => match P.underlying t with
    | some (.slice _) => .leaf true
    | _ => .fail
  | .fn _ _, .raw .nilFunc => match P.underlying t with
    | some (.func _ _ _) => .leaf false
    | _ => .fail
  | .raw (.func _ _ _), .raw .nilFunc => match P.underlying t with
    | some (.func _ _ _) => .leaf false
    | _ => .fail
  | .raw .nilFunc, .raw .nilFunc => match P.underlying t with
    | some (.func _ _ _) => .leaf true
    | _ => .fail
  | .raw (.bool a), .raw (.bool b) => match P.underlying t with
    | some .bool => .leaf (a == b)
    | _ => .fail
  | x, y => match isAggS x, isAggS y, aggT P t, noG P P.depth t with
    | true, true, some true, true => Tr.ofOpt (eqT P 10000 t (cellsS x) (cellsS y))
    | _, _, _, _ => .fail

def plainEq : Value → Value → Bool
  | .int _ _, .int _ _ | .float _ _, .float _ _ | .complex _ _ _, .complex _ _ _ | .string _, .string _ | .nilIface, .nilIface => false
  | _, _ => true

theorem equal_run {t : TypeId} {a b : Value} {w : World} {r : Result Bool} (h : ∀ d, (Op.equalIn (d + 1) t a b).run P w = r) : (Op.equal t a b).run P w = r := h 9999

theorem binOp_eql_plain {a b : Value} (h : plainEq a b = true) (t : TypeId) : binOp .eql t a b = (do pure (.bool (← Op.equal t a b))) := by
  cases a <;> cases b <;> first | rfl | cases h
theorem binOp_neq_plain {a b : Value} (h : plainEq a b = true) (t : TypeId) : binOp .neq t a b = (do pure (.bool (!(← Op.equal t a b)))) := by
  cases a <;> cases b <;> first | rfl | cases h

theorem eqGuard_ok {op : BinOp} {t : TypeId} {ox oy : Operand} {a b : Value} (h : (∃ x y, a = .agg x ∧ b = .agg y) → P.eqGuardType P.depth t = false) (hn : ¬ (a = .nilIface ∧ b = .nilIface)) (w : World) :
    (eqGuard op t ox oy a b).run P w = .ok () w := by
  by_cases hab : ∃ x y, a = .agg x ∧ b = .agg y
  · obtain ⟨x, y, rfl, rfl⟩ := hab
    exact run_eqGuard_agg w op t ox oy x y (h ⟨_, _, rfl, rfl⟩)
  · have e : eqGuard op t ox oy a b = pure () := by
      cases a <;> first
        | exact eqGuard_at_bool | (cases op <;> first | rfl | (cases b <;> first | rfl | exact absurd ⟨rfl, rfl⟩ hn | exact absurd ⟨_, _, rfl, rfl⟩ hab))
    rw [e]; rfl

section sound
variable {B : World} {X : Own} {ρ : Asg} {hp : Hp C} {n : Nat} {w : World}

theorem eqT_equal (R : Rel B X ρ hp n w) {t : TypeId} {x y : SV} {vx vy : Value} {r : Bool} (hx : den ρ x = some vx) (hy : den ρ y = some vy) (h1 : shp P t x = true) (h2 : shp P t y = true)
    (h : eqT P 10000 t (cellsS x) (cellsS y) = some r) : (Op.equal t vx vy).run P w = .ok r w := by
  obtain ⟨a, b, ha, hb, hrun⟩ := eqT_sound _ _ _ _ _ h ρ _ _ w (den_cells hx R.one) (den_cells hy R.one)
  rw [shp_val h1 R.one hx ha, shp_val h2 R.one hy hb] at hrun
  exact hrun

theorem eqv_sound (R : Rel B X ρ hp n w) {t : TypeId} {x y : SV} {vx vy : Value} {r : Bool} (hx : den ρ x = some vx) (hy : den ρ y = some vy) (h : (eqv P (fun i => find i hp) t x y).get = some r) :
    (Op.equal t vx vy).run P w = .ok r w ∧ ((∃ a b, vx = .agg a ∧ vy = .agg b) → P.eqGuardType P.depth t = false) ∧ plainEq vx vy = true := by
  have noagg : ∀ {a b : Value}, (∀ c, a ≠ .agg c) → ((∃ x y, a = .agg x ∧ b = .agg y) → P.eqGuardType P.depth t = false) := fun h ⟨x, _, e, _⟩ => absurd e (h x)
  unfold eqv at h
  split at h
  · rename_i id
    split at h
    · rename_i hid ht
      simp [Tr.get] at h; subst h
      obtain ⟨v', hv', g, vs, rfl, _⟩ := R.obj id _ hid
      simp only [den] at hx; rw [hx] at hv'; cases hv'
      simp [den] at hy; subst hy
      exact ⟨equal_run fun d => by simp [Op.equalIn, run_underlying ht], noagg (by simp), rfl⟩
    · simp [Tr.get] at h
  · rename_i id _ _
    split at h
    · rename_i own full e ts el hid ht
      simp [Tr.get] at h; subst h
      simp only [den] at hx
      simp [den] at hy; subst hy
      obtain ⟨v', hv', a, cap, rfl, _⟩ := R.obj id _ hid
      rw [hx] at hv'; cases hv'
      have hnn := R.nn id _ _ hid rfl hx
      cases a with
      | none => simp [nnV] at hnn
      | some b => exact ⟨equal_run fun d => by simp [Op.equalIn, run_underlying ht], noagg (by simp), rfl⟩
    · simp [Tr.get] at h
  · split at h
    · rename_i ht
      simp [Tr.get] at h; subst h
      simp only [den, Option.bind_eq_some_iff] at hx
      obtain ⟨_, _, hu⟩ := hx
      obtain ⟨_, _, _, rfl⟩ := vsV_slice hu
      simp [den] at hy; subst hy
      exact ⟨equal_run fun d => by simp [Op.equalIn, run_underlying ht], noagg (by simp), rfl⟩
    · simp [Tr.get] at h
  · split at h
    · rename_i ht
      simp [Tr.get] at h; subst h
      simp only [den, Option.bind_eq_some_iff, Option.map_eq_some_iff] at hx
      obtain ⟨_, _, a, _, rfl⟩ := hx
      simp [den] at hy; subst hy
      exact ⟨equal_run fun d => by simp [Op.equalIn, run_underlying ht], noagg (by simp), rfl⟩
    · simp [Tr.get] at h
  · split at h
    · rename_i ht
      simp [Tr.get] at h; subst h
      simp only [den, Option.bind_eq_some_iff, Option.map_eq_some_iff] at hx
      obtain ⟨_, _, a, _, rfl⟩ := hx
      simp [den] at hy; subst hy
      exact ⟨equal_run fun d => by simp [Op.equalIn, run_underlying ht], noagg (by simp), rfl⟩
    · simp [Tr.get] at h
  · split at h
    · rename_i ht
      simp [Tr.get] at h; subst h
      simp [den] at hx hy; subst hx; subst hy
      exact ⟨equal_run fun d => by simp [Op.equalIn, run_underlying ht], noagg (by simp), rfl⟩
    · simp [Tr.get] at h
  · split at h
    · rename_i ht
      simp [Tr.get] at h; subst h
      simp [den] at hx hy; subst hx; subst hy
      exact ⟨equal_run fun d => by simp [Op.equalIn, run_underlying ht], noagg (by simp), rfl⟩
    · simp [Tr.get] at h
  · split at h
    · rename_i ht
      simp [Tr.get] at h; subst h
      simp only [den, Option.map_eq_some_iff] at hx
      obtain ⟨_, _, rfl⟩ := hx
      simp [den] at hy; subst hy
      exact ⟨equal_run fun d => by simp [Op.equalIn, run_underlying ht], noagg (by simp), rfl⟩
    · simp [Tr.get] at h
  · split at h
    · rename_i ht
      simp [Tr.get] at h; subst h
      simp [den] at hx hy; subst hx; subst hy
      exact ⟨equal_run fun d => by simp [Op.equalIn, run_underlying ht], noagg (by simp), rfl⟩
    · simp [Tr.get] at h
  · split at h
    · rename_i ht
      simp [Tr.get] at h; subst h
      simp [den] at hx hy; subst hx; subst hy
      exact ⟨equal_run fun d => by simp [Op.equalIn, run_underlying ht], noagg (by simp), rfl⟩
    · simp [Tr.get] at h
  · split at h
    · rename_i ht
      simp [Tr.get] at h; subst h
      simp [den] at hx hy; subst hx; subst hy
      exact ⟨equal_run fun d => by simp [Op.equalIn, run_underlying ht], noagg (by simp), rfl⟩
    · simp [Tr.get] at h
  · split at h
    · rename_i h1 h2 h3 h4
      rw [Tr.get_ofOpt] at h
      obtain ⟨a, rfl⟩ := is_agg hx h1
      obtain ⟨b, rfl⟩ := is_agg hy h2
      exact ⟨eqT_equal R hx hy (by simp [shp, h3, h1]) (by simp [shp, h3, h2]) h, fun _ => noG_eq h4, rfl⟩
    · simp [Tr.get] at h
end sound

def strBin (op : BinOp) (a b : ByteArray) : Tr SV := match op with
  | .add => .br (decide (((a.size + b.size : Nat) : Int) > 9223372036854775807)) .fail (.leaf (.raw (.string (a ++ b))))
  | .eql => .leaf (.raw (.bool (a.toList == b.toList)))
  | .neq => .leaf (.raw (.bool (!(a.toList == b.toList))))
  | .lss => .leaf (.raw (.bool (Op.bytesLess a.toList b.toList)))
  | _ => .fail

theorem strBin_sound {op : BinOp} {a b : ByteArray} {x : SV} (h : (strBin op a b).get = some x) (t : TypeId) (w : World) :
    ∃ u, (binOp op t (.string a) (.string b)).run P w = .ok u w ∧ x = .raw u := by
  unfold strBin at h
  split at h
  · rcases Tr.get_br.1 h with ⟨_, h⟩ | ⟨hb, h⟩
    · simp [Tr.get] at h
    · simp [Tr.get] at h; subst h
      have hb' : ¬ (((a.size + b.size : Nat) : Int) > 9223372036854775807) := of_decide_eq_false hb
      refine ⟨_, ?_, rfl⟩
      simp only [binOp, Op.stringOp, IntKind.max_i64, hb', if_false, Sem.run_pure]
  · simp [Tr.get] at h; subst h; exact ⟨_, by simp [binOp, Op.stringOp], rfl⟩
  · simp [Tr.get] at h; subst h; exact ⟨_, by simp [binOp, Op.stringOp], rfl⟩
  · simp [Tr.get] at h; subst h; exact ⟨_, by simp [binOp, Op.stringOp], rfl⟩
  · simp [Tr.get] at h

def pBin (P : Program) (look : Nat → Option (SO C)) (op : BinOp) (t : TypeId) (x y : SV) : Tr SV :=
  match x, y with
  | .raw (.int k a), .raw (.int k' b) => binInt op k k' a b
  | .raw (.string a), .raw (.string b) => strBin op a b
  | x, y => match op with
    | .eql => (eqv P look t x y).bind fun b => .leaf (.raw (.bool b))
    | .neq => (eqv P look t x y).bind fun b => .leaf (.raw (.bool (!b)))
    | _ => .fail

section sound
variable {B : World} {X : Own} {ρ : Asg} {hp : Hp C} {n : Nat} {w : World}

theorem pBin_sound (R : Rel B X ρ hp n w) {op : BinOp} {t : TypeId} {x y r : SV} {vx vy : Value} (ox oy : Operand) (h : (pBin P (fun i => find i hp) op t x y).get = some r) (hx : den ρ x = some vx) (hy : den ρ y = some vy) :
    PureOk P ρ w (do eqGuard op t ox oy vx vy; binOp op t vx vy) r := by
  unfold pBin at h
  split at h
  · simp [den] at hx hy; subst hx; subst hy
    obtain ⟨u, h1, rfl⟩ := binInt_sound h t w
    refine ⟨u, ?_, rfl⟩
    rw [Sem.run_bind, eqGuard_ok (by rintro ⟨_, _, e, _⟩; cases e) (by rintro ⟨e, _⟩; cases e)]
    exact h1
  · simp [den] at hx hy; subst hx; subst hy
    obtain ⟨u, h1, rfl⟩ := strBin_sound h t w
    refine ⟨u, ?_, rfl⟩
    rw [Sem.run_bind, eqGuard_ok (by rintro ⟨_, _, e, _⟩; cases e) (by rintro ⟨e, _⟩; cases e)]
    exact h1
  · split at h
    · obtain ⟨b, h1, h2⟩ := Tr.get_bind h
      simp [Tr.get] at h2; subst h2
      obtain ⟨h3, h4, h5⟩ := eqv_sound R hx hy h1
      refine ⟨.bool b, ?_, rfl⟩
      rw [Sem.run_bind, eqGuard_ok h4 (by rintro ⟨rfl, rfl⟩; cases h5), Result.andThen_ok, binOp_eql_plain h5, Sem.run_bind, h3]
      rfl
    · obtain ⟨b, h1, h2⟩ := Tr.get_bind h
      simp [Tr.get] at h2; subst h2
      obtain ⟨h3, h4, h5⟩ := eqv_sound R hx hy h1
      refine ⟨.bool (!b), ?_, rfl⟩
      rw [Sem.run_bind, eqGuard_ok h4 (by rintro ⟨rfl, rfl⟩; cases h5), Result.andThen_ok, binOp_neq_plain h5, Sem.run_bind, h3]
      rfl
    · simp [Tr.get] at h
end sound
end
end Go.Sx
