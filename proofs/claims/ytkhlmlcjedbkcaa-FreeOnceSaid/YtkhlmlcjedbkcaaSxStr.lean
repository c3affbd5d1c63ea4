/-
  The symbolic evaluator: strings out of bytes; arrays seen in slices. Own work; nothing here is trusted.
-/
import Derived.Test.YtkhlmlcjedbkcaaSxCopy
namespace Go.Sx
noncomputable section
open Go.RowKit

variable {C : Tab} {P : Program}

def isStr : SV → Bool
  | .raw (.string _) => true
  | _ => false
def strOf (l : List Int) : ByteArray := ⟨(l.map fun n => UInt8.ofNat n.toNat).toArray⟩
/-- Conversions; those of bytes to a string read memory. -/
def pConvM (P : Program) (look : Nat → Option (SO C)) (s t : TypeId) (x : SV) : Tr SV := match P.underlying s, P.underlying t with
  | some (.slice e), some .string => match P.underlying e, (C e).byt with
    | some (.int .u8), some b => match isStr x with
      | false => (srcT look e x).bind fun us => .leaf (.raw (.string (strOf (us.map b.g))))
      | true => .fail
    | _, _ => .fail
  | _, _ => pConv P s t x
/-- The address of an array that a slice begins with. -/
def pArrAt (P : Program) (look : Nat → Option (SO C)) (arr : TypeId) (x : SV) : Tr SV := match P.underlying arr with
  | some (.array m _) => match x with
    | .h id => match look id with
      | some (.sl _ _ e ts) => .br (decide (m ≤ ts.length) && decide (0 < ts.length)) (.leaf (.el id 0 (C e).sz 0)) .fail
      | _ => .fail
    | .vs id sz bs off len _ => match look id with
      | some (.sl _ _ e ts) => match Nat.beq sz (C e).sz with
        | true => .br (decide (m ≤ len) && decide (off < ts.length)) (.leaf (.el id off (C e).sz 0)) .fail
        | false => .fail
      | _ => .fail
    | .bs id off len _ => .br (decide (m ≤ len)) (.leaf (.ep id off)) .fail
    | _ => .fail
  | _ => .fail

section sound
variable {B : World} {X : Own} {ρ : Asg} {hp : Hp C} {n : Nat} {w : World}

theorem run_bytes (w : World) : ∀ (l : List Int) (s : ByteArray), (forIn ((l.map (Value.int .u8)).toArray) s (fun c (s : ByteArray) => do
      match c with
      | Value.int IntKind.u8 n => pure (ForInStep.yield (s.push (UInt8.ofNat n.toNat)))
      | _ => do
        stuck "bytesToString: byte expected"
        pure (ForInStep.yield s)) : Sem ByteArray).run P w = .ok (l.foldl (fun s n => s.push (UInt8.ofNat n.toNat)) s) w := by
  intro l
  induction l with
  | nil => intro s; simp
  | cons x l ih =>
    intro s
    have := ih (s.push (UInt8.ofNat x.toNat))
    simp only [List.forIn_toArray, List.map_cons, List.forIn_cons] at this ⊢
    simp only [Sem.run_bind, Sem.run_pure, Result.andThen_ok, List.foldl_cons]
    exact this
theorem foldl_strOf : ∀ (l : List Int) (s : ByteArray), l.foldl (fun s n => s.push (UInt8.ofNat n.toNat)) s = ⟨s.data ++ (l.map fun n => UInt8.ofNat n.toNat).toArray⟩
  | [], s => by simp
  | x :: l, s => by
    rw [List.foldl_cons, foldl_strOf l]
    simp [ByteArray.push]
theorem pConvM_sound (R : Rel B X ρ hp n w) {s t : TypeId} {x r : SV} {v : Value} (h : (pConvM P (fun i => find i hp) s t x).get = some r) (hx : den ρ x = some v) : PureOk P ρ w (convert s t v) r := by
  unfold pConvM at h
  split at h
  · rename_i e hs ht
    split at h
    · rename_i b he hb
      cases hstr : isStr x with
      | true => rw [hstr] at h; simp [Tr.get] at h
      | false =>
      rw [hstr] at h
      obtain ⟨us, hus, h⟩ := Tr.get_bind h
      simp only [Tr.get, Option.some.injEq] at h; subst h
      obtain ⟨hsrc, hform⟩ := srcT_spec (P := P) R hus hx
      have hsz := byt_sz b
      rw [hsz] at hsrc
      have hfl : ∀ l : List (C e).α, (C e).flat l = (l.map b.g).map (Value.int .u8) := fun l => by
        induction l with
        | nil => rfl
        | cons y l ih => simp only [Codec.flat, b.lawg, List.map_cons, ih]; rfl
      refine ⟨.string (strOf (us.map b.g)), ?_, rfl⟩
      rcases hform with ⟨a, l, c, rfl⟩ | ⟨str, rfl⟩
      · have hlen : l = us.length := by
          have := hsrc.len w
          simpa [Builtin.lenOf] using this
        subst hlen
        have hcells := hsrc.cells us.length (Nat.le_refl _)
        rw [List.take_of_length_le (by rw [(C e).flat_length, hsz]; exact Nat.le_refl _)] at hcells
        cases a with
        | none =>
          have : us = [] := by
            have h0 : (Builtin.firstCells 1 us.length (.slice none us.length c)).run P w = .ok #[] w := run_firstCells_none w 1 us.length us.length c
            rw [h0] at hcells
            have := congrArg List.length (congrArg Array.toList (Result.ok.inj hcells).1)
            simp only [List.length_nil, (C e).flat_length, hsz, Nat.mul_one] at this
            exact List.length_eq_zero_iff.1 (by simpa using this.symm)
          subst this
          simp [convert, run_underlying hs, run_underlying ht, run_underlying he, Conv.bytesToString, strOf]
          rfl
        | some a =>
          have hload : (loadCells a us.length).run P w = .ok ((us.map b.g).map (Value.int .u8)).toArray w := by
            have : Builtin.firstCells 1 us.length (.slice (some a) us.length c) = loadCells a (us.length * 1) := rfl
            rw [this, Nat.mul_one, hfl] at hcells
            exact hcells
          have hloop := run_bytes (P := P) w (us.map b.g) ByteArray.empty
          rw [foldl_strOf] at hloop
          simp only [convert, Sem.run_bind, run_underlying hs, run_underlying ht, run_underlying he, Result.andThen_ok, Conv.bytesToString, hload]
          refine (congrArg (fun r : Result ByteArray => r.andThen fun a w' => Sem.run P (pure (Value.string a)) w') hloop).trans ?_
          simp only [Result.andThen_ok, Sem.run_pure]
          congr 2
          simp [strOf]
      · exfalso
        cases x with
        | raw u => simp [den] at hx; subst hx; simp [isStr] at hstr
        | h id =>
          unfold srcT srcL at hus
          simp only at hus
          split at hus
          · rename_i hid
            obtain ⟨_, _, he', _⟩ := flat_cell R hid hx
            cases he'
          · simp [Tr.ofOpt, Tr.get] at hus
        | ep id off => simp [den, Option.bind_eq_some_iff, Option.map_eq_some_iff] at hx
        | bs id off l c => simp [den, Option.bind_eq_some_iff, Option.map_eq_some_iff] at hx
        | el id i sz j => simp [den, Option.bind_eq_some_iff, Option.map_eq_some_iff] at hx
        | vs id sz off len cap =>
          simp only [den, Option.bind_eq_some_iff] at hx
          obtain ⟨u, _, hu⟩ := hx
          obtain ⟨_, _, _, e'⟩ := vsV_slice hu
          cases e'
        | agg cs => simp [den, Option.map_eq_some_iff] at hx
        | tup cs => simp [den, Option.map_eq_some_iff] at hx
        | fn f cs => simp [den, Option.map_eq_some_iff] at hx
    · simp [Tr.get] at h
  · exact pConv_sound h hx
theorem base_of (R : Rel B X ρ hp n w) {id : Nat} {own full : Bool} {e : TypeId} {ts : List (C e).α} {v : Value} (hi : find id hp = some (.sl own full e ts)) (hv : ρ id = some v) : ∃ a c, v = .slice (some a) ts.length c ∧ ts.length ≤ c := by
  obtain ⟨a, c, rfl, h1, _⟩ := flat_cell R hi hv
  have hnn := R.nn id _ _ hi rfl hv
  cases a with
  | none => simp [nnV] at hnn
  | some a => exact ⟨a, c, rfl, h1⟩
theorem pArrAt_sound (R : Rel B X ρ hp n w) {arr : TypeId} {x r : SV} {v : Value} (h : (pArrAt P (fun i => find i hp) arr x).get = some r) (hx : den ρ x = some v) : PureOk P ρ w (Instr.arrayAt arr v) r := by
  unfold pArrAt at h
  split at h
  · rename_i m e0 ha
    have fin : ∀ {a : Option Addr} {l c : Nat}, m ≤ l → (Instr.arrayAt arr (.slice a l c)).run P w = .ok (.pointer a) w := fun {a l c} hml => by
      have : ¬ l < m := by omega
      simp [Instr.arrayAt, run_underlying ha, this]
    split at h
    · rename_i id
      split at h
      · rename_i own full e ts hid
        obtain ⟨hb, h⟩ := Tr.get_ask.1 h
        simp only [Bool.and_eq_true, decide_eq_true_eq] at hb
        simp only [Tr.get, Option.some.injEq] at h; subst h
        obtain ⟨a, c, rfl, _⟩ := base_of R hid hx
        exact ⟨_, fin hb.1, by simp only [den] at hx; simp [den, hx, baseOf, Addr.add_zero]⟩
      · simp [Tr.get] at h
    · rename_i id sz bs off len cap
      split at h
      · rename_i own full e ts hid
        split at h
        · rename_i hsz
          have hsz := Nat.eq_of_beq_eq_true hsz
          subst hsz
          obtain ⟨hb, h⟩ := Tr.get_ask.1 h
          simp only [Bool.and_eq_true, decide_eq_true_eq] at hb
          simp only [Tr.get, Option.some.injEq] at h; subst h
          obtain ⟨a, c, hv, hc, _, rfl, _⟩ := vs_den R hid hx
          exact ⟨_, fin hb.1, by rw [if_neg (by omega)]; simp [den, hv, baseOf]⟩
        · simp [Tr.get] at h
      · simp [Tr.get] at h
    · rename_i id off len cap
      obtain ⟨hb, h⟩ := Tr.get_ask.1 h
      have hb := of_decide_eq_true hb
      simp only [Tr.get, Option.some.injEq] at h; subst h
      simp only [den, Option.bind_eq_some_iff, Option.map_eq_some_iff] at hx
      obtain ⟨u, hu, a, ha', rfl⟩ := hx
      exact ⟨_, fin hb, by simp [den, hu, ha']⟩
    · simp [Tr.get] at h
  · simp [Tr.get] at h
end sound
end
end Go.Sx
