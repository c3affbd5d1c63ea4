/-
  Merged texts, part 1 of 6. Own work; nothing here is trusted.
-/
import Derived.WalkKit
import Derived.WalkSpells
import Derived.KernelRfl
/-
  A symbolic evaluator over the model, its first part: symbolic values, what they denote under an assignment of handles, heap objects behind handles, and the relation between a symbolic heap and a world. Own work; nothing here is trusted.
-/
namespace Go.Sx
open Go.RowKit
inductive SV where
  | raw (v : Value)
  | h (id : Nat)
  | ep (id off : Nat)
  | bs (id off len cap : Nat)
  | el (id i sz j : Nat)
  | vs (id sz bs off len : Nat) (cap : Option Nat)
  | agg (cs : List SV)
  | tup (vs : List SV)
  | fn (f k : Nat) (cap : List SV)
  | ifc (t : Nat) (cs : List SV)
abbrev Asg := Nat → Option Value
def baseOf : Value → Option Addr
  | .pointer (some a) => some a
  | .slice (some a) _ _ => some a
  | _ => none
def capO : Option Nat → Nat → Nat
  | some m, _ => m
  | none, d => d
def vsV (v : Value) (sz bs off len : Nat) (cap : Option Nat) : Option Value := match v with
  | .slice (some a) _ c => some (.slice (some (if off = c then a.add (Nat.min bs off * sz) else a.add (off * sz))) len (capO cap (c - off)))
  | _ => none
theorem vsV_slice {v u : Value} {sz bs off len : Nat} {cap : Option Nat} (h : vsV v sz bs off len cap = some u) : ∃ a l c, u = .slice (some a) l c := by
  unfold vsV at h
  split at h
  · simp at h; subst h; exact ⟨_, _, _, rfl⟩
  · cases h
def ifcV (t : Nat) : List Value → Option Value
  | [u] => some (.iface t u)
  | _ => none
theorem ifcV_some {t : Nat} {l : List Value} {v : Value} (h : ifcV t l = some v) : ∃ u, l = [u] ∧ v = .iface t u := by
  unfold ifcV at h
  split at h
  · rename_i u; cases h; exact ⟨u, rfl, rfl⟩
  · cases h
mutual
def den (ρ : Asg) : SV → Option Value
  | .raw v => some v
  | .h id => ρ id
  | .ep id off => (ρ id).bind fun v => (baseOf v).map fun a => .pointer (some (a.add off))
  | .bs id off len cap => (ρ id).bind fun v => (baseOf v).map fun a => .slice (some (a.add off)) len cap
  | .el id i sz j => (ρ id).bind fun v => (baseOf v).map fun a => .pointer (some (a.add (i * sz + j)))
  | .vs id sz bs off len cap => (ρ id).bind fun v => vsV v sz bs off len cap
  | .agg cs => (denL ρ cs).map fun l => .agg l.toArray
  | .tup cs => (denL ρ cs).map fun l => .tuple l.toArray
  | .fn f k cap => (denL ρ cap).map fun l => .func (.func f) (l.take k).toArray (l.drop k).toArray
  | .ifc t cs => (denL ρ cs).bind fun l => ifcV t l
def denL (ρ : Asg) : List SV → Option (List Value)
  | [] => some []
  | v :: r => (den ρ v).bind fun a => (denL ρ r).map fun l => a :: l
end
def Asg.le (ρ ρ' : Asg) : Prop := ∀ i v, ρ i = some v → ρ' i = some v
theorem Asg.le_refl (ρ : Asg) : ρ.le ρ := fun _ _ h => h
theorem Asg.le_trans {a b c : Asg} (h : a.le b) (k : b.le c) : a.le c := fun i v hv => k i v (h i v hv)
mutual
theorem den_mono {ρ ρ' : Asg} (h : ρ.le ρ') : ∀ (sv : SV) (v : Value), den ρ sv = some v → den ρ' sv = some v
  | .raw _, _, e => by simpa [den] using e
  | .h _, _, e => by simp only [den] at e ⊢; exact h _ _ e
  | .ep id off, v, e => by
    simp only [den] at e ⊢
    cases hi : ρ id with
    | none => simp [hi] at e
    | some u => rw [h _ _ hi]; simpa [hi] using e
  | .bs id off l c, v, e => by
    simp only [den] at e ⊢
    cases hi : ρ id with
    | none => simp [hi] at e
    | some u => rw [h _ _ hi]; simpa [hi] using e
  | .el id i sz j, v, e => by
    simp only [den] at e ⊢
    cases hi : ρ id with
    | none => simp [hi] at e
    | some u => rw [h _ _ hi]; simpa [hi] using e
  | .vs id sz bs off len cap, v, e => by
    simp only [den] at e ⊢
    cases hi : ρ id with
    | none => simp [hi] at e
    | some u => rw [h _ _ hi]; simpa [hi] using e
  | .agg cs, v, e => by
    simp only [den] at e ⊢
    cases hi : denL ρ cs with
    | none => simp [hi] at e
    | some u => rw [denL_mono h cs u hi]; simpa [hi] using e
  | .tup cs, v, e => by
    simp only [den] at e ⊢
    cases hi : denL ρ cs with
    | none => simp [hi] at e
    | some u => rw [denL_mono h cs u hi]; simpa [hi] using e
  | .fn f k cs, v, e => by
    simp only [den] at e ⊢
    cases hi : denL ρ cs with
    | none => simp [hi] at e
    | some u => rw [denL_mono h cs u hi]; simpa [hi] using e
  | .ifc t cs, v, e => by
    simp only [den] at e ⊢
    cases hi : denL ρ cs with
    | none => simp [hi] at e
    | some u => rw [denL_mono h cs u hi]; simpa [hi] using e
theorem denL_mono {ρ ρ' : Asg} (h : ρ.le ρ') : ∀ (l : List SV) (vs : List Value), denL ρ l = some vs → denL ρ' l = some vs
  | [], _, e => by simpa [denL] using e
  | x :: r, vs, e => by
    simp only [denL] at e ⊢
    cases hx : den ρ x with
    | none => simp [hx] at e
    | some u =>
      cases hr : denL ρ r with
      | none => simp [hx, hr] at e
      | some l => rw [den_mono h x u hx, denL_mono h r l hr]; simpa [hx, hr] using e
end
theorem denL_cons {ρ : Asg} {x : SV} {r : List SV} {vs : List Value} : denL ρ (x :: r) = some vs ↔ ∃ u l, den ρ x = some u ∧ denL ρ r = some l ∧ vs = u :: l := by
  simp only [denL]
  cases hx : den ρ x <;> cases hr : denL ρ r <;> simp [eq_comm]
theorem denL_nil {ρ : Asg} {vs : List Value} : denL ρ [] = some vs ↔ vs = [] := by simp [denL, eq_comm]
theorem denL_length {ρ : Asg} : ∀ {l : List SV} {vs : List Value}, denL ρ l = some vs → vs.length = l.length
  | [], vs, h => by rw [denL_nil.1 h]; rfl
  | x :: r, vs, h => by
    obtain ⟨u, l, _, h2, rfl⟩ := denL_cons.1 h
    simp [denL_length h2]
theorem denL_append {ρ : Asg} : ∀ {l m : List SV} {vs us : List Value}, denL ρ l = some vs → denL ρ m = some us → denL ρ (l ++ m) = some (vs ++ us)
  | [], m, vs, us, h, h' => by rw [denL_nil.1 h]; simpa using h'
  | x :: r, m, vs, us, h, h' => by
    obtain ⟨u, l, h1, h2, rfl⟩ := denL_cons.1 h
    simp only [List.cons_append]
    exact denL_cons.2 ⟨u, l ++ us, h1, denL_append h2 h', rfl⟩
theorem denL_take {ρ : Asg} : ∀ (n : Nat) {l : List SV} {vs : List Value}, denL ρ l = some vs → denL ρ (l.take n) = some (vs.take n)
  | 0, _, _, _ => by simp [denL]
  | n + 1, [], vs, h => by rw [denL_nil.1 h]; simp [denL]
  | n + 1, x :: r, vs, h => by
    obtain ⟨u, l, h1, h2, rfl⟩ := denL_cons.1 h
    exact denL_cons.2 ⟨u, l.take n, h1, denL_take n h2, rfl⟩
theorem denL_drop {ρ : Asg} : ∀ (n : Nat) {l : List SV} {vs : List Value}, denL ρ l = some vs → denL ρ (l.drop n) = some (vs.drop n)
  | 0, _, _, h => by simpa using h
  | n + 1, [], vs, h => by rw [denL_nil.1 h]; simp [denL]
  | n + 1, x :: r, vs, h => by
    obtain ⟨u, l, h1, h2, rfl⟩ := denL_cons.1 h
    simpa using denL_drop n h2
theorem denL_get {ρ : Asg} : ∀ {l : List SV} {vs : List Value} (i : Nat) {x : SV}, denL ρ l = some vs → l[i]? = some x → ∃ u, den ρ x = some u ∧ vs[i]? = some u
  | [], _, i, x, _, hx => by simp at hx
  | y :: r, vs, 0, x, h, hx => by
    obtain ⟨u, l, h1, h2, rfl⟩ := denL_cons.1 h
    simp at hx; subst hx
    exact ⟨u, h1, rfl⟩
  | y :: r, vs, i + 1, x, h, hx => by
    obtain ⟨u, l, h1, h2, rfl⟩ := denL_cons.1 h
    simp at hx
    simpa using denL_get i h2 hx
def rawL : List Value → List SV
  | [] => []
  | v :: r => .raw v :: rawL r
theorem denL_rawL {ρ : Asg} : ∀ (l : List Value), denL ρ (rawL l) = some l
  | [] => rfl
  | v :: r => denL_cons.2 ⟨v, r, rfl, denL_rawL r, rfl⟩
theorem rawL_length : ∀ (l : List Value), (rawL l).length = l.length
  | [] => rfl
  | _ :: r => by simp [rawL, rawL_length r]
def cellsS : SV → List SV
  | .agg cs => cs
  | .raw v => match v with
    | .agg a => rawL a.toList
    | v => [.raw v]
  | v => [v]
theorem denL_one {ρ : Asg} {x : SV} {v : Value} (h : den ρ x = some v) : denL ρ [x] = some [v] := denL_cons.2 ⟨v, [], h, rfl, rfl⟩
theorem den_cells {ρ : Asg} {x : SV} {v : Value} (h : den ρ x = some v) (hone : ∀ i u, ρ i = some u → u.oneCell' = true) : denL ρ (cellsS x) = some v.cells.toList := by
  have single : ∀ u : Value, (∀ a, u ≠ .agg a) → u.cells.toList = [u] := fun u hu => by
    cases u <;> first | rfl | exact absurd rfl (hu _)
  cases x with
  | raw u =>
    simp [den] at h
    subst h
    cases u <;> first | exact denL_rawL _ | exact denL_one rfl
  | h id =>
    simp only [cellsS]
    rw [single v (fun a ha => by subst ha; have := hone id _ (show ρ id = some (.agg a) from h); simp [Value.oneCell'] at this)]
    exact denL_one h
  | ep id off =>
    have : ∀ a, v ≠ .agg a := by
      simp only [den, Option.bind_eq_some_iff, Option.map_eq_some_iff] at h
      obtain ⟨u, _, b, _, rfl⟩ := h
      simp
    simp only [cellsS]; rw [single v this]; exact denL_one h
  | bs id off l c =>
    have : ∀ a, v ≠ .agg a := by
      simp only [den, Option.bind_eq_some_iff, Option.map_eq_some_iff] at h
      obtain ⟨u, _, b, _, rfl⟩ := h
      simp
    simp only [cellsS]; rw [single v this]; exact denL_one h
  | el id i sz j =>
    have : ∀ a, v ≠ .agg a := by
      simp only [den, Option.bind_eq_some_iff, Option.map_eq_some_iff] at h
      obtain ⟨u, _, b, _, rfl⟩ := h
      simp
    simp only [cellsS]; rw [single v this]; exact denL_one h
  | vs id sz bs off len cap =>
    have : ∀ a, v ≠ .agg a := by
      simp only [den, Option.bind_eq_some_iff] at h
      obtain ⟨u, _, hu⟩ := h
      obtain ⟨_, _, _, rfl⟩ := vsV_slice hu
      simp
    simp only [cellsS]; rw [single v this]; exact denL_one h
  | agg cs =>
    simp only [den, Option.map_eq_some_iff] at h
    obtain ⟨l, hl, rfl⟩ := h
    simpa [cellsS, Value.cells] using hl
  | tup cs =>
    have : ∀ a, v ≠ .agg a := by
      simp only [den, Option.map_eq_some_iff] at h
      obtain ⟨u, _, rfl⟩ := h
      simp
    simp only [cellsS]; rw [single v this]; exact denL_one h
  | fn f k cs =>
    have : ∀ a, v ≠ .agg a := by
      simp only [den, Option.map_eq_some_iff] at h
      obtain ⟨u, _, rfl⟩ := h
      simp
    simp only [cellsS]; rw [single v this]; exact denL_one h
  | ifc t cs =>
    have : ∀ a, v ≠ .agg a := by
      simp only [den, Option.bind_eq_some_iff] at h
      obtain ⟨l, _, h⟩ := h
      obtain ⟨u, _, rfl⟩ := ifcV_some h
      simp
    simp only [cellsS]; rw [single v this]; exact denL_one h
def oneS : SV → Bool
  | .raw v => v.oneCell'
  | .agg _ | .tup _ => false
  | _ => true
def allOne : List SV → Bool
  | [] => true
  | x :: r => match oneS x with
    | true => allOne r
    | false => false
theorem one_of_oneS {ρ : Asg} {x : SV} {v : Value} (h : den ρ x = some v) (hone : ∀ i u, ρ i = some u → u.oneCell' = true) (hx : oneS x = true) : v.oneCell' = true := by
  cases x with
  | raw u => simp [den] at h; subst h; exact hx
  | h id => exact hone id v h
  | ep id off =>
    simp only [den, Option.bind_eq_some_iff, Option.map_eq_some_iff] at h
    obtain ⟨u, _, b, _, rfl⟩ := h
    rfl
  | bs id off l c =>
    simp only [den, Option.bind_eq_some_iff, Option.map_eq_some_iff] at h
    obtain ⟨u, _, b, _, rfl⟩ := h
    rfl
  | el id i sz j =>
    simp only [den, Option.bind_eq_some_iff, Option.map_eq_some_iff] at h
    obtain ⟨u, _, b, _, rfl⟩ := h
    rfl
  | vs id sz bs off len cap =>
    simp only [den, Option.bind_eq_some_iff] at h
    obtain ⟨u, _, hu⟩ := h
    obtain ⟨_, _, _, rfl⟩ := vsV_slice hu
    rfl
  | agg cs => simp [oneS] at hx
  | tup cs => simp [oneS] at hx
  | fn f k cs =>
    simp only [den, Option.map_eq_some_iff] at h
    obtain ⟨u, _, rfl⟩ := h
    rfl
  | ifc t cs =>
    simp only [den, Option.bind_eq_some_iff] at h
    obtain ⟨l, _, h⟩ := h
    obtain ⟨u, _, rfl⟩ := ifcV_some h
    rfl
theorem allOne_mem {ρ : Asg} (hone : ∀ i u, ρ i = some u → u.oneCell' = true) : ∀ {l : List SV} {vs : List Value}, denL ρ l = some vs → allOne l = true → ∀ v ∈ vs, v.oneCell' = true
  | [], vs, h, _ => by rw [denL_nil.1 h]; simp
  | x :: r, vs, h, ho => by
    obtain ⟨u, l, h1, h2, rfl⟩ := denL_cons.1 h
    simp only [allOne] at ho
    cases hx : oneS x with
    | false => simp [hx] at ho
    | true =>
      simp only [hx] at ho
      intro v hv
      rcases List.mem_cons.1 hv with rfl | hv
      · exact one_of_oneS h1 hone hx
      · exact allOne_mem hone h2 ho v hv
def find {α : Type _} (k : Nat) : List (Nat × α) → Option α
  | [] => none
  | (j, v) :: r => match Nat.beq k j with
    | true => some v
    | false => find k r
theorem find_cons {α : Type _} (k j : Nat) (v : α) (r : List (Nat × α)) : find k ((j, v) :: r) = if k = j then some v else find k r := by
  simp only [find]
  by_cases h : k = j
  · subst h; simp
  · have : Nat.beq k j = false := by cases hb : Nat.beq k j <;> first | rfl | exact absurd (Nat.eq_of_beq_eq_true hb) h
    rw [this]; simp [h]
theorem find_append {α : Type _} (k : Nat) : ∀ (l r : List (Nat × α)), find k (l ++ r) = match find k l with | some v => some v | none => find k r
  | [], r => by simp [find]
  | (j, v) :: l, r => by
    rw [List.cons_append, find_cons, find_cons, find_append k l r]
    by_cases h : k = j <;> simp [h]
structure Byt (α : Type) (enc : α → List Value) where
  f : Int → α
  g : α → Int
  law : ∀ x, enc (f x) = [.int .u8 x]
  lawg : ∀ a, enc a = [.int .u8 (g a)]
structure Codec where
  α : Type
  ag : Bool
  sz : Nat
  enc : α → List Value
  dec : List SV → Option α
  d : α
  pos : 0 < sz
  len : ∀ a, (enc a).length = sz
  one : ∀ a, ∀ v ∈ enc a, v.oneCell' = true
  law : ∀ cs a, dec cs = some a → cs = rawL (enc a)
  sg : ag = false → sz = 1
  byt : Option (Byt α enc) := none
def Codec.flat (c : Codec) : List c.α → List Value
  | [] => []
  | a :: r => c.enc a ++ c.flat r
theorem Codec.flat_length (c : Codec) : ∀ ts : List c.α, (c.flat ts).length = ts.length * c.sz
  | [] => by simp [Codec.flat]
  | a :: r => by simp [Codec.flat, c.flat_length r, c.len, Nat.add_mul]; omega
theorem Codec.flat_append (c : Codec) : ∀ ts us : List c.α, c.flat (ts ++ us) = c.flat ts ++ c.flat us
  | [], us => by simp [Codec.flat]
  | a :: r, us => by simp [Codec.flat, c.flat_append r us]
theorem Codec.flat_take (c : Codec) : ∀ (n : Nat) (ts : List c.α), c.flat (ts.take n) = (c.flat ts).take (n * c.sz)
  | 0, ts => by simp [Codec.flat]
  | n + 1, [] => by simp [Codec.flat]
  | n + 1, a :: r => by
    simp only [List.take_succ_cons, Codec.flat, c.flat_take n r]
    rw [List.take_append, c.len]
    have : (c.enc a).take ((n + 1) * c.sz) = c.enc a := List.take_of_length_le (by rw [c.len, Nat.add_mul]; omega)
    rw [this]
    congr 2
    rw [Nat.add_mul]; omega
theorem Codec.flat_drop (c : Codec) : ∀ (n : Nat) (ts : List c.α), c.flat (ts.drop n) = (c.flat ts).drop (n * c.sz)
  | 0, ts => by simp
  | n + 1, [] => by simp [Codec.flat]
  | n + 1, a :: r => by
    simp only [List.drop_succ_cons, Codec.flat, c.flat_drop n r]
    rw [List.drop_append, c.len]
    have : (c.enc a).drop ((n + 1) * c.sz) = [] := List.drop_of_length_le (by rw [c.len, Nat.add_mul]; omega)
    rw [this]
    simp only [List.nil_append]
    congr 1
    rw [Nat.add_mul]; omega
theorem Codec.flat_one (c : Codec) : ∀ (ts : List c.α), ∀ v ∈ c.flat ts, v.oneCell' = true
  | [], v, h => by simp [Codec.flat] at h
  | a :: r, v, h => by
    rcases List.mem_append.1 h with h | h
    · exact c.one a v h
    · exact c.flat_one r v h
theorem Codec.flat_at (c : Codec) (ts : List c.α) (i : Nat) (h : i < ts.length) : (c.flat ts).drop (i * c.sz) = c.enc (ts.getD i c.d) ++ c.flat (ts.drop (i + 1)) := by
  rw [← c.flat_drop, List.drop_eq_getElem_cons h]
  simp [Codec.flat, List.getD, h]
theorem Codec.flat_get (c : Codec) (ts : List c.α) (i j : Nat) (h : i < ts.length) (hj : j < c.sz) : (c.flat ts)[i * c.sz + j]? = (c.enc (ts.getD i c.d))[j]? := by
  rw [← List.getElem?_drop, c.flat_at ts i h, List.getElem?_append_left (by rw [c.len]; exact hj)]
theorem Codec.flat_set (c : Codec) : ∀ (ts : List c.α) (i : Nat) (a : c.α), i < ts.length → c.flat (ts.set i a) = (c.flat ts).take (i * c.sz) ++ c.enc a ++ (c.flat ts).drop (i * c.sz + c.sz)
  | [], _, _, h => by simp at h
  | b :: r, 0, a, _ => by
    simp only [List.set_cons_zero, Codec.flat, Nat.zero_mul, List.take_zero, List.nil_append, Nat.zero_add]
    rw [List.drop_append, c.len, List.drop_of_length_le (by rw [c.len]; omega)]
    simp
  | b :: r, i + 1, a, h => by
    have ih := c.flat_set r i a (by simpa using h)
    simp only [List.set_cons_succ, Codec.flat, ih]
    rw [List.take_append, List.drop_append, c.len, List.take_of_length_le (l := c.enc b) (by rw [c.len, Nat.add_mul]; omega), List.drop_of_length_le (l := c.enc b) (by rw [c.len, Nat.add_mul]; omega)]
    have e1 : (i + 1) * c.sz - c.sz = i * c.sz := by rw [Nat.add_mul]; omega
    have e2 : (i + 1) * c.sz + c.sz - c.sz = i * c.sz + c.sz := by rw [Nat.add_mul]; omega
    rw [e1, e2]
    simp
abbrev Tab := TypeId → Codec
def Codec.val (c : Codec) (a : c.α) : Value := match c.ag with
  | true => .agg (c.enc a).toArray
  | false => (c.enc a).headD (.tuple #[])
inductive SO (C : Tab) where
  | box (cs : List SV) (ty : TypeId)
  | sl (own full : Bool) (e : TypeId) (ts : List (C e).α)
  | mp (k : IntKind) (vt : TypeId) (m : List (Int × (C vt).α))
  | mv (k : IntKind) (ag : Bool) (len : Nat) (ks : List (List Int)) (vs : List SV) (st : List Nat) (ck : Nat)
  | mx (k : IntKind) (ag : Bool) (len : Nat) (ks : List (List Int)) (vs : List SV)
  | ss (e : TypeId) (pos : Nat) (it : TypeId) (ts : List ((C e).α × Option (Addr × Nat) × List (C it).α))
  | rw (e : TypeId) (sz len : Nat) (full : Bool) (cs : List SV)
  | mem (e : TypeId) (n : Nat) (f : Nat → Int)
  | it (cs : List SV) (since : Nat) (seen : List Nat) (last : Nat)
  | pt (cs : List SV) (k : Nat)
  | gone
variable {C : Tab}
def SO.owns : SO C → Bool
  | .box _ _ => true
  | .sl own _ _ _ => own
  | .mp _ _ _ => true
  | .mv _ _ _ _ _ _ _ => true
  | .mx _ _ _ _ _ => true
  | .ss _ _ _ _ => false
  | .rw _ _ _ _ _ => true
  | .mem _ _ _ => true
  | .it _ _ _ _ => true
  | .pt _ _ => false
  | .gone => false
def SO.isSl : SO C → Bool
  | .sl _ _ _ _ => true
  | .ss _ _ _ _ => true
  | .rw _ _ _ _ _ => true
  | .mem _ _ _ => true
  | _ => false
def nnV : Value → Bool
  | .slice none _ _ => false
  | _ => true
def SO.live : SO C → Bool
  | .gone => false
  | _ => true
def blk : Value → Option Nat
  | .pointer (some a) => some a.block
  | .slice (some a) _ _ => some a.block
  | .map r => r
  | _ => none
abbrev Hp (C : Tab) := List (Nat × SO C)
def keyV (k : IntKind) (ag : Bool) (l : List Int) : Value := match ag with
  | true => .agg (l.map (Value.int k)).toArray
  | false => .int k (l.headD 0)
def ownsL (w : World) (okB : Nat → Prop) (c : Codec) (e : TypeId) (a : Option Addr) (cap : Nat) (ts : List c.α) : Prop :=
  ∃ g tot, a = some ⟨g, 0, none⟩ ∧ okB g ∧ w.heap[g]? = some (.cells (c.flat tot).toArray e (0, 0)) ∧ cap ≤ tot.length ∧ tot.take ts.length = ts
theorem ownsL.block {w : World} {okB : Nat → Prop} {c : Codec} {e : TypeId} {a : Option Addr} {cap : Nat} {ts : List c.α} (h : ownsL w okB c e a cap ts) : ∃ g, a = some ⟨g, 0, none⟩ ∧ okB g := by
  obtain ⟨g, tot, h1, h2, _⟩ := h; exact ⟨g, h1, h2⟩
theorem ownsL.to {w w' : World} {okB okB' : Nat → Prop} {c : Codec} {e : TypeId} {a : Option Addr} {cap : Nat} {ts : List c.α} (h : ownsL w okB c e a cap ts) (hb : ∀ g, a = some ⟨g, 0, none⟩ → okB g → okB' g) (hw : ∀ g, a = some ⟨g, 0, none⟩ → w'.heap[g]? = w.heap[g]?) : ownsL w' okB' c e a cap ts := by
  obtain ⟨g, tot, h1, h2, h3, h4⟩ := h; exact ⟨g, tot, h1, hb g h1 h2, by rw [hw g h1]; exact h3, h4⟩
theorem ownsL.cell {w : World} {okB : Nat → Prop} {c : Codec} {e : TypeId} {a : Option Addr} {cap : Nat} {ts : List c.α} (h : ownsL w okB c e a cap ts) : ∀ j x, (c.flat ts)[j]? = some x → ∃ a', a = some a' ∧ w.cell? (a'.add j) = some x := by
  obtain ⟨g, tot, rfl, _, hheap, _, htake⟩ := h
  intro j x hx
  refine ⟨_, rfl, ?_⟩
  rw [← htake, c.flat_take, List.getElem?_take] at hx
  have hadd : (⟨g, 0, none⟩ : Addr).add j = ⟨g, j, none⟩ := by unfold Addr.add; split <;> simp_all
  rw [hadd, cell_of_row w g _ _ _ _ hheap]
  split at hx
  · simpa using hx
  · cases hx
def ssV (o : Option (Addr × Nat)) (n : Nat) : Value := match o with
  | none => .slice none 0 0
  | some (a, c) => .slice (some a) n c
def ssCells (c : Codec) {β : Type} (pos : Nat) (t : c.α × Option (Addr × Nat) × List β) : List Value := (c.enc t.1).set pos (ssV t.2.1 t.2.2.length)
def ssFlat (c : Codec) {β : Type} (pos : Nat) : List (c.α × Option (Addr × Nat) × List β) → List Value
  | [] => []
  | t :: r => ssCells c pos t ++ ssFlat c pos r
def stOk (es : Array MapEntry) (clock : Nat) : Prop := (es.toList.map (·.born)).Nodup ∧ ∀ b ∈ es.toList.map (·.born), b < clock
theorem stOk_nil (c : Nat) : stOk #[] c := ⟨List.nodup_nil, nofun⟩
theorem stOk_push {es : Array MapEntry} {c : Nat} (h : stOk es c) (k v : Value) : stOk (es.push { key := k, val := v, born := c }) (c + 1) := by
  unfold stOk
  rw [Array.toList_push, List.map_append]
  refine ⟨List.nodup_append.2 ⟨h.1, List.nodup_cons.2 ⟨List.not_mem_nil, List.nodup_nil⟩, fun a ha b hb e => ?_⟩, fun b hb => ?_⟩
  · simp only [List.map_cons, List.map_nil, List.mem_singleton] at hb
    have := h.2 a ha
    omega
  · rcases List.mem_append.1 hb with hb | hb
    · have := h.2 b hb; omega
    · simp only [List.map_cons, List.map_nil, List.mem_singleton] at hb
      omega
theorem stOk_modify {es : Array MapEntry} {c : Nat} (h : stOk es c) (q : Nat) (k v : Value) : stOk (es.modify q fun e => { e with key := k, val := v }) c := by
  have e : (es.modify q fun e => { e with key := k, val := v }).toList.map (·.born) = es.toList.map (·.born) := by
    refine List.ext_getElem? fun i => ?_
    rw [List.getElem?_map, List.getElem?_map, Array.getElem?_toList, Array.getElem?_toList, Array.getElem?_modify]
    split
    · cases es[i]? <;> rfl
    · rfl
  unfold stOk
  rw [e]
  exact h
def ownsR (w : World) (okB : Nat → Prop) (e : TypeId) (sz len : Nat) (full : Bool) (v : Value) (vs : List Value) : Prop :=
  ∃ g cap rest, v = .slice (some ⟨g, 0, none⟩) len cap ∧ okB g ∧ vs.length = len * sz ∧ len ≤ cap ∧ (full = true → cap = len) ∧ w.heap[g]? = some (.cells (vs ++ rest).toArray e (0, 0)) ∧ cap * sz ≤ (vs ++ rest).length
def ownsM (w : World) (okB : Nat → Prop) (e : TypeId) (n : Nat) (f : Nat → Int) (v : Value) : Prop :=
  ∃ g c, v = .slice (some ⟨g, 0, none⟩) n n ∧ okB g ∧ w.heap[g]? = some (.cells c e (0, 0)) ∧ c.size = n ∧ ∀ i, i < n → c[i]? = some (.int .u8 (f i))
theorem ownsR.to {w w' : World} {okB okB' : Nat → Prop} {e : TypeId} {sz len : Nat} {full : Bool} {v : Value} {vs : List Value} (h : ownsR w okB e sz len full v vs) (hb : ∀ g, blk v = some g → okB g → okB' g) (hw : ∀ g, blk v = some g → w'.heap[g]? = w.heap[g]?) : ownsR w' okB' e sz len full v vs := by
  obtain ⟨g, cap, rest, rfl, h1, h2, h3, h4, h5, h6⟩ := h
  exact ⟨g, cap, rest, rfl, hb g rfl h1, h2, h3, h4, by rw [hw g rfl]; exact h5, h6⟩
theorem ownsM.to {w w' : World} {okB okB' : Nat → Prop} {e : TypeId} {n : Nat} {f : Nat → Int} {v : Value} (h : ownsM w okB e n f v) (hb : ∀ g, blk v = some g → okB g → okB' g) (hw : ∀ g, blk v = some g → w'.heap[g]? = w.heap[g]?) : ownsM w' okB' e n f v := by
  obtain ⟨g, c, rfl, h1, h2, h3⟩ := h
  exact ⟨g, c, rfl, hb g rfl h1, by rw [hw g rfl]; exact h2, h3⟩
structure mvOk (k : IntKind) (ag : Bool) (ks : List (List Int)) (us : List Value) (st : List Nat) (ck : Nat) (es : Array MapEntry) (clock : Nat) : Prop where
  pairs : (es.toList.map fun e => (e.key, e.val)) = (ks.map (keyV k ag)).zip us
  born : es.toList.map (·.born) = st
  clock : clock = ck
  apart : st.Nodup
  below : ∀ b ∈ st, b < ck
theorem mvOk.perm {k : IntKind} {ag : Bool} {ks : List (List Int)} {us : List Value} {st : List Nat} {ck : Nat} {es : Array MapEntry} {clock : Nat} (h : mvOk k ag ks us st ck es clock) : (es.toList.map fun e => (e.key, e.val)).Perm ((ks.map (keyV k ag)).zip us) := .of_eq h.pairs
theorem mvOk.nil (k : IntKind) (ag : Bool) (c : Nat) : mvOk k ag [] [] [] c #[] c := ⟨rfl, rfl, rfl, List.nodup_nil, fun _ h => by cases h⟩
def okObj (ρ : Asg) (w : World) (okB : Nat → Prop) (v : Value) : SO C → Prop
  | .box cs ty => ∃ g vs, v = .pointer (some ⟨g, 0, none⟩) ∧ okB g ∧ denL ρ cs = some vs ∧ w.heap[g]? = some (.cells vs.toArray ty (0, 0))
  | .sl own full e ts => ∃ a cap, v = .slice a ts.length cap ∧ ts.length ≤ cap ∧ (full = true → cap = ts.length) ∧
    match own with
    | true => ownsL w okB (C e) e a cap ts
    | false => ∀ j x, ((C e).flat ts)[j]? = some x → ∃ a', a = some a' ∧ w.cell? (a'.add j) = some x
  | .mp k vt m => ∃ g es clock, v = .map (some g) ∧ okB g ∧ w.heap[g]? = some (.map es clock) ∧ es.toList.map (fun e => (e.key, e.val)) = m.map (fun p => (Value.int k p.1, (C vt).val p.2)) ∧ stOk es clock
  | .mv k ag len ks vs st ck => ∃ g es clock us, v = .map (some g) ∧ okB g ∧ denL ρ vs = some us ∧ w.heap[g]? = some (.map es clock) ∧ ks.length = us.length ∧ ks.Nodup ∧ (∀ l ∈ ks, l.length = len) ∧ (ag = false → len = 1) ∧ mvOk k ag ks us st ck es clock
  | .mx k ag len ks vs => ∃ g es clock us, v = .map (some g) ∧ okB g ∧ denL ρ vs = some us ∧ w.heap[g]? = some (.map es clock) ∧ ks.length = us.length ∧ ks.Nodup ∧ (∀ l ∈ ks, l.length = len) ∧ (ag = false → len = 1) ∧ (es.toList.map fun e => (e.key, e.val)).Perm ((ks.map (keyV k ag)).zip us)
  | .ss e pos it ts => ∃ a cap, v = .slice a ts.length cap ∧ ts.length ≤ cap ∧ ∀ j x, (ssFlat (C e) pos ts)[j]? = some x → ∃ a', a = some a' ∧ w.cell? (a'.add j) = some x
  | .rw e sz len full cs => ∃ vs, denL ρ cs = some vs ∧ ownsR w okB e sz len full v vs
  | .mem e n f => ownsM w okB e n f v
  | .pt cs k => ∃ g us, v = .pointer (some ⟨g, 0, none⟩) ∧ denL ρ cs = some us ∧ ∀ j u, us[j]? = some u → w.cell? ((⟨g, 0, none⟩ : Addr).add (k + j)) = some u
  | .it cs since seen last => ∃ g mo, v = .pointer (some ⟨g, 0, none⟩) ∧ okB g ∧ denL ρ cs = some [.map mo] ∧ w.heap[g]? = some (.mapIter mo since seen.toArray last)
  | .gone => True
structure Own where
  wr : Nat → Prop
  vw : Nat → Prop
  ba : Asg
  nb : Nat
  fz : Nat → Prop
  dl : List Deferred
def Own.no : Own := ⟨fun _ => False, fun _ => False, fun _ => none, 0, fun _ => False, []⟩
def okB (B : World) (X : Own) (g : Nat) : Prop := B.heap.size ≤ g ∨ X.wr g
def okV (B : World) (X : Own) (g : Nat) : Prop := B.heap.size ≤ g ∨ X.wr g ∨ X.vw g ∨ X.fz g
theorem okB.view {B : World} {X : Own} {g : Nat} (h : okB B X g) : okV B X g := h.elim .inl fun h => .inr (.inl h)
def InnO (B : World) (X : Own) : SO C → Prop
  | .ss e pos it ts => ∀ t ∈ ts, (t.2.1 = none → t.2.2 = []) ∧ ∀ a c, t.2.1 = some (a, c) → t.2.2.length ≤ c ∧ (0 < c → X.fz a.block ∧ ∀ j x, ((C it).flat t.2.2)[j]? = some x → B.cell? (a.add j) = some x)
  | _ => True
structure Rel (B : World) (X : Own) (ρ : Asg) (hp : Hp C) (n : Nat) (w : World) : Prop where
  os : w.os = B.os
  tape : w.tape = B.tape
  out : w.output = B.output
  size : B.heap.size ≤ w.heap.size
  old : ∀ b, b < B.heap.size → ¬ X.wr b → w.heap[b]? = B.heap[b]?
  nbLe : X.nb ≤ n
  agree : ∀ i, i < X.nb → ρ i = X.ba i
  fresh : ∀ i, n ≤ i → ρ i = none
  one : ∀ i v, ρ i = some v → v.oneCell' = true
  obj : ∀ i o, find i hp = some o → ∃ v, ρ i = some v ∧ okObj ρ w (okB B X) v o
  sep : ∀ i j oi oj vi vj g, i ≠ j → find i hp = some oi → find j hp = some oj → oi.owns = true → oj.live = true → ρ i = some vi → ρ j = some vj → blk vi = some g → blk vj ≠ some g
  blkOk : ∀ i o v g, find i hp = some o → o.live = true → ρ i = some v → blk v = some g → g < w.heap.size
  prov : ∀ i o v g, find i hp = some o → o.live = true → ρ i = some v → blk v = some g → okV B X g
  nn : ∀ i o v, find i hp = some o → o.isSl = true → ρ i = some v → nnV v = true
  frz : ∀ g, X.fz g → ¬ okB B X g
  inn : ∀ i o, find i hp = some o → InnO B X o
theorem Rel.start (w : World) (X : Own) (hX : X.nb = 0) (hf : ∀ g, X.fz g → ¬ okB w X g := by exact fun _ h => (show False from h).elim) : Rel (C := C) w X (fun _ => none) [] 0 w :=
  ⟨rfl, rfl, rfl, Nat.le_refl _, fun _ _ _ => rfl, by omega, fun i hi => by omega, fun _ _ => rfl, fun _ _ h => (by cases h), fun _ _ h => (by simp [find] at h), fun _ _ _ _ _ _ _ _ h => (by simp [find] at h), fun _ _ _ _ h => (by simp [find] at h), fun _ _ _ _ h => (by simp [find] at h), fun _ _ _ h => (by simp [find] at h), hf, fun _ _ h => (by simp [find] at h)⟩
theorem Addr.add_zero (a : Addr) : a.add 0 = a := by simp [Addr.add]
theorem Addr.add_block (a : Addr) (n : Nat) : (a.add n).block = a.block := by unfold Addr.add; split <;> rfl
theorem Addr.add_at (g i n : Nat) : (⟨g, i, none⟩ : Addr).add n = ⟨g, i + n, none⟩ := by
  unfold Addr.add; split <;> simp_all
theorem Addr.add_add (a : Addr) (i j : Nat) : (a.add i).add j = a.add (i + j) := by
  unfold Addr.add
  by_cases hi : i = 0 <;> by_cases hj : j = 0 <;> simp [hi, hj, Nat.add_assoc]
theorem okObj.keep {ρ ρ' : Asg} {w w' : World} {okb : Nat → Prop} {v : Value} {o : SO C} (h : okObj ρ w okb v o) (hρ : ρ.le ρ')
    (hb : o.live = true → ∀ g, blk v = some g → w'.heap[g]? = w.heap[g]?) : okObj ρ' w' okb v o := by
  cases o with
  | box cs ty =>
    obtain ⟨g, vs, rfl, h1, h2, h3⟩ := h
    exact ⟨g, vs, rfl, h1, denL_mono hρ _ _ h2, by rw [hb rfl g rfl]; exact h3⟩
  | sl own full e ts =>
    obtain ⟨a, cap, rfl, h1, h2, h3⟩ := h
    refine ⟨a, cap, rfl, h1, h2, ?_⟩
    cases own with
    | true =>
      exact h3.to (fun g _ h => h) (fun g hg => hb rfl g (by subst hg; rfl))
    | false =>
      intro j x hx
      obtain ⟨a', rfl, hc⟩ := h3 j x hx
      refine ⟨a', rfl, ?_⟩
      rw [World.cell?_of_block (w := w) (a := a'.add j) (by rw [Addr.add_block]; exact hb rfl a'.block rfl)]
      exact hc
  | mp k vt m =>
    obtain ⟨g, es, clock, rfl, h1, h2, h3⟩ := h
    exact ⟨g, es, clock, rfl, h1, by rw [hb rfl g rfl]; exact h2, h3⟩
  | mv k ag vt ks vs st ck =>
    obtain ⟨g, es, clock, us, rfl, h1, h2, h3, h4⟩ := h
    exact ⟨g, es, clock, us, rfl, h1, denL_mono hρ _ _ h2, by rw [hb rfl g rfl]; exact h3, h4⟩
  | mx k ag vt ks vs =>
    obtain ⟨g, es, clock, us, rfl, h1, h2, h3, h4⟩ := h
    exact ⟨g, es, clock, us, rfl, h1, denL_mono hρ _ _ h2, by rw [hb rfl g rfl]; exact h3, h4⟩
  | ss e pos it ts =>
    obtain ⟨a, cap, rfl, h1, h3⟩ := h
    refine ⟨a, cap, rfl, h1, fun j x hx => ?_⟩
    obtain ⟨a', rfl, hc⟩ := h3 j x hx
    refine ⟨a', rfl, ?_⟩
    rw [World.cell?_of_block (w := w) (a := a'.add j) (by rw [Addr.add_block]; exact hb rfl a'.block rfl)]
    exact hc
  | rw e sz len full cs =>
    obtain ⟨vs, h1, h2⟩ := h
    exact ⟨vs, denL_mono hρ _ _ h1, h2.to (fun _ _ h => h) (hb rfl)⟩
  | mem e n f => exact ownsM.to h (fun _ _ h => h) (hb rfl)
  | pt cs k =>
    obtain ⟨g, us, rfl, h1, h2⟩ := h
    exact ⟨g, us, rfl, denL_mono hρ _ _ h1, fun j u hj => by rw [World.cell?_of_block (w := w) (by rw [Addr.add_block]; exact hb rfl g rfl)]; exact h2 j u hj⟩
  | it cs since seen last =>
    obtain ⟨g, mo, rfl, h1, h2, h3⟩ := h
    exact ⟨g, mo, rfl, h1, denL_mono hρ _ _ h2, by rw [hb rfl g rfl]; exact h3⟩
  | gone => trivial
section rel
variable {B : World} {X : Own} {ρ : Asg} {hp : Hp C} {n : Nat} {w : World}
theorem Rel.dl (h : Rel B X ρ hp n w) (D : List Deferred) : Rel B { X with dl := D } ρ hp n w :=
  ⟨h.os, h.tape, h.out, h.size, h.old, h.nbLe, h.agree, h.fresh, h.one, h.obj, h.sep, h.blkOk, h.prov, h.nn, h.frz, fun i o hi => by
    have := h.inn i o hi
    cases o <;> exact this⟩
theorem Rel.shift (h : Rel B X ρ hp n w) {n' : Nat} (hn : n ≤ n') : Rel B X ρ hp n' w :=
  { h with fresh := fun i hi => h.fresh i (Nat.le_trans hn hi), nbLe := Nat.le_trans h.nbLe hn }
theorem Rel.world (h : Rel B X ρ hp n w) {w' : World} (os : w'.os = w.os) (tape : w'.tape = w.tape) (out : w'.output = w.output) (size : w.heap.size ≤ w'.heap.size)
    (old : ∀ b, b < B.heap.size → ¬ X.wr b → w'.heap[b]? = w.heap[b]?)
    (hb : ∀ i o v g, find i hp = some o → o.live = true → ρ i = some v → blk v = some g → w'.heap[g]? = w.heap[g]?) : Rel B X ρ hp n w' :=
  { os := os.trans h.os, tape := tape.trans h.tape, out := out.trans h.out, size := Nat.le_trans h.size size, old := fun b hlt hx => (old b hlt hx).trans (h.old b hlt hx),
    nbLe := h.nbLe, agree := h.agree, prov := h.prov, nn := h.nn, frz := h.frz, inn := h.inn, fresh := h.fresh, one := h.one,
    obj := fun i o hi => by
      obtain ⟨v, hv, ho⟩ := h.obj i o hi
      exact ⟨v, hv, ho.keep (Asg.le_refl _) (fun hl g hg => hb i o v g hi hl hv hg)⟩
    sep := h.sep
    blkOk := fun i o v g hi hl hv hg => Nat.lt_of_lt_of_le (h.blkOk i o v g hi hl hv hg) size }
theorem Rel.below (h : Rel B X ρ hp n w) {w' : World} (hb : Below w.heap.size w w') : Rel B X ρ hp n w' :=
  h.world hb.os hb.tape hb.output hb.size (fun b hlt _ => hb.block b (Nat.lt_of_lt_of_le hlt h.size)) (fun i o v g hi hl hv hg => hb.block g (h.blkOk i o v g hi hl hv hg))
theorem Rel.gone (h : Rel B X ρ hp n w) (i : Nat) {v : Value} (hv : ρ i = some v) : Rel B X ρ ((i, .gone) :: hp) n w :=
  { h with
    obj := fun j o hj => by
      rw [find_cons] at hj
      split at hj
      · rename_i hji; subst hji; simp at hj; subst hj; exact ⟨v, hv, trivial⟩
      · exact h.obj j o hj
    sep := fun a b oa ob va vb g hab ha hb ho hl hva hvb hg => by
      rw [find_cons] at ha hb
      split at ha
      · simp at ha; subst ha; simp [SO.owns] at ho
      · split at hb
        · simp at hb; subst hb; simp [SO.live] at hl
        · exact h.sep a b oa ob va vb g hab ha hb ho hl hva hvb hg
    blkOk := fun j o u g hj hl hu hg => by
      rw [find_cons] at hj
      split at hj
      · simp at hj; subst hj; simp [SO.live] at hl
      · exact h.blkOk j o u g hj hl hu hg
    prov := fun j o u g hj hl hu hg => by
      rw [find_cons] at hj
      split at hj
      · simp at hj; subst hj; simp [SO.live] at hl
      · exact h.prov j o u g hj hl hu hg
    nn := fun j o u hj hs hu => by
      rw [find_cons] at hj
      split at hj
      · simp at hj; subst hj; simp [SO.isSl] at hs
      · exact h.nn j o u hj hs hu
    inn := fun j o hj => by
      rw [find_cons] at hj
      split at hj
      · cases hj; trivial
      · exact h.inn j o hj }
theorem okObj.sl {ρ : Asg} {w : World} {okb : Nat → Prop} {v : Value} {o : SO C} (h : okObj ρ w okb v o) (hs : o.isSl = true) : ∃ a l c, v = .slice a l c := by
  cases o with
  | sl own full e ts => obtain ⟨a, cap, rfl, _⟩ := h; exact ⟨_, _, _, rfl⟩
  | ss e pos it ts => obtain ⟨a, cap, rfl, _⟩ := h; exact ⟨_, _, _, rfl⟩
  | rw e sz len full cs => obtain ⟨vs, _, g, cap, rest, rfl, _⟩ := h; exact ⟨_, _, _, rfl⟩
  | mem e n f => obtain ⟨g, c, rfl, _⟩ := h; exact ⟨_, _, _, rfl⟩
  | _ => simp [SO.isSl] at hs
theorem Rel.slOf (h : Rel B X ρ hp n w) {i : Nat} {o : SO C} {a : Option Addr} {l c : Nat} (hi : find i hp = some o) (hv : ρ i = some (.slice a l c)) (hl : o.live = true) : nnV (.slice a l c) = true := by
  cases o with
  | box cs t =>
    obtain ⟨v', hv', g, vs, rfl, _⟩ := h.obj i _ hi
    rw [hv] at hv'; cases hv'
  | sl own full e ts => exact h.nn i _ _ hi rfl hv
  | mp k vt m =>
    obtain ⟨v', hv', g, es, clock, rfl, _⟩ := h.obj i _ hi
    rw [hv] at hv'; cases hv'
  | mv k ag vt ks vs st ck =>
    obtain ⟨v', hv', g, es, clock, us, rfl, _⟩ := h.obj i _ hi
    rw [hv] at hv'; cases hv'
  | mx k ag vt ks vs =>
    obtain ⟨v', hv', g, es, clock, us, rfl, _⟩ := h.obj i _ hi
    rw [hv] at hv'; cases hv'
  | ss e pos it ts => exact h.nn i _ _ hi rfl hv
  | rw e sz len full cs => exact h.nn i _ _ hi rfl hv
  | mem e n f => exact h.nn i _ _ hi rfl hv
  | pt cs k =>
    obtain ⟨v', hv', g, us, rfl, _⟩ := h.obj i _ hi
    rw [hv] at hv'; cases hv'
  | it cs since seen last =>
    obtain ⟨v', hv', g, mo, rfl, _⟩ := h.obj i _ hi
    rw [hv] at hv'; cases hv'
  | gone => simp [SO.live] at hl
theorem Rel.set (h : Rel B X ρ hp n w) {i : Nat} {o o' : SO C} {v : Value} {w' : World} (hi : find i hp = some o) (hv : ρ i = some v) (hown : o.owns = true) (hlive : o.live = true)
    (os : w'.os = w.os) (tape : w'.tape = w.tape) (out : w'.output = w.output) (size : w'.heap.size = w.heap.size)
    (hb : ∀ k, blk v ≠ some k → w'.heap[k]? = w.heap[k]?) (hok : okObj ρ w' (okB B X) v o') (hx : ∀ g, blk v = some g → okB B X g) (hin : InnO B X o' := by exact trivial) : Rel B X ρ ((i, o') :: hp) n w' :=
  { os := os.trans h.os, tape := tape.trans h.tape, out := out.trans h.out, size := by rw [size]; exact h.size
    old := fun b hlt hxb => by
      rw [hb b (fun e => by rcases hx b e with h' | h'; omega; exact hxb h')]
      exact h.old b hlt hxb
    nbLe := h.nbLe, agree := h.agree, fresh := h.fresh, one := h.one, frz := h.frz
    inn := fun j oj hj => by
      rw [find_cons] at hj
      split at hj
      · cases hj; exact hin
      · exact h.inn j oj hj
    prov := fun j oj u g hj hl hu hg => by
      rw [find_cons] at hj
      split at hj
      · rename_i hji; subst hji
        rw [hv] at hu; cases hu
        exact (hx g hg).view
      · exact h.prov j oj u g hj hl hu hg
    nn := fun j oj u hj hs hu => by
      rw [find_cons] at hj
      split at hj
      · rename_i hji; subst hji; simp at hj; subst hj
        obtain ⟨a, l, c, rfl⟩ := hok.sl hs
        rw [hv] at hu; cases hu
        exact h.slOf hi hv hlive
      · exact h.nn j oj u hj hs hu
    obj := fun j oj hj => by
      rw [find_cons] at hj
      split at hj
      · rename_i hji; subst hji; simp at hj; subst hj; exact ⟨v, hv, hok⟩
      · rename_i hji
        obtain ⟨u, hu, ho⟩ := h.obj j oj hj
        refine ⟨u, hu, ho.keep (Asg.le_refl _) (fun hl g hg => hb g (fun e => ?_))⟩
        exact h.sep i j o oj v u g (Ne.symm hji) hi hj hown hl hv hu e hg
    sep := fun a b oa ob va vb g hab ha hb' ho hl hva hvb hg => by
      rw [find_cons] at ha hb'
      split at ha
      · rename_i hai; subst hai; simp at ha; subst ha
        rw [if_neg (Ne.symm hab)] at hb'
        exact h.sep a b o ob va vb g hab hi hb' hown hl hva hvb hg
      · split at hb'
        · rename_i hbi; subst hbi; simp at hb'; subst hb'
          exact h.sep a b oa o va vb g hab ha hi ho hlive hva hvb hg
        · exact h.sep a b oa ob va vb g hab ha hb' ho hl hva hvb hg
    blkOk := fun j oj u g hj hl hu hg => by
      rw [size]
      rw [find_cons] at hj
      split at hj
      · rename_i hji; subst hji
        exact h.blkOk j o u g hi hlive hu hg
      · exact h.blkOk j oj u g hj hl hu hg }
def Asg.add (ρ : Asg) (n : Nat) (v : Value) : Asg := fun i => if i = n then some v else ρ i
theorem Asg.le_add (ρ : Asg) (n : Nat) (v : Value) (h : ρ n = none) : ρ.le (ρ.add n v) := fun i u hu => by
  unfold Asg.add
  split
  · rename_i e; subst e; rw [h] at hu; cases hu
  · exact hu
theorem Asg.add_self (ρ : Asg) (n : Nat) (v : Value) : ρ.add n v n = some v := by simp [Asg.add]
theorem Rel.add (h : Rel B X ρ hp n w) {v : Value} {o : SO C} (hone : v.oneCell' = true) (hok : okObj ρ w (okB B X) v o)
    (hlt : ∀ g, blk v = some g → g < w.heap.size)
    (hsep : ∀ j oj vj g, find j hp = some oj → oj.live = true → ρ j = some vj → blk vj = some g → blk v = some g → o.owns = false ∧ oj.owns = false)
    (hpv : ∀ g, blk v = some g → okV B X g) (hnn : o.isSl = true → nnV v = true := by intro h; first | rfl | cases h) (hin : InnO B X o := by exact trivial) :
    Rel B X (ρ.add n v) ((n, o) :: hp) (n + 1) w := by
  have hn : ρ n = none := h.fresh n (Nat.le_refl _)
  have hle := Asg.le_add ρ n v hn
  have hne : ∀ j oj, find j hp = some oj → j ≠ n := fun j oj hj e => by
    subst e
    obtain ⟨u, hu, _⟩ := h.obj _ _ hj
    rw [hn] at hu; cases hu
  have hback : ∀ j u, j ≠ n → ρ.add n v j = some u → ρ j = some u := fun j u hj hu => by
    unfold Asg.add at hu; rwa [if_neg hj] at hu
  refine { h with nbLe := Nat.le_succ_of_le h.nbLe, agree := ?_, prov := ?_, nn := ?_, inn := ?_, fresh := ?_, one := ?_, obj := ?_, sep := ?_, blkOk := ?_ }
  · intro i hi
    have := h.nbLe
    unfold Asg.add
    rw [if_neg (by omega)]
    exact h.agree i hi
  · intro i hi
    unfold Asg.add
    rw [if_neg (by omega)]
    exact h.fresh i (by omega)
  · intro i u hu
    unfold Asg.add at hu
    split at hu
    · cases hu; exact hone
    · exact h.one i u hu
  · intro j oj hj
    rw [find_cons] at hj
    split at hj
    · rename_i e; subst e; simp at hj; subst hj
      exact ⟨v, Asg.add_self _ _ _, hok.keep hle (fun _ _ _ => rfl)⟩
    · obtain ⟨u, hu, ho⟩ := h.obj j oj hj
      exact ⟨u, hle _ _ hu, ho.keep hle (fun _ _ _ => rfl)⟩
  · intro a b oa ob va vb g hab ha hb ho hl hva hvb hg hg'
    rw [find_cons] at ha hb
    split at ha
    · rename_i e; subst e; simp at ha; subst ha
      rw [if_neg (Ne.symm hab)] at hb
      rw [Asg.add_self] at hva; cases hva
      have := hsep b ob vb g hb hl (hback b vb (Ne.symm hab) hvb) hg' hg
      rw [this.1] at ho; cases ho
    · rename_i hane
      split at hb
      · rename_i e; subst e; simp at hb; subst hb
        rw [Asg.add_self] at hvb; cases hvb
        have hl' : oa.live = true := by cases oa <;> simp [SO.owns] at ho <;> rfl
        have := hsep a oa va g ha hl' (hback a va hane hva) hg hg'
        rw [this.2] at ho; cases ho
      · rename_i hbne
        exact h.sep a b oa ob va vb g hab ha hb ho hl (hback a va hane hva) (hback b vb hbne hvb) hg hg'
  · intro j oj u g hj hl hu hg
    rw [find_cons] at hj
    split at hj
    · rename_i e; subst e
      rw [Asg.add_self] at hu; cases hu
      exact hlt g hg
    · rename_i hjn
      exact h.blkOk j oj u g hj hl (hback j u hjn hu) hg
  · intro j oj u g hj hl hu hg
    rw [find_cons] at hj
    split at hj
    · rename_i e; subst e
      rw [Asg.add_self] at hu; cases hu
      exact hpv g hg
    · rename_i hjn
      exact h.prov j oj u g hj hl (hback j u hjn hu) hg
  · intro j oj u hj hs hu
    rw [find_cons] at hj
    split at hj
    · rename_i e; subst e; simp at hj; subst hj
      rw [Asg.add_self] at hu; cases hu
      exact hnn hs
    · rename_i hjn
      exact h.nn j oj u hj hs (hback j u hjn hu)
  · intro j oj hj
    rw [find_cons] at hj
    split at hj
    · cases hj; exact hin
    · exact h.inn j oj hj
theorem Rel.addNew (h : Rel B X ρ hp n w) (ob : Obj) {v : Value} {o : SO C} (hone : v.oneCell' = true) (hblk : ∀ g, blk v = some g → g = w.heap.size)
    (hok : okObj ρ (w.alloc ob) (okB B X) v o) (hnn : o.isSl = true → nnV v = true := by intro h; first | rfl | cases h) (hin : InnO B X o := by exact trivial) : Rel B X (ρ.add n v) ((n, o) :: hp) (n + 1) (w.alloc ob) := by
  have hb : Below w.heap.size w (w.alloc ob) := (Below.refl _ _).alloc (Nat.le_refl _) _
  refine (h.below hb).add hone hok (fun g hg => by rw [hblk g hg]; simp) (fun j oj vj g hj hl hvj hg hg' => ?_) (fun g hg => .inl (by rw [hblk g hg]; exact h.size)) hnn hin
  have h1 := h.blkOk j oj vj g hj hl hvj hg
  have h2 := hblk g hg'
  omega
theorem Rel.okOwn (h : Rel B X ρ hp n w) {x : Nat} {o : SO C} {v : Value} {g : Nat} (hx : find x hp = some o) (ho : o.owns = true) (hv : ρ x = some v) (hg : blk v = some g) : okB B X g := by
  obtain ⟨v', hv', hok⟩ := h.obj x o hx
  rw [hv] at hv'; cases hv'
  cases o with
  | box cs t => obtain ⟨g', vs, rfl, h1, _⟩ := hok; simp [blk] at hg; subst hg; exact h1
  | sl own full e ts =>
    simp only [SO.owns] at ho; subst ho
    obtain ⟨a, cap, rfl, _, _, h3⟩ := hok
    obtain ⟨g', rfl, h4⟩ := h3.block
    simp [blk] at hg; subst hg; exact h4
  | mp k vt m => obtain ⟨g', es, clock, rfl, h1, _⟩ := hok; simp [blk] at hg; subst hg; exact h1
  | mv k ag vt ks vs st ck => obtain ⟨g', es, clock, us, rfl, h1, _⟩ := hok; simp [blk] at hg; subst hg; exact h1
  | mx k ag vt ks vs => obtain ⟨g', es, clock, us, rfl, h1, _⟩ := hok; simp [blk] at hg; subst hg; exact h1
  | ss e pos it ts => simp [SO.owns] at ho
  | rw e sz len full cs => obtain ⟨vs, _, g', cap, rest, rfl, h1, _⟩ := hok; simp [blk] at hg; subst hg; exact h1
  | mem e n f => obtain ⟨g', c, rfl, h1, _⟩ := hok; simp [blk] at hg; subst hg; exact h1
  | pt cs k => simp [SO.owns] at ho
  | it cs since seen last => obtain ⟨g', mo, rfl, h1, _⟩ := hok; simp [blk] at hg; subst hg; exact h1
  | gone => simp [SO.owns] at ho
theorem Rel.fzHeap (h : Rel B X ρ hp n w) {g : Nat} (hg : X.fz g) : g < B.heap.size ∧ w.heap[g]? = B.heap[g]? := by
  have h1 := h.frz g hg
  have h2 : g < B.heap.size := Nat.lt_of_not_le fun h' => h1 (.inl h')
  exact ⟨h2, h.old g h2 fun h' => h1 (.inr h')⟩
theorem Rel.drew (h : Rel B X ρ hp n w) : Rel B X ρ hp n w.drew := h.below (Below.refl _ _).drew
end rel
end Go.Sx
/-
  The symbolic evaluator, second part: what each operation does to symbolic values and to the symbolic heap, as a decision tree. Own work; nothing here is trusted.
-/
namespace Go.Sx
noncomputable section
open Go.RowKit
inductive Tr (α : Type) where
  | leaf (a : α)
  | br (b : Bool) (t f : Tr α)
  | fail
structure Ans (R : Type) where
  bad : R
  br : Bool → R → R → R
structure AnsOk {R : Type} (A : Ans R) (I : R → Prop) : Prop where
  no : ¬ I A.bad
  br : ∀ b t f, I (A.br b t f) → (b = true → I t) ∧ (b = false → I f)
def ansT (α : Type) : Ans (Tr α) := ⟨.fail, .br⟩
def Tr.run {α R : Type} (A : Ans R) (t : Tr α) (k : α → R) : R :=
  Tr.rec (motive := fun _ => R) (fun a => k a) (fun b _ _ iht ihf => A.br b iht ihf) A.bad t
def Tr.get {α : Type} : Tr α → Option α
  | .leaf a => some a
  | .br b t f => match b with
    | true => t.get
    | false => f.get
  | .fail => none
def Tr.bind {α β : Type} (t : Tr α) (g : α → Tr β) : Tr β :=
  Tr.rec (motive := fun _ => Tr β) (fun a => g a) (fun b _ _ iht ihf => .br b iht ihf) .fail t
theorem ansT_ok {α : Type} (x : α) : AnsOk (ansT α) (fun t => t.get = some x) where
  no h := nomatch h
  br b t f h := by
    cases b
    · exact ⟨nofun, fun _ => h⟩
    · exact ⟨fun _ => h, nofun⟩
theorem Tr.run_get {α R : Type} {A : Ans R} {I : R → Prop} (hA : AnsOk A I) {k : α → R} : ∀ {t : Tr α}, I (t.run A k) → ∃ a, t.get = some a ∧ I (k a)
  | .leaf a, h => ⟨a, rfl, h⟩
  | .br true t f, h => Tr.run_get hA (t := t) ((hA.br true _ _ h).1 rfl)
  | .br false t f, h => Tr.run_get hA (t := f) ((hA.br false _ _ h).2 rfl)
  | .fail, h => (hA.no h).elim
theorem Tr.get_bind {α β : Type} {g : α → Tr β} {b : β} : ∀ {t : Tr α}, (t.bind g).get = some b → ∃ a, t.get = some a ∧ (g a).get = some b
  | .leaf a, h => ⟨a, rfl, h⟩
  | .br true t f, h => Tr.get_bind (t := t) h
  | .br false t f, h => Tr.get_bind (t := f) h
  | .fail, h => by cases h
theorem Tr.bind_get {α β : Type} {g : α → Tr β} {b : β} {a : α} : ∀ {t : Tr α}, t.get = some a → (g a).get = some b → (t.bind g).get = some b
  | .leaf a, h, h' => by cases h; exact h'
  | .br true t f, h, h' => Tr.bind_get (t := t) h h'
  | .br false t f, h, h' => Tr.bind_get (t := f) h h'
  | .fail, h, _ => by cases h
theorem Tr.get_br {α : Type} {b : Bool} {t f : Tr α} {a : α} : (Tr.br b t f).get = some a ↔ (b = true ∧ t.get = some a) ∨ (b = false ∧ f.get = some a) := by
  cases b <;> simp [Tr.get]
theorem Tr.get_ask {α : Type} {b : Bool} {t : Tr α} {a : α} : (Tr.br b t .fail).get = some a ↔ b = true ∧ t.get = some a := by
  cases b <;> simp [Tr.get]
def Tr.ofOpt {α : Type} : Option α → Tr α
  | some a => .leaf a
  | none => .fail
theorem Tr.get_ofOpt {α : Type} {o : Option α} {a : α} : (Tr.ofOpt o).get = some a ↔ o = some a := by
  cases o <;> simp [Tr.ofOpt, Tr.get]
variable {C : Tab} {P : Program}
abbrev Res (C : Tab) := SV × Hp C
def szOf (P : Program) (t : TypeId) : Option Nat := match P.info? t with
  | some i => some i.size
  | none => none
def aggT (P : Program) (t : TypeId) : Option Bool := match P.underlying t with
  | some (.struct _) => some true
  | some (.array _ _) => some true
  | some _ => some false
  | none => none
def zeroT (P : Program) (t : TypeId) : Option Value := match P.info? t with
  | some i => i.zero
  | none => none
theorem run_sizeOf {t : TypeId} {k : Nat} (h : szOf P t = some k) (w : World) : (sizeOf t).run P w = .ok k w := by
  unfold szOf at h
  split at h
  · rename_i i hi; cases h; simp [sizeOf, typeInfo, hi]
  · cases h
theorem run_zeroValue {t : TypeId} {z : Value} (h : zeroT P t = some z) (w : World) : (zeroValue t).run P w = .ok z w := by
  unfold zeroT at h
  split at h
  · rename_i i hi; simp [zeroValue, typeInfo, hi, h]
  · cases h
theorem run_isAgg {t : TypeId} {b : Bool} (h : aggT P t = some b) (w : World) : (isAgg t).run P w = .ok b w := by
  unfold aggT at h
  unfold isAgg
  split at h
  · rename_i d hd; rw [Sem.run_bind, run_underlying hd w]; simp at h ⊢; exact h
  · rename_i d e hd; rw [Sem.run_bind, run_underlying hd w]; simp at h ⊢; exact h
  · rename_i d h1 h2 hd
    rw [Sem.run_bind, run_underlying hd w]
    cases h
    cases d <;> first | rfl | exact absurd rfl (h1 _) | exact absurd rfl (h2 _ _)
  · cases h
def mkV (P : Program) (t : TypeId) (cs : List SV) : Tr SV := match aggT P t with
  | some true => .leaf (.agg cs)
  | some false => match cs with
    | [c] => .leaf c
    | _ => .fail
  | none => .fail
theorem mkV_load {t : TypeId} {cs : List SV} {sv : SV} {ρ : Asg} {vs : List Value} {w : World} {a : Addr} (h : (mkV P t cs).get = some sv) (hsz : szOf P t = some cs.length)
    (hd : denL ρ cs = some vs) (hc : ∀ j x, vs[j]? = some x → w.cell? (a.add j) = some x) : ∃ u, (loadVar t a).run P w = .ok u w ∧ den ρ sv = some u := by
  have hl := denL_length hd
  unfold mkV at h
  split at h
  · rename_i hag
    simp [Tr.get] at h; subst h
    refine ⟨.agg vs.toArray, ?_, by simp [den, hd]⟩
    unfold loadVar
    rw [Sem.run_bind, run_isAgg hag]
    simp only [Result.andThen_ok, if_true]
    rw [Sem.run_bind, run_sizeOf hsz, Result.andThen_ok, Sem.run_bind, ← hl, run_loadCells_list w a vs hc]
    rfl
  · rename_i hag
    split at h
    · rename_i c
      simp [Tr.get] at h; subst h
      obtain ⟨u, l, h1, h2, rfl⟩ := denL_cons.1 hd
      rw [denL_nil.1 h2] at hc
      have h0 := hc 0 u rfl
      rw [Addr.add_zero] at h0
      refine ⟨u, ?_, h1⟩
      unfold loadVar
      rw [Sem.run_bind, run_isAgg hag]
      simp [h0]
    · simp [Tr.get] at h
  · simp [Tr.get] at h
def segS (cs : List SV) (off k : Nat) : Option (List SV) := match Nat.ble (off + k) cs.length with
  | true => some ((cs.drop off).take k)
  | false => none
theorem segS_spec {cs : List SV} {off k : Nat} {l : List SV} {ρ : Asg} {vs : List Value} (h : segS cs off k = some l) (hd : denL ρ cs = some vs) :
    l.length = k ∧ denL ρ l = some ((vs.drop off).take k) ∧ off + k ≤ vs.length := by
  unfold segS at h
  split at h
  · rename_i hb
    cases h
    have hb' := Nat.le_of_ble_eq_true hb
    refine ⟨by simp; omega, denL_take k (denL_drop off hd), by rw [denL_length hd]; exact hb'⟩
  · cases h
def loadBox (P : Program) (look : Nat → Option (SO C)) (t : TypeId) (id off : Nat) : Tr (Res C) :=
  match look id, szOf P t with
  | some (.box cs _), some k => match segS cs off k with
    | some l => (mkV P t l).bind fun v => .leaf (v, [])
    | none => .fail
  | some (.pt l k'), some k => match Nat.beq k' off, Nat.beq l.length k with
    | true, true => (mkV P t l).bind fun v => .leaf (v, [])
    | _, _ => .fail
  | _, _ => .fail
def spanC (c : Codec) (ts : List c.α) : Nat → Nat → List Value
  | _, 0 => []
  | i, m + 1 => c.enc (ts.getD i c.d) ++ spanC c ts (i + 1) m
theorem spanC_eq (c : Codec) (ts : List c.α) : ∀ (m i : Nat), i + m ≤ ts.length → spanC c ts i m = ((c.flat ts).drop (i * c.sz)).take (m * c.sz)
  | 0, i, _ => by simp [spanC]
  | m + 1, i, h => by
    have hd := c.flat_at ts i (by omega)
    have ih := spanC_eq c ts m (i + 1) (by omega)
    rw [hd, List.take_append, c.len, List.take_of_length_le (by rw [c.len, Nat.add_mul]; omega)]
    simp only [spanC]
    rw [ih]
    congr 1
    rw [← c.flat_drop, show (m + 1) * c.sz - c.sz = m * c.sz by rw [Nat.add_mul]; omega]
def loadEl (P : Program) (look : Nat → Option (SO C)) (t : TypeId) (id i sz j : Nat) : Tr (Res C) :=
  match look id, szOf P t with
  | some (.sl _ _ e ts), some k => match Nat.beq sz (C e).sz with
    | true => .br (decide (i < ts.length)) (match segS (rawL ((C e).enc (ts.getD i (C e).d))) j k with
      | some l => (mkV P t l).bind fun v => .leaf (v, [])
      | none => match Nat.beq j 0, Nat.beq (k / (C e).sz * (C e).sz) k with
        | true, true => .br (decide (i + k / (C e).sz ≤ ts.length)) ((mkV P t (rawL (spanC (C e) ts i (k / (C e).sz)))).bind fun v => .leaf (v, [])) .fail
        | _, _ => .fail) .fail
    | false => .fail
  | _, _ => .fail
def pLoad (P : Program) (look : Nat → Option (SO C)) (t : TypeId) : SV → Tr (Res C)
  | .h id => loadBox P look t id 0
  | .ep id off => loadBox P look t id off
  | .el id i sz j => loadEl P look t id i sz j
  | _ => .fail
section sound
variable {B : World} {X : Own} {ρ : Asg} {hp : Hp C} {n : Nat} {w : World}
theorem loadBox_sound (R : Rel B X ρ hp n w) {t : TypeId} {id off : Nat} {r : Res C} (h : (loadBox P (fun i => find i hp) t id off).get = some r) {v : Value} (hv : ρ id = some v) :
    ∃ a, baseOf v = some a ∧ ∃ u, (loadVar t (a.add off)).run P w = .ok u w ∧ den ρ r.1 = some u ∧ r.2 = [] := by
  unfold loadBox at h
  split at h
  · rename_i cs ty k hid hk
    split at h
    · rename_i l hl
      obtain ⟨sv, h1, h2⟩ := Tr.get_bind h
      simp [Tr.get] at h2; subst h2
      obtain ⟨v', hv', g, vs, rfl, _, hden, hheap⟩ := R.obj id _ hid
      rw [hv] at hv'; cases hv'
      obtain ⟨e1, e2, e3⟩ := segS_spec hl hden
      refine ⟨_, rfl, ?_⟩
      obtain ⟨u, hu1, hu2⟩ := mkV_load (w := w) (a := (⟨g, 0, none⟩ : Addr).add off) h1 (by rw [hk, e1]) e2 (fun j x hx => by
        rw [Addr.add_add, Addr.add_at, cell_of_row w g _ _ _ _ hheap]
        rw [List.getElem?_take] at hx
        split at hx
        · rw [List.getElem?_drop] at hx; simpa using hx
        · cases hx)
      exact ⟨u, hu1, hu2, rfl⟩
    · simp [Tr.get] at h
  · rename_i l k' k hid hk
    split at h
    · rename_i hb1 hb2
      cases Nat.eq_of_beq_eq_true hb1; cases Nat.eq_of_beq_eq_true hb2
      obtain ⟨sv, h1, h2⟩ := Tr.get_bind h
      simp [Tr.get] at h2; subst h2
      obtain ⟨v', hv', g, us, rfl, hden, hcell⟩ := R.obj id _ hid
      rw [hv] at hv'; cases hv'
      refine ⟨_, rfl, ?_⟩
      obtain ⟨u, hu1, hu2⟩ := mkV_load (w := w) (a := (⟨g, 0, none⟩ : Addr).add off) h1 (by rw [hk]) hden (fun j x hx => by
        rw [Addr.add_add]; exact hcell j x hx)
      exact ⟨u, hu1, hu2, rfl⟩
    · simp [Tr.get] at h
  · simp [Tr.get] at h
theorem flat_cell (R : Rel B X ρ hp n w) {id : Nat} {own full : Bool} {e : TypeId} {ts : List (C e).α} {v : Value} (hid : find id hp = some (.sl own full e ts)) (hv : ρ id = some v) :
    ∃ a cap, v = .slice a ts.length cap ∧ ts.length ≤ cap ∧ ∀ j x, ((C e).flat ts)[j]? = some x → ∃ a', a = some a' ∧ w.cell? (a'.add j) = some x := by
  obtain ⟨v', hv', a, cap, rfl, hc1, hc2, hc3⟩ := R.obj id _ hid
  rw [hv] at hv'; cases hv'
  refine ⟨a, cap, rfl, hc1, ?_⟩
  cases own with
  | false => exact hc3
  | true => exact hc3.cell
theorem vs_den (R : Rel B X ρ hp n w) {id sz bs off len : Nat} {cap : Option Nat} {own full : Bool} {e : TypeId} {ts : List (C e).α} {v : Value} (hid : find id hp = some (.sl own full e ts)) (hx : den ρ (.vs id sz bs off len cap) = some v) :
    ∃ a c, ρ id = some (.slice (some a) ts.length c) ∧ ts.length ≤ c ∧ (full = true → c = ts.length) ∧ v = .slice (some (if off = c then a.add (Nat.min bs off * sz) else a.add (off * sz))) len (capO cap (c - off)) ∧
      ∀ j x, ((C e).flat ts)[j]? = some x → w.cell? (a.add j) = some x := by
  simp only [den, Option.bind_eq_some_iff] at hx
  obtain ⟨u, hu, hx⟩ := hx
  obtain ⟨v', hv', a, c, rfl, h1, h2, h3⟩ := R.obj id _ hid
  rw [hu] at hv'; cases hv'
  obtain ⟨a', c', he, _, hcell⟩ := flat_cell R hid hu
  cases he
  unfold vsV at hx
  split at hx
  · rename_i a0 l0 c0 e0
    cases e0
    cases hx
    refine ⟨a0, _, hu, h1, h2, rfl, fun j x hj => ?_⟩
    obtain ⟨b, hb, hc⟩ := hcell j x hj
    cases hb; exact hc
  · cases hx
theorem loadEl_sound (R : Rel B X ρ hp n w) {t : TypeId} {id i sz j : Nat} {r : Res C} (h : (loadEl P (fun i => find i hp) t id i sz j).get = some r) {v : Value} (hv : ρ id = some v) :
    ∃ a, baseOf v = some a ∧ ∃ u, (loadVar t (a.add (i * sz + j))).run P w = .ok u w ∧ den ρ r.1 = some u ∧ r.2 = [] := by
  unfold loadEl at h
  split at h
  · rename_i own full e ts k hid hk
    split at h
    · rename_i hsz
      have hsz := Nat.eq_of_beq_eq_true hsz
      subst hsz
      obtain ⟨hb, h⟩ := Tr.get_ask.1 h
      have hlt : i < ts.length := by simpa using hb
      cases hseg : segS (rawL ((C e).enc (ts.getD i (C e).d))) j k with
      | some l =>
        rw [hseg] at h
        have hl := hseg
        obtain ⟨sv, h1, h2⟩ := Tr.get_bind h
        simp [Tr.get] at h2; subst h2
        obtain ⟨a, cap, rfl, _, hcell⟩ := flat_cell R hid hv
        obtain ⟨e1, e2, e3⟩ := segS_spec hl (denL_rawL (ρ := ρ) _)
        rw [(C e).len] at e3
        have hpos := (C e).pos
        have hx0 : ((C e).flat ts)[i * (C e).sz + 0]? = ((C e).enc (ts.getD i (C e).d))[0]? := (C e).flat_get ts i 0 hlt hpos
        have hsome : ∃ x, ((C e).enc (ts.getD i (C e).d))[0]? = some x := ⟨_, List.getElem?_eq_getElem (by rw [(C e).len]; exact hpos)⟩
        obtain ⟨x0, hx0'⟩ := hsome
        obtain ⟨a', rfl, _⟩ := hcell _ x0 (hx0.trans hx0')
        refine ⟨a', rfl, ?_⟩
        obtain ⟨u, hu1, hu2⟩ := mkV_load (w := w) (a := a'.add (i * (C e).sz + j)) h1 (by rw [hk, e1]) e2 (fun m x hx => by
          rw [Addr.add_add, Nat.add_assoc]
          rw [List.getElem?_take] at hx
          split at hx
          · rename_i hm
            rw [List.getElem?_drop] at hx
            obtain ⟨a2, ha2, hc⟩ := hcell (i * (C e).sz + (j + m)) x (by rw [(C e).flat_get ts i (j + m) hlt (by omega)]; exact hx)
            cases ha2
            exact hc
          · cases hx)
        exact ⟨u, hu1, hu2, rfl⟩
      | none =>
        rw [hseg] at h
        simp only at h
        split at h
        · rename_i hj0 hkm
          have hj0 := Nat.eq_of_beq_eq_true hj0
          have hkm := Nat.eq_of_beq_eq_true hkm
          obtain ⟨hb2, h9⟩ := Tr.get_ask.1 h
          have hb2 := of_decide_eq_true hb2
          obtain ⟨sv, h1, h2⟩ := Tr.get_bind h9
          subst hj0
          simp [Tr.get] at h2; subst h2
          obtain ⟨a, cap, rfl, _, hcell⟩ := flat_cell R hid hv
          have hpos := (C e).pos
          have hx0 : ((C e).flat ts)[i * (C e).sz + 0]? = ((C e).enc (ts.getD i (C e).d))[0]? := (C e).flat_get ts i 0 hlt hpos
          have hsome : ∃ x, ((C e).enc (ts.getD i (C e).d))[0]? = some x := ⟨_, List.getElem?_eq_getElem (by rw [(C e).len]; exact hpos)⟩
          obtain ⟨x0, hx0'⟩ := hsome
          obtain ⟨a', rfl, _⟩ := hcell _ x0 (hx0.trans hx0')
          refine ⟨a', rfl, ?_⟩
          have hsp := spanC_eq (C e) ts (k / (C e).sz) i hb2
          have hle : i * (C e).sz + k / (C e).sz * (C e).sz ≤ ts.length * (C e).sz := by
            rw [← Nat.add_mul]; exact Nat.mul_le_mul_right _ hb2
          have hl : (rawL (spanC (C e) ts i (k / (C e).sz))).length = k := by
            rw [rawL_length, hsp, List.length_take, List.length_drop, (C e).flat_length]; omega
          obtain ⟨u, hu1, hu2⟩ := mkV_load (w := w) (a := a'.add (i * (C e).sz + 0)) h1 (by rw [hk, hl]) (denL_rawL (ρ := ρ) _) (fun m x hx => by
            rw [Addr.add_add, Nat.add_zero]
            rw [hsp, List.getElem?_take] at hx
            split at hx
            · rw [List.getElem?_drop] at hx
              obtain ⟨a2, ha2, hc⟩ := hcell (i * (C e).sz + m) x hx
              cases ha2
              exact hc
            · cases hx)
          exact ⟨u, hu1, hu2, rfl⟩
        · simp [Tr.get] at h
    · simp [Tr.get] at h
  · simp [Tr.get] at h
theorem pLoad_sound (R : Rel B X ρ hp n w) {t : TypeId} {sv : SV} {r : Res C} (h : (pLoad P (fun i => find i hp) t sv).get = some r) {v : Value} (hv : den ρ sv = some v) :
    ∃ u, (Instr.loadAt t v).run P w = .ok u w ∧ den ρ r.1 = some u ∧ r.2 = [] := by
  have fin : ∀ {a : Addr} {u : Value}, (loadVar t a).run P w = .ok u w → (Instr.loadAt t (.pointer (some a))).run P w = .ok u w := fun {a u} h => by
    simp [Instr.loadAt, Instr.sureAddr, h]
  unfold pLoad at h
  split at h
  · rename_i id
    obtain ⟨a, ha, u, h1, h2⟩ := loadBox_sound R h hv
    rw [Addr.add_zero] at h1
    have : v = .pointer (some a) := by
      unfold loadBox at h
      split at h
      · rename_i hid _
        obtain ⟨v', hv', g, vs, rfl, _⟩ := R.obj id _ hid
        simp only [den] at hv
        rw [hv] at hv'; cases hv'
        simp [baseOf] at ha; subst ha; rfl
      · rename_i hid _
        obtain ⟨v', hv', g, us, rfl, _⟩ := R.obj id _ hid
        simp only [den] at hv
        rw [hv] at hv'; cases hv'
        simp [baseOf] at ha; subst ha; rfl
      · simp [Tr.get] at h
    subst this
    exact ⟨u, fin h1, h2⟩
  · rename_i id off
    simp only [den, Option.bind_eq_some_iff, Option.map_eq_some_iff] at hv
    obtain ⟨v0, hv0, a, ha, rfl⟩ := hv
    obtain ⟨a', ha', u, h1, h2⟩ := loadBox_sound R h hv0
    rw [ha] at ha'; cases ha'
    exact ⟨u, fin h1, h2⟩
  · rename_i id i sz j
    simp only [den, Option.bind_eq_some_iff, Option.map_eq_some_iff] at hv
    obtain ⟨v0, hv0, a, ha, rfl⟩ := hv
    obtain ⟨a', ha', u, h1, h2⟩ := loadEl_sound R h hv0
    rw [ha] at ha'; cases ha'
    exact ⟨u, fin h1, h2⟩
  · simp [Tr.get] at h
end sound
end
end Go.Sx
/-
  The symbolic evaluator: stores. Own work; nothing here is trusted.
-/
namespace Go.Sx
noncomputable section
open Go.RowKit
variable {C : Tab} {P : Program}
def forceL {α β : Type} : List α → (List α → Tr β) → Tr β
  | [], g => g []
  | x :: r, g => forceL r fun r' => g (x :: r')
theorem forceL_eq {α β : Type} : ∀ (l : List α) (g : List α → Tr β), forceL l g = g l
  | [], _ => rfl
  | x :: r, g => by simp only [forceL]; exact forceL_eq r _
def spliceS (cs : List SV) (off : Nat) (new : List SV) : List SV := cs.take off ++ new ++ cs.drop (off + new.length)
def storeBox (P : Program) (look : Nat → Option (SO C)) (t : TypeId) (id off : Nat) (x : SV) : Tr (Res C) :=
  match look id, szOf P t with
  | some (.box cs ty), some k => match Nat.beq (cellsS x).length k with
    | true => match allOne (cellsS x) with
      | true => match Nat.ble (off + k) cs.length with
        | true => forceL (spliceS cs off (cellsS x)) fun l => .leaf (.raw undef, [(id, .box l ty)])
        | false => .fail
      | false => .fail
    | false => .fail
  | _, _ => .fail
def storeEl (P : Program) (look : Nat → Option (SO C)) (t : TypeId) (id i sz j : Nat) (x : SV) : Tr (Res C) :=
  match look id, szOf P t with
  | some (.sl true full e ts), some k => match Nat.beq sz (C e).sz with
    | true => match Nat.beq (cellsS x).length k with
      | true => match allOne (cellsS x) with
        | true => match Nat.ble (j + k) (C e).sz with
          | true => match (C e).dec (spliceS (rawL ((C e).enc (ts.getD i (C e).d))) j (cellsS x)) with
            | some a => .br (decide (i < ts.length)) (.leaf (.raw undef, [(id, .sl true full e (ts.set i a))])) .fail
            | none => .fail
          | false => .fail
        | false => .fail
      | false => .fail
    | false => .fail
  | _, _ => .fail
def pStore (P : Program) (look : Nat → Option (SO C)) (t : TypeId) (ad x : SV) : Tr (Res C) := match ad with
  | .h id => storeBox P look t id 0 x
  | .ep id off => storeBox P look t id off x
  | .el id i sz j => storeEl P look t id i sz j x
  | _ => .fail
section sound
variable {B : World} {X : Own} {ρ : Asg} {hp : Hp C} {n : Nat} {w : World}
theorem storeAt_run {t : TypeId} {g o : Nat} {v : Value} {cur : Array Value} {ty : TypeId} (hsz : szOf P t = some v.cells.size) (hg : w.heap[g]? = some (.cells cur ty (0, 0)))
    (hfit : o + v.cells.toList.length ≤ cur.size) (h1 : ∀ x ∈ v.cells.toList, x.oneCell' = true) :
    (Instr.storeAt t (.pointer (some ⟨g, o, none⟩)) v).run P w = .ok () (w.setRow g (cur.toList.take o ++ v.cells.toList ++ cur.toList.drop (o + v.cells.toList.length)).toArray) := by
  have hst := run_storeCells_at P g o ty v.cells.toList 0 cur w hg (by simpa using hfit) h1
  simp only [Nat.add_zero] at hst
  simp only [Instr.storeAt, Instr.sureAddr, Sem.run_bind, Sem.run_pure, Result.andThen_ok, storeVar, run_sizeOf hsz, ne_eq, not_true, if_false]
  exact hst
theorem denL_splice {cs new : List SV} {vs us : List Value} {off : Nat} (h : denL ρ cs = some vs) (h' : denL ρ new = some us) :
    denL ρ (spliceS cs off new) = some (vs.take off ++ us ++ vs.drop (off + us.length)) := by
  unfold spliceS
  rw [denL_length h']
  exact denL_append (denL_append (denL_take off h) h') (denL_drop _ h)
theorem splice_length {α : Type} {vs us : List α} {off : Nat} (h : off + us.length ≤ vs.length) : (vs.take off ++ us ++ vs.drop (off + us.length)).length = vs.length := by
  simp; omega
def Stored (P : Program) (B : World) (X : Own) (ρ : Asg) (hp : Hp C) (n : Nat) (w : World) (t : TypeId) (va vx : Value) (r : Res C) : Prop :=
  r.1 = .raw undef ∧ ∃ w', (Instr.storeAt t va vx).run P w = .ok () w' ∧ Rel B X ρ (r.2 ++ hp) n w'
theorem storeBox_sound (R : Rel B X ρ hp n w) {t : TypeId} {id off : Nat} {x : SV} {r : Res C} (h : (storeBox P (fun i => find i hp) t id off x).get = some r) {v vx : Value} (hv : ρ id = some v) (hx : den ρ x = some vx) :
    ∃ a, v = .pointer (some a) ∧ Stored P B X ρ hp n w t (.pointer (some (a.add off))) vx r := by
  unfold storeBox at h
  split at h
  · rename_i cs ty k hid hk
    split at h
    · rename_i hb1
      split at h
      · rename_i hone
        split at h
        · rename_i hb2
          rw [forceL_eq] at h
          simp [Tr.get] at h; subst h
          have e1 := Nat.eq_of_beq_eq_true hb1
          have e2 := Nat.le_of_ble_eq_true hb2
          obtain ⟨v', hv', g, vs, rfl, hok, hden, hheap⟩ := R.obj id _ hid
          rw [hv] at hv'; cases hv'
          have hcx := den_cells hx R.one
          have hl := denL_length hcx
          have hlv := denL_length hden
          have hfit : off + vx.cells.toList.length ≤ vs.toArray.size := by simp only [List.size_toArray]; omega
          have hrun := storeAt_run (P := P) (w := w) (t := t) (g := g) (o := off) (v := vx) (by rw [hk]; congr 1; rw [← e1, ← hl]; simp) hheap hfit (allOne_mem R.one hcx hone)
          refine ⟨_, rfl, rfl, _, by rw [Addr.add_at, Nat.zero_add]; exact hrun, ?_⟩
          refine R.set hid hv rfl rfl (by simp) (by simp) (by simp) (by simp) (fun k' hk' => ?_) ⟨g, _, rfl, hok, denL_splice hden hcx, ?_⟩ (fun g' hg' => ?_)
          · exact setRow_other w g k' _ (fun e => hk' (by simp [blk, e]))
          · exact setRow_heap w g _ _ ty _ hheap
          · simp [blk] at hg'; subst hg'; exact hok
        · simp [Tr.get] at h
      · simp [Tr.get] at h
    · simp [Tr.get] at h
  · simp [Tr.get] at h
theorem take_splice {α : Type} {cur F us : List α} {L o : Nat} (h : cur.take L = F) (hL : F.length = L) (ho : o + us.length ≤ L) :
    (cur.take o ++ us ++ cur.drop (o + us.length)).take L = F.take o ++ us ++ F.drop (o + us.length) := by
  have hcur : L ≤ cur.length := by
    have := congrArg List.length h
    simp [hL] at this; omega
  subst h
  rw [List.take_append, List.take_append, List.take_take, List.take_take, Nat.min_eq_right (by omega), Nat.min_eq_left (by omega)]
  congr 1
  · congr 1
    exact List.take_of_length_le (by simp; omega)
  · rw [List.drop_take]
    congr 1
    simp; omega
theorem set_splice (c : Codec) (ts : List c.α) (i j : Nat) (a : c.α) (us : List Value) (hi : i < ts.length) (hj : j + us.length ≤ c.sz)
    (ha : c.enc a = (c.enc (ts.getD i c.d)).take j ++ us ++ (c.enc (ts.getD i c.d)).drop (j + us.length)) :
    c.flat (ts.set i a) = (c.flat ts).take (i * c.sz + j) ++ us ++ (c.flat ts).drop (i * c.sz + j + us.length) := by
  rw [c.flat_set ts i a hi, ha]
  have hE : (c.enc (ts.getD i c.d)).length = c.sz := c.len _
  have hd : (c.flat ts).drop (i * c.sz) = c.enc (ts.getD i c.d) ++ c.flat (ts.drop (i + 1)) := c.flat_at ts i hi
  have hd2 : (c.flat ts).drop (i * c.sz + c.sz) = c.flat (ts.drop (i + 1)) := by
    rw [c.flat_drop, Nat.add_mul, Nat.one_mul]
  have h3 : (c.flat ts).drop (i * c.sz + j + us.length) = (c.enc (ts.getD i c.d)).drop (j + us.length) ++ c.flat (ts.drop (i + 1)) := by
    rw [Nat.add_assoc, ← List.drop_drop, hd, List.drop_append, hE, show j + us.length - c.sz = 0 from by omega]
    rfl
  have h4 : (c.flat ts).take (i * c.sz + j) = (c.flat ts).take (i * c.sz) ++ (c.enc (ts.getD i c.d)).take j := by
    rw [List.take_add, hd, List.take_append, hE, show j - c.sz = 0 from by omega]
    simp
  rw [hd2, h3, h4]
  simp
theorem denL_inj {l : List SV} {vs us : List Value} (h : denL ρ l = some vs) (h' : denL ρ l = some us) : vs = us := by
  rw [h] at h'; cases h'; rfl
theorem storeEl_sound (R : Rel B X ρ hp n w) {t : TypeId} {id i sz j : Nat} {x : SV} {r : Res C} (h : (storeEl P (fun i => find i hp) t id i sz j x).get = some r) {v vx : Value} (hv : ρ id = some v) (hx : den ρ x = some vx) :
    ∃ a, baseOf v = some a ∧ Stored P B X ρ hp n w t (.pointer (some (a.add (i * sz + j)))) vx r := by
  unfold storeEl at h
  split at h
  · rename_i full e ts k hid hk
    split at h
    · rename_i hb0
      have e0 := Nat.eq_of_beq_eq_true hb0
      subst e0
      split at h
      · rename_i hb1
        split at h
        · rename_i hone
          split at h
          · rename_i hb2
            split at h
            · rename_i a' hdec
              obtain ⟨hbi, h⟩ := Tr.get_ask.1 h
              have hi : i < ts.length := by simpa using hbi
              simp [Tr.get] at h; subst h
              have e1 := Nat.eq_of_beq_eq_true hb1
              have e2 := Nat.le_of_ble_eq_true hb2
              have hcx := den_cells hx R.one
              have hl := denL_length hcx
              obtain ⟨v', hv', ao, cap, rfl, hc1, hc2, hc3⟩ := R.obj id _ hid
              rw [hv] at hv'; cases hv'
              obtain ⟨g, tot, rfl, hok, hheap, hcapt, htake⟩ := hc3
              refine ⟨_, rfl, rfl, ?_⟩
              have hflat := (C e).flat_length tot
              have htl : ts.length ≤ tot.length := Nat.le_trans hc1 hcapt
              have hit : i < tot.length := by omega
              have hgd : tot.getD i (C e).d = ts.getD i (C e).d := by
                rw [← htake]
                simp only [List.getD_eq_getElem?_getD, List.getElem?_take, if_pos hi]
              have hisz : i * (C e).sz + (C e).sz ≤ tot.length * (C e).sz := by
                have := Nat.mul_le_mul_right (C e).sz (show i + 1 ≤ tot.length from hit)
                rw [Nat.add_mul] at this; omega
              have hfit : i * (C e).sz + j + vx.cells.toList.length ≤ ((C e).flat tot).toArray.size := by
                simp only [List.size_toArray]; omega
              have hrun := storeAt_run (P := P) (w := w) (t := t) (g := g) (o := i * (C e).sz + j) (v := vx) (by rw [hk]; congr 1; rw [← e1, ← hl]; simp) hheap hfit (allOne_mem R.one hcx hone)
              refine ⟨_, by rw [Addr.add_at, Nat.zero_add]; exact hrun, ?_⟩
              have henc : (C e).enc a' = ((C e).enc (tot.getD i (C e).d)).take j ++ vx.cells.toList ++ ((C e).enc (tot.getD i (C e).d)).drop (j + vx.cells.toList.length) := by
                rw [hgd]
                have := (C e).law _ _ hdec
                have h1 : denL ρ (spliceS (rawL ((C e).enc (ts.getD i (C e).d))) j (cellsS x)) = some ((C e).enc a') := by rw [this]; exact denL_rawL _
                exact denL_inj h1 (denL_splice (denL_rawL _) hcx)
              have hset := set_splice (C e) tot i j a' vx.cells.toList hit (by omega) henc
              refine R.set hid hv rfl rfl (by simp) (by simp) (by simp) (by simp) (fun k' hk' => ?_) ⟨_, cap, by simp, by simpa using hc1, by simpa using hc2, g, tot.set i a', rfl, hok, ?_, by simpa using hcapt, ?_⟩ (fun g' hg' => ?_)
              · exact setRow_other w g k' _ (fun e => hk' (by simp [blk, e]))
              · rw [hset]; exact setRow_heap w g _ _ e _ hheap
              · rw [List.length_set, List.take_set, htake]
              · simp [blk] at hg'; subst hg'; exact hok
            · simp [Tr.get] at h
          · simp [Tr.get] at h
        · simp [Tr.get] at h
      · simp [Tr.get] at h
    · simp [Tr.get] at h
  · simp [Tr.get] at h
theorem pStore_sound (R : Rel B X ρ hp n w) {t : TypeId} {ad x : SV} {r : Res C} (h : (pStore P (fun i => find i hp) t ad x).get = some r) {va vx : Value} (ha : den ρ ad = some va) (hx : den ρ x = some vx) :
    Stored P B X ρ hp n w t va vx r := by
  unfold pStore at h
  split at h
  · rename_i id
    obtain ⟨a, rfl, h1⟩ := storeBox_sound R h ha hx
    rwa [Addr.add_zero] at h1
  · rename_i id off
    simp only [den, Option.bind_eq_some_iff, Option.map_eq_some_iff] at ha
    obtain ⟨v0, hv0, a, ha, rfl⟩ := ha
    obtain ⟨a', rfl, h1⟩ := storeBox_sound R h hv0 hx
    simp [baseOf] at ha; subst ha
    exact h1
  · rename_i id i sz j
    simp only [den, Option.bind_eq_some_iff, Option.map_eq_some_iff] at ha
    obtain ⟨v0, hv0, a, ha, rfl⟩ := ha
    obtain ⟨a', ha', h1⟩ := storeEl_sound R h hv0 hx
    rw [ha] at ha'; cases ha'
    exact h1
  · simp [Tr.get] at h
end sound
end
end Go.Sx
/-
  The symbolic evaluator: operations that leave the world alone. Own work; nothing here is trusted.
-/
namespace Go.Sx
noncomputable section
open Go.RowKit
variable {C : Tab} {P : Program}
def kindEq : IntKind → IntKind → Bool
  | .i8, .i8 | .i16, .i16 | .i32, .i32 | .i64, .i64 | .u8, .u8 | .u16, .u16 | .u32, .u32 | .u64, .u64 => true
  | _, _ => false
theorem kindEq_eq {a b : IntKind} (h : kindEq a b = true) : a = b := by cases a <;> cases b <;> first | rfl | cases h
def inR64 (r : Int) : Bool := decide (-9223372036854775808 ≤ r) && decide (r ≤ 9223372036854775807)
theorem inR64_mk {r : Int} (h : -9223372036854775808 ≤ r ∧ r ≤ 9223372036854775807) : inR64 r = true := by
  unfold inR64
  rw [decide_eq_true h.1, decide_eq_true h.2]; rfl
theorem inR64_wrap {r : Int} (h : inR64 r = true) : IntKind.i64.wrap r = r := by
  unfold inR64 at h
  simp only [Bool.and_eq_true, decide_eq_true_eq] at h
  exact IntWalk.i64_in r h
def arith : IntKind → Int → Tr SV
  | .i64, r => .br (inR64 r) (.leaf (.raw (.int .i64 r))) (.leaf (.raw (.int .i64 (IntKind.i64.wrap r))))
  | .u8, r => .leaf (.raw (.int .u8 (r % 256)))
  | .u16, r => .leaf (.raw (.int .u16 (r % 65536)))
  | .u32, r => .leaf (.raw (.int .u32 (r % 4294967296)))
  | .u64, r => .leaf (.raw (.int .u64 (r % 18446744073709551616)))
  | k, r => .leaf (.raw (.int k (k.wrap r)))
theorem arith_get {k : IntKind} {r : Int} {x : SV} (h : (arith k r).get = some x) : x = .raw (.int k (k.wrap r)) := by
  cases k <;> simp only [arith] at h
  case i64 =>
    rcases Tr.get_br.1 h with ⟨hb, h⟩ | ⟨_, h⟩
    · simp [Tr.get] at h; subst h; rw [inR64_wrap hb]
    · simp [Tr.get] at h; subst h; rfl
  all_goals (simp only [Tr.get, Option.some.injEq] at h; subst h; first | rfl | simp [IntKind.wrap, IntKind.bits, IntKind.signed])
def bitsV (k : IntKind) (op : BinOp) (x y : Int) : Int :=
  match op with
  | .and => k.wrap (BitVec.ofInt k.bits x &&& BitVec.ofInt k.bits y).toNat
  | .or => k.wrap (BitVec.ofInt k.bits x ||| BitVec.ofInt k.bits y).toNat
  | .xor => k.wrap (BitVec.ofInt k.bits x ^^^ BitVec.ofInt k.bits y).toNat
  | _ => k.wrap (BitVec.ofInt k.bits x &&& ~~~(BitVec.ofInt k.bits y)).toNat
def shlV (k : IntKind) (x y : Int) : Int := k.wrap (x * 2 ^ (min y.toNat k.bits))
def shrV (k : IntKind) (x y : Int) : Int := x.fdiv (2 ^ (min y.toNat k.bits))
def binInt (op : BinOp) (k k' : IntKind) (a b : Int) : Tr SV :=
  match op with
  | .shl => .br (decide (b < 0)) .fail (.leaf (.raw (.int k (shlV k a b))))
  | .shr => .br (decide (b < 0)) .fail (.leaf (.raw (.int k (shrV k a b))))
  | op => match kindEq k k' with
    | false => .fail
    | true => match op with
      | .add => arith k (a + b)
      | .sub => arith k (a - b)
      | .mul => arith k (a * b)
      | .quo => .br (b == 0) .fail (arith k (a.tdiv b))
      | .rem => .br (b == 0) .fail (.leaf (.raw (.int k (a.tmod b))))
      | .and => .leaf (.raw (.int k (bitsV k .and a b)))
      | .or => .leaf (.raw (.int k (bitsV k .or a b)))
      | .xor => .leaf (.raw (.int k (bitsV k .xor a b)))
      | .andNot => .leaf (.raw (.int k (bitsV k .andNot a b)))
      | .eql => .leaf (.raw (.bool (a == b)))
      | .neq => .leaf (.raw (.bool (a != b)))
      | .lss => .leaf (.raw (.bool (decide (a < b))))
      | .leq => .leaf (.raw (.bool (decide (a ≤ b))))
      | .gtr => .leaf (.raw (.bool (decide (b < a))))
      | .geq => .leaf (.raw (.bool (decide (b ≤ a))))
      | _ => .fail
theorem binInt_sound {op : BinOp} {k k' : IntKind} {a b : Int} {x : SV} (h : (binInt op k k' a b).get = some x) (t : TypeId) (w : World) :
    ∃ u, (binOp op t (.int k a) (.int k' b)).run P w = .ok u w ∧ x = .raw u := by
  by_cases hs : op = .shl ∨ op = .shr
  · rcases hs with rfl | rfl
    all_goals
      simp only [binInt] at h
      rcases Tr.get_br.1 h with ⟨_, h⟩ | ⟨hb, h⟩
      · simp [Tr.get] at h
      · simp [Tr.get] at h
        subst h
        have hb' : ¬ b < 0 := by simpa using hb
        exact ⟨_, by simp only [binOp, Op.shift, hb', if_false, Sem.run_pure]; rfl, rfl⟩
  · have h' : kindEq k k' = true := by
      unfold binInt at h
      split at h
      · exact absurd (.inl rfl) hs
      · exact absurd (.inr rfl) hs
      · split at h
        · simp [Tr.get] at h
        · assumption
    have hk := kindEq_eq h'
    subst hk
    unfold binInt at h
    split at h
    · exact absurd (.inl rfl) hs
    · exact absurd (.inr rfl) hs
    · rw [h'] at h
      simp only at h
      split at h
      · rw [arith_get h]; exact ⟨_, by simp [binOp, Op.intArith], rfl⟩
      · rw [arith_get h]; exact ⟨_, by simp [binOp, Op.intArith], rfl⟩
      · rw [arith_get h]; exact ⟨_, by simp [binOp, Op.intArith], rfl⟩
      · rcases Tr.get_br.1 h with ⟨_, h⟩ | ⟨hb, h⟩
        · simp [Tr.get] at h
        · rw [arith_get h]
          have hb' : ¬ b = 0 := by simpa using hb
          exact ⟨_, by simp [binOp, Op.intDiv, hb'], rfl⟩
      · rcases Tr.get_br.1 h with ⟨_, h⟩ | ⟨hb, h⟩
        · simp [Tr.get] at h
        · simp [Tr.get] at h; subst h
          have hb' : ¬ b = 0 := by simpa using hb
          exact ⟨_, by simp [binOp, Op.intDiv, hb'], rfl⟩
      all_goals (first
        | (simp [Tr.get] at h; done)
        | (simp [Tr.get] at h; subst h; exact ⟨_, by simp [binOp, Op.intBits, Op.intCmp, bitsV], rfl⟩))
def partS (P : Program) (t : TypeId) (cs : List SV) (off : Nat) : Option (List SV) := match szOf P t with
  | some k => segS cs off k
  | none => none
def nameDiff : List Field → List Field → Bool
  | [], [] => false
  | f :: fs, g :: gs => match decide (f.name = g.name) with
    | true => nameDiff fs gs
    | false => true
  | _, _ => true
def unlike (P : Program) (a b : TypeId) : Bool := match Nat.beq a b with
  | true => false
  | false => match P.info? a, P.info? b with
    | some i, some j => match i.desc, j.desc with
      | .struct fs, .struct gs => nameDiff fs.toList gs.toList
      | .struct _, _ => true
      | _, .struct _ => true
      | _, _ => false
    | _, _ => false
theorem nameDiff_not : ∀ (fs gs : List Field), nameDiff fs gs = true → (fs.length == gs.length && (fs.zip gs).all fun x => x.1.name == x.2.name) = false
  | [], [], h => by simp [nameDiff] at h
  | f :: fs, g :: gs, h => by
    unfold nameDiff at h
    split at h
    · have := nameDiff_not fs gs h
      simp only [List.length_cons, List.zip_cons_cons, List.all_cons]
      cases hl : (fs.length == gs.length)
      · have : ¬ fs.length = gs.length := by simpa using hl
        have h2 : (fs.length + 1 == gs.length + 1) = false := by simpa using this
        simp [h2]
      · rw [hl, Bool.true_and] at this
        simp [this]
    · rename_i hne
      have : ¬ f.name = g.name := of_decide_eq_false hne
      simp [this]
  | [], g :: gs, _ => by simp
  | f :: fs, [], _ => by simp
theorem unlike_eq {P : Program} {a b : TypeId} {n : Nat} (h : unlike P a b = true) : P.alikeButTags (n + 1) a b = false := by
  unfold unlike at h
  split at h
  · cases h
  · rename_i hab
    have hab : ¬ a = b := Nat.ne_of_beq_eq_false hab
    split at h
    · rename_i i j hi hj
      unfold Program.alikeButTags
      simp only [hi, hj, Option.map_some, beq_eq_false_iff_ne.2 hab, Bool.false_or]
      split at h
      · rename_i fs gs hd hd'
        rw [hd, hd']
        have hn := nameDiff_not _ _ h
        simp only [Array.length_toList] at hn
        cases hs : (fs.size == gs.size)
        · exact Bool.and_eq_false_iff.2 (.inl hs)
        · rw [hs, Bool.true_and] at hn
          rw [← Bool.not_eq_true] at hn ⊢
          intro hall
          have hall := (Bool.and_eq_true_iff.1 hall).2
          apply hn
          rw [List.all_eq_true]
          rw [Array.all_eq_true_iff_forall_mem] at hall
          rintro ⟨f, g⟩ hm
          have := hall (f, g) (by simpa [← Array.toList_zip] using hm)
          simp only [Bool.and_eq_true] at this
          exact this.1.1.1
      · rename_i fs hd hne
        rw [hd]
        cases hj2 : j.desc <;> first | rfl | exact (hne _ hj2).elim
      · rename_i gs hd hne
        rw [hd]
        cases hi2 : i.desc <;> first | rfl | exact (hne _ hi2).elim
      · cases h
    · cases h
def likeNo (P : Program) (b : TypeId) : List (String × TypeId) → Bool
  | [] => true
  | c :: r => match unlike P (P.underlyingId c.2) b with
    | true => likeNo P b r
    | false => false
theorem likeNo_all {P : Program} {b : TypeId} : ∀ {l : List (String × TypeId)}, likeNo P b l = true → ∀ c ∈ l, unlike P (P.underlyingId c.2) b = true
  | [], _, c, hc => by cases hc
  | x :: r, h, c, hc => by
    unfold likeNo at h
    split at h
    · rename_i hx
      rcases List.mem_cons.1 hc with rfl | hc
      · exact hx
      · exact likeNo_all h c hc
    · cases h
def stoodB (P : Program) (t : TypeId) : Bool := match P.depth with
  | 0 => P.stoodInHeld t
  | _ + 1 => match likeNo P (P.underlyingId t) P.cutTypes.toList with
    | true => false
    | false => P.stoodInHeld t
theorem stoodB_eq {P : Program} {t : TypeId} (h : stoodB P t = false) : P.stoodInHeld t = false := by
  unfold stoodB at h
  split at h
  · exact h
  · rename_i d hd
    split at h
    · rename_i hl
      have : P.stoodInAs t = [] := by
        unfold Program.stoodInAs
        split
        · rw [if_pos rfl, List.map_eq_nil_iff, List.filter_eq_nil_iff]
          intro c hc
          have := unlike_eq (n := d) (likeNo_all hl c hc)
          rw [hd]
          simp only [Bool.not_eq_true]
          exact this
        · rfl
      simp [Program.stoodInHeld, this]
    · exact h
def noGs (f : TypeId → Bool) : List Field → Bool
  | [] => true
  | x :: r => match f x.type with
    | true => noGs f r
    | false => false
def noG (P : Program) : Nat → TypeId → Bool
  | 0, _ => false
  | d + 1, t => match P.underlying t with
    | some (.interface _) => false
    | some (.struct fs) => noGs (noG P d) fs.toList
    | some (.array _ e) => noG P d e
    | _ => true
theorem noGs_all {f : TypeId → Bool} : ∀ {l : List Field}, noGs f l = true → ∀ x ∈ l, f x.type = true
  | [], _, x, hx => by cases hx
  | y :: r, h, x, hx => by
    unfold noGs at h
    split at h
    · rename_i hy
      rcases List.mem_cons.1 hx with rfl | hx
      · exact hy
      · exact noGs_all h x hx
    · cases h
theorem noG_eq {P : Program} : ∀ {d : Nat} {t : TypeId}, noG P d t = true → P.eqGuardType d t = false
  | 0, t, h => by simp [noG] at h
  | d + 1, t, h => by
    unfold noG at h
    unfold Program.eqGuardType
    split at h
    · cases h
    · rename_i fs hf
      rw [hf]
      simp only [Array.any_eq_false', Bool.and_eq_true, not_and, Bool.not_eq_true]
      intro x hx _
      exact noG_eq (noGs_all h x (by simpa using hx))
    · rename_i e he
      rw [he]; exact noG_eq h
    · rename_i h1 h2 h3
      split
      · rename_i h; exact absurd h (h1 _)
      · rename_i h; exact absurd h (h2 _)
      · rename_i h; exact absurd h (h3 _ _)
      · rfl
def eqFs (P : Program) (eq : TypeId → List SV → List SV → Option Bool) : List Field → List SV → List SV → Option Bool
  | [], _, _ => some true
  | f :: fs, xs, ys => match decide (f.name ≠ "_") with
    | true => match partS P f.type xs f.offset, partS P f.type ys f.offset with
      | some a, some b => match eq f.type a b with
        | some r => match eqFs P eq fs xs ys with
          | some r' => some (r && r')
          | none => none
        | none => none
      | _, _ => none
    | false => eqFs P eq fs xs ys
def eqAs (eq : List SV → List SV → Option Bool) (k : Nat) : Nat → Nat → List SV → List SV → Option Bool
  | 0, _, _, _ => some true
  | m + 1, i, xs, ys => match segS xs (i * k) k, segS ys (i * k) k with
    | some a, some b => match eq a b with
      | some r => match eqAs eq k m (i + 1) xs ys with
        | some r' => some (r && r')
        | none => none
      | none => none
    | _, _ => none
def eqT (P : Program) : Nat → TypeId → List SV → List SV → Option Bool
  | 0, _, _, _ => none
  | d + 1, t, xs, ys => match P.underlying t with
    | some .bool => match xs, ys with
      | [.raw (.bool a)], [.raw (.bool b)] => some (a == b)
      | _, _ => none
    | some (.int _) => match xs, ys with
      | [.raw (.int k a)], [.raw (.int k' b)] => match kindEq k k' with
        | true => some (a == b)
        | false => none
      | _, _ => none
    | some .string => match xs, ys with
      | [.raw (.string a)], [.raw (.string b)] => some (a.toList == b.toList)
      | _, _ => none
    | some (.struct fs) => match stoodB P t with
      | true => none
      | false => eqFs P (eqT P d) fs.toList xs ys
    | some (.array len e) => match szOf P e with
      | some k => eqAs (eqT P d e) k len 0 xs ys
      | none => none
    | _ => none
theorem part_run {t : TypeId} {cs : List SV} {off : Nat} {l : List SV} {ρ : Asg} {vs : List Value} (h : partS P t cs off = some l) (hd : denL ρ cs = some vs) (w : World) :
    ∃ ls, denL ρ l = some ls ∧ ((aggT P t = some true → (part t vs.toArray off).run P w = .ok (.agg ls.toArray) w) ∧ (∀ x, aggT P t = some false → ls = [x] → (part t vs.toArray off).run P w = .ok x w)) := by
  unfold partS at h
  split at h
  · rename_i k hk
    obtain ⟨e1, e2, e3⟩ := segS_spec h hd
    refine ⟨_, e2, fun hag => ?_, fun x hag hx => ?_⟩
    · unfold part
      rw [Sem.run_bind, run_isAgg hag]
      simp only [Result.andThen_ok, if_true, Sem.run_bind, run_sizeOf hk, Sem.run_pure]
      congr 2
      simp [List.extract_eq_take_drop]
    · unfold part
      rw [Sem.run_bind, run_isAgg hag]
      have : vs[off]? = some x := by
        have h0 : ((vs.drop off).take k)[0]? = some x := by rw [hx]; rfl
        rw [List.getElem?_take] at h0
        split at h0
        · simpa using h0
        · cases h0
      simp [this]
  · cases h
theorem aggT_of_struct {t : TypeId} {fs : Array Field} (h : P.underlying t = some (.struct fs)) : aggT P t = some true := by simp [aggT, h]
theorem aggT_of_array {t : TypeId} {n : Nat} {e : TypeId} (h : P.underlying t = some (.array n e)) : aggT P t = some true := by simp [aggT, h]
def valOf (P : Program) (t : TypeId) (ls : List Value) (v : Value) : Prop := (aggT P t = some true ∧ v = .agg ls.toArray) ∨ (aggT P t = some false ∧ ls = [v])
theorem part_valOf {t : TypeId} {cs : List SV} {off : Nat} {l : List SV} {ρ : Asg} {vs : List Value} (h : partS P t cs off = some l) (hd : denL ρ cs = some vs) (w : World) {ls : List Value} (hl : denL ρ l = some ls) {v : Value}
    (hv : valOf P t ls v) : (part t vs.toArray off).run P w = .ok v w := by
  obtain ⟨ls', h1, h2, h3⟩ := part_run h hd w
  rw [hl] at h1; cases h1
  rcases hv with ⟨ha, rfl⟩ | ⟨ha, rfl⟩
  · exact h2 ha
  · exact h3 v ha rfl
def EqOk (P : Program) (d : Nat) (t : TypeId) (xs ys : List SV) (r : Bool) : Prop :=
  ∀ (ρ : Asg) (vx vy : List Value) (w : World), denL ρ xs = some vx → denL ρ ys = some vy → ∃ a b, valOf P t vx a ∧ valOf P t vy b ∧ (Op.equalIn d t a b).run P w = .ok r w
theorem eqFs_sound {d : Nat} {eq : TypeId → List SV → List SV → Option Bool} (ih : ∀ t xs ys r, eq t xs ys = some r → EqOk P d t xs ys r) {xs ys : List SV} {ρ : Asg} {vx vy : List Value}
    (hx : denL ρ xs = some vx) (hy : denL ρ ys = some vy) (w : World) : ∀ (fs : List Field) (r : Bool), eqFs P eq fs xs ys = some r → (Op.eqFields d vx.toArray vy.toArray fs).run P w = .ok r w
  | [], r, h => by simp [eqFs] at h; subst h; simp [Op.eqFields]
  | f :: fs, r, h => by
    unfold eqFs at h
    split at h
    · rename_i hn
      split at h
      · rename_i a b ha hb
        split at h
        · rename_i r1 h1
          split at h
          · rename_i r2 h2
            cases h
            obtain ⟨la, hla, _⟩ := part_run ha hx w
            obtain ⟨lb, hlb, _⟩ := part_run hb hy w
            obtain ⟨va, vb, hva, hvb, hrun⟩ := ih _ _ _ _ h1 ρ la lb w hla hlb
            have pa := part_valOf ha hx w hla hva
            have pb := part_valOf hb hy w hlb hvb
            have hn' : f.name ≠ "_" := of_decide_eq_true hn
            unfold Op.eqFields
            rw [if_pos hn']
            simp only [Sem.run_bind, pa, pb, hrun, Result.andThen_ok]
            cases r1
            · simp
            · simp only [Bool.not_true, Bool.false_eq_true, if_false, Bool.true_and]
              exact eqFs_sound ih hx hy w fs r2 h2
          · cases h
        · cases h
      · cases h
    · rename_i hn
      have hn' : ¬ f.name ≠ "_" := of_decide_eq_false hn
      unfold Op.eqFields
      rw [if_neg hn']
      exact eqFs_sound ih hx hy w fs r h
theorem eqAs_sound {d : Nat} {e : TypeId} {k : Nat} {eq : List SV → List SV → Option Bool} (ih : ∀ xs ys r, eq xs ys = some r → EqOk P d e xs ys r) (hk : szOf P e = some k) {xs ys : List SV} {ρ : Asg} {vx vy : List Value}
    (hx : denL ρ xs = some vx) (hy : denL ρ ys = some vy) (w : World) : ∀ (m i : Nat) (r : Bool), eqAs eq k m i xs ys = some r →
    ∃ b : Option Bool × Unit, (forIn (m := Sem) (List.range' i m) ((none, ()) : Option Bool × Unit) fun i _ => do
      let a ← part e vx.toArray (i * k)
      let b ← part e vy.toArray (i * k)
      let q ← Op.equalIn d e a b
      if (!q) = true then pure (ForInStep.done (some false, ())) else pure (ForInStep.yield (none, ()))).run P w = .ok b w ∧ b.1.getD true = r
  | 0, i, r, h => by simp [eqAs] at h; subst h; exact ⟨(none, ()), by simp, rfl⟩
  | m + 1, i, r, h => by
    unfold eqAs at h
    split at h
    · rename_i a b ha hb
      split at h
      · rename_i r1 h1
        split at h
        · rename_i r2 h2
          cases h
          have ha' : partS P e xs (i * k) = some a := by simp [partS, hk, ha]
          have hb' : partS P e ys (i * k) = some b := by simp [partS, hk, hb]
          obtain ⟨la, hla, _⟩ := part_run ha' hx w
          obtain ⟨lb, hlb, _⟩ := part_run hb' hy w
          obtain ⟨va, vb, hva, hvb, hrun⟩ := ih _ _ _ h1 ρ la lb w hla hlb
          have pa := part_valOf ha' hx w hla hva
          have pb := part_valOf hb' hy w hlb hvb
          rw [List.range'_succ]
          simp only [List.forIn_cons, Sem.run_bind, pa, pb, hrun, Result.andThen_ok]
          cases r1
          · exact ⟨(some false, ()), by simp, by simp⟩
          · obtain ⟨q, h3, h4⟩ := eqAs_sound ih hk hx hy w m (i + 1) r2 h2
            refine ⟨q, ?_, by simpa using h4⟩
            simp only [Bool.not_true, Bool.false_eq_true, if_false, Sem.run_pure, Result.andThen_ok]
            exact h3
        · cases h
      · cases h
    · cases h
theorem run_equalIn_array {d : Nat} {t e : TypeId} {len k : Nat} {eq : List SV → List SV → Option Bool} (ih : ∀ xs ys r, eq xs ys = some r → EqOk P d e xs ys r) {xs ys : List SV} {ρ : Asg} {vx vy : List Value}
    (hx : denL ρ xs = some vx) (hy : denL ρ ys = some vy) (w : World) (ht : P.underlying t = some (.array len e)) (hk : szOf P e = some k) {r : Bool} (h : eqAs eq k len 0 xs ys = some r) :
    (Op.equalIn (d + 1) t (.agg vx.toArray) (.agg vy.toArray)).run P w = .ok r w := by
  obtain ⟨b, h1, h2⟩ := eqAs_sound ih hk hx hy w len 0 r h
  simp only [Op.equalIn, Sem.run_bind, run_underlying ht, Result.andThen_ok, run_sizeOf hk]
  rw [Std.Legacy.Range.forIn_eq_forIn_range']
  simp only [Std.Legacy.Range.size, Nat.sub_zero, Nat.add_one_sub_one, Nat.div_one]
  rw [h1]
  obtain ⟨b1, b2⟩ := b
  cases b1 <;> simp at h2 ⊢ <;> exact h2
theorem valOf_basic {t : TypeId} {d : TypeDesc} (h : P.underlying t = some d) (hd : (match d with | .struct _ | .array _ _ => false | _ => true) = true) (v : Value) : valOf P t [v] v := by
  right
  refine ⟨?_, rfl⟩
  unfold aggT
  rw [h]
  cases d <;> first | rfl | simp at hd
theorem eqT_sound : ∀ (d : Nat) (t : TypeId) (xs ys : List SV) (r : Bool), eqT P d t xs ys = some r → EqOk P d t xs ys r
  | 0, _, _, _, _, h => by simp [eqT] at h
  | d + 1, t, xs, ys, r, h => by
    intro ρ vx vy w hx hy
    unfold eqT at h
    split at h
    · rename_i ht
      split at h
      · cases h
        obtain ⟨_, _, h1, h2, rfl⟩ := denL_cons.1 hx
        obtain ⟨_, _, h3, h4, rfl⟩ := denL_cons.1 hy
        rw [denL_nil.1 h2, denL_nil.1 h4]
        simp [den] at h1 h3; subst h1; subst h3
        exact ⟨_, _, valOf_basic ht rfl _, valOf_basic ht rfl _, by simp [Op.equalIn, run_underlying ht]⟩
      · cases h
    · rename_i ht
      split at h
      · split at h
        · rename_i hke
          cases h
          have hke := kindEq_eq hke
          obtain ⟨_, _, h1, h2, rfl⟩ := denL_cons.1 hx
          obtain ⟨_, _, h3, h4, rfl⟩ := denL_cons.1 hy
          rw [denL_nil.1 h2, denL_nil.1 h4]
          simp [den] at h1 h3; subst h1; subst h3
          exact ⟨_, _, valOf_basic ht rfl _, valOf_basic ht rfl _, by simp [Op.equalIn, run_underlying ht, hke]⟩
        · cases h
      · cases h
    · rename_i ht
      split at h
      · cases h
        obtain ⟨_, _, h1, h2, rfl⟩ := denL_cons.1 hx
        obtain ⟨_, _, h3, h4, rfl⟩ := denL_cons.1 hy
        rw [denL_nil.1 h2, denL_nil.1 h4]
        simp [den] at h1 h3; subst h1; subst h3
        exact ⟨_, _, valOf_basic ht rfl _, valOf_basic ht rfl _, by simp [Op.equalIn, run_underlying ht, beq_toListBytes]⟩
      · cases h
    · rename_i fs ht
      split at h
      · cases h
      · rename_i hst
        have hf : P.fieldsOf t = fs := by simp [Program.fieldsOf, ht]
        refine ⟨_, _, .inl ⟨aggT_of_struct ht, rfl⟩, .inl ⟨aggT_of_struct ht, rfl⟩, ?_⟩
        rw [run_equalIn_struct w d t _ _ (by rw [hf]; exact ht) (stoodB_eq hst), hf]
        exact eqFs_sound (fun t xs ys r h => eqT_sound d t xs ys r h) hx hy w _ r h
    · rename_i len e ht
      split at h
      · rename_i k hk
        exact ⟨_, _, .inl ⟨aggT_of_array ht, rfl⟩, .inl ⟨aggT_of_array ht, rfl⟩, run_equalIn_array (fun xs ys r h => eqT_sound d e xs ys r h) hx hy w ht hk h⟩
      · cases h
    · cases h
end
end Go.Sx
/-
  The symbolic evaluator: the other operations that leave the world alone. Own work; nothing here is trusted.
-/
namespace Go.Sx
noncomputable section
open Go.RowKit
variable {C : Tab} {P : Program}
def PureOk (P : Program) (ρ : Asg) (w : World) (s : Sem Value) (x : SV) : Prop := ∃ u, s.run P w = .ok u w ∧ den ρ x = some u
def isAggS : SV → Bool
  | .agg _ => true
  | .raw v => match v with
    | .agg _ => true
    | _ => false
  | _ => false
theorem not_agg {ρ : Asg} {x : SV} {v : Value} (h : den ρ x = some v) (hone : ∀ i u, ρ i = some u → u.oneCell' = true) (hs : isAggS x = false) : v.cells = #[v] := by
  have key : ∀ u : Value, (∀ a, u ≠ .agg a) → u.cells = #[u] := fun u hu => by
    cases u <;> first | rfl | exact absurd rfl (hu _)
  apply key
  intro a ha
  subst ha
  cases x with
  | raw u => simp [den] at h; subst h; simp [isAggS] at hs
  | h id => have := hone id _ (show ρ id = some (.agg a) from h); simp [Value.oneCell'] at this
  | ep id off => simp [den, Option.bind_eq_some_iff, Option.map_eq_some_iff] at h
  | bs id off l c => simp [den, Option.bind_eq_some_iff, Option.map_eq_some_iff] at h
  | vs id sz off len cap =>
    simp only [den, Option.bind_eq_some_iff] at h
    obtain ⟨u, _, hu⟩ := h
    obtain ⟨_, _, _, e⟩ := vsV_slice hu
    cases e
  | el id i sz j => simp [den, Option.bind_eq_some_iff, Option.map_eq_some_iff] at h
  | agg cs => simp [isAggS] at hs
  | tup cs => simp [den, Option.map_eq_some_iff] at h
  | fn f k cs => simp [den, Option.map_eq_some_iff] at h
  | ifc t cs =>
    simp only [den, Option.bind_eq_some_iff] at h
    obtain ⟨l, _, h⟩ := h
    obtain ⟨u, _, h⟩ := ifcV_some h
    cases h
theorem is_agg {ρ : Asg} {x : SV} {v : Value} (h : den ρ x = some v) (hs : isAggS x = true) : ∃ a, v = .agg a := by
  cases x with
  | raw u =>
    simp [den] at h; subst h
    cases u <;> simp [isAggS] at hs ⊢
  | agg cs =>
    simp only [den, Option.map_eq_some_iff] at h
    obtain ⟨l, _, rfl⟩ := h
    exact ⟨_, rfl⟩
  | _ => simp [isAggS] at hs
def shp (P : Program) (t : TypeId) (x : SV) : Bool := match aggT P t with
  | some true => isAggS x
  | some false => match isAggS x with
    | true => false
    | false => true
  | none => false
theorem shp_val {ρ : Asg} {t : TypeId} {x : SV} {v a : Value} (hs : shp P t x = true) (hone : ∀ i u, ρ i = some u → u.oneCell' = true) (h : den ρ x = some v) (ha : valOf P t v.cells.toList a) : a = v := by
  unfold shp at hs
  rcases ha with ⟨h1, rfl⟩ | ⟨h1, h2⟩
  · rw [h1] at hs
    obtain ⟨c, rfl⟩ := is_agg h hs
    simp [Value.cells]
  · rw [h1] at hs
    simp only at hs
    split at hs
    · cases hs
    · rename_i hb
      rw [not_agg h hone hb] at h2
      simpa using h2.symm
def eqv (P : Program) (look : Nat → Option (SO C)) (t : TypeId) (x y : SV) : Tr Bool :=
  match x, y with
  | .h id, .raw (.pointer none) => match look id, P.underlying t with
    | some (.box _ _), some (.pointer _) => .leaf false
    | _, _ => .fail
  | .h id, .raw (.slice none _ _) => match look id, P.underlying t with
    | some (.sl _ _ _ _), some (.slice _) => .leaf false
    | _, _ => .fail
  | .vs _ _ _ _ _ _, .raw (.slice none _ _) => match P.underlying t with
    | some (.slice _) => .leaf false
    | _ => .fail
  | .ep _ _, .raw (.pointer none) => match P.underlying t with
    | some (.pointer _) => .leaf false
    | _ => .fail
  | .el _ _ _ _, .raw (.pointer none) => match P.underlying t with
    | some (.pointer _) => .leaf false
    | _ => .fail
  | .raw (.pointer none), .raw (.pointer none) => match P.underlying t with
    | some (.pointer _) => .leaf true
    | _ => .fail
  | .raw (.slice none _ _), .raw (.slice none _ _) => match P.underlying t with
    | some (.slice _) => .leaf true
    | _ => .fail
  | .fn _ _ _, .raw .nilFunc => match P.underlying t with
    | some (.func _ _ _) => .leaf false
    | _ => .fail
  | .raw (.func _ _ _), .raw .nilFunc => match P.underlying t with
    | some (.func _ _ _) => .leaf false
    | _ => .fail
  | .raw .nilFunc, .raw .nilFunc => match P.underlying t with
    | some (.func _ _ _) => .leaf true
    | _ => .fail
  | .raw (.bool a), .raw (.bool b) => match P.underlying t with
    | some .bool => .leaf (a == b)
    | _ => .fail
  | x, y => match isAggS x, isAggS y, aggT P t, noG P P.depth t with
    | true, true, some true, true => Tr.ofOpt (eqT P 10000 t (cellsS x) (cellsS y))
    | _, _, _, _ => .fail
def plainEq : Value → Value → Bool
  | .int _ _, .int _ _ | .float _ _, .float _ _ | .complex _ _ _, .complex _ _ _ | .string _, .string _ | .nilIface, .nilIface => false
  | _, _ => true
theorem equal_run {t : TypeId} {a b : Value} {w : World} {r : Result Bool} (h : ∀ d, (Op.equalIn (d + 1) t a b).run P w = r) : (Op.equal t a b).run P w = r := h 9999
theorem binOp_eql_plain {a b : Value} (h : plainEq a b = true) (t : TypeId) : binOp .eql t a b = (do pure (.bool (← Op.equal t a b))) := by
  cases a <;> cases b <;> first | rfl | cases h
theorem binOp_neq_plain {a b : Value} (h : plainEq a b = true) (t : TypeId) : binOp .neq t a b = (do pure (.bool (!(← Op.equal t a b)))) := by
  cases a <;> cases b <;> first | rfl | cases h
theorem eqGuard_ok {op : BinOp} {t : TypeId} {ox oy : Operand} {a b : Value} (h : (∃ x y, a = .agg x ∧ b = .agg y) → P.eqGuardType P.depth t = false) (hn : ¬ (a = .nilIface ∧ b = .nilIface)) (w : World) :
    (eqGuard op t ox oy a b).run P w = .ok () w := by
  by_cases hab : ∃ x y, a = .agg x ∧ b = .agg y
  · obtain ⟨x, y, rfl, rfl⟩ := hab
    exact run_eqGuard_agg w op t ox oy x y (h ⟨_, _, rfl, rfl⟩)
  · have e : eqGuard op t ox oy a b = pure () := by
      cases a <;> first
        | exact eqGuard_at_bool | (cases op <;> first | rfl | (cases b <;> first | rfl | exact absurd ⟨rfl, rfl⟩ hn | exact absurd ⟨_, _, rfl, rfl⟩ hab))
    rw [e]; rfl
section sound
variable {B : World} {X : Own} {ρ : Asg} {hp : Hp C} {n : Nat} {w : World}
theorem eqT_equal (R : Rel B X ρ hp n w) {t : TypeId} {x y : SV} {vx vy : Value} {r : Bool} (hx : den ρ x = some vx) (hy : den ρ y = some vy) (h1 : shp P t x = true) (h2 : shp P t y = true)
    (h : eqT P 10000 t (cellsS x) (cellsS y) = some r) : (Op.equal t vx vy).run P w = .ok r w := by
  obtain ⟨a, b, ha, hb, hrun⟩ := eqT_sound _ _ _ _ _ h ρ _ _ w (den_cells hx R.one) (den_cells hy R.one)
  rw [shp_val h1 R.one hx ha, shp_val h2 R.one hy hb] at hrun
  exact hrun
theorem eqv_sound (R : Rel B X ρ hp n w) {t : TypeId} {x y : SV} {vx vy : Value} {r : Bool} (hx : den ρ x = some vx) (hy : den ρ y = some vy) (h : (eqv P (fun i => find i hp) t x y).get = some r) :
    (Op.equal t vx vy).run P w = .ok r w ∧ ((∃ a b, vx = .agg a ∧ vy = .agg b) → P.eqGuardType P.depth t = false) ∧ plainEq vx vy = true := by
  have noagg : ∀ {a b : Value}, (∀ c, a ≠ .agg c) → ((∃ x y, a = .agg x ∧ b = .agg y) → P.eqGuardType P.depth t = false) := fun h ⟨x, _, e, _⟩ => absurd e (h x)
  unfold eqv at h
  split at h
  · rename_i id
    split at h
    · rename_i hid ht
      simp [Tr.get] at h; subst h
      obtain ⟨v', hv', g, vs, rfl, _⟩ := R.obj id _ hid
      simp only [den] at hx; rw [hx] at hv'; cases hv'
      simp [den] at hy; subst hy
      exact ⟨equal_run fun d => by simp [Op.equalIn, run_underlying ht], noagg (by simp), rfl⟩
    · simp [Tr.get] at h
  · rename_i id _ _
    split at h
    · rename_i own full e ts el hid ht
      simp [Tr.get] at h; subst h
      simp only [den] at hx
      simp [den] at hy; subst hy
      obtain ⟨v', hv', a, cap, rfl, _⟩ := R.obj id _ hid
      rw [hx] at hv'; cases hv'
      have hnn := R.nn id _ _ hid rfl hx
      cases a with
      | none => simp [nnV] at hnn
      | some b => exact ⟨equal_run fun d => by simp [Op.equalIn, run_underlying ht], noagg (by simp), rfl⟩
    · simp [Tr.get] at h
  · split at h
    · rename_i ht
      simp [Tr.get] at h; subst h
      simp only [den, Option.bind_eq_some_iff] at hx
      obtain ⟨_, _, hu⟩ := hx
      obtain ⟨_, _, _, rfl⟩ := vsV_slice hu
      simp [den] at hy; subst hy
      exact ⟨equal_run fun d => by simp [Op.equalIn, run_underlying ht], noagg (by simp), rfl⟩
    · simp [Tr.get] at h
  · split at h
    · rename_i ht
      simp [Tr.get] at h; subst h
      simp only [den, Option.bind_eq_some_iff, Option.map_eq_some_iff] at hx
      obtain ⟨_, _, a, _, rfl⟩ := hx
      simp [den] at hy; subst hy
      exact ⟨equal_run fun d => by simp [Op.equalIn, run_underlying ht], noagg (by simp), rfl⟩
    · simp [Tr.get] at h
  · split at h
    · rename_i ht
      simp [Tr.get] at h; subst h
      simp only [den, Option.bind_eq_some_iff, Option.map_eq_some_iff] at hx
      obtain ⟨_, _, a, _, rfl⟩ := hx
      simp [den] at hy; subst hy
      exact ⟨equal_run fun d => by simp [Op.equalIn, run_underlying ht], noagg (by simp), rfl⟩
    · simp [Tr.get] at h
  · split at h
    · rename_i ht
      simp [Tr.get] at h; subst h
      simp [den] at hx hy; subst hx; subst hy
      exact ⟨equal_run fun d => by simp [Op.equalIn, run_underlying ht], noagg (by simp), rfl⟩
    · simp [Tr.get] at h
  · split at h
    · rename_i ht
      simp [Tr.get] at h; subst h
      simp [den] at hx hy; subst hx; subst hy
      exact ⟨equal_run fun d => by simp [Op.equalIn, run_underlying ht], noagg (by simp), rfl⟩
    · simp [Tr.get] at h
  · split at h
    · rename_i ht
      simp [Tr.get] at h; subst h
      simp only [den, Option.map_eq_some_iff] at hx
      obtain ⟨_, _, rfl⟩ := hx
      simp [den] at hy; subst hy
      exact ⟨equal_run fun d => by simp [Op.equalIn, run_underlying ht], noagg (by simp), rfl⟩
    · simp [Tr.get] at h
  · split at h
    · rename_i ht
      simp [Tr.get] at h; subst h
      simp [den] at hx hy; subst hx; subst hy
      exact ⟨equal_run fun d => by simp [Op.equalIn, run_underlying ht], noagg (by simp), rfl⟩
    · simp [Tr.get] at h
  · split at h
    · rename_i ht
      simp [Tr.get] at h; subst h
      simp [den] at hx hy; subst hx; subst hy
      exact ⟨equal_run fun d => by simp [Op.equalIn, run_underlying ht], noagg (by simp), rfl⟩
    · simp [Tr.get] at h
  · split at h
    · rename_i ht
      simp [Tr.get] at h; subst h
      simp [den] at hx hy; subst hx; subst hy
      exact ⟨equal_run fun d => by simp [Op.equalIn, run_underlying ht], noagg (by simp), rfl⟩
    · simp [Tr.get] at h
  · split at h
    · rename_i h1 h2 h3 h4
      rw [Tr.get_ofOpt] at h
      obtain ⟨a, rfl⟩ := is_agg hx h1
      obtain ⟨b, rfl⟩ := is_agg hy h2
      exact ⟨eqT_equal R hx hy (by simp [shp, h3, h1]) (by simp [shp, h3, h2]) h, fun _ => noG_eq h4, rfl⟩
    · simp [Tr.get] at h
end sound
def eqvN (P : Program) (look : Nat → Option (SO C)) (t : TypeId) (x y : SV) : Tr Bool :=
  match x, y with
  | .h id, .raw (.map none) => match look id, P.underlying t with
    | some (.mp _ _ _), some (.map _ _) => .leaf false
    | some (.mv _ _ _ _ _ _ _), some (.map _ _) => .leaf false
    | some (.mx _ _ _ _ _), some (.map _ _) => .leaf false
    | _, _ => .fail
  | .raw (.map none), .raw (.map none) => match P.underlying t with
    | some (.map _ _) => .leaf true
    | _ => .fail
  | .h id, .raw (.slice none a b) => match look id with
    | some (.sl _ _ _ _) => eqv P look t (.h id) (.raw (.slice none a b))
    | some o => match o.isSl, P.underlying t with
      | true, some (.slice _) => .leaf false
      | _, _ => .fail
    | none => .fail
  | .bs _ _ _ _, .raw (.slice none _ _) => match P.underlying t with
    | some (.slice _) => .leaf false
    | _ => .fail
  | .ifc _ _, .raw .nilIface => match P.underlying t with
    | some (.interface _) => .leaf false
    | _ => .fail
  | x, y => eqv P look t x y
section sound
variable {B : World} {X : Own} {ρ : Asg} {hp : Hp C} {n : Nat} {w : World}
theorem eqvN_sound (R : Rel B X ρ hp n w) {t : TypeId} {x y : SV} {vx vy : Value} {r : Bool} (hx : den ρ x = some vx) (hy : den ρ y = some vy) (h : (eqvN P (fun i => find i hp) t x y).get = some r) :
    (Op.equal t vx vy).run P w = .ok r w ∧ ((∃ a b, vx = .agg a ∧ vy = .agg b) → P.eqGuardType P.depth t = false) ∧ plainEq vx vy = true := by
  have noagg : ∀ {a b : Value}, (∀ c, a ≠ .agg c) → ((∃ x y, a = .agg x ∧ b = .agg y) → P.eqGuardType P.depth t = false) := fun h ⟨x, _, e, _⟩ => absurd e (h x)
  unfold eqvN at h
  split at h
  · rename_i id
    split at h
    · rename_i hid ht
      simp [Tr.get] at h; subst h
      obtain ⟨v', hv', g, es, clock, rfl, _⟩ := R.obj id _ hid
      simp only [den] at hx; rw [hx] at hv'; cases hv'
      simp [den] at hy; subst hy
      exact ⟨equal_run fun d => by simp [Op.equalIn, run_underlying ht], noagg (by simp), rfl⟩
    · rename_i hid ht
      simp [Tr.get] at h; subst h
      obtain ⟨v', hv', g, es, clock, us, rfl, _⟩ := R.obj id _ hid
      simp only [den] at hx; rw [hx] at hv'; cases hv'
      simp [den] at hy; subst hy
      exact ⟨equal_run fun d => by simp [Op.equalIn, run_underlying ht], noagg (by simp), rfl⟩
    · rename_i hid ht
      simp [Tr.get] at h; subst h
      obtain ⟨v', hv', g, es, clock, us, rfl, _⟩ := R.obj id _ hid
      simp only [den] at hx; rw [hx] at hv'; cases hv'
      simp [den] at hy; subst hy
      exact ⟨equal_run fun d => by simp [Op.equalIn, run_underlying ht], noagg (by simp), rfl⟩
    · simp [Tr.get] at h
  · split at h
    · rename_i ht
      simp [Tr.get] at h; subst h
      simp [den] at hx hy; subst hx; subst hy
      exact ⟨equal_run fun d => by simp [Op.equalIn, run_underlying ht], noagg (by simp), rfl⟩
    · simp [Tr.get] at h
  · rename_i id _ _
    split at h
    · exact eqv_sound R hx hy h
    · rename_i o _ hid
      split at h
      · rename_i el ho ht
        simp [Tr.get] at h; subst h
        simp only [den] at hx
        simp [den] at hy; subst hy
        obtain ⟨v', hv', hok⟩ := R.obj id _ hid
        rw [hx] at hv'; cases hv'
        obtain ⟨a, l, c, rfl⟩ := hok.sl ho
        have hnn := R.nn id _ _ hid ho hx
        cases a with
        | none => simp [nnV] at hnn
        | some b => exact ⟨equal_run fun d => by simp [Op.equalIn, run_underlying ht], noagg (by simp), rfl⟩
      · simp [Tr.get] at h
    · simp [Tr.get] at h
  · split at h
    · rename_i ht
      simp [Tr.get] at h; subst h
      simp only [den, Option.bind_eq_some_iff, Option.map_eq_some_iff] at hx
      obtain ⟨_, _, b, _, rfl⟩ := hx
      simp [den] at hy; subst hy
      exact ⟨equal_run fun d => by simp [Op.equalIn, run_underlying ht], noagg (by simp), rfl⟩
    · simp [Tr.get] at h
  · split at h
    · rename_i ht
      simp [Tr.get] at h; subst h
      simp only [den, Option.bind_eq_some_iff] at hx
      obtain ⟨l, _, hx⟩ := hx
      obtain ⟨u, _, rfl⟩ := ifcV_some hx
      simp [den] at hy; subst hy
      exact ⟨equal_run fun d => by simp [Op.equalIn, run_underlying ht], noagg (by simp), rfl⟩
    · simp [Tr.get] at h
  · exact eqv_sound R hx hy h
end sound
def strBin (op : BinOp) (a b : ByteArray) : Tr SV := match op with
  | .add => .br (decide (((a.size + b.size : Nat) : Int) > 9223372036854775807)) .fail (.leaf (.raw (.string (a ++ b))))
  | .eql => .leaf (.raw (.bool (a.toList == b.toList)))
  | .neq => .leaf (.raw (.bool (!(a.toList == b.toList))))
  | .lss => .leaf (.raw (.bool (Op.bytesLess a.toList b.toList)))
  | _ => .fail
theorem strBin_sound {op : BinOp} {a b : ByteArray} {x : SV} (h : (strBin op a b).get = some x) (t : TypeId) (w : World) :
    ∃ u, (binOp op t (.string a) (.string b)).run P w = .ok u w ∧ x = .raw u := by
  unfold strBin at h
  split at h
  · rcases Tr.get_br.1 h with ⟨_, h⟩ | ⟨hb, h⟩
    · simp [Tr.get] at h
    · simp [Tr.get] at h; subst h
      have hb' : ¬ (((a.size + b.size : Nat) : Int) > 9223372036854775807) := of_decide_eq_false hb
      refine ⟨_, ?_, rfl⟩
      simp only [binOp, Op.stringOp, IntKind.max_i64, hb', if_false, Sem.run_pure]
  · simp [Tr.get] at h; subst h; exact ⟨_, by simp [binOp, Op.stringOp], rfl⟩
  · simp [Tr.get] at h; subst h; exact ⟨_, by simp [binOp, Op.stringOp], rfl⟩
  · simp [Tr.get] at h; subst h; exact ⟨_, by simp [binOp, Op.stringOp], rfl⟩
  · simp [Tr.get] at h
def pBin (P : Program) (look : Nat → Option (SO C)) (op : BinOp) (t : TypeId) (x y : SV) : Tr SV :=
  match x, y with
  | .raw (.int k a), .raw (.int k' b) => binInt op k k' a b
  | .raw (.string a), .raw (.string b) => strBin op a b
  | x, y => match op with
    | .eql => (eqvN P look t x y).bind fun b => .leaf (.raw (.bool b))
    | .neq => (eqvN P look t x y).bind fun b => .leaf (.raw (.bool (!b)))
    | _ => .fail
section sound
variable {B : World} {X : Own} {ρ : Asg} {hp : Hp C} {n : Nat} {w : World}
theorem pBin_sound (R : Rel B X ρ hp n w) {op : BinOp} {t : TypeId} {x y r : SV} {vx vy : Value} (ox oy : Operand) (h : (pBin P (fun i => find i hp) op t x y).get = some r) (hx : den ρ x = some vx) (hy : den ρ y = some vy) :
    PureOk P ρ w (do eqGuard op t ox oy vx vy; binOp op t vx vy) r := by
  unfold pBin at h
  split at h
  · simp [den] at hx hy; subst hx; subst hy
    obtain ⟨u, h1, rfl⟩ := binInt_sound h t w
    refine ⟨u, ?_, rfl⟩
    rw [Sem.run_bind, eqGuard_ok (by rintro ⟨_, _, e, _⟩; cases e) (by rintro ⟨e, _⟩; cases e)]
    exact h1
  · simp [den] at hx hy; subst hx; subst hy
    obtain ⟨u, h1, rfl⟩ := strBin_sound h t w
    refine ⟨u, ?_, rfl⟩
    rw [Sem.run_bind, eqGuard_ok (by rintro ⟨_, _, e, _⟩; cases e) (by rintro ⟨e, _⟩; cases e)]
    exact h1
  · split at h
    · obtain ⟨b, h1, h2⟩ := Tr.get_bind h
      simp [Tr.get] at h2; subst h2
      obtain ⟨h3, h4, h5⟩ := eqvN_sound R hx hy h1
      refine ⟨.bool b, ?_, rfl⟩
      rw [Sem.run_bind, eqGuard_ok h4 (by rintro ⟨rfl, rfl⟩; cases h5), Result.andThen_ok, binOp_eql_plain h5, Sem.run_bind, h3]
      rfl
    · obtain ⟨b, h1, h2⟩ := Tr.get_bind h
      simp [Tr.get] at h2; subst h2
      obtain ⟨h3, h4, h5⟩ := eqvN_sound R hx hy h1
      refine ⟨.bool (!b), ?_, rfl⟩
      rw [Sem.run_bind, eqGuard_ok h4 (by rintro ⟨rfl, rfl⟩; cases h5), Result.andThen_ok, binOp_neq_plain h5, Sem.run_bind, h3]
      rfl
    · simp [Tr.get] at h
end sound
end
end Go.Sx
/-
  The symbolic evaluator: places, parts and small builtins. Own work; nothing here is trusted.
-/
namespace Go.Sx
noncomputable section
open Go.RowKit
variable {C : Tab} {P : Program}
def pUn (op : UnOp) (x : SV) : Tr SV := match op, x with
  | .not, .raw (.bool b) => .leaf (.raw (.bool (!b)))
  | .neg, .raw (.int k n) => arith k (0 - n)
  | .xor, .raw (.int k n) => .leaf (.raw (.int k (bitsV k .xor (if k.signed then -1 else k.max) n)))
  | _, _ => .fail
def pConv (P : Program) (s t : TypeId) (x : SV) : Tr SV := match P.underlying s, P.underlying t, x with
  | some _, some (.int k), .raw (.int _ n) => arith k n
  | some _, some .string, .raw (.string b) => .leaf (.raw (.string b))
  | _, _, _ => .fail
def addOff (look : Nat → Option (SO C)) (x : SV) (o : Nat) : Tr SV := match x with
  | .h id => match look id with
    | some (.box _ _) => .leaf (.ep id o)
    | some (.pt _ _) => .leaf (.ep id o)
    | _ => .fail
  | .ep id off => .leaf (.ep id (off + o))
  | .el id i sz j => .leaf (.el id i sz (j + o))
  | _ => .fail
def pFieldAddr (P : Program) (look : Nat → Option (SO C)) (t : TypeId) (x : SV) (f : Nat) : Tr SV := match P.underlying t with
  | some (.struct fs) => match fs[f]? with
    | some fd => match szOf P fd.type with
      | some (_ + 1) => addOff look x fd.offset
      | _ => .fail
    | none => .fail
  | _ => .fail
def partV (P : Program) (t : TypeId) (x : SV) (off : Nat) : Tr SV := match isAggS x with
  | true => match partS P t (cellsS x) off with
    | some l => mkV P t l
    | none => .fail
  | false => .fail
def pField (P : Program) (t : TypeId) (x : SV) (f : Nat) : Tr SV := match P.underlying t with
  | some (.struct fs) => match fs[f]? with
    | some fd => partV P fd.type x fd.offset
    | none => .fail
  | _ => .fail
def inB (i : Int) (n : Nat) : Bool := decide (0 ≤ i) && decide (i < n)
theorem inB_spec {i : Int} {n : Nat} (h : inB i n = true) : 0 ≤ i ∧ i < n := by
  unfold inB at h
  simpa using h
theorem inB_mk {i : Int} {n : Nat} (h : 0 ≤ i ∧ i < n) : inB i n = true := by
  unfold inB
  rw [decide_eq_true h.1, decide_eq_true h.2]; rfl
def pIndex (P : Program) (t : TypeId) (x i : SV) : Tr SV := match P.underlying t, x, i with
  | some .string, .raw (.string s), .raw (.int _ i) => .br (inB i s.size) (.leaf (.raw (.int .u8 (s.data.toList.getD i.toNat 0).toNat))) .fail
  | some (.array len e), x, .raw (.int _ i) => match szOf P e with
    | some k => .br (inB i len) (partV P e x (i.toNat * k)) .fail
    | none => .fail
  | _, _, _ => .fail
def pIndexAddr (P : Program) (look : Nat → Option (SO C)) (t : TypeId) (x i : SV) : Tr SV := match P.underlying t, x, i with
  | some (.array len e), x, .raw (.int _ i) => match szOf P e with
    | some k => .br (inB i len) (addOff look x (i.toNat * k)) .fail
    | none => .fail
  | some (.slice e), .h id, .raw (.int _ i) => match look id, szOf P e with
    | some (.sl _ _ e' ts), some k => match Nat.beq k (C e').sz with
      | true => .br (inB i ts.length) (.leaf (.el id i.toNat k 0)) .fail
      | false => .fail
    | some (.ss e' _ _ ts), some k => match Nat.beq k (C e').sz with
      | true => .br (inB i ts.length) (.leaf (.el id i.toNat k 0)) .fail
      | false => .fail
    | _, _ => .fail
  | some (.slice e), .bs id off len _, .raw (.int _ i) => match szOf P e with
    | some k => .br (inB i len) (.leaf (.ep id (off + i.toNat * k))) .fail
    | none => .fail
  | some (.slice e), .vs id sz bs off len _, .raw (.int _ i) => match look id, szOf P e with
    | some (.sl _ _ e' ts), some k => match Nat.beq k (C e').sz, Nat.beq sz k with
      | true, true => .br (inB i len) (.br (decide (off + i.toNat < ts.length)) (.leaf (.el id (off + i.toNat) k 0)) .fail) .fail
      | _, _ => .fail
    | _, _ => .fail
  | _, _, _ => .fail
def pExtract (x : SV) (i : Nat) : Tr SV := match x with
  | .tup vs => Tr.ofOpt vs[i]?
  | .raw (.tuple a) => match a[i]? with
    | some v => .leaf (.raw v)
    | none => .fail
  | _ => .fail
def pPick (c a b : SV) : Tr SV := match c with
  | .raw (.bool c) => match a, b with
    | .raw (.bool x), .raw (.bool y) => .leaf (.raw (.bool (match c with | true => x | false => y)))
    | a, b => .br c (.leaf a) (.leaf b)
  | _ => .fail
def pLen (P : Program) (look : Nat → Option (SO C)) (t : TypeId) (x : SV) : Tr SV := match P.underlying t, x with
  | some .string, .raw (.string s) => .leaf (.raw (.int .i64 s.size))
  | some (.array n _), _ => .leaf (.raw (.int .i64 n))
  | some (.slice _), .raw (.slice _ n _) => .leaf (.raw (.int .i64 n))
  | some (.slice _), .bs _ _ n _ => .leaf (.raw (.int .i64 n))
  | some (.slice _), .vs _ _ _ _ n _ => .leaf (.raw (.int .i64 n))
  | some (.slice _), .h id => match look id with
    | some (.sl _ _ _ ts) => .leaf (.raw (.int .i64 ts.length))
    | some (.ss _ _ _ ts) => .leaf (.raw (.int .i64 ts.length))
    | _ => .fail
  | _, _ => .fail
def pMin (x y : SV) : Tr SV := match x, y with
  | .raw (.int k a), .raw (.int _ b) => .br (decide (b < a)) (.leaf (.raw (.int k b))) (.leaf (.raw (.int k a)))
  | _, _ => .fail
def pMax (x y : SV) : Tr SV := match x, y with
  | .raw (.int k a), .raw (.int _ b) => .br (decide (b > a)) (.leaf (.raw (.int k b))) (.leaf (.raw (.int k a)))
  | _, _ => .fail
section sound
variable {B : World} {X : Own} {ρ : Asg} {hp : Hp C} {n : Nat} {w : World}
theorem pUn_sound {op : UnOp} {x r : SV} {v : Value} (h : (pUn op x).get = some r) (hx : den ρ x = some v) : PureOk P ρ w (Op.unary op v) r := by
  unfold pUn at h
  split at h
  · simp [Tr.get] at h; simp [den] at hx; subst h; subst hx
    exact ⟨_, by simp [Op.unary], rfl⟩
  · simp [den] at hx; subst hx
    rw [arith_get h]
    exact ⟨_, by simp [Op.unary, Op.intArith], rfl⟩
  · simp [Tr.get] at h; simp [den] at hx; subst h; subst hx
    exact ⟨_, by simp only [Op.unary, Op.intBits, bitsV]; rfl, rfl⟩
  · simp [Tr.get] at h
theorem pConv_sound {s t : TypeId} {x r : SV} {v : Value} (h : (pConv P s t x).get = some r) (hx : den ρ x = some v) : PureOk P ρ w (convert s t v) r := by
  unfold pConv at h
  split at h
  · rename_i hs ht
    simp [den] at hx; subst hx
    rw [arith_get h]
    exact ⟨_, by simp [convert, run_underlying hs, run_underlying ht, Conv.intToInt], rfl⟩
  · rename_i hs ht
    simp [Tr.get] at h; simp [den] at hx; subst h; subst hx
    exact ⟨_, by simp [convert, run_underlying hs, run_underlying ht], rfl⟩
  · simp [Tr.get] at h
theorem addOff_sound (R : Rel B X ρ hp n w) {x r : SV} {o : Nat} {v : Value} (h : (addOff (fun i => find i hp) x o).get = some r) (hx : den ρ x = some v) :
    ∃ a, v = .pointer (some a) ∧ den ρ r = some (.pointer (some (a.add o))) := by
  unfold addOff at h
  split at h
  · rename_i id
    split at h
    · rename_i hid
      simp [Tr.get] at h; subst h
      obtain ⟨v', hv', g, vs, rfl, _⟩ := R.obj id _ hid
      simp only [den] at hx; rw [hx] at hv'; cases hv'
      exact ⟨_, rfl, by simp [den, hx, baseOf]⟩
    · rename_i hid
      simp [Tr.get] at h; subst h
      obtain ⟨v', hv', g, us, rfl, _⟩ := R.obj id _ hid
      simp only [den] at hx; rw [hx] at hv'; cases hv'
      exact ⟨_, rfl, by simp [den, hx, baseOf]⟩
    · simp [Tr.get] at h
  · simp [Tr.get] at h; subst h
    simp only [den, Option.bind_eq_some_iff, Option.map_eq_some_iff] at hx
    obtain ⟨u, hu, a, ha, rfl⟩ := hx
    exact ⟨_, rfl, by simp [den, hu, ha, Addr.add_add]⟩
  · simp [Tr.get] at h; subst h
    simp only [den, Option.bind_eq_some_iff, Option.map_eq_some_iff] at hx
    obtain ⟨u, hu, a, ha, rfl⟩ := hx
    exact ⟨_, rfl, by simp [den, hu, ha, Addr.add_add, Nat.add_assoc]⟩
  · simp [Tr.get] at h
theorem pFieldAddr_sound (R : Rel B X ρ hp n w) {t : TypeId} {x r : SV} {f : Nat} {v : Value} (h : (pFieldAddr P (fun i => find i hp) t x f).get = some r) (hx : den ρ x = some v) :
    PureOk P ρ w (Instr.fieldAt t v f) r := by
  unfold pFieldAddr at h
  split at h
  · rename_i fs ht
    split at h
    · rename_i fd hf
      split at h
      · rename_i k hk
        obtain ⟨a, rfl, hd⟩ := addOff_sound R h hx
        refine ⟨_, ?_, hd⟩
        simp [Instr.fieldAt, run_underlying ht, hf, Instr.sureAddr, fieldPlace, run_sizeOf hk]
      · simp [Tr.get] at h
    · simp [Tr.get] at h
  · simp [Tr.get] at h
theorem partV_sound (R : Rel B X ρ hp n w) {t : TypeId} {x r : SV} {off : Nat} {v : Value} (h : (partV P t x off).get = some r) (hx : den ρ x = some v) :
    ∃ a, v = .agg a ∧ PureOk P ρ w (part t a off) r := by
  unfold partV at h
  split at h
  · rename_i hs
    obtain ⟨a, rfl⟩ := is_agg hx hs
    refine ⟨a, rfl, ?_⟩
    have hc := den_cells hx R.one
    split at h
    · rename_i l hl
      obtain ⟨ls, h1, h2, h3⟩ := part_run hl hc w
      simp only [Value.cells, Array.toArray_toList] at h2 h3
      unfold mkV at h
      split at h
      · rename_i hag
        simp [Tr.get] at h; subst h
        exact ⟨_, h2 hag, by simp [den, h1]⟩
      · rename_i hag
        split at h
        · simp [Tr.get] at h; subst h
          obtain ⟨u, l', h4, h5, rfl⟩ := denL_cons.1 h1
          rw [denL_nil.1 h5] at h3
          exact ⟨_, h3 u hag rfl, h4⟩
        · simp [Tr.get] at h
      · simp [Tr.get] at h
    · simp [Tr.get] at h
  · simp [Tr.get] at h
theorem pField_sound (R : Rel B X ρ hp n w) {t : TypeId} {x r : SV} {f : Nat} {v : Value} (h : (pField P t x f).get = some r) (hx : den ρ x = some v) :
    PureOk P ρ w (Instr.field t v f) r := by
  unfold pField at h
  split at h
  · rename_i fs ht
    split at h
    · rename_i fd hf
      obtain ⟨a, rfl, u, h1, h2⟩ := partV_sound R h hx
      exact ⟨u, by simp [Instr.field, run_underlying ht, hf, asAgg, h1], h2⟩
    · simp [Tr.get] at h
  · simp [Tr.get] at h
theorem pIndex_sound (R : Rel B X ρ hp n w) {t : TypeId} {x i r : SV} {v vi : Value} (h : (pIndex P t x i).get = some r) (hx : den ρ x = some v) (hi : den ρ i = some vi) :
    PureOk P ρ w (Instr.index t v vi) r := by
  unfold pIndex at h
  split at h
  · rename_i s k i ht
    obtain ⟨hb, h⟩ := Tr.get_ask.1 h
    obtain ⟨h0, h1⟩ := inB_spec hb
    simp only [Tr.get, Option.some.injEq] at h; subst h
    simp [den] at hx hi; subst hx; subst hi
    have hlt : i.toNat < s.size := by omega
    have e : s[i.toNat]? = some s[i.toNat] := by simp [hlt]
    refine ⟨.int .u8 (s[i.toNat]).toNat, ?_, ?_⟩
    · simp [Instr.index, asIntOf, run_underlying ht, h0, e]
    · have h2 : i.toNat < s.data.toList.length := by simpa using hlt
      have : s.data.toList.getD i.toNat 0 = s[i.toNat] := by
        simp only [List.getD, List.getElem?_eq_getElem h2]; rfl
      rw [this]; rfl
  · rename_i len e k i ht
    split at h
    · rename_i sz hsz
      obtain ⟨hb, h⟩ := Tr.get_ask.1 h
      obtain ⟨h0, h1⟩ := inB_spec hb
      simp [den] at hi; subst hi
      obtain ⟨a, rfl, u, h2, h3⟩ := partV_sound R h hx
      exact ⟨u, by simp [Instr.index, asIntOf, run_underlying ht, h0, h1, run_sizeOf hsz, h2], h3⟩
    · simp [Tr.get] at h
  · simp [Tr.get] at h
theorem pIndexAddr_sound (R : Rel B X ρ hp n w) {t : TypeId} {x i r : SV} {v vi : Value} (h : (pIndexAddr P (fun i => find i hp) t x i).get = some r) (hx : den ρ x = some v) (hi : den ρ i = some vi) :
    PureOk P ρ w (Instr.indexAt t v vi) r := by
  unfold pIndexAddr at h
  split at h
  · rename_i len e k i ht
    split at h
    · rename_i sz hsz
      obtain ⟨hb, h⟩ := Tr.get_ask.1 h
      obtain ⟨h0, h1⟩ := inB_spec hb
      simp [den] at hi; subst hi
      obtain ⟨a, rfl, hd⟩ := addOff_sound R h hx
      exact ⟨_, by simp [Instr.indexAt, asIntOf, run_underlying ht, Instr.sureAddr, h0, h1, run_sizeOf hsz], hd⟩
    · simp [Tr.get] at h
  · rename_i e id k i ht
    split at h
    · rename_i own full e' ts sz hid hsz
      split at h
      · rename_i hbe
        have hbe := Nat.eq_of_beq_eq_true hbe
        subst hbe
        obtain ⟨hb, h⟩ := Tr.get_ask.1 h
        obtain ⟨h0, h1⟩ := inB_spec hb
        simp [Tr.get] at h; subst h
        simp [den] at hi hx; subst hi
        obtain ⟨a, cap, rfl, hc, hcell⟩ := flat_cell R hid hx
        have hlt : i.toNat < ts.length := by omega
        obtain ⟨x0, hx0⟩ : ∃ x, ((C e').enc (ts.getD i.toNat (C e').d))[0]? = some x := ⟨_, List.getElem?_eq_getElem (by rw [(C e').len]; exact (C e').pos)⟩
        obtain ⟨a', rfl, _⟩ := hcell _ x0 (((C e').flat_get ts i.toNat 0 hlt (C e').pos).trans hx0)
        exact ⟨_, by simp [Instr.indexAt, asIntOf, run_underlying ht, h0, h1, run_sizeOf hsz]; rfl, by simp [den, hx, baseOf]⟩
      · simp [Tr.get] at h
    · rename_i e' pos it ts sz hid hsz
      split at h
      · rename_i hbe
        have hbe := Nat.eq_of_beq_eq_true hbe
        subst hbe
        obtain ⟨hb, h⟩ := Tr.get_ask.1 h
        obtain ⟨h0, h1⟩ := inB_spec hb
        simp [Tr.get] at h; subst h
        simp [den] at hi hx; subst hi
        obtain ⟨v', hv', a, cap, rfl, hc, hcell⟩ := R.obj id _ hid
        rw [hx] at hv'; cases hv'
        have hnn := R.nn id _ _ hid rfl hx
        cases a with
        | none => simp [nnV] at hnn
        | some a' => exact ⟨_, by simp [Instr.indexAt, asIntOf, run_underlying ht, h0, h1, run_sizeOf hsz]; rfl, by simp [den, hx, baseOf]⟩
      · simp [Tr.get] at h
    · simp [Tr.get] at h
  · rename_i e id off len cap k i ht
    split at h
    · rename_i sz hsz
      obtain ⟨hb, h⟩ := Tr.get_ask.1 h
      obtain ⟨h0, h1⟩ := inB_spec hb
      simp [Tr.get] at h; subst h
      simp [den] at hi; subst hi
      simp only [den, Option.bind_eq_some_iff, Option.map_eq_some_iff] at hx
      obtain ⟨u, hu, a, ha, rfl⟩ := hx
      exact ⟨_, by simp [Instr.indexAt, asIntOf, run_underlying ht, h0, h1, run_sizeOf hsz]; rfl, by simp [den, hu, ha, Addr.add_add]⟩
    · simp [Tr.get] at h
  · rename_i e id sz0 bs off len cap k i ht
    split at h
    · rename_i own full e' ts sz hid hsz
      split at h
      · rename_i hb1 hb2
        have hb1 := Nat.eq_of_beq_eq_true hb1
        have hb2 := Nat.eq_of_beq_eq_true hb2
        subst hb2
        obtain ⟨hb, h⟩ := Tr.get_ask.1 h
        obtain ⟨h0, h1⟩ := inB_spec hb
        obtain ⟨hlt, h⟩ := Tr.get_ask.1 h
        have hlt := of_decide_eq_true hlt
        simp [Tr.get] at h; subst h
        simp [den] at hi; subst hi
        obtain ⟨a, c, hv, hc, _, rfl, hcell⟩ := vs_den R hid hx
        have hne : ¬ off = c := by omega
        rw [if_neg hne]
        exact ⟨_, by simp [Instr.indexAt, asIntOf, run_underlying ht, h0, h1, run_sizeOf hsz]; rfl, by simp [den, hv, baseOf, Addr.add_add, Nat.add_mul]⟩
      · simp [Tr.get] at h
    · simp [Tr.get] at h
  · simp [Tr.get] at h
theorem pExtract_sound {x r : SV} {i : Nat} {v : Value} (h : (pExtract x i).get = some r) (hx : den ρ x = some v) : PureOk P ρ w (Instr.extract v i) r := by
  unfold pExtract at h
  split at h
  · rw [Tr.get_ofOpt] at h
    simp only [den, Option.map_eq_some_iff] at hx
    obtain ⟨l, hl, rfl⟩ := hx
    obtain ⟨u, h1, h2⟩ := denL_get i hl h
    exact ⟨u, by simp [Instr.extract, h2], h1⟩
  · split at h
    · rename_i v0 hv0
      simp [Tr.get] at h; simp [den] at hx; subst h; subst hx
      exact ⟨v0, by simp [Instr.extract, hv0], rfl⟩
    · simp [Tr.get] at h
  · simp [Tr.get] at h
theorem pPick_sound {c a b r : SV} {vc va vb : Value} (h : (pPick c a b).get = some r) (hc : den ρ c = some vc) (ha : den ρ a = some va) (hb : den ρ b = some vb) :
    ∃ q, vc = .bool q ∧ den ρ r = some (if q then va else vb) := by
  unfold pPick at h
  split at h
  · rename_i q
    simp [den] at hc; subst hc
    refine ⟨q, rfl, ?_⟩
    split at h
    · simp [Tr.get] at h; simp [den] at ha hb; subst h; subst ha; subst hb
      cases q <;> rfl
    · rcases Tr.get_br.1 h with ⟨rfl, h⟩ | ⟨rfl, h⟩ <;> (simp [Tr.get] at h; subst h)
      · simpa using ha
      · simpa using hb
  · simp [Tr.get] at h
theorem pLen_sound (R : Rel B X ρ hp n w) {t ty : TypeId} {x r : SV} {v : Value} (h : (pLen P (fun i => find i hp) t x).get = some r) (hx : den ρ x = some v) : PureOk P ρ w (Builtin.len_ #[t] ty #[v]) r := by
  unfold pLen at h
  split at h
  · rename_i ht
    simp [Tr.get] at h; simp [den] at hx; subst h; subst hx
    exact ⟨_, by simp [Builtin.len_, run_underlying ht, goInt], rfl⟩
  · rename_i ht
    simp [Tr.get] at h; subst h
    exact ⟨_, by simp [Builtin.len_, run_underlying ht, goInt], rfl⟩
  · rename_i ht
    simp [Tr.get] at h; simp [den] at hx; subst h; subst hx
    exact ⟨_, by simp [Builtin.len_, run_underlying ht, goInt], rfl⟩
  · rename_i ht
    simp [Tr.get] at h; subst h
    simp only [den, Option.bind_eq_some_iff, Option.map_eq_some_iff] at hx
    obtain ⟨u, hu, a, ha, rfl⟩ := hx
    exact ⟨_, by simp [Builtin.len_, run_underlying ht, goInt], rfl⟩
  · rename_i ht
    simp [Tr.get] at h; subst h
    simp only [den, Option.bind_eq_some_iff] at hx
    obtain ⟨u, hu, hx⟩ := hx
    unfold vsV at hx
    split at hx
    · cases hx
      exact ⟨_, by simp [Builtin.len_, run_underlying ht, goInt], rfl⟩
    · cases hx
  · rename_i ht
    split at h
    · rename_i hid
      simp [Tr.get] at h; subst h
      obtain ⟨a, cap, rfl, _, _⟩ := flat_cell R hid hx
      exact ⟨_, by simp [Builtin.len_, run_underlying ht, goInt], rfl⟩
    · rename_i hid
      simp [Tr.get] at h; subst h
      obtain ⟨v', hv', a, cap, rfl, _⟩ := R.obj _ _ hid
      have hx : ρ _ = some v := hx
      rw [hx] at hv'; cases hv'
      exact ⟨_, by simp [Builtin.len_, run_underlying ht, goInt], rfl⟩
    · simp [Tr.get] at h
  · simp [Tr.get] at h
theorem pMin_sound {x y r : SV} {a b : Value} (h : (pMin x y).get = some r) (hx : den ρ x = some a) (hy : den ρ y = some b) (ts : Array TypeId) (ty : TypeId) : PureOk P ρ w (Builtin.min_ ts ty #[a, b]) r := by
  unfold pMin at h
  split at h
  · simp [den] at hx hy; subst hx; subst hy
    rcases Tr.get_br.1 h with ⟨hb, h⟩ | ⟨hb, h⟩ <;> (simp [Tr.get] at h; subst h)
    · have hb := of_decide_eq_true hb
      exact ⟨_, by simp [Builtin.min_, Builtin.min2, hb], rfl⟩
    · have hb := of_decide_eq_false hb
      exact ⟨_, by simp [Builtin.min_, Builtin.min2, hb], rfl⟩
  · simp [Tr.get] at h
theorem pMax_sound {x y r : SV} {a b : Value} (h : (pMax x y).get = some r) (hx : den ρ x = some a) (hy : den ρ y = some b) (ts : Array TypeId) (ty : TypeId) : PureOk P ρ w (Builtin.max_ ts ty #[a, b]) r := by
  unfold pMax at h
  split at h
  · simp [den] at hx hy; subst hx; subst hy
    rcases Tr.get_br.1 h with ⟨hb, h⟩ | ⟨hb, h⟩ <;> (simp [Tr.get] at h; subst h)
    · have hb := of_decide_eq_true hb
      exact ⟨_, by simp [Builtin.max_, Builtin.max2, hb], rfl⟩
    · have hb := of_decide_eq_false hb
      exact ⟨_, by simp [Builtin.max_, Builtin.max2, hb], rfl⟩
  · simp [Tr.get] at h
end sound
end
end Go.Sx
/-
  The symbolic evaluator: operations that lay new memory. Own work; nothing here is trusted.
-/
namespace Go.Sx
noncomputable section
open Go.RowKit
variable {C : Tab} {P : Program}
def NewOk (P : Program) (B : World) (X : Own) (ρ : Asg) (hp : Hp C) (n : Nat) (w : World) (s : Sem Value) (r : Res C) : Prop :=
  ∃ v w' ρ', s.run P w = .ok v w' ∧ ρ.le ρ' ∧ den ρ' r.1 = some v ∧ Rel B X ρ' (r.2 ++ hp) (n + 4) w'
def pAlloc (P : Program) (n : Nat) (t : TypeId) : Tr (Res C) := match zeroT P t with
  | some z => .leaf (.h n, [(n, .box (cellsS (.raw z)) t)])
  | none => .fail
def pBox (n : Nat) (t : TypeId) (x : SV) : Tr (Res C) := forceL (cellsS x) fun l => .leaf (.h n, [(n, .box l t)])
section sound
variable {B : World} {X : Own} {ρ : Asg} {hp : Hp C} {n : Nat} {w : World}
theorem newBox (R : Rel B X ρ hp n w) {l : List SV} {vs : List Value} {t : TypeId} (hd : denL ρ l = some vs) :
    Rel B X (ρ.add n (.pointer (some ⟨w.heap.size, 0, none⟩))) ((n, .box l t) :: hp) (n + 4) (w.alloc (.cells vs.toArray t)) :=
  Rel.shift (R.addNew (.cells vs.toArray t) (o := .box l t) (v := .pointer (some ⟨w.heap.size, 0, none⟩)) rfl (fun g hg => by simp [blk] at hg; exact hg.symm)
    ⟨w.heap.size, vs, rfl, .inl R.size, hd, heap_alloc_new w _⟩) (by omega)
theorem newVar_run {t : TypeId} {v : Value} : (newVar t v).run P w = .ok ⟨w.heap.size, 0, none⟩ (w.alloc (.cells v.cells t)) := by
  simp [newVar, newRow]
theorem pAlloc_sound (R : Rel B X ρ hp n w) {t : TypeId} {r : Res C} (h : (pAlloc P n t).get = some r) : NewOk P B X ρ hp n w (Instr.alloc t true (.tuple #[])) r := by
  unfold pAlloc at h
  split at h
  · rename_i z hz
    simp only [Tr.get, Option.some.injEq] at h; subst h
    have hc : denL ρ (cellsS (.raw z)) = some z.cells.toList := den_cells (v := z) rfl R.one
    have := newBox R (t := t) hc
    simp only [Array.toArray_toList] at this
    refine ⟨.pointer (some ⟨w.heap.size, 0, none⟩), _, _, ?_, Asg.le_add ρ n _ (R.fresh n (Nat.le_refl _)), Asg.add_self ρ n _, this⟩
    simp only [Instr.alloc, Sem.run_bind, run_zeroValue hz, Result.andThen_ok, newVar_run, Sem.run_pure]
  · simp [Tr.get] at h
theorem pBox_sound (R : Rel B X ρ hp n w) {t : TypeId} {x : SV} {r : Res C} {v : Value} (h : (pBox n t x).get = some r) (hx : den ρ x = some v) : NewOk P B X ρ hp n w (Instr.box t v) r := by
  unfold pBox at h
  rw [forceL_eq] at h
  simp only [Tr.get, Option.some.injEq] at h; subst h
  have := newBox R (t := t) (den_cells hx R.one)
  simp only [Array.toArray_toList] at this
  refine ⟨.pointer (some ⟨w.heap.size, 0, none⟩), _, _, ?_, Asg.le_add ρ n _ (R.fresh n (Nat.le_refl _)), Asg.add_self ρ n _, this⟩
  simp only [Instr.box, Sem.run_bind, Result.andThen_ok, newVar_run, Sem.run_pure]
end sound
def fillS (place : Nat → Option (Nat × Nat)) (cells : List SV) : List (Nat × SV) → Option (List SV)
  | [] => some cells
  | (i, v) :: rest => match place i with
    | none => none
    | some (off, size) => match Nat.beq (cellsS v).length size with
      | true => match Nat.ble (off + (cellsS v).length) cells.length with
        | true => fillS place (spliceS cells off (cellsS v)) rest
        | false => none
      | false => none
theorem foldl_set (off : Nat) : ∀ (l : List Value) (k : Nat) (cs : Array Value), off + k + l.length ≤ cs.size →
    (l.zipIdx k).foldl (fun cs (x : Value × Nat) => cs.setIfInBounds (off + x.2) x.1) cs = (cs.toList.take (off + k) ++ l ++ cs.toList.drop (off + k + l.length)).toArray
  | [], k, cs, _ => by simp
  | v :: rest, k, cs, h => by
    simp only [List.zipIdx_cons, List.foldl_cons]
    rw [foldl_set off rest (k + 1) _ (by simp at h ⊢; omega)]
    congr 1
    have e := list_seg_step cs.toList (off + k) v rest (by simp at h ⊢; omega)
    simpa [Array.toList_setIfInBounds, Nat.add_assoc] using e
section sound
variable {ρ : Asg}
theorem fillS_sound (hone : ∀ i u, ρ i = some u → u.oneCell' = true) {place : Nat → Option (Nat × Nat)} : ∀ {parts : List (Nat × SV)} {cells l : List SV} {vs : List Value} {pv : List (Nat × Value)},
    fillS place cells parts = some l → denL ρ cells = some vs → pv.map (·.1) = parts.map (·.1) → denL ρ (parts.map (·.2)) = some (pv.map (·.2)) →
    ∃ us, denL ρ l = some us ∧ us.length = vs.length ∧ Instr.fill place vs.toArray pv = some us.toArray
  | [], cells, l, vs, pv, h, hd, hi, _ => by
    simp [fillS] at h; subst h
    have : pv = [] := by simpa using hi
    subst this
    exact ⟨vs, hd, rfl, rfl⟩
  | (i, v) :: rest, cells, l, vs, pv, h, hd, hi, hv => by
    cases pv with
    | nil => simp at hi
    | cons p pr =>
      obtain ⟨i', u⟩ := p
      simp only [List.map_cons, List.cons.injEq] at hi
      obtain ⟨rfl, hi⟩ := hi
      simp only [List.map_cons] at hv
      obtain ⟨u', l', h1, h2, h3⟩ := denL_cons.1 hv
      simp only [List.cons.injEq] at h3
      obtain ⟨rfl, rfl⟩ := h3
      unfold fillS at h
      split at h
      · cases h
      · rename_i off size hp
        split at h
        · rename_i hb
          split at h
          · rename_i hb2
            have e1 := Nat.eq_of_beq_eq_true hb
            have e2 := Nat.le_of_ble_eq_true hb2
            have hc := den_cells h1 hone
            have hl := denL_length hc
            have hlc := denL_length hd
            obtain ⟨us, h4, h5, h6⟩ := fillS_sound hone h (denL_splice hd hc) hi h2
            refine ⟨us, h4, ?_, ?_⟩
            · rw [h5]; simp at hl ⊢; omega
            · unfold Instr.fill
              rw [hp]
              have c1 : ¬ (u.cells.size ≠ size ∨ off + u.cells.size > vs.toArray.size) := by
                simp at hl ⊢; omega
              have c1' : (decide (u.cells.size ≠ size) || decide (off + u.cells.size > vs.toArray.size)) = false := by
                simp at hl ⊢; omega
              simp only [c1', Bool.false_eq_true, if_false]
              have e3 : (u.cells.zipIdx.foldl (fun cs (x : Value × Nat) => cs.setIfInBounds (off + x.2) x.1) vs.toArray) = (vs.take off ++ u.cells.toList ++ vs.drop (off + u.cells.toList.length)).toArray := by
                rw [← Array.foldl_toList, Array.toList_zipIdx]
                have := foldl_set off u.cells.toList 0 vs.toArray (by simp at hl ⊢; omega)
                simpa using this
              rw [e3]
              exact h6
          · cases h
        · cases h
end sound
def placesS (P : Program) : List Field → Option (List (Nat × Nat))
  | [] => some []
  | f :: r => match szOf P f.type, placesS P r with
    | some k, some l => some ((f.offset, k) :: l)
    | _, _ => none
theorem placesS_run : ∀ {fs : List Field} {l : List (Nat × Nat)}, placesS P fs = some l → ∀ w : World, (fs.mapM (m := Sem) fun f => do pure (f.offset, ← sizeOf f.type)).run P w = .ok l w
  | [], l, h, w => by simp [placesS] at h; subst h; simp
  | f :: r, l, h, w => by
    unfold placesS at h
    split at h
    · rename_i k l' hk hl
      cases h
      have ih := placesS_run hl w
      simp only [List.mapM_cons, Sem.run_bind, run_sizeOf hk, Result.andThen_ok, Sem.run_pure, ih]
    · cases h
def zipP : List Nat → List SV → List (Nat × SV)
  | i :: r, v :: s => (i, v) :: zipP r s
  | _, _ => []
def pBuild (P : Program) (t : TypeId) (idx : List Nat) (vs : List SV) : Tr SV := match zeroT P t, P.underlying t with
  | some z, some (.struct fs) => match placesS P fs.toList with
    | some ps => match fillS (fun i => ps[i]?) (cellsS (.raw z)) (zipP idx vs) with
      | some l => forceL l fun l => .leaf (.agg l)
      | none => .fail
    | none => .fail
  | some z, some (.array _ e) => match szOf P e with
    | some k => match fillS (fun i => some (i * k, k)) (cellsS (.raw z)) (zipP idx vs) with
      | some l => forceL l fun l => .leaf (.agg l)
      | none => .fail
    | none => .fail
  | _, _ => .fail
section sound
variable {B : World} {X : Own} {ρ : Asg} {hp : Hp C} {n : Nat} {w : World}
theorem zipP_fst : ∀ {idx : List Nat} {vs : List SV}, idx.length = vs.length → (zipP idx vs).map (·.1) = idx
  | [], [], _ => rfl
  | i :: r, v :: s, h => by simp [zipP, zipP_fst (idx := r) (vs := s) (by simpa using h)]
theorem zipP_snd : ∀ {idx : List Nat} {vs : List SV}, idx.length = vs.length → (zipP idx vs).map (·.2) = vs
  | [], [], _ => rfl
  | i :: r, v :: s, h => by simp [zipP, zipP_snd (idx := r) (vs := s) (by simpa using h)]
theorem pBuild_sound (R : Rel B X ρ hp n w) {t : TypeId} {idx : List Nat} {vs : List SV} {r : SV} {pv : List (Nat × Value)} (h : (pBuild P t idx vs).get = some r) (hi : pv.map (·.1) = idx) (hv : denL ρ vs = some (pv.map (·.2))) :
    PureOk P ρ w (Instr.build t pv.toArray) r := by
  have hlen : idx.length = vs.length := by rw [← hi, ← denL_length hv]; simp
  unfold pBuild at h
  split at h
  · rename_i z fs hz ht
    split at h
    · rename_i ps hps
      split at h
      · rename_i l hl
        rw [forceL_eq] at h
        simp only [Tr.get, Option.some.injEq] at h; subst h
        obtain ⟨us, h1, h2, h3⟩ := fillS_sound R.one (pv := pv) hl (den_cells (v := z) rfl R.one) (by rw [zipP_fst hlen, hi]) (by rw [zipP_snd hlen, hv])
        refine ⟨.agg us.toArray, ?_, by simp [den, h1]⟩
        have hpl := placesS_run hps w
        simp only [Array.toArray_toList] at h3
        have hpl' : (fs.mapM (m := Sem) fun f => do pure (f.offset, ← sizeOf f.type)).run P w = .ok ps.toArray w := by
          rw [Array.mapM_eq_mapM_toList]
          simp only [Sem.run_map, hpl, Result.andThen_ok]
        simp only [Instr.build, Sem.run_bind, run_zeroValue hz, Result.andThen_ok, run_underlying ht, hpl']
        have e : (fun i : Nat => ps.toArray[i]?) = fun i => ps[i]? := by funext i; simp
        rw [e, h3]
        rfl
      · simp [Tr.get] at h
    · simp [Tr.get] at h
  · rename_i z m e hz ht
    split at h
    · rename_i k hk
      split at h
      · rename_i l hl
        rw [forceL_eq] at h
        simp only [Tr.get, Option.some.injEq] at h; subst h
        obtain ⟨us, h1, h2, h3⟩ := fillS_sound R.one (pv := pv) hl (den_cells (v := z) rfl R.one) (by rw [zipP_fst hlen, hi]) (by rw [zipP_snd hlen, hv])
        refine ⟨.agg us.toArray, ?_, by simp [den, h1]⟩
        simp only [Array.toArray_toList] at h3
        simp only [Instr.build, Sem.run_bind, run_zeroValue hz, Result.andThen_ok, run_underlying ht, run_sizeOf hk]
        rw [h3]
        rfl
      · simp [Tr.get] at h
    · simp [Tr.get] at h
  · simp [Tr.get] at h
end sound
end
end Go.Sx
/-
  The symbolic evaluator: slices: literals, make, slicing, append. Own work; nothing here is trusted.
-/
namespace Go.Sx
noncomputable section
open Go.RowKit
variable {C : Tab} {P : Program}
def chunk (c : Codec) : Nat → List SV → Option (List c.α)
  | 0, cs => match cs with
    | [] => some []
    | _ => none
  | m + 1, cs => match c.dec (cs.take c.sz) with
    | some a => match chunk c m (cs.drop c.sz) with
      | some r => some (a :: r)
      | none => none
    | none => none
theorem chunk_spec {ρ : Asg} (c : Codec) : ∀ {m : Nat} {cs : List SV} {ts : List c.α} {vs : List Value}, chunk c m cs = some ts → denL ρ cs = some vs → ts.length = m ∧ vs = c.flat ts
  | 0, cs, ts, vs, h, hd => by
    unfold chunk at h
    split at h
    · cases h
      exact ⟨rfl, denL_nil.1 hd⟩
    · cases h
  | m + 1, cs, ts, vs, h, hd => by
    unfold chunk at h
    split at h
    · rename_i a ha
      split at h
      · rename_i r hr
        cases h
        obtain ⟨h1, h2⟩ := chunk_spec c hr (denL_drop c.sz hd)
        refine ⟨by simp [h1], ?_⟩
        have h3 := c.law _ _ ha
        have h4 : denL ρ (cs.take c.sz) = some (c.enc a) := by rw [h3]; exact denL_rawL _
        have h5 := denL_inj h4 (denL_take c.sz hd)
        simp only [Codec.flat]
        rw [h5, ← h2, List.take_append_drop]
      · cases h
    · cases h
def repL {α : Type} (l : List α) : Nat → List α
  | 0 => []
  | m + 1 => l ++ repL l m
theorem repL_length {α : Type} (l : List α) : ∀ m, (repL l m).length = m * l.length
  | 0 => by simp [repL]
  | m + 1 => by simp [repL, repL_length l m, Nat.add_mul]; omega
theorem repL_get (l : List Value) : ∀ (m i : Nat), i < m * l.length → (repL l m)[i]? = l[i % l.length]?
  | 0, i, h => by omega
  | m + 1, i, h => by
    simp only [repL]
    by_cases hi : i < l.length
    · rw [List.getElem?_append_left hi, Nat.mod_eq_of_lt hi]
    · rw [List.getElem?_append_right (by omega), repL_get l m (i - l.length) (by rw [Nat.add_mul] at h; omega)]
      congr 1
      rw [Nat.mod_eq_sub_mod (a := i) (by omega)]
theorem made_eq (z : Array Value) (m : Nat) : (Array.range (m * z.size)).map (fun i => z[i % z.size]!) = (repL z.toList m).toArray := by
  apply Array.ext'
  apply List.ext_getElem?
  intro i
  simp only [Array.toList_map, Array.toList_range, List.getElem?_map]
  by_cases hi : i < m * z.size
  · rw [List.getElem?_range hi, repL_get z.toList m i (by simpa using hi)]
    have hz : 0 < z.size := by
      rcases Nat.eq_zero_or_pos z.size with h | h
      · rw [h] at hi; omega
      · exact h
    have hlt : i % z.size < z.size := Nat.mod_lt _ hz
    simp [hlt]
  · rw [List.getElem?_eq_none (by simpa using hi), List.getElem?_eq_none (by rw [repL_length]; simpa using hi)]
    rfl
theorem flat_replicate (c : Codec) (a : c.α) : ∀ m, c.flat (List.replicate m a) = repL (c.enc a) m
  | 0 => rfl
  | m + 1 => by simp [List.replicate_succ, Codec.flat, repL, flat_replicate c a m]
theorem repL_take {α : Type} (l : List α) : ∀ (m k : Nat), k ≤ m → (repL l m).take (k * l.length) = repL l k
  | m, 0, _ => by simp [repL]
  | 0, k + 1, h => by omega
  | m + 1, k + 1, h => by
    simp only [repL]
    rw [List.take_append, List.take_of_length_le (by rw [Nat.add_mul]; omega)]
    congr 1
    rw [show (k + 1) * l.length - l.length = k * l.length from by rw [Nat.add_mul]; omega]
    exact repL_take l m k (by omega)
def pBuildSlice (P : Program) (n : Nat) (t : TypeId) (len : Nat) (idx : List Nat) (vs : List SV) : Tr (Res C) := match P.underlying t with
  | some (.slice e) => match szOf P e, zeroT P e with
    | some k, some z => match Nat.ble (len * k) 16777216, Nat.beq z.cells.size k, Nat.beq k (C e).sz with
      | true, true, true => match fillS (fun i => some (i * k, k)) (rawL (repL z.cells.toList len)) (zipP idx vs) with
        | some l => match chunk (C e) len l with
          | some ts => .leaf (.h n, [(n, .sl true true e ts)])
          | none => forceL l fun l => .leaf (.bs n 0 len len, [(n, .box l e)])
        | none => .fail
      | true, true, false => match Nat.ble 1 k with
        | true => match fillS (fun i => some (i * k, k)) (rawL (repL z.cells.toList len)) (zipP idx vs) with
          | some l => forceL l fun l => .leaf (.bs n 0 len len, [(n, .box l e)])
          | none => .fail
        | false => .fail
      | _, _, _ => .fail
    | _, _ => .fail
  | _ => .fail
section sound
variable {B : World} {X : Own} {ρ : Asg} {hp : Hp C} {n : Nat} {w : World}
theorem newSlice (R : Rel B X ρ hp n w) {e : TypeId} {ts tot : List (C e).α} {full : Bool} {cap : Nat} {cur : Array Value} (hcap : ts.length ≤ cap) (hf : full = true → cap = ts.length) (hcur : cur = ((C e).flat tot).toArray) (ht : cap ≤ tot.length)
    (htake : tot.take ts.length = ts) :
    Rel B X (ρ.add n (.slice (some ⟨w.heap.size, 0, none⟩) ts.length cap)) ((n, .sl true full e ts) :: hp) (n + 4) (w.alloc (.cells cur e)) :=
  Rel.shift (R.addNew (.cells cur e) (o := .sl true full e ts) (v := .slice (some ⟨w.heap.size, 0, none⟩) ts.length cap) rfl (fun g hg => by simp [blk] at hg; exact hg.symm)
    ⟨_, cap, rfl, hcap, hf, w.heap.size, tot, rfl, .inl R.size, by rw [hcur]; exact heap_alloc_new w _, ht, htake⟩) (by omega)
theorem pBuildSlice_sound (R : Rel B X ρ hp n w) {t : TypeId} {len : Nat} {idx : List Nat} {vs : List SV} {r : Res C} {pv : List (Nat × Value)} (h : (pBuildSlice P n t len idx vs).get = some r) (hi : pv.map (·.1) = idx) (hv : denL ρ vs = some (pv.map (·.2))) :
    NewOk P B X ρ hp n w (Instr.buildSlice t len pv.toArray) r := by
  have hlen : idx.length = vs.length := by rw [← hi, ← denL_length hv]; simp
  unfold pBuildSlice at h
  split at h
  · rename_i e ht
    split at h
    · rename_i k z hk hz
      split at h
      · rename_i b1 b2 b3
        have b1 := Nat.le_of_ble_eq_true b1
        have b2 := Nat.eq_of_beq_eq_true b2
        have b3 := Nat.eq_of_beq_eq_true b3
        split at h
        · rename_i l hl
          obtain ⟨us, h1, h2, h3⟩ := fillS_sound R.one (pv := pv) hl (denL_rawL _) (by rw [zipP_fst hlen, hi]) (by rw [zipP_snd hlen, hv])
          have hus : us.length = len * k := by rw [h2, repL_length]; simp [b2]
          have hrun : (Instr.buildSlice t len pv.toArray).run P w = .ok (.slice (some ⟨w.heap.size, 0, none⟩) len len) (w.alloc (.cells us.toArray e)) := by
            have n1 : ¬ (len * k > 2 ^ 24) := by simpa using b1
            have hpos : 0 < k := by rw [b3]; exact (C e).pos
            simp only [Instr.buildSlice, Sem.run_bind, run_underlying ht, Result.andThen_ok, run_sizeOf hk, n1, if_false]
            by_cases h0 : len * k = 0
            · have hl0 : len = 0 := by rcases Nat.mul_eq_zero.1 h0 with h | h; exact h; omega
              subst hl0
              have h3' : Instr.fill (fun i => some (i * k, k)) #[] pv = some us.toArray := by simpa [repL] using h3
              simp only [Nat.zero_mul, if_true, Sem.run_bind, Sem.run_pure, Result.andThen_ok, Array.range_zero', Array.map_empty, h3']
              simp [newRow]
            · have hm : (Array.range (len * k)).map (fun i => z.cells[i % z.cells.size]!) = (repL z.cells.toList len).toArray := by
                rw [← made_eq z.cells len, b2]
              simp only [h0, if_false, Sem.run_bind, run_zeroValue hz, Sem.run_pure, Result.andThen_ok, hm, h3]
              simp [newRow]
          split at h
          · rename_i ts hts
            simp only [Tr.get, Option.some.injEq] at h; subst h
            obtain ⟨h4, h5⟩ := chunk_spec (C e) hts h1
            have := newSlice R (e := e) (ts := ts) (tot := ts) (full := true) (cap := len) (cur := us.toArray) (by omega) (fun _ => h4.symm) (by rw [h5]) (by omega) (List.take_of_length_le (Nat.le_refl _))
            rw [h4] at this
            exact ⟨.slice (some ⟨w.heap.size, 0, none⟩) len len, _, _, hrun, Asg.le_add ρ n _ (R.fresh n (Nat.le_refl _)), Asg.add_self ρ n _, this⟩
          · rw [forceL_eq] at h
            simp only [Tr.get, Option.some.injEq] at h; subst h
            refine ⟨.slice (some ⟨w.heap.size, 0, none⟩) len len, _, _, hrun, Asg.le_add ρ n _ (R.fresh n (Nat.le_refl _)), ?_, newBox R h1⟩
            simp [den, Asg.add_self, baseOf, Addr.add_zero]
        · simp [Tr.get] at h
      · rename_i b1 b2 b3
        split at h
        · rename_i hk1
          have hpos : 0 < k := Nat.le_of_ble_eq_true hk1
          have b1 := Nat.le_of_ble_eq_true b1
          have b2 := Nat.eq_of_beq_eq_true b2
          split at h
          · rename_i l hl
            obtain ⟨us, h1, h2, h3⟩ := fillS_sound R.one (pv := pv) hl (denL_rawL _) (by rw [zipP_fst hlen, hi]) (by rw [zipP_snd hlen, hv])
            have hus : us.length = len * k := by rw [h2, repL_length]; simp [b2]
            have hrun : (Instr.buildSlice t len pv.toArray).run P w = .ok (.slice (some ⟨w.heap.size, 0, none⟩) len len) (w.alloc (.cells us.toArray e)) := by
              have n1 : ¬ (len * k > 2 ^ 24) := by simpa using b1
              simp only [Instr.buildSlice, Sem.run_bind, run_underlying ht, Result.andThen_ok, run_sizeOf hk, n1, if_false]
              by_cases h0 : len * k = 0
              · have hl0 : len = 0 := by rcases Nat.mul_eq_zero.1 h0 with h | h; exact h; omega
                subst hl0
                have h3' : Instr.fill (fun i => some (i * k, k)) #[] pv = some us.toArray := by simpa [repL] using h3
                simp only [Nat.zero_mul, if_true, Sem.run_bind, Sem.run_pure, Result.andThen_ok, Array.range_zero', Array.map_empty, h3']
                simp [newRow]
              · have hm : (Array.range (len * k)).map (fun i => z.cells[i % z.cells.size]!) = (repL z.cells.toList len).toArray := by
                  rw [← made_eq z.cells len, b2]
                simp only [h0, if_false, Sem.run_bind, run_zeroValue hz, Sem.run_pure, Result.andThen_ok, hm, h3]
                simp [newRow]
            rw [forceL_eq] at h
            simp only [Tr.get, Option.some.injEq] at h; subst h
            refine ⟨.slice (some ⟨w.heap.size, 0, none⟩) len len, _, _, hrun, Asg.le_add ρ n _ (R.fresh n (Nat.le_refl _)), ?_, newBox R h1⟩
            simp [den, Asg.add_self, baseOf, Addr.add_zero]
          · simp [Tr.get] at h
        · simp [Tr.get] at h
      · simp [Tr.get] at h
    · simp [Tr.get] at h
  · simp [Tr.get] at h
end sound
def bytesT (P : Program) (t : TypeId) : Option Nat := match P.info? t with
  | some i => some i.bytes
  | none => none
def pMakeSlice (P : Program) (n : Nat) (t : TypeId) (l c : SV) : Tr (Res C) := match P.underlying t, l, c with
  | some (.slice e), .raw (.int _ l), .raw (.int _ c) => match szOf P e, zeroT P e, bytesT P e with
    | some k, some z, some by_ => match Nat.beq z.cells.size k, Nat.beq k (C e).sz, (C e).dec (rawL z.cells.toList) with
      | true, true, some a => .br (decide (0 ≤ l) && (decide (l ≤ c) && (decide ((by_ : Int) * c ≤ 281474976710656) && decide (c ≤ 9223372036854775807))))
          (.br (decide (l = c)) (.leaf (.h n, [(n, .sl true true e (List.replicate l.toNat a))])) (.leaf (.h n, [(n, .sl true false e (List.replicate l.toNat a))]))) .fail
      | _, _, _ => .fail
    | _, _, _ => .fail
  | _, _, _ => .fail
section sound
variable {B : World} {X : Own} {ρ : Asg} {hp : Hp C} {n : Nat} {w : World}
theorem pMakeSlice_sound (R : Rel B X ρ hp n w) {t : TypeId} {l c : SV} {r : Res C} {vl vc : Value} (h : (pMakeSlice P n t l c).get = some r) (hl : den ρ l = some vl) (hc : den ρ c = some vc) :
    NewOk P B X ρ hp n w (Instr.makeSlice t vl vc) r := by
  unfold pMakeSlice at h
  split at h
  · rename_i e kl l kc c ht
    split at h
    · rename_i k z by_ hk hz hby
      split at h
      · rename_i a b1 b2 hdec
        have b1 := Nat.eq_of_beq_eq_true b1
        have b2 := Nat.eq_of_beq_eq_true b2
        obtain ⟨hb, h⟩ := Tr.get_ask.1 h
        simp only [Bool.and_eq_true, decide_eq_true_eq] at hb
        obtain ⟨h0, h1, h2, h3⟩ := hb
        simp [den] at hl hc; subst hl; subst hc
        obtain ⟨i, hi⟩ : ∃ i, P.info? e = some i := by
          unfold szOf at hk; split at hk
          · rename_i i hi; exact ⟨i, hi⟩
          · cases hk
        have ek : i.size = k := by simpa [szOf, hi] using hk
        have ez : i.zero = some z := by simpa [zeroT, hi] using hz
        have eb : i.bytes = by_ := by simpa [bytesT, hi] using hby
        have hrun := run_make (P := P) w t e i z ht hi ez kl kc l c h0 h1 (by rw [eb]; exact h2) h3
        have hmade : madeCells z.cells (c.toNat * i.size) = (repL z.cells.toList c.toNat).toArray := by
          unfold madeCells
          rw [ek, ← b1]
          exact made_eq z.cells c.toNat
        rw [hmade] at hrun
        have henc : z.cells.toList = (C e).enc a := by
          have := (C e).law _ _ hdec
          have h1 : denL ρ (rawL z.cells.toList) = some ((C e).enc a) := by rw [this]; exact denL_rawL _
          exact denL_inj (denL_rawL _) h1
        have fin : ∀ full : Bool, (full = true → l = c) → NewOk P B X ρ hp n w (Instr.makeSlice t (.int kl l) (.int kc c)) (.h n, [(n, .sl true full e (List.replicate l.toNat a))]) := fun full hf => by
          have := newSlice R (e := e) (ts := List.replicate l.toNat a) (tot := List.replicate c.toNat a) (full := full) (cap := c.toNat) (cur := (repL z.cells.toList c.toNat).toArray) (by simp; omega) (fun hh => by simp [hf hh]) (by
              rw [flat_replicate, ← henc]) (by simp) (by
              rw [List.length_replicate, List.take_replicate, Nat.min_eq_left (by omega)])
          simp only [List.length_replicate] at this
          exact ⟨.slice (some ⟨w.heap.size, 0, none⟩) l.toNat c.toNat, _, _, hrun, Asg.le_add ρ n _ (R.fresh n (Nat.le_refl _)), Asg.add_self ρ n _, this⟩
        rcases Tr.get_br.1 h with ⟨hb, h⟩ | ⟨hb, h⟩
        · simp only [Tr.get, Option.some.injEq] at h; subst h
          exact fin true fun _ => of_decide_eq_true hb
        · simp only [Tr.get, Option.some.injEq] at h; subst h
          exact fin false fun hh => by cases hh
      · simp [Tr.get] at h
    · simp [Tr.get] at h
  · simp [Tr.get] at h
end sound
end
end Go.Sx
/-
  The symbolic evaluator: slicing. Own work; nothing here is trusted.
-/
namespace Go.Sx
noncomputable section
open Go.RowKit
variable {C : Tab} {P : Program}
section sound
variable {B : World} {X : Own} {ρ : Asg} {hp : Hp C} {n : Nat} {w : World}
theorem Rel.reobj (h : Rel B X ρ hp n w) {i : Nat} {o o' : SO C} {v : Value} (hi : find i hp = some o) (hv : ρ i = some v) (hok : okObj ρ w (okB B X) v o')
    (hown : o'.owns = true → o.owns = true) (hlive : o'.live = true → o.live = true) (hin : InnO B X o' := by exact trivial) : Rel B X ρ ((i, o') :: hp) n w :=
  { h with
    inn := fun j oj hj => by
      rw [find_cons] at hj
      split at hj
      · cases hj; exact hin
      · exact h.inn j oj hj
    obj := fun j oj hj => by
      rw [find_cons] at hj
      split at hj
      · rename_i e; subst e; simp at hj; subst hj; exact ⟨v, hv, hok⟩
      · exact h.obj j oj hj
    sep := fun a b oa ob va vb g hab ha hb ho hl hva hvb hg => by
      rw [find_cons] at ha hb
      split at ha
      · rename_i e; subst e; simp at ha; subst ha
        rw [if_neg (Ne.symm hab)] at hb
        exact h.sep a b o ob va vb g hab hi hb (hown ho) hl hva hvb hg
      · split at hb
        · rename_i e; subst e; simp at hb; subst hb
          exact h.sep a b oa o va vb g hab ha hi ho (hlive hl) hva hvb hg
        · exact h.sep a b oa ob va vb g hab ha hb ho hl hva hvb hg
    blkOk := fun j oj u g hj hl hu hg => by
      rw [find_cons] at hj
      split at hj
      · rename_i e; subst e; simp at hj; subst hj; exact h.blkOk j o u g hi (hlive hl) hu hg
      · exact h.blkOk j oj u g hj hl hu hg
    prov := fun j oj u g hj hl hu hg => by
      rw [find_cons] at hj
      split at hj
      · rename_i e; subst e; simp at hj; subst hj; exact h.prov j o u g hi (hlive hl) hu hg
      · exact h.prov j oj u g hj hl hu hg
    nn := fun j oj u hj hs hu => by
      rw [find_cons] at hj
      split at hj
      · rename_i e; subst e; simp at hj; subst hj
        obtain ⟨a, l, c, rfl⟩ := hok.sl hs
        rw [hv] at hu; cases hu
        exact h.slOf hi hv (hlive (by cases o' <;> simp [SO.isSl] at hs <;> rfl))
      · exact h.nn j oj u hj hs hu }
theorem Rel.demote (R : Rel B X ρ hp n w) {i : Nat} {own full : Bool} {e : TypeId} {ts : List (C e).α} {v : Value} (hi : find i hp = some (.sl own full e ts)) (hv : ρ i = some v) :
    Rel B X ρ ((i, .sl false full e ts) :: hp) n w := by
  obtain ⟨v', hv', a, cap, rfl, h1, h2, h3⟩ := R.obj i _ hi
  rw [hv] at hv'; cases hv'
  obtain ⟨a', cap', he, _, hcell⟩ := flat_cell R hi hv
  cases he
  exact R.reobj hi hv ⟨a, cap, rfl, h1, h2, hcell⟩ (fun h => by cases h) (fun _ => rfl)
def dem (own : Bool) (id : Nat) (full : Bool) (e : TypeId) (ts : List (C e).α) : Hp C := match own with
  | true => [(id, .sl false full e ts)]
  | false => []
theorem find_dem {own full : Bool} {id : Nat} {e : TypeId} {ts : List (C e).α} (hi : find id hp = some (.sl own full e ts)) : find id (dem own id full e ts ++ hp) = some (.sl false full e ts) := by
  cases own with
  | true => show find id ((id, _) :: hp) = _; rw [find_cons, if_pos rfl]
  | false => exact hi
theorem Rel.dem (R : Rel B X ρ hp n w) {i : Nat} {own full : Bool} {e : TypeId} {ts : List (C e).α} {v : Value} (hi : find i hp = some (.sl own full e ts)) (hv : ρ i = some v) :
    Rel B X ρ (dem own i full e ts ++ hp) n w := by
  cases own with
  | true => exact R.demote hi hv
  | false => exact R
end sound
def optN : Option SV → Option (Option Int)
  | none => some none
  | some x => match x with
    | .raw (.int _ i) => some (some i)
    | _ => none
def bnds (lo hi mx : Bool) (l : List SV) : Option (Option SV × Option SV × Option SV) :=
  match lo, hi, mx, l with
  | false, false, false, [] => some (none, none, none)
  | true, false, false, [a] => some (some a, none, none)
  | false, true, false, [a] => some (none, some a, none)
  | true, true, false, [a, b] => some (some a, some b, none)
  | false, true, true, [a, b] => some (none, some a, some b)
  | true, true, true, [a, b, c] => some (some a, some b, some c)
  | _, _, _, _ => none
def bndV (ρ : Asg) (s : Option SV) (v : Option Value) : Prop := match s, v with
  | none, none => True
  | some x, some u => den ρ x = some u
  | _, _ => False
def intO (d : Int) : Option Int → Int
  | some i => i
  | none => d
@[simp] theorem intO_none (d : Int) : intO d none = d := rfl
@[simp] theorem intO_some (d i : Int) : intO d (some i) = i := rfl
def bOk (l h len : Int) : Bool := decide (0 ≤ l) && (decide (l ≤ h) && decide (h ≤ len))
theorem bOk_spec {l h len : Int} (hb : bOk l h len = true) : 0 ≤ l ∧ l ≤ h ∧ h ≤ len := by
  unfold bOk at hb
  simpa using hb
theorem bOk_mk {l h len : Int} (hb : 0 ≤ l ∧ l ≤ h ∧ h ≤ len) : bOk l h len = true := by
  unfold bOk
  simpa using hb
theorem bounds_run (isSlice : Bool) {ρ : Asg} {len cap : Nat} {lo hi mx : Option SV} {vlo vhi vmx : Option Value} {l h : Option Int} {m : Option Int} (hl : optN lo = some l) (hh : optN hi = some h) (hm : optN mx = some m)
    (b1 : bndV ρ lo vlo) (b2 : bndV ρ hi vhi) (b3 : bndV ρ mx vmx) (hok : bOk (intO 0 l) (intO len h) (intO cap m) = true) (hmc : intO cap m ≤ cap) (hx : m.isSome = true → h.isSome = true) (w : World) :
    (Instr.sliceBounds isSlice len cap vlo vhi vmx).run P w = .ok ((intO 0 l).toNat, (intO len h).toNat, (intO cap m).toNat) w := by
  obtain ⟨h0, h1, h2⟩ := bOk_spec hok
  have get : ∀ {s : Option SV} {v : Option Value} {i : Option Int}, optN s = some i → bndV ρ s v → (s = none ∧ v = none ∧ i = none) ∨ ∃ k j, v = some (.int k j) ∧ i = some j := fun {s v i} e b => by
    cases s with
    | none => cases v <;> simp [bndV] at b; simp [optN] at e; exact .inl ⟨rfl, rfl, e.symm⟩
    | some x =>
      cases v with
      | none => simp [bndV] at b
      | some u =>
        simp only [bndV] at b
        simp only [optN] at e
        split at e
        · simp [den] at b; subst b; cases e; exact .inr ⟨_, _, rfl, rfl⟩
        · cases e
  rcases get hl b1 with ⟨rfl, rfl, rfl⟩ | ⟨kl, jl, rfl, rfl⟩ <;> rcases get hh b2 with ⟨rfl, rfl, rfl⟩ | ⟨kh, jh, rfl, rfl⟩ <;> rcases get hm b3 with ⟨rfl, rfl, rfl⟩ | ⟨km, jm, rfl, rfl⟩ <;>
    simp only [intO, Option.isSome_none, Option.isSome_some, Bool.false_eq_true, forall_const, imp_false] at h0 h1 h2 hmc hx ⊢
  · simp [Instr.sliceBounds]
  · have e1 := run_sliceBound (P := P) (w := w) kh jh cap (if isSlice then .sliceAcap else .sliceAlen) (by omega) h2
    simp [Instr.sliceBounds, e1]
  · have e1 := run_sliceBound (P := P) (w := w) km jm cap (if isSlice then .slice3Acap else .slice3Alen) (by omega) hmc
    have e2 := run_sliceBound (P := P) (w := w) kh jh jm.toNat .slice3B (by omega) (by omega)
    simp [Instr.sliceBounds, e1, e2]
  · have e1 := run_sliceBound (P := P) (w := w) kl jl len .sliceB h0 h1
    simp [Instr.sliceBounds, e1]
  · have e1 := run_sliceBound (P := P) (w := w) kh jh cap (if isSlice then .sliceAcap else .sliceAlen) (by omega) h2
    have e2 := run_sliceBound (P := P) (w := w) kl jl jh.toNat .sliceB h0 (by omega)
    simp [Instr.sliceBounds, e1, e2]
  · have e1 := run_sliceBound (P := P) (w := w) km jm cap (if isSlice then .slice3Acap else .slice3Alen) (by omega) hmc
    have e2 := run_sliceBound (P := P) (w := w) kh jh jm.toNat .slice3B (by omega) (by omega)
    have e3 := run_sliceBound (P := P) (w := w) kl jl jh.toNat .slice3C h0 (by omega)
    simp [Instr.sliceBounds, e1, e2, e3]
def cutL {α : Type} (ts : List α) (l h : Option Int) : List α := match l, h with
  | none, none => ts
  | none, some h => ts.take h.toNat
  | some l, none => ts.drop l.toNat
  | some l, some h => (ts.take h.toNat).drop l.toNat
def cutB (l h : Option Int) (len : Nat) : Bool := match l, h with
  | none, none => true
  | none, some h => bOk 0 h len
  | some l, none => bOk l len len
  | some l, some h => bOk l h len
theorem cutL_eq {α : Type} (ts : List α) (l h : Option Int) : cutL ts l h = (ts.take (intO ts.length h).toNat).drop (intO 0 l).toNat := by
  cases l <;> cases h <;> simp [cutL]
theorem cutB_eq {l h : Option Int} {len : Nat} (hb : cutB l h len = true) : bOk (intO 0 l) (intO len h) len = true := by
  cases l <;> cases h <;> simp only [cutB, intO_none, intO_some] at hb ⊢
  · exact bOk_mk ⟨by omega, by omega, by omega⟩
  all_goals exact hb
def cutSl (n id : Nat) (own full : Bool) (e : TypeId) (ts : List (C e).α) (l h m : Option Int) : Tr (Res C) :=
  match m with
  | none => .br (cutB l h ts.length)
      (.leaf (.h n, (n, .sl false (match h with | none => full | some _ => false) e (cutL ts l h)) :: dem own id full e ts)) .fail
  | some m => match h with
    | none => .fail
    | some h => .br (bOk (intO 0 l) h m && decide (m ≤ ts.length)) (.br (decide (m = h))
      (.leaf (.h n, (n, .sl false true e ((ts.take h.toNat).drop (intO 0 l).toNat)) :: dem own id full e ts))
      (.leaf (.h n, (n, .sl false false e ((ts.take h.toNat).drop (intO 0 l).toNat)) :: dem own id full e ts))) .fail
def roomV (off tl : Nat) : Option Nat → Int
  | some k => k
  | none => (tl : Int) - off
def atV (off tl : Nat) (L : Int) : Option Nat → Bool
  | some k => decide (off + L.toNat < tl) && decide (L < k)
  | none => true
def capS (cap : Option Nat) (L : Int) : Option Nat := match cap with
  | some k => some (k - L.toNat)
  | none => none
def baseN (bs off : Nat) (L : Int) : Nat := match Nat.beq L.toNat 0 with
  | true => bs
  | false => off
def cutVs (id sz bs off len : Nat) (cap : Option Nat) (tl : Nat) (l h m : Option Int) : Tr (Res C) := match m with
  | none => match l with
    | none => .br (bOk 0 (intO len h) (roomV off tl cap)) (.leaf (.vs id sz bs off (intO len h).toNat cap, [])) .fail
    | some L => .br (bOk L (intO len h) (roomV off tl cap) && atV off tl L cap) (.leaf (.vs id sz (baseN bs off L) (off + L.toNat) ((intO len h).toNat - L.toNat) (capS cap L), [])) .fail
  | some M => match h with
    | none => .fail
    | some H => match l with
      | none => .br (bOk 0 H M && decide (M ≤ roomV off tl cap)) (.leaf (.vs id sz bs off H.toNat (some M.toNat), [])) .fail
      | some L => .br (bOk L H M && (decide (M ≤ roomV off tl cap) && (decide (off + L.toNat < tl) && decide (L < M)))) (.leaf (.vs id sz (baseN bs off L) (off + L.toNat) (H.toNat - L.toNat) (some (M.toNat - L.toNat)), [])) .fail
def cutArr (look : Nat → Option (SO C)) (x : SV) (sz len : Nat) (l h m : Option Int) : Tr (Res C) :=
  match m, (match x with | .h id => (match look id with | some (.box _ _) => some (id, 0) | _ => none) | .ep id off => some (id, off) | _ => none : Option (Nat × Nat)) with
  | none, some (id, off) => .br (bOk (intO 0 l) (intO len h) len && decide (intO 0 l < len)) (.leaf (.bs id (off + (intO 0 l).toNat * sz) ((intO len h).toNat - (intO 0 l).toNat) (len - (intO 0 l).toNat), [])) .fail
  | _, _ => .fail
def cutEl (look : Nat → Option (SO C)) (n : Nat) (e : TypeId) (id i sz j k len : Nat) (l h m : Option Int) : Tr (Res C) := match l, h, m with
  | none, none, none => match look id with
    | some (.sl own full e' ts) => match Nat.beq sz (C e').sz, Nat.beq j 0, Nat.beq k (C e).sz, Nat.blt 0 len with
      | true, true, true, true => match chunk (C e) len (rawL ((C e').enc (ts.getD i (C e').d))) with
        | some us => .br (decide (i < ts.length)) (.leaf (.h n, (n, .sl false true e us) :: dem own id full e' ts)) .fail
        | none => .fail
      | _, _, _, _ => .fail
    | _ => .fail
  | _, _, _ => .fail
def cutArrE (look : Nat → Option (SO C)) (n : Nat) (e : TypeId) (x : SV) (sz len : Nat) (l h m : Option Int) : Tr (Res C) := match x with
  | .el id i s j => match look id with
    | some (.sl true _ _ _) => cutArr look (.ep id (i * s + j)) sz len l h m
    | _ => cutEl look n e id i s j sz len l h m
  | x => cutArr look x sz len l h m
def pSlice (P : Program) (look : Nat → Option (SO C)) (n : Nat) (t : TypeId) (lo hi mx : Bool) (x : SV) (bs : List SV) : Tr (Res C) :=
  match bnds lo hi mx bs with
  | some (lo, hi, mx) => match optN lo, optN hi, optN mx with
    | some l, some h, some m => match P.underlying t, x with
      | some (.slice e), .h id => match look id, szOf P e with
        | some (.sl own full e' ts), some k => match Nat.beq k (C e').sz with
          | true => match own with
            | true => cutVs id k 0 0 ts.length none ts.length l h m
            | false => cutSl n id false full e' ts l h m
          | false => .fail
        | _, _ => .fail
      | some (.slice e), .vs id sz bs off len cap => match look id, szOf P e with
        | some (.sl _ _ e' ts), some k => match Nat.beq k (C e').sz, Nat.beq sz k with
          | true, true => cutVs id k bs off len cap ts.length l h m
          | _, _ => .fail
        | _, _ => .fail
      | some (.slice e), .raw (.slice none 0 0) => match szOf P e with
        | some _ => .br (bOk (intO 0 l) (intO 0 h) (intO 0 m) && decide (intO 0 m ≤ 0)) (.leaf (.raw (.slice none 0 0), [])) .fail
        | none => .fail
      | some .string, .raw (.string s) => match m with
        | none => .br (bOk (intO 0 l) (intO s.size h) s.size) (.leaf (.raw (.string (s.extract (intO 0 l).toNat (intO s.size h).toNat)), [])) .fail
        | some _ => .fail
      | some (.array len e), x => match szOf P e with
        | some k => cutArrE look n e x k len l h m
        | none => .fail
      | _, _ => .fail
    | _, _, _ => .fail
  | none => .fail
section sound
variable {B : World} {X : Own} {ρ : Asg} {hp : Hp C} {n : Nat} {w : World}
theorem viewOk (R : Rel B X ρ hp n w) {id : Nat} {own full : Bool} {e : TypeId} {ts : List (C e).α} {v : Value} (hi : find id hp = some (.sl own full e ts)) (hv : ρ id = some v) {l h : Nat} {f : Bool}
    (hlh : l ≤ h) (hh : h ≤ ts.length) : ∃ a cap, v = .slice a ts.length cap ∧ ts.length ≤ cap ∧ (full = true → cap = ts.length) ∧
      ∀ m : Nat, h ≤ m → (f = true → m = h) → Rel B X (ρ.add n (.slice (if m = l then a else a.map (·.add (l * (C e).sz))) (h - l) (m - l))) ((n, .sl false f e ((ts.take h).drop l)) :: (dem own id full e ts ++ hp)) (n + 4) w := by
  obtain ⟨a, cap, rfl, h1, hcell⟩ := flat_cell R hi hv
  obtain ⟨v', hv', a', cap', he, _, hf, _⟩ := R.obj id _ hi
  rw [hv] at hv'; cases hv'; cases he
  refine ⟨a, cap, rfl, h1, hf, fun m hm hfm => ?_⟩
  have R1 := R.dem hi hv
  have hfd := find_dem hi
  have hidn : id ≠ n := fun e => by subst e; rw [R.fresh _ (Nat.le_refl _)] at hv; cases hv
  have hnn := R.nn id _ _ hi rfl hv
  refine Rel.shift (R1.add rfl ?_ ?_ ?_ ?_ (fun _ => by cases a with | none => simp [nnV] at hnn | some b => split <;> rfl)) (by omega)
  · have hlen : ((ts.take h).drop l).length = h - l := by simp; omega
    refine ⟨_, m - l, by rw [hlen], by rw [hlen]; omega, fun hfull => by rw [hlen, hfm hfull], ?_⟩
    intro j x hx
    have hjl : j < (h - l) * (C e).sz := by
      have := (List.getElem?_eq_some_iff.1 hx).1
      rwa [(C e).flat_length, hlen] at this
    have hml : m ≠ l := fun e => by subst e; have : h - m = 0 := by omega
                                    rw [this] at hjl; omega
    rw [if_neg hml]
    have hx' : ((C e).flat ts)[l * (C e).sz + j]? = some x := by
      rw [(C e).flat_drop, (C e).flat_take, List.getElem?_drop, List.getElem?_take] at hx
      split at hx
      · exact hx
      · cases hx
    obtain ⟨b, rfl, hc⟩ := hcell _ x hx'
    exact ⟨_, rfl, by rw [Addr.add_add]; exact hc⟩
  · intro g hg
    have : ∃ b, a = some b ∧ b.block = g := by
      cases a with
      | none => simp [blk] at hg
      | some b =>
        refine ⟨b, rfl, ?_⟩
        split at hg
        · simpa [blk] using hg
        · simpa [blk, Addr.add_block] using hg
    obtain ⟨b, rfl, rfl⟩ := this
    exact R.blkOk id _ _ _ hi rfl hv rfl
  · intro j oj vj g hj hl hvj hgj hg
    have hb : ∃ b, a = some b ∧ b.block = g := by
      cases a with
      | none => simp [blk] at hg
      | some b =>
        refine ⟨b, rfl, ?_⟩
        split at hg
        · simpa [blk] using hg
        · simpa [blk, Addr.add_block] using hg
    obtain ⟨b, rfl, rfl⟩ := hb
    refine ⟨rfl, ?_⟩
    by_cases hji : j = id
    · subst hji
      rw [hfd] at hj
      cases hj; rfl
    · cases ho : oj.owns with
      | false => rfl
      | true => exact absurd rfl (R1.sep j id oj _ vj _ b.block hji hj hfd ho rfl hvj hv hgj)
  · intro g hg
    have : ∃ b, a = some b ∧ b.block = g := by
      cases a with
      | none => simp [blk] at hg
      | some b =>
        refine ⟨b, rfl, ?_⟩
        split at hg
        · simpa [blk] using hg
        · simpa [blk, Addr.add_block] using hg
    obtain ⟨b, rfl, rfl⟩ := this
    exact R.prov id _ _ _ hi rfl hv rfl
theorem cutSl_sound (R : Rel B X ρ hp n w) {t e : TypeId} {id : Nat} {own full : Bool} {e' : TypeId} {ts : List (C e').α} {v : Value} (hi : find id hp = some (.sl own full e' ts)) (hv : ρ id = some v) (ht : P.underlying t = some (.slice e)) (hk : szOf P e = some (C e').sz)
    {lo hi_ mx : Option SV} {vlo vhi vmx : Option Value} {l h m : Option Int} (hl : optN lo = some l) (hh : optN hi_ = some h) (hm : optN mx = some m) (b1 : bndV ρ lo vlo) (b2 : bndV ρ hi_ vhi) (b3 : bndV ρ mx vmx) {r : Res C}
    (hr : (cutSl n id own full e' ts l h m).get = some r) : NewOk P B X ρ hp n w (Instr.sliceAt t v vlo vhi vmx) r := by
  have run : ∀ {a : Option Addr} {cap : Nat}, v = .slice a ts.length cap → bOk (intO 0 l) (intO ts.length h) (intO cap m) = true → intO cap m ≤ cap → (m.isSome = true → h.isSome = true) →
      (Instr.sliceAt t v vlo vhi vmx).run P w = .ok (.slice (if (intO cap m).toNat = (intO 0 l).toNat then a else a.map (·.add ((intO 0 l).toNat * (C e').sz))) ((intO ts.length h).toNat - (intO 0 l).toNat) ((intO cap m).toNat - (intO 0 l).toNat)) w := fun {a cap} e1 e3 e4 e5 => by
    subst e1
    simp only [Instr.sliceAt, Sem.run_bind, run_underlying ht, Result.andThen_ok, Instr.slice, bounds_run (P := P) true hl hh hm b1 b2 b3 e3 e4 e5 w, run_sizeOf hk, Sem.run_pure]
  have hle : ∀ u, ρ.le (ρ.add n u) := fun u => Asg.le_add ρ n u (R.fresh n (Nat.le_refl _))
  unfold cutSl at hr
  split at hr
  · obtain ⟨hb, hr⟩ := Tr.get_ask.1 hr
    simp only [Tr.get, Option.some.injEq] at hr; subst hr
    rw [cutL_eq]
    obtain ⟨h0, h1, h2⟩ := bOk_spec (cutB_eq hb)
    obtain ⟨a, cap, e1, e2, e3, hview⟩ := viewOk R hi hv (l := (intO 0 l).toNat) (h := (intO ts.length h).toNat) (f := match h with | none => full | some _ => false) (by omega) (by omega)
    have hrun := run e1 (bOk_mk ⟨h0, h1, by rw [intO_none]; omega⟩) (by rw [intO_none]; omega) (fun h => by cases h)
    rw [intO_none, Int.toNat_natCast] at hrun
    have hv2 := hview cap (by omega) (fun hf => by
      cases h with
      | none => simp only at hf; rw [e3 hf, intO_none, Int.toNat_natCast]
      | some h => cases hf)
    exact ⟨_, w, _, hrun, hle _, Asg.add_self ρ n _, hv2⟩
  · rename_i m
    split at hr
    · simp [Tr.get] at hr
    · rename_i h
      obtain ⟨hb, hr⟩ := Tr.get_ask.1 hr
      simp only [Bool.and_eq_true, decide_eq_true_eq] at hb
      obtain ⟨hb, hm2⟩ := hb
      obtain ⟨h0, h1, h2⟩ := bOk_spec hb
      have fin : ∀ f : Bool, (f = true → m = h) → NewOk P B X ρ hp n w (Instr.sliceAt t v vlo vhi vmx) (.h n, (n, .sl false f e' ((ts.take h.toNat).drop (intO 0 l).toNat)) :: dem own id full e' ts) := fun f hf => by
        obtain ⟨a, cap, e1, e2, e3, hview⟩ := viewOk R hi hv (l := (intO 0 l).toNat) (h := h.toNat) (f := f) (by omega) (by omega)
        have hrun := run e1 (bOk_mk ⟨h0, by rw [intO_some]; exact h1, by rw [intO_some, intO_some]; exact h2⟩) (by rw [intO_some]; omega) (fun _ => rfl)
        rw [intO_some, intO_some] at hrun
        have hv2 := hview m.toNat (by omega) (fun hf' => by rw [hf hf'])
        exact ⟨_, w, _, hrun, hle _, Asg.add_self ρ n _, hv2⟩
      rcases Tr.get_br.1 hr with ⟨hb, hr⟩ | ⟨hb, hr⟩
      · simp only [Tr.get, Option.some.injEq] at hr; subst hr
        exact fin true fun _ => of_decide_eq_true hb
      · simp only [Tr.get, Option.some.injEq] at hr; subst hr
        exact fin false fun hf => by cases hf
theorem h_vs (R : Rel B X ρ hp n w) {id sz : Nat} {own full : Bool} {e : TypeId} {ts : List (C e).α} {v : Value} (hid : find id hp = some (.sl own full e ts)) (hx : den ρ (.h id) = some v) : den ρ (.vs id sz 0 0 ts.length none) = some v := by
  simp only [den] at hx ⊢
  obtain ⟨v', hv', a, c, rfl, h1, h2, h3⟩ := R.obj id _ hid
  rw [hx] at hv'; cases hv'
  have hnn := R.nn id _ _ hid rfl hx
  cases a with
  | none => simp [nnV] at hnn
  | some a =>
    rw [hx]
    simp only [Option.bind_some, vsV, capO, Nat.zero_mul, Nat.sub_zero, Addr.add_zero, ite_self, Nat.zero_min]
theorem cutVs_sound (R : Rel B X ρ hp n w) {t e : TypeId} {id bs off len : Nat} {cap : Option Nat} {own full : Bool} {e' : TypeId} {ts : List (C e').α} {v : Value} (hi : find id hp = some (.sl own full e' ts)) (hv : den ρ (.vs id (C e').sz bs off len cap) = some v) (ht : P.underlying t = some (.slice e)) (hk : szOf P e = some (C e').sz)
    {lo hi_ mx : Option SV} {vlo vhi vmx : Option Value} {l h m : Option Int} (hl : optN lo = some l) (hh : optN hi_ = some h) (hm : optN mx = some m) (b1 : bndV ρ lo vlo) (b2 : bndV ρ hi_ vhi) (b3 : bndV ρ mx vmx) {r : Res C}
    (hr : (cutVs (C := C) id (C e').sz bs off len cap ts.length l h m).get = some r) : NewOk P B X ρ hp n w (Instr.sliceAt t v vlo vhi vmx) r := by
  obtain ⟨a, c, hid, hc, _, rfl, _⟩ := vs_den R hi hv
  have hroom : roomV off ts.length cap ≤ ((capO cap (c - off) : Nat) : Int) := by
    cases cap <;> simp only [roomV, capO]
    · omega
    · exact Int.le_refl _
  generalize hb : (if off = c then a.add (Nat.min bs off * (C e').sz) else a.add (off * (C e').sz)) = b at *
  have run : bOk (intO 0 l) (intO len h) (intO (capO cap (c - off)) m) = true → intO (capO cap (c - off)) m ≤ (capO cap (c - off) : Nat) → (m.isSome = true → h.isSome = true) →
      (Instr.sliceAt t (.slice (some b) len (capO cap (c - off))) vlo vhi vmx).run P w = .ok (.slice (if (intO (capO cap (c - off)) m).toNat = (intO 0 l).toNat then some b else (some b).map (·.add ((intO 0 l).toNat * (C e').sz))) ((intO len h).toNat - (intO 0 l).toNat) ((intO (capO cap (c - off)) m).toNat - (intO 0 l).toNat)) w := fun e3 e4 e5 => by
    simp only [Instr.sliceAt, Sem.run_bind, run_underlying ht, Result.andThen_ok, Instr.slice, bounds_run (P := P) true hl hh hm b1 b2 b3 e3 e4 e5 w, run_sizeOf hk, Sem.run_pure]
  have fin : ∀ {sv : SV} {u : Value}, (Instr.sliceAt t (.slice (some b) len (capO cap (c - off))) vlo vhi vmx).run P w = .ok u w → den ρ sv = some u → NewOk P B X ρ hp n w (Instr.sliceAt t (.slice (some b) len (capO cap (c - off))) vlo vhi vmx) (sv, []) := fun h1 h2 => ⟨_, w, ρ, h1, Asg.le_refl _, h2, Rel.shift R (by omega)⟩
  have head : ∀ (H : Nat) (k : Option Nat), den ρ (.vs id (C e').sz bs off H k) = some (.slice (some b) H (capO k (c - off))) := fun H k => by
    simp only [den, hid, Option.bind_some, vsV, hb]
  have rest : ∀ (L : Int) (H : Nat) (k : Option Nat), off + L.toNat ≤ c → den ρ (.vs id (C e').sz (baseN bs off L) (off + L.toNat) H k) = some (.slice (if c - off = L.toNat then some b else some (b.add (L.toNat * (C e').sz))) H (capO k (c - (off + L.toNat)))) := fun L H k hlk => by
    simp only [den, hid, Option.bind_some, vsV]
    congr 2
    unfold baseN
    by_cases hL : off + L.toNat = c
    · rw [if_pos hL, if_pos (by omega)]
      cases h0 : Nat.beq L.toNat 0 with
      | true =>
        have h0 := Nat.eq_of_beq_eq_true h0
        rw [← hb, if_pos (by omega), h0, Nat.add_zero]
      | false =>
        have h0 := Nat.ne_of_beq_eq_false h0
        rw [← hb, if_neg (by omega)]
        simp only
        rw [show Nat.min off (off + L.toNat) = off from Nat.min_eq_left (by omega)]
    · rw [if_neg hL, if_neg (by omega), ← hb, if_neg (by omega), Addr.add_add, Nat.add_mul]
  unfold cutVs at hr
  split at hr
  · split at hr
    · obtain ⟨hb1, hr⟩ := Tr.get_ask.1 hr
      simp only [Tr.get, Option.some.injEq] at hr; subst hr
      obtain ⟨h0, h1, h2⟩ := bOk_spec hb1
      have hrun := run (bOk_mk ⟨by simp, by simp only [intO_none]; omega, by simp only [intO_none]; omega⟩) (by simp) (fun h => by cases h)
      refine fin hrun ((head _ _).trans ?_)
      simp only [intO_none, Int.toNat_zero, Nat.sub_zero, Nat.zero_mul, Option.map_some, Addr.add_zero, ite_self, Int.toNat_natCast]
    · rename_i L
      obtain ⟨hb1, hr⟩ := Tr.get_ask.1 hr
      simp only [Tr.get, Option.some.injEq] at hr; subst hr
      rw [Bool.and_eq_true] at hb1
      obtain ⟨hb1, hat⟩ := hb1
      obtain ⟨h0, h1, h2⟩ := bOk_spec hb1
      have hrun := run (bOk_mk ⟨by simpa using h0, by simp only [intO_some]; omega, by simp only [intO_none]; omega⟩) (by simp) (fun h => by cases h)
      have hlk : off + L.toNat ≤ c ∧ (capO cap (c - off) = L.toNat → c - off = L.toNat) ∧ (c - off = L.toNat → capO cap (c - off) = L.toNat) ∧ capO (capS cap L) (c - (off + L.toNat)) = capO cap (c - off) - L.toNat := by
        cases cap with
        | none =>
          simp only [roomV] at h1 h2
          exact ⟨by omega, fun h => h, fun h => h, by simp only [capS, capO]; omega⟩
        | some k =>
          simp only [atV, Bool.and_eq_true, decide_eq_true_eq] at hat
          exact ⟨by omega, by simp only [capO]; omega, by omega, rfl⟩
      obtain ⟨k1, k2, k3, k4⟩ := hlk
      refine fin hrun ((rest _ _ _ k1).trans ?_)
      rw [k4]
      simp only [intO_some, intO_none, Int.toNat_natCast, Option.map_some]
      congr 2
      by_cases hL : c - off = L.toNat
      · rw [if_pos hL]; exact (if_pos (k3 hL)).symm
      · rw [if_neg hL]; exact (if_neg (fun e => hL (k2 e))).symm
  · rename_i M
    split at hr
    · simp [Tr.get] at hr
    · rename_i H
      split at hr
      · obtain ⟨hb1, hr⟩ := Tr.get_ask.1 hr
        simp only [Tr.get, Option.some.injEq] at hr; subst hr
        simp only [Bool.and_eq_true, decide_eq_true_eq] at hb1
        obtain ⟨hb1, hM⟩ := hb1
        obtain ⟨h0, h1, h2⟩ := bOk_spec hb1
        have hrun := run (bOk_mk ⟨by simp, by simp only [intO_some, intO_none]; omega, by simp only [intO_some]; omega⟩) (by simp only [intO_some]; omega) (fun _ => rfl)
        refine fin hrun ((head _ _).trans ?_)
        simp only [intO_none, intO_some, Int.toNat_zero, Nat.sub_zero, Nat.zero_mul, Option.map_some, Addr.add_zero, ite_self, capO]
      · rename_i L
        obtain ⟨hb1, hr⟩ := Tr.get_ask.1 hr
        simp only [Tr.get, Option.some.injEq] at hr; subst hr
        simp only [Bool.and_eq_true, decide_eq_true_eq] at hb1
        obtain ⟨hb1, hM, hLt, hLM⟩ := hb1
        obtain ⟨h0, h1, h2⟩ := bOk_spec hb1
        have hrun := run (bOk_mk ⟨by simpa using h0, by simp only [intO_some]; omega, by simp only [intO_some]; omega⟩) (by simp only [intO_some]; omega) (fun _ => rfl)
        refine fin hrun ((rest _ _ _ (by omega)).trans ?_)
        simp only [intO_some, Option.map_some, capO]
        congr 2
        rw [if_neg (show ¬ c - off = L.toNat by omega)]
        exact (if_neg (show ¬ M.toNat = L.toNat by omega)).symm
theorem cutArr_sound (R : Rel B X ρ hp n w) {t e : TypeId} {len k : Nat} {x : SV} {v : Value} (hx : den ρ x = some v) (ht : P.underlying t = some (.array len e)) (hk : szOf P e = some k)
    {lo hi_ mx : Option SV} {vlo vhi vmx : Option Value} {l h m : Option Int} (hl : optN lo = some l) (hh : optN hi_ = some h) (hm : optN mx = some m) (b1 : bndV ρ lo vlo) (b2 : bndV ρ hi_ vhi) (b3 : bndV ρ mx vmx) {r : Res C}
    (hr : (cutArr (fun i => find i hp) x k len l h m).get = some r) : NewOk P B X ρ hp n w (Instr.sliceAt t v vlo vhi vmx) r := by
  unfold cutArr at hr
  split at hr
  · rename_i id off hid
    obtain ⟨hb, hr⟩ := Tr.get_ask.1 hr
    simp only [Bool.and_eq_true, decide_eq_true_eq] at hb
    obtain ⟨hb, hlt⟩ := hb
    simp only [Tr.get, Option.some.injEq] at hr; subst hr
    obtain ⟨h0, h1, h2⟩ := bOk_spec hb
    have hbase : ∃ u a, ρ id = some u ∧ baseOf u = some a ∧ v = .pointer (some (a.add off)) := by
      split at hid
      · rename_i id'
        split at hid
        · rename_i hf
          cases hid
          obtain ⟨v', hv', g, vs, rfl, _⟩ := R.obj _ _ hf
          simp only [den] at hx; rw [hx] at hv'; cases hv'
          exact ⟨_, _, hx, rfl, by rw [Addr.add_zero]⟩
        · cases hid
      · cases hid
        simp only [den, Option.bind_eq_some_iff, Option.map_eq_some_iff] at hx
        obtain ⟨u, hu, a, ha, rfl⟩ := hx
        exact ⟨u, a, hu, ha, rfl⟩
      · cases hid
    obtain ⟨u, a, hu, ha, rfl⟩ := hbase
    have hne : ¬ (len = (intO 0 l).toNat) := by omega
    refine ⟨.slice (some ((a.add off).add ((intO 0 l).toNat * k))) ((intO len h).toNat - (intO 0 l).toNat) (len - (intO 0 l).toNat), w, ρ, ?_, Asg.le_refl _, ?_, Rel.shift R (by omega)⟩
    · have hbr := bounds_run (P := P) false hl hh hm b1 b2 b3 (len := len) (cap := len) (by rw [intO_none]; exact hb) (by rw [intO_none]; omega) (fun h => by cases h) w
      rw [intO_none, Int.toNat_natCast] at hbr
      simp only [Instr.sliceAt, Sem.run_bind, run_underlying ht, Result.andThen_ok, Instr.sureAddr, Sem.run_pure, hbr, run_sizeOf hk, hne, if_false]
    · simp [den, hu, ha, Addr.add_add]
  · simp [Tr.get] at hr
theorem viewEl (R : Rel B X ρ hp n w) {id : Nat} {own full : Bool} {e : TypeId} {ts : List (C e).α} {v : Value} (hi : find id hp = some (.sl own full e ts)) (hv : ρ id = some v) {i : Nat} (hlt : i < ts.length) {eb : TypeId} {us : List (C eb).α}
    (hus : (C eb).flat us = (C e).enc (ts.getD i (C e).d)) : ∃ b cap, v = .slice (some b) ts.length cap ∧ Rel B X (ρ.add n (.slice (some (b.add (i * (C e).sz))) us.length us.length)) ((n, .sl false true eb us) :: (dem own id full e ts ++ hp)) (n + 4) w := by
  obtain ⟨a, cap, rfl, h1, hcell⟩ := flat_cell R hi hv
  have R1 := R.dem hi hv
  have hfd := find_dem hi
  have hnn := R.nn id _ _ hi rfl hv
  cases a with
  | none => simp [nnV] at hnn
  | some b =>
    refine ⟨b, cap, rfl, Rel.shift (R1.add rfl ?_ ?_ ?_ ?_ (fun _ => rfl)) (by omega)⟩
    · refine ⟨_, us.length, rfl, Nat.le_refl _, fun _ => rfl, ?_⟩
      intro j x hx
      have hj : j < (C e).sz := by
        have := (List.getElem?_eq_some_iff.1 hx).1
        rwa [hus, (C e).len] at this
      have hx' : ((C e).flat ts)[i * (C e).sz + j]? = some x := by rw [(C e).flat_get ts i j hlt hj, ← hus]; exact hx
      obtain ⟨b', hb', hc⟩ := hcell _ x hx'
      cases hb'
      exact ⟨_, rfl, by rw [Addr.add_add]; exact hc⟩
    · intro g hg
      have : b.block = g := by simpa [blk, Addr.add_block] using hg
      subst this
      exact R.blkOk id _ _ _ hi rfl hv rfl
    · intro j oj vj g hj hl hvj hgj hg
      have : b.block = g := by simpa [blk, Addr.add_block] using hg
      subst this
      refine ⟨rfl, ?_⟩
      by_cases hji : j = id
      · subst hji
        rw [hfd] at hj
        cases hj; rfl
      · cases ho : oj.owns with
        | false => rfl
        | true => exact absurd rfl (R1.sep j id oj _ vj _ b.block hji hj hfd ho rfl hvj hv hgj)
    · intro g hg
      have : b.block = g := by simpa [blk, Addr.add_block] using hg
      subst this
      exact R.prov id _ _ _ hi rfl hv rfl
theorem cutArrE_sound (R : Rel B X ρ hp n w) {t e : TypeId} {len k : Nat} {x : SV} {v : Value} (hx : den ρ x = some v) (ht : P.underlying t = some (.array len e)) (hk : szOf P e = some k)
    {lo hi_ mx : Option SV} {vlo vhi vmx : Option Value} {l h m : Option Int} (hl : optN lo = some l) (hh : optN hi_ = some h) (hm : optN mx = some m) (b1 : bndV ρ lo vlo) (b2 : bndV ρ hi_ vhi) (b3 : bndV ρ mx vmx) {r : Res C}
    (hr : (cutArrE (fun i => find i hp) n e x k len l h m).get = some r) : NewOk P B X ρ hp n w (Instr.sliceAt t v vlo vhi vmx) r := by
  unfold cutArrE at hr
  split at hr
  · rename_i id i sz j
    split at hr
    · exact cutArr_sound R (x := .ep id (i * sz + j)) hx ht hk hl hh hm b1 b2 b3 hr
    unfold cutEl at hr
    split at hr
    · split at hr
      · rename_i own full e' ts hid
        split at hr
        · rename_i hsz hj0 hkz hlen
          have hsz := Nat.eq_of_beq_eq_true hsz
          have hj0 := Nat.eq_of_beq_eq_true hj0
          have hkz := Nat.eq_of_beq_eq_true hkz
          have hlen : 0 < len := Nat.le_of_ble_eq_true hlen
          subst hsz; subst hj0; subst hkz
          split at hr
          · rename_i us hus
            obtain ⟨hlt, hr⟩ := Tr.get_ask.1 hr
            have hlt := of_decide_eq_true hlt
            simp only [Tr.get, Option.some.injEq] at hr; subst hr
            obtain ⟨e1, e2⟩ := chunk_spec (ρ := ρ) (C e) hus (denL_rawL _)
            simp only [den, Option.bind_eq_some_iff, Option.map_eq_some_iff] at hx
            obtain ⟨u, hu, a, ha, rfl⟩ := hx
            obtain ⟨b, cap, rfl, R2⟩ := viewEl R hid hu hlt e2.symm
            cases ha
            refine ⟨_, w, _, ?_, Asg.le_add ρ n _ (R.fresh n (Nat.le_refl _)), Asg.add_self ρ n _, R2⟩
            have hne : ¬ (len = 0) := by omega
            have hbr := bounds_run (P := P) false hl hh hm b1 b2 b3 (len := len) (cap := len) (by simp only [intO_none]; exact bOk_mk (by omega)) (by rw [intO_none]; omega) (fun h => by cases h) w
            simp only [intO_none, Int.toNat_natCast] at hbr
            simp only [Instr.sliceAt, Sem.run_bind, run_underlying ht, Result.andThen_ok, Instr.sureAddr, Sem.run_pure, hbr, run_sizeOf hk]
            rw [e1]
            simp only [Int.toNat_zero, Nat.zero_mul, Nat.sub_zero, Addr.add_zero, Nat.add_zero]
            first
              | rfl
              | (rw [if_neg hne]; rfl)
              | (simp [hne])
          · simp [Tr.get] at hr
        · simp [Tr.get] at hr
      · simp [Tr.get] at hr
    · simp [Tr.get] at hr
  · exact cutArr_sound R hx ht hk hl hh hm b1 b2 b3 hr
theorem pSlice_sound (R : Rel B X ρ hp n w) {t : TypeId} {lo hi mx : Bool} {x : SV} {bs : List SV} {v : Value} {r : Res C} (h : (pSlice P (fun i => find i hp) n t lo hi mx x bs).get = some r) (hx : den ρ x = some v)
    {vlo vhi vmx : Option Value} (hb : ∀ a b c, bnds lo hi mx bs = some (a, b, c) → bndV ρ a vlo ∧ bndV ρ b vhi ∧ bndV ρ c vmx) : NewOk P B X ρ hp n w (Instr.sliceAt t v vlo vhi vmx) r := by
  unfold pSlice at h
  split at h
  · rename_i slo shi smx hbn
    obtain ⟨b1, b2, b3⟩ := hb _ _ _ hbn
    split at h
    · rename_i l hh m hl hhh hm
      split at h
      · rename_i e id ht
        split at h
        · rename_i own full e' ts k hid hk
          split at h
          · rename_i hb
            have hb := Nat.eq_of_beq_eq_true hb
            subst hb
            cases own with
            | true => exact cutVs_sound R hid (h_vs R hid hx) ht hk hl hhh hm b1 b2 b3 h
            | false => exact cutSl_sound R hid hx ht hk hl hhh hm b1 b2 b3 h
          · simp [Tr.get] at h
        · simp [Tr.get] at h
      · rename_i e id sz off len cap ht
        split at h
        · rename_i own full e' ts k hid hk
          split at h
          · rename_i hb1 hb2
            have hb1 := Nat.eq_of_beq_eq_true hb1
            have hb2 := Nat.eq_of_beq_eq_true hb2
            subst hb1
            subst hb2
            exact cutVs_sound R hid hx ht hk hl hhh hm b1 b2 b3 h
          · simp [Tr.get] at h
        · simp [Tr.get] at h
      · rename_i e ht
        split at h
        · rename_i k hk
          obtain ⟨hb, h⟩ := Tr.get_ask.1 h
          simp only [Bool.and_eq_true, decide_eq_true_eq] at hb
          obtain ⟨hb, hm0⟩ := hb
          simp only [Tr.get, Option.some.injEq] at h; subst h
          simp [den] at hx; subst hx
          obtain ⟨h0, h1, h2⟩ := bOk_spec hb
          have hmx : m.isSome = true → hh.isSome = true := fun hms => by
            unfold bnds at hbn
            split at hbn <;> first
              | (cases hbn; done)
              | (simp only [Option.some.injEq, Prod.mk.injEq] at hbn; obtain ⟨rfl, rfl, rfl⟩ := hbn; first
                  | (simp [optN] at hm; subst hm; cases hms; done)
                  | (simp only [optN] at hhh; split at hhh <;> first | (cases hhh; rfl) | cases hhh))
          have hbr := bounds_run (P := P) true hl hhh hm b1 b2 b3 (len := 0) (cap := 0) hb hm0 hmx w
          have e1 : (intO 0 l).toNat = 0 := by omega
          have e2 : (intO 0 hh).toNat = 0 := by omega
          have e3 : (intO 0 m).toNat = 0 := by omega
          refine ⟨.slice none 0 0, w, ρ, ?_, Asg.le_refl _, rfl, Rel.shift R (by omega)⟩
          simp only [Int.cast_ofNat_Int] at hbr
          simp only [Instr.sliceAt, Sem.run_bind, run_underlying ht, Result.andThen_ok, Instr.slice, hbr, run_sizeOf hk, Sem.run_pure, e1, e2, e3]
          rfl
        · simp [Tr.get] at h
      · rename_i s ht
        split at h
        · obtain ⟨hbk, h⟩ := Tr.get_ask.1 h
          simp only [Tr.get, Option.some.injEq] at h; subst h
          simp [den] at hx; subst hx
          have hmx : vmx = none := by
            cases smx with
            | none => cases vmx with
              | none => rfl
              | some _ => simp [bndV] at b3
            | some y => simp only [optN] at hm; split at hm <;> cases hm
          subst hmx
          have hbr := bounds_run (P := P) false hl hhh (show optN none = some none from rfl) b1 b2 (show bndV ρ none none from trivial) (len := s.size) (cap := s.size) (by rw [intO_none]; exact hbk) (by rw [intO_none]; omega) (fun h => by cases h) w
          rw [intO_none, Int.toNat_natCast] at hbr
          refine ⟨.string (s.extract (intO 0 l).toNat (intO s.size hh).toNat), w, ρ, ?_, Asg.le_refl _, rfl, Rel.shift R (by omega)⟩
          simp only [Instr.sliceAt, Sem.run_bind, run_underlying ht, Result.andThen_ok, Instr.slice, Option.isSome_none, Bool.false_eq_true, if_false, hbr, Sem.run_pure]
        · simp [Tr.get] at h
      · rename_i len e x' ht
        split at h
        · rename_i k hk
          exact cutArrE_sound R hx ht hk hl hhh hm b1 b2 b3 h
        · simp [Tr.get] at h
      · simp [Tr.get] at h
    · simp [Tr.get] at h
  · simp [Tr.get] at h
end sound
end
end Go.Sx
/-
  The symbolic evaluator: append. Own work; nothing here is trusted.
-/
namespace Go.Sx
noncomputable section
open Go.RowKit
variable {C : Tab} {P : Program}
def srcL (look : Nat → Option (SO C)) (e : TypeId) (x : SV) : Option (List (C e).α) := match x with
  | .h id => match look id with
    | some (.sl _ _ e2 us) => match Nat.decEq e2 e with
      | .isTrue h => some (h ▸ us)
      | .isFalse _ => none
    | _ => none
  | .raw (.slice _ 0 0) => some []
  | .bs id off len _ => match look id with
    | some (.box cs _) => match segS cs off (len * (C e).sz) with
      | some l => chunk (C e) len l
      | none => none
    | some (.sl _ _ e' ts) => match Nat.blt (off / (C e').sz) ts.length, segS (rawL ((C e').enc (ts.getD (off / (C e').sz) (C e').d))) (off % (C e').sz) (len * (C e).sz) with
      | true, some l => chunk (C e) len l
      | _, _ => none
    | _ => none
  | _ => none
section sound
variable {B : World} {X : Own} {ρ : Asg} {hp : Hp C} {n : Nat} {w : World}
theorem srcL_spec (R : Rel B X ρ hp n w) {e : TypeId} {x : SV} {us : List (C e).α} {v : Value} (h : srcL (fun i => find i hp) e x = some us) (hx : den ρ x = some v) :
    ∃ a cap, v = .slice a us.length cap ∧ ∀ j y, ((C e).flat us)[j]? = some y → ∃ a', a = some a' ∧ w.cell? (a'.add j) = some y := by
  unfold srcL at h
  split at h
  · rename_i id
    split at h
    · rename_i own full e2 us2 hid
      split at h
      · rename_i he _
        subst he
        cases h
        obtain ⟨a, cap, rfl, _, hc⟩ := flat_cell R hid hx
        exact ⟨a, cap, rfl, hc⟩
      · cases h
    · cases h
  · cases h
    simp [den] at hx; subst hx
    exact ⟨_, 0, rfl, fun j y hy => by simp [Codec.flat] at hy⟩
  · rename_i id off len cap
    split at h
    · rename_i cs ty hid
      split at h
      · rename_i l hl
        simp only [den, Option.bind_eq_some_iff, Option.map_eq_some_iff] at hx
        obtain ⟨u, hu, a, ha, rfl⟩ := hx
        obtain ⟨v', hv', g, vs, rfl, _, hden, hheap⟩ := R.obj id _ hid
        rw [hu] at hv'; cases hv'
        simp [baseOf] at ha; subst ha
        obtain ⟨e1, e2, e3⟩ := segS_spec hl hden
        obtain ⟨h1, h2⟩ := chunk_spec (C e) h e2
        refine ⟨_, cap, by rw [h1], fun j y hy => ⟨_, rfl, ?_⟩⟩
        rw [Addr.add_add, Addr.add_at, cell_of_row w g _ _ _ _ hheap, Nat.zero_add]
        rw [← h2, List.getElem?_take] at hy
        split at hy
        · rw [List.getElem?_drop] at hy; simpa using hy
        · cases hy
      · cases h
    · rename_i own full e' ts hid
      split at h
      · rename_i l hlt hl
        have hlt := Nat.le_of_ble_eq_true hlt
        simp only [den, Option.bind_eq_some_iff, Option.map_eq_some_iff] at hx
        obtain ⟨u, hu, a, ha, rfl⟩ := hx
        obtain ⟨a0, cap0, rfl, _, hcell⟩ := flat_cell R hid hu
        have ha : a0 = some a := by
          cases a0 with
          | none => simp [baseOf] at ha
          | some b => simpa [baseOf] using ha
        subst ha
        obtain ⟨e1, e2, e3⟩ := segS_spec hl (denL_rawL (ρ := ρ) _)
        rw [(C e').len] at e3
        obtain ⟨h1, h2⟩ := chunk_spec (C e) h e2
        refine ⟨_, cap, by rw [h1], fun j y hy => ⟨_, rfl, ?_⟩⟩
        rw [← h2, List.getElem?_take] at hy
        split at hy
        · rename_i hj
          rw [List.getElem?_drop] at hy
          obtain ⟨a2, ha2, hc⟩ := hcell (off / (C e').sz * (C e').sz + (off % (C e').sz + j)) y (by rw [(C e').flat_get ts _ _ hlt (by omega)]; exact hy)
          cases ha2
          rw [Addr.add_add]
          have : off / (C e').sz * (C e').sz + (off % (C e').sz + j) = off + j := by
            have := Nat.div_add_mod off (C e').sz
            rw [Nat.mul_comm] at this
            omega
          rw [← this]; exact hc
        · cases hy
      · cases h
    · cases h
  · cases h
end sound
def roomB (k by_ : Nat) : Bool := decide (k * by_ ≤ 140737488355328)
def overL {α : Type} (ts : List α) (k : Nat) (us : List α) : List α := ts.take k ++ us ++ ts.drop (k + us.length)
theorem overL_length {α : Type} {ts us : List α} {k : Nat} (h : k + us.length ≤ ts.length) : (overL ts k us).length = ts.length := by
  unfold overL; simp; omega
theorem overL_take {α : Type} {tot ts us : List α} {k : Nat} (h : tot.take ts.length = ts) (hk : k + us.length ≤ ts.length) : (overL tot k us).take ts.length = overL ts k us := by
  unfold overL
  have hl : ts.length ≤ tot.length := by
    have := congrArg List.length h
    simp at this; omega
  have := take_splice (cur := tot) (F := ts) (us := us) (L := ts.length) (o := k) h rfl hk
  exact this
theorem overL_flat (c : Codec) (ts us : List c.α) (k : Nat) : c.flat (overL ts k us) = (c.flat ts).take (k * c.sz) ++ c.flat us ++ (c.flat ts).drop (k * c.sz + (c.flat us).length) := by
  unfold overL
  rw [c.flat_append, c.flat_append, c.flat_take, c.flat_drop, c.flat_length, Nat.add_mul]
def strL {α : Type} (f : Int → α) (s : ByteArray) : List α := s.data.toList.map fun b => f b.toNat
def srcT (look : Nat → Option (SO C)) (e : TypeId) (x : SV) : Tr (List (C e).α) := match x with
  | .raw (.string s) => match (C e).byt with
    | some b => .leaf (strL b.f s)
    | none => .fail
  | .vs id sz bs off len _ => match look id with
    | some (.sl _ _ e2 ts) => match Nat.decEq e2 e, Nat.beq sz (C e).sz with
      | .isTrue h, true => .br (decide (off + len ≤ ts.length)) (.leaf ((((h ▸ ts : List (C e).α)).drop off).take len)) .fail
      | _, _ => .fail
    | _ => .fail
  | x => Tr.ofOpt (srcL look e x)
structure SrcV (P : Program) (size : Nat) (x : Value) (n : Nat) (news : List Value) (w : World) : Prop where
  len : ∀ w' : World, (Builtin.lenOf x).run P w' = .ok n w'
  cells : ∀ m, m ≤ n → (Builtin.firstCells size m x).run P w = .ok (news.take (m * size)).toArray w
  cellsD : (Builtin.firstCells size n x).run P w.drew = .ok news.toArray w.drew
  newsLen : news.length = n * size
theorem SrcV.slice {size n cap : Nat} {a : Option Addr} {news : List Value} {w : World} (hl : news.length = n * size) (h : ∀ j y, news[j]? = some y → ∃ a', a = some a' ∧ w.cell? (a'.add j) = some y) (hs : 0 < size) : SrcV P size (.slice a n cap) n news w := by
  cases a with
  | none =>
    have : news = [] := by
      cases news with
      | nil => rfl
      | cons y r => obtain ⟨a', e, _⟩ := h 0 y rfl; cases e
    subst this
    exact ⟨fun _ => rfl, fun m hm => by simpa using run_firstCells_none w size m n cap, run_firstCells_none w.drew size n n cap, hl⟩
  | some a =>
    have h' : ∀ j y, news[j]? = some y → w.cell? (a.add j) = some y := fun j y hy => by obtain ⟨a', e, hc⟩ := h j y hy; cases e; exact hc
    refine ⟨fun _ => rfl, fun m hm => ?_, run_firstCells_some w.drew size n a n cap news hl (by simpa using h'), hl⟩
    have hm' := Nat.mul_le_mul_right size hm
    exact run_firstCells_some w size m a n cap _ (by rw [List.length_take]; omega) (fun j v hv => h' j v (by
      rw [List.getElem?_take] at hv
      split at hv
      · exact hv
      · cases hv))
theorem bytes_length (s : ByteArray) : (s.data.toList.map fun b : UInt8 => Value.int .u8 b.toNat).length = s.size := by
  rw [List.length_map, Array.length_toList]; rfl
theorem SrcV.string {s : ByteArray} {w : World} : SrcV P 1 (.string s) s.size (s.data.toList.map fun b : UInt8 => Value.int .u8 b.toNat) w := by
  have key : ∀ (m : Nat) (w : World), (Builtin.firstCells 1 m (.string s)).run P w = .ok ((s.data.toList.map fun b : UInt8 => Value.int .u8 b.toNat).take m).toArray w := fun m w => by
    simp only [Builtin.firstCells, Sem.run_pure]
    congr 1
    apply Array.ext'
    simp [List.map_take]
  refine ⟨fun _ => rfl, fun m hm => by rw [Nat.mul_one]; exact key m w, ?_, by rw [bytes_length, Nat.mul_one]⟩
  rw [key, List.take_of_length_le (by rw [bytes_length]; exact Nat.le_refl _)]
theorem strL_flat {c : Codec} (b : Byt c.α c.enc) (s : ByteArray) : c.flat (strL b.f s) = s.data.toList.map fun b : UInt8 => Value.int .u8 b.toNat := by
  unfold strL
  induction s.data.toList with
  | nil => rfl
  | cons x r ih => simp only [List.map_cons, Codec.flat, b.law, ih]; rfl
theorem byt_sz {c : Codec} (b : Byt c.α c.enc) : c.sz = 1 := by rw [← c.len (b.f 0), b.law]; rfl
section sound
variable {B : World} {X : Own} {ρ : Asg} {hp : Hp C} {n : Nat} {w : World}
theorem srcT_spec (R : Rel B X ρ hp n w) {e : TypeId} {x : SV} {us : List (C e).α} {v : Value} (h : (srcT (fun i => find i hp) e x).get = some us) (hx : den ρ x = some v) :
    SrcV P (C e).sz v us.length ((C e).flat us) w ∧ ((∃ a l c, v = .slice a l c) ∨ ∃ s, v = .string s) := by
  unfold srcT at h
  split at h
  · rename_i s
    split at h
    · rename_i b hb
      simp only [Tr.get, Option.some.injEq] at h; subst h
      simp [den] at hx; subst hx
      refine ⟨?_, .inr ⟨s, rfl⟩⟩
      rw [strL_flat, byt_sz b, show (strL b.f s).length = s.size from by unfold strL; rw [List.length_map, Array.length_toList]; rfl]
      exact SrcV.string
    · simp [Tr.get] at h
  · rename_i id sz bs off len cap
    split at h
    · rename_i own full e2 ts hid
      split at h
      · rename_i he _ hsz
        subst he
        have hsz := Nat.eq_of_beq_eq_true hsz
        subst hsz
        obtain ⟨hb, h⟩ := Tr.get_ask.1 h
        have hb := of_decide_eq_true hb
        simp only [Tr.get, Option.some.injEq] at h; subst h
        obtain ⟨a, c, hv, hc, _, rfl, hcell⟩ := vs_den R hid hx
        have hlen : (((ts : List (C e2).α).drop off).take len).length = len := by rw [List.length_take, List.length_drop]; omega
        refine ⟨?_, .inl ⟨_, _, _, rfl⟩⟩
        have := SrcV.slice (P := P) (size := (C e2).sz) (n := (((ts : List (C e2).α).drop off).take len).length) (cap := capO cap (c - off)) (a := some (if off = c then a.add (Nat.min bs off * (C e2).sz) else a.add (off * (C e2).sz))) (news := (C e2).flat ((ts.drop off).take len)) (w := w) ((C e2).flat_length _) (fun j y hy => ⟨_, rfl, ?_⟩) (C e2).pos
        · rw [hlen] at this; rw [hlen]; exact this
        · have hj : j < len * (C e2).sz := by
            have := (List.getElem?_eq_some_iff.1 hy).1
            rwa [(C e2).flat_length, hlen] at this
          have hne : ¬ off = c := fun e => by
            have : len = 0 := by omega
            subst this; simp at hj
          rw [if_neg hne, Addr.add_add]
          rw [(C e2).flat_take, (C e2).flat_drop, List.getElem?_take, if_pos (by exact hj), List.getElem?_drop] at hy
          exact hcell _ _ hy
      · simp [Tr.get] at h
    · simp [Tr.get] at h
  · rw [Tr.get_ofOpt] at h
    obtain ⟨a, cap, rfl, hc⟩ := srcL_spec R h hx
    exact ⟨SrcV.slice ((C e).flat_length us) hc (C e).pos, .inl ⟨_, _, _, rfl⟩⟩
structure AppV (P : Program) (t tx ty e : TypeId) (i : TypeInfo) (z : Value) (x : Value) (n : Nat) (news : List Value) (w : World) : Prop where
  newsLen : news.length = n * i.size
  room : ∀ base sLen sCap, sLen + n ≤ sCap → (Builtin.append_ #[t, tx] ty #[.slice base sLen sCap, x]).run P w = (match base with | some a => (storeCells (a.add (sLen * i.size)) news).run P w | none => Result.ok () w).andThen fun _ w' => .ok (.slice base (sLen + n) sCap) w'
  grow : ∀ base sLen sCap (olds : List Value), sCap < sLen + n → ((sLen + n : Nat) : Int) ≤ 9223372036854775807 → Builtin.nextslicecap (sLen + n) sCap * i.bytes ≤ 281474976710656 →
    (Builtin.firstCells i.size sLen (.slice base sLen sCap)).run P w.drew = .ok olds.toArray w.drew →
    (Builtin.append_ #[t, tx] ty #[.slice base sLen sCap, x]).run P w = .ok (.slice (some ⟨w.heap.size, 0, none⟩) (sLen + n) (grownCap w (sLen + n) sCap e))
      (w.drew.alloc (.cells (olds.toArray ++ news.toArray ++ Builtin.zeroCells z.cells (grownCap w (sLen + n) sCap e - (sLen + n))) e))
theorem AppV.ofSrc {t tx ty e : TypeId} {i : TypeInfo} {z x : Value} {k : Nat} {news : List Value} (ht : P.underlying t = some (.slice e)) (hi : P.info? e = some i) (hz : i.zero = some z) (hx : (∃ e', P.underlying tx = some (.slice e')) ∨ P.underlying tx = some .string)
    (hs : SrcV P i.size x k news w) : AppV P t tx ty e i z x k news w where
  newsLen := hs.newsLen
  room base sLen sCap hroom := by
    have hcells := hs.cells k (Nat.le_refl _)
    rw [List.take_of_length_le (by rw [hs.newsLen]; exact Nat.le_refl _)] at hcells
    rcases hx with ⟨e', hk⟩ | hk <;> cases base <;> simp [Builtin.append_, run_underlying ht, run_underlying hk, sizeOf, typeInfo, hi, hs.len, hroom, hcells]
  grow base sLen sCap olds hg h63 hfit hold := by
    have hn : ¬ (sLen + k ≤ sCap) := by omega
    have h63' : ¬ (9223372036854775807 < ((sLen : Int) + (k : Int))) := by omega
    have h48' : ¬ (281474976710656 < Builtin.nextslicecap (sLen + k) sCap * i.bytes) := by omega
    rcases hx with ⟨e', hk⟩ | hk <;>
      (simp [Builtin.append_, run_underlying ht, run_underlying hk, sizeOf, typeInfo, zeroValue, hi, hz, hs.len, hn, h63', h48', Question.forced, hs.cellsD, hold, newRow, grownCap]
       congr 2
       apply Array.ext'
       simp [List.append_assoc])
theorem AppV.zeros {t tx ty e : TypeId} {i : TypeInfo} {z : Value} {kx kk : IntKind} {l : Int} (ht : P.underlying t = some (.slice e)) (hi : P.info? e = some i) (hz : i.zero = some z) (hx : P.underlying tx = some (.int kx)) (hzs : z.cells.size = i.size)
    (h0 : 0 ≤ l) (h1 : l ≤ 9223372036854775807) (hb : l * (i.bytes : Int) ≤ 281474976710656) : AppV P t tx ty e i z (.int kk l) l.toNat (Builtin.zeroCells z.cells l.toNat).toList w := by
  obtain ⟨N, rfl⟩ := Int.eq_ofNat_of_zero_le h0
  have hw : IntKind.i64.wrap (N : Int) = N := IntWalk.i64_in _ ⟨by omega, h1⟩
  have h0' : ¬ ((N : Int) < 0) := by omega
  have hb' : ¬ (281474976710656 < (N : Int) * (i.bytes : Int)) := by omega
  have hzc : N * i.size = 0 → Builtin.zeroCells z.cells N = #[] := fun h => by
    apply Array.eq_empty_of_size_eq_zero; rw [size_zeroCells, hzs, h]
  refine ⟨(by rw [Array.length_toList, size_zeroCells, hzs]), fun base sLen sCap hroom => ?_, fun base sLen sCap olds hg h63 hfit hold => ?_⟩
  · simp only [Int.toNat_natCast] at hroom ⊢
    by_cases hz0 : N * i.size = 0
    · have hzc := hzc hz0
      cases base <;> simp [Builtin.append_, run_underlying ht, run_underlying hx, sizeOf, typeInfo, zeroValue, hi, hz, asInt, asIntOf, hw, h0', hb', hroom, hz0, hzc]
    · have hz1 : N ≠ 0 ∧ i.size ≠ 0 := ⟨fun h => hz0 (by rw [h, Nat.zero_mul]), fun h => hz0 (by rw [h, Nat.mul_zero])⟩
      cases base <;> simp [Builtin.append_, run_underlying ht, run_underlying hx, sizeOf, typeInfo, zeroValue, hi, hz, asInt, asIntOf, hw, h0', hb', hroom, hz0, hz1]
  · simp only [Int.toNat_natCast] at hg h63 hfit ⊢
    have hn : ¬ (sLen + N ≤ sCap) := by omega
    have h63' : ¬ (9223372036854775807 < ((sLen : Int) + (N : Int))) := by omega
    have h48' : ¬ (281474976710656 < Builtin.nextslicecap (sLen + N) sCap * i.bytes) := by omega
    by_cases hz0 : N * i.size = 0
    · have hzc := hzc hz0
      simp [Builtin.append_, run_underlying ht, run_underlying hx, sizeOf, typeInfo, zeroValue, hi, hz, asInt, asIntOf, hw, h0', hb', hn, h63', h48', hz0, hzc, Question.forced, hold, newRow, grownCap]
    · have hz1 : N ≠ 0 ∧ i.size ≠ 0 := ⟨fun h => hz0 (by rw [h, Nat.zero_mul]), fun h => hz0 (by rw [h, Nat.mul_zero])⟩
      simp [Builtin.append_, run_underlying ht, run_underlying hx, sizeOf, typeInfo, zeroValue, hi, hz, asInt, asIntOf, hw, h0', hb', hn, h63', h48', hz0, hz1, Question.forced, hold, newRow, grownCap]
end sound
end
end Go.Sx
/-
  The symbolic evaluator: append, by what the second argument yields. Own work; nothing here is trusted.
-/
namespace Go.Sx
noncomputable section
open Go.RowKit
variable {C : Tab} {P : Program}
def appGo (look : Nat → Option (SO C)) (n : Nat) (e by_ : Nat) (s : SV) (us : List (C e).α) : Tr (Res C) := match s with
  | .h id => match look id with
    | some (.sl own full e' ts) => match Nat.decEq e' e with
      | .isTrue h => match own with
        | true => .br (roomB (ts.length + us.length) by_) (.leaf (.h n, [(n, .sl true false e ((h ▸ ts : List (C e).α) ++ us)), (id, .gone)])) .fail
        | false => match full with
          | true => .br (roomB (ts.length + us.length) by_) (.br (decide (us.length = 0)) (.leaf (.h id, [])) (.leaf (.h n, [(n, .sl true false e ((h ▸ ts : List (C e).α) ++ us))]))) .fail
          | false => .fail
      | .isFalse _ => .fail
    | _ => .fail
  | .raw (.slice none 0 0) => .br (roomB us.length by_) (.br (decide (us.length = 0)) (.leaf (.raw (.slice none 0 0), [])) (.leaf (.h n, [(n, .sl true false e us)]))) .fail
  | .vs id sz bs off len cap => match look id with
    | some (.sl own full e' ts) => match Nat.decEq e' e, Nat.beq sz (C e).sz, own with
      | .isTrue h, true, true => .br (decide (off + len ≤ ts.length))
          (.br (match cap with | some m => decide (len + us.length ≤ m) | none => decide (off + len + us.length ≤ ts.length))
            (.br (decide (off + len + us.length ≤ ts.length)) (.leaf (.vs id sz bs off (len + us.length) cap, [(id, .sl true full e (overL (h ▸ ts : List (C e).α) (off + len) us))])) .fail)
            (.br (match cap with | some _ => true | none => full) (.br (roomB (len + us.length) by_) (.leaf (.h n, [(n, .sl true false e ((((h ▸ ts : List (C e).α)).drop off).take len ++ us))])) .fail) .fail)) .fail
      | _, _, _ => .fail
    | _ => .fail
  | _ => .fail
def pAppend (P : Program) (look : Nat → Option (SO C)) (n : Nat) (t tx : TypeId) (s x : SV) : Tr (Res C) := match P.underlying t with
  | some (.slice e) => match szOf P e, zeroT P e, bytesT P e with
    | some k, some z, some by_ => match Nat.beq z.cells.size k, Nat.beq k (C e).sz, Nat.ble 1 by_ with
      | true, true, true => match (C e).dec (rawL z.cells.toList) with
        | some a0 => match P.underlying tx with
          | some (.slice _) => (srcT look e x).bind fun us => appGo look n e by_ s us
          | some .string => (srcT look e x).bind fun us => appGo look n e by_ s us
          | some (.int _) => match x with
            | .raw (.int _ l) => .br (decide (0 ≤ l) && (decide (l ≤ 9223372036854775807) && decide (l * (by_ : Int) ≤ 281474976710656))) (appGo look n e by_ s (List.replicate l.toNat a0)) .fail
            | _ => .fail
          | _ => .fail
        | none => .fail
      | _, _, _ => .fail
    | _, _, _ => .fail
  | _ => .fail
section sound
variable {B : World} {X : Own} {ρ : Asg} {hp : Hp C} {n : Nat} {w : World}
structure AppT (P : Program) (t e : TypeId) (i : TypeInfo) (z : Value) (c : Codec) : Prop where
  ht : P.underlying t = some (.slice e)
  hi : P.info? e = some i
  hz : i.zero = some z
  hsz : i.size = c.sz
  hzs : ∃ a0, z.cells.toList = c.enc a0
  hb : 1 ≤ i.bytes
theorem room_le {k b : Nat} (h : k * b ≤ 140737488355328) (hb : 1 ≤ b) : k ≤ 140737488355328 := by
  have := Nat.mul_le_mul_left k hb
  omega
theorem zero_flat {c : Codec} {z : Value} {a0 : c.α} (hz : z.cells.toList = c.enc a0) (m : Nat) : (Builtin.zeroCells z.cells m).toList = c.flat (List.replicate m a0) := by
  rw [flat_replicate, ← hz]; unfold Builtin.zeroCells; rw [made_eq]
theorem add_new_slice (R : Rel B X ρ hp n w) {e : TypeId} {ts us : List (C e).α} {z : Value} {m : Nat} {a0 : (C e).α} (hz : z.cells.toList = (C e).enc a0) (hm : ts.length + us.length ≤ m) :
    Rel B X (ρ.add n (.slice (some ⟨w.heap.size, 0, none⟩) (ts.length + us.length) m)) ((n, .sl true false e (ts ++ us)) :: hp) (n + 4)
      (w.drew.alloc (.cells (((C e).flat ts).toArray ++ ((C e).flat us).toArray ++ Builtin.zeroCells z.cells (m - (ts.length + us.length))) e)) := by
  have := newSlice R.drew (e := e) (ts := ts ++ us) (tot := (ts ++ us) ++ List.replicate (m - (ts.length + us.length)) a0) (full := false) (cap := m) (cur := ((C e).flat ts).toArray ++ ((C e).flat us).toArray ++ Builtin.zeroCells z.cells (m - (ts.length + us.length))) (by simpa using hm) (fun h => by cases h)
    (by
      apply Array.toList_inj.1
      simp only [Array.toList_append, zero_flat hz, (C e).flat_append])
    (by simp; omega) List.take_left
  simpa using this
theorem app_grow (R : Rel B X ρ hp n w) {t tx ty e : TypeId} {i : TypeInfo} {z x : Value} (A : AppT P t e i z (C e)) {us : List (C e).α} (V : AppV P t tx ty e i z x us.length ((C e).flat us) w) {base : Option Addr} {ts : List (C e).α} {cap : Nat}
    (hroom : roomB (ts.length + us.length) i.bytes = true) (hlt : cap < ts.length + us.length) (hbc : ∀ j y, ((C e).flat ts)[j]? = some y → ∃ b', base = some b' ∧ w.cell? (b'.add j) = some y) :
    ∃ v w' ρ', (Builtin.append_ #[t, tx] ty #[.slice base ts.length cap, x]).run P w = .ok v w' ∧ ρ.le ρ' ∧ ρ' n = some v ∧ Rel B X ρ' ((n, .sl true false e (ts ++ us)) :: hp) (n + 4) w' := by
  have hroom := of_decide_eq_true hroom
  have hkk := room_le hroom A.hb
  obtain ⟨a0, hz0⟩ := A.hzs
  have hs := SrcV.slice (P := P) (size := (C e).sz) (n := ts.length) (cap := cap) (w := w) ((C e).flat_length ts) hbc (C e).pos
  have hold : (Builtin.firstCells i.size ts.length (.slice base ts.length cap)).run P w.drew = .ok ((C e).flat ts).toArray w.drew := by
    have := hs.cellsD; rw [A.hsz]; exact this
  have hrun := V.grow base ts.length cap ((C e).flat ts) hlt (by omega) (growslice_fits hlt hroom) hold
  have hge := grownCap_ge w (ts.length + us.length) cap e
  exact ⟨_, _, _, hrun, Asg.le_add ρ n _ (R.fresh n (Nat.le_refl _)), Asg.add_self ρ n _, add_new_slice R hz0 hge⟩
theorem store_nil (a : Addr) (w : World) : (storeCells a []).run P w = .ok () w := rfl
theorem Rel.over (R : Rel B X ρ hp n w) {id : Nat} {full : Bool} {e : TypeId} {ts : List (C e).α} {v : Value} (hi : find id hp = some (.sl true full e ts)) (hv : ρ id = some v) (k : Nat) (us : List (C e).α) (hk : k + us.length ≤ ts.length) :
    ∃ a c, v = .slice (some a) ts.length c ∧ ∃ w', (storeCells (a.add (k * (C e).sz)) ((C e).flat us)).run P w = .ok () w' ∧ Rel B X ρ ((id, .sl true full e (overL ts k us)) :: hp) n w' := by
  obtain ⟨v', hv', a, c, rfl, h1, h2, h3⟩ := R.obj id _ hi
  rw [hv] at hv'; cases hv'
  obtain ⟨g, tot, rfl, hok, hheap, hcapt, htake⟩ := h3
  refine ⟨_, c, rfl, ?_⟩
  have hul := (C e).flat_length us
  have hmul : (k + us.length) * (C e).sz ≤ tot.length * (C e).sz := Nat.mul_le_mul_right _ (by omega)
  rw [Nat.add_mul] at hmul
  have hst := run_storeCells_at P g (k * (C e).sz) e ((C e).flat us) 0 _ w hheap (by simp only [List.size_toArray, (C e).flat_length]; omega) ((C e).flat_one us)
  simp only [Nat.add_zero] at hst
  have hspl : ((C e).flat tot).toArray.toList.take (k * (C e).sz) ++ (C e).flat us ++ ((C e).flat tot).toArray.toList.drop (k * (C e).sz + ((C e).flat us).length) = (C e).flat (overL tot k us) := (overL_flat (C e) tot us k).symm
  rw [hspl] at hst
  refine ⟨_, by rw [Addr.add_at, Nat.zero_add]; exact hst, ?_⟩
  have hol : (overL ts k us).length = ts.length := overL_length hk
  refine R.set hi hv rfl rfl (by simp) (by simp) (by simp) (by simp) (fun k' hk' => ?_) ⟨_, c, by rw [hol], by rw [hol]; exact h1, by rw [hol]; exact h2, g, overL tot k us, rfl, hok, setRow_heap w g _ _ e _ hheap, ?_, ?_⟩ (fun g' hg' => ?_)
  · exact setRow_other w g k' _ (fun e => hk' (by simp [blk, e]))
  · rw [overL_length (by omega)]; exact hcapt
  · rw [hol]; exact overL_take htake hk
  · simp [blk] at hg'; subst hg'; exact hok
theorem Rel.overV (R : Rel B X ρ hp n w) {id bs off len : Nat} {cap : Option Nat} {full : Bool} {e : TypeId} {ts : List (C e).α} {v : Value} (hi : find id hp = some (.sl true full e ts)) (hv : den ρ (.vs id (C e).sz bs off len cap) = some v) (k : Nat) (us : List (C e).α) (hk : off + k + us.length ≤ ts.length) :
    ∃ a c, v = .slice (some a) len c ∧ ∃ w', (storeCells (a.add (k * (C e).sz)) ((C e).flat us)).run P w = .ok () w' ∧ Rel B X ρ ((id, .sl true full e (overL ts (off + k) us)) :: hp) n w' := by
  obtain ⟨a, c, hid, hc, _, rfl, _⟩ := vs_den R hi hv
  obtain ⟨a2, c2, he, w', hst, R'⟩ := R.over (P := P) hi hid (off + k) us hk
  cases he
  refine ⟨_, _, rfl, ?_⟩
  by_cases hoc : off = c
  · have h0 : us = [] := List.length_eq_zero_iff.1 (by omega)
    subst h0
    rw [show (C e).flat ([] : List (C e).α) = [] from rfl, store_nil] at hst
    cases hst
    exact ⟨w, store_nil _ _, R'⟩
  · rw [if_neg hoc, Addr.add_add, ← Nat.add_mul]
    exact ⟨w', hst, R'⟩
theorem appGo_sound (R : Rel B X ρ hp n w) {t tx ty e : TypeId} {i : TypeInfo} {z : Value} (A : AppT P t e i z (C e)) {s : SV} {us : List (C e).α} {vs vx : Value} {r : Res C} (h : (appGo (fun i => find i hp) n e i.bytes s us).get = some r)
    (hs : den ρ s = some vs) (V : AppV P t tx ty e i z vx us.length ((C e).flat us) w) : NewOk P B X ρ hp n w (Builtin.append_ #[t, tx] ty #[vs, vx]) r := by
  have hn : ρ n = none := R.fresh n (Nat.le_refl _)
  have hle : ∀ u, ρ.le (ρ.add n u) := fun u => Asg.le_add ρ n u hn
  have hul := (C e).flat_length us
  unfold appGo at h
  split at h
  · rename_i id
    split at h
    · rename_i own full e' ts hid
      split at h
      · rename_i he _
        subst he
        obtain ⟨v', hv', a, cap, rfl, h1, h2, h3⟩ := R.obj id _ hid
        simp only [den] at hs
        rw [hs] at hv'; cases hv'
        obtain ⟨_, _, heq, _, hcl⟩ := flat_cell R hid hs
        cases heq
        split at h
        · obtain ⟨hroom, h⟩ := Tr.get_ask.1 h
          simp only [Tr.get, Option.some.injEq] at h; subst h
          have Rg := R.gone id hs
          by_cases hfit : ts.length + us.length ≤ cap
          · obtain ⟨g, tot, rfl, hok, hheap, hcapt, htake⟩ := h3
            have hother : ∀ j oj vj, find j ((id, SO.gone) :: hp) = some oj → oj.live = true → ρ j = some vj → blk vj ≠ some g := fun j oj vj hj hl hvj => by
              rw [find_cons] at hj
              split at hj
              · simp at hj; subst hj; simp [SO.live] at hl
              · rename_i hji
                exact R.sep id j _ oj _ vj g (Ne.symm hji) hid hj rfl hl hs hvj rfl
            have hmul : (ts.length + us.length) * (C e').sz ≤ tot.length * (C e').sz := Nat.mul_le_mul_right _ (by omega)
            rw [Nat.add_mul] at hmul
            have hst := run_storeCells_at P g (ts.length * (C e').sz) e' ((C e').flat us) 0 _ w hheap (by simp only [List.size_toArray, (C e').flat_length]; omega) ((C e').flat_one us)
            simp only [Nat.add_zero] at hst
            have hspl : ((C e').flat tot).toArray.toList.take (ts.length * (C e').sz) ++ (C e').flat us ++ ((C e').flat tot).toArray.toList.drop (ts.length * (C e').sz + ((C e').flat us).length) = (C e').flat (ts ++ us ++ tot.drop (ts.length + us.length)) := by
              rw [(C e').flat_append, (C e').flat_append, hul, ← Nat.add_mul, ← (C e').flat_take, ← (C e').flat_drop, htake]
            rw [hspl] at hst
            have hrun := V.room (some ⟨g, 0, none⟩) ts.length cap hfit
            simp only [A.hsz, Addr.add_at, Nat.zero_add, hst, Result.andThen_ok] at hrun
            refine ⟨.slice (some ⟨g, 0, none⟩) (ts.length + us.length) cap, _, _, hrun, hle _, Asg.add_self ρ n _, Rel.shift (n := n + 1) ?_ (by omega)⟩
            have Rw := Rg.world (w' := w.setRow g ((C e').flat (ts ++ us ++ tot.drop (ts.length + us.length))).toArray)
              (by simp) (by simp) (by simp) (by simp) (fun b hb hx => setRow_other w g b _ (fun e => by subst e; rcases hok with h' | h'; omega; exact hx h'))
              (fun j oj vj g' hj hl hvj hg' => setRow_other w g g' _ (fun e => by subst e; exact hother j oj vj hj hl hvj hg'))
            refine Rw.add (v := .slice (some ⟨g, 0, none⟩) (ts.length + us.length) cap) (o := .sl true false e' (ts ++ us)) rfl ⟨_, cap, by simp, by simpa using hfit, fun h => (by cases h), g, _, rfl, hok, setRow_heap w g _ _ e' _ hheap, ?_, ?_⟩ (fun g' hg' => ?_) (fun j oj vj g' hj hl hvj hgj hg' => ?_) (fun g' hg' => R.prov id _ _ g' hid rfl hs hg')
            · simp; omega
            · exact List.take_left
            · have := R.blkOk id _ _ g' hid rfl hs hg'
              simpa using this
            · simp [blk] at hg'; subst hg'
              exact absurd hgj (hother j oj vj hj hl hvj)
          · exact app_grow Rg A V hroom (by omega) hcl
        · split at h
          · obtain ⟨hroom, h⟩ := Tr.get_ask.1 h
            have hcap := h2 rfl
            subst hcap
            rcases Tr.get_br.1 h with ⟨hb, h⟩ | ⟨hb, h⟩
            · simp only [Tr.get, Option.some.injEq] at h; subst h
              have hz := of_decide_eq_true hb
              have h0 : us = [] := List.length_eq_zero_iff.1 hz
              subst h0
              have hrun := V.room a ts.length ts.length (by simp)
              refine ⟨_, w, ρ, hrun.trans ?_, Asg.le_refl _, hs, Rel.shift R (by omega)⟩
              cases a <;> rfl
            · simp only [Tr.get, Option.some.injEq] at h; subst h
              have hz := of_decide_eq_false hb
              exact app_grow R A V hroom (by omega) hcl
          · simp [Tr.get] at h
      · simp [Tr.get] at h
    · simp [Tr.get] at h
  · obtain ⟨hroom, h⟩ := Tr.get_ask.1 h
    simp [den] at hs; subst hs
    rcases Tr.get_br.1 h with ⟨hb, h⟩ | ⟨hb, h⟩
    · simp only [Tr.get, Option.some.injEq] at h; subst h
      have hz := of_decide_eq_true hb
      have h0 : us = [] := List.length_eq_zero_iff.1 hz
      subst h0
      have hrun := V.room none 0 0 (by simp)
      exact ⟨_, w, ρ, hrun, Asg.le_refl _, rfl, Rel.shift R (by omega)⟩
    · simp only [Tr.get, Option.some.injEq] at h; subst h
      have hz := of_decide_eq_false hb
      have := app_grow R A V (base := none) (ts := []) (cap := 0) (by simpa using hroom) (by simp; omega) (fun j y hy => by simp [Codec.flat] at hy)
      simp only [List.length_nil, List.nil_append] at this
      exact this
  · rename_i id sz bs off len cap
    split at h
    · rename_i own full e' ts hid
      split at h
      · rename_i he _ hsz
        subst he
        have hsz := Nat.eq_of_beq_eq_true hsz
        subst hsz
        obtain ⟨hol, h⟩ := Tr.get_ask.1 h
        have hol := of_decide_eq_true hol
        obtain ⟨a, c, hidv, hc, hful, hvs, hcell⟩ := vs_den R hid hs
        have hseg : ((ts.drop off).take len).length = len := by rw [List.length_take, List.length_drop]; omega
        rcases Tr.get_br.1 h with ⟨hb, h⟩ | ⟨hb, h⟩
        · obtain ⟨hin, h⟩ := Tr.get_ask.1 h
          have hin := of_decide_eq_true hin
          simp only [Tr.get, Option.some.injEq] at h; subst h
          obtain ⟨a2, c2, he, w', hst, R'⟩ := R.overV (P := P) hid hs len us hin
          rw [he] at hvs
          have hcap : len + us.length ≤ c2 := by
            cases hvs
            cases cap with
            | none => simp only [capO]; omega
            | some m => simp only [capO]; exact of_decide_eq_true hb
          subst he
          have hrun := V.room (some a2) len c2 hcap
          simp only [A.hsz, hst, Result.andThen_ok] at hrun
          refine ⟨_, w', ρ, hrun, Asg.le_refl _, ?_, Rel.shift R' (by omega)⟩
          cases hvs
          simp only [den, hidv, Option.bind_some, vsV]
        · obtain ⟨hful2, h⟩ := Tr.get_ask.1 h
          obtain ⟨hroom, h⟩ := Tr.get_ask.1 h
          simp only [Tr.get, Option.some.injEq] at h; subst h
          have hlt : capO cap (c - off) < len + us.length := by
            cases cap with
            | none =>
              have hb := of_decide_eq_false hb
              have := hful hful2
              simp only [capO]; omega
            | some m =>
              have hb := of_decide_eq_false hb
              simp only [capO]; omega
          subst hvs
          have hbc : ∀ j y, ((C e').flat ((ts.drop off).take len))[j]? = some y → ∃ b', some (if off = c then a.add (Nat.min bs off * (C e').sz) else a.add (off * (C e').sz)) = some b' ∧ w.cell? (b'.add j) = some y := fun j y hy => by
            refine ⟨_, rfl, ?_⟩
            have hj : j < len * (C e').sz := by
              have := (List.getElem?_eq_some_iff.1 hy).1
              rwa [(C e').flat_length, hseg] at this
            have hne : ¬ off = c := fun e => by
              have : len = 0 := by omega
              subst this; simp at hj
            rw [if_neg hne, Addr.add_add]
            rw [(C e').flat_take, (C e').flat_drop, List.getElem?_take, if_pos (by exact hj), List.getElem?_drop] at hy
            exact hcell _ _ hy
          have := app_grow R A V (base := some (if off = c then a.add (Nat.min bs off * (C e').sz) else a.add (off * (C e').sz))) (ts := (ts.drop off).take len) (cap := capO cap (c - off)) (by rw [hseg]; exact hroom) (by rw [hseg]; exact hlt) hbc
          rw [hseg] at this
          exact this
      · simp [Tr.get] at h
    · simp [Tr.get] at h
  · simp [Tr.get] at h
theorem pAppend_sound (R : Rel B X ρ hp n w) {t tx ty : TypeId} {s x : SV} {vs vx : Value} {r : Res C} (h : (pAppend P (fun i => find i hp) n t tx s x).get = some r) (hs : den ρ s = some vs) (hx : den ρ x = some vx) :
    NewOk P B X ρ hp n w (Builtin.append_ #[t, tx] ty #[vs, vx]) r := by
  unfold pAppend at h
  split at h
  · rename_i e ht
    split at h
    · rename_i k z by_ hk hz hby
      split at h
      · rename_i b1 b2 b3
        have b1 := Nat.eq_of_beq_eq_true b1
        have b2 := Nat.eq_of_beq_eq_true b2
        have b3 := Nat.le_of_ble_eq_true b3
        split at h
        · rename_i a0 hdec
          have henc : z.cells.toList = (C e).enc a0 := by
            have := (C e).law _ _ hdec
            have h1 : denL ρ (rawL z.cells.toList) = some ((C e).enc a0) := by rw [this]; exact denL_rawL _
            exact denL_inj (denL_rawL _) h1
          obtain ⟨i, hi⟩ : ∃ i, P.info? e = some i := by
            unfold szOf at hk; split at hk
            · rename_i i hi; exact ⟨i, hi⟩
            · cases hk
          have ek : i.size = k := by simpa [szOf, hi] using hk
          have ez : i.zero = some z := by simpa [zeroT, hi] using hz
          have eb : i.bytes = by_ := by simpa [bytesT, hi] using hby
          have A : AppT P t e i z (C e) := ⟨ht, hi, ez, by rw [ek, b2], ⟨a0, henc⟩, by omega⟩
          split at h
          · rename_i e' htx
            obtain ⟨us, hus, h⟩ := Tr.get_bind h
            obtain ⟨hsrc, _⟩ := srcT_spec (P := P) R hus hx
            exact appGo_sound R A (by rw [eb]; exact h) hs (AppV.ofSrc ht hi ez (.inl ⟨e', htx⟩) (by rw [ek, b2]; exact hsrc))
          · rename_i htx
            obtain ⟨us, hus, h⟩ := Tr.get_bind h
            obtain ⟨hsrc, _⟩ := srcT_spec (P := P) R hus hx
            exact appGo_sound R A (by rw [eb]; exact h) hs (AppV.ofSrc ht hi ez (.inr htx) (by rw [ek, b2]; exact hsrc))
          · rename_i kx htx
            split at h
            · rename_i kk l
              obtain ⟨hb, h⟩ := Tr.get_ask.1 h
              simp only [Bool.and_eq_true, decide_eq_true_eq] at hb
              simp [den] at hx; subst hx
              have V := AppV.zeros (P := P) (w := w) (ty := ty) (kk := kk) ht hi ez htx (by rw [b1, ek]) hb.1 hb.2.1 (by rw [eb]; exact hb.2.2)
              rw [zero_flat henc] at V
              refine appGo_sound R A (by rw [eb]; exact h) hs ?_
              rw [List.length_replicate]
              exact V
            · simp [Tr.get] at h
          · simp [Tr.get] at h
        · simp [Tr.get] at h
      · simp [Tr.get] at h
    · simp [Tr.get] at h
  · simp [Tr.get] at h
end sound
end
end Go.Sx
