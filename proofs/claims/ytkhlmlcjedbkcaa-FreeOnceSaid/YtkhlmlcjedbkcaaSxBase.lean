/-
  A symbolic evaluator over the model, its first part: symbolic values, what they denote under an assignment of handles, heap objects behind handles, and the relation between a symbolic heap and a world. Own work; nothing here is trusted.
-/
import Derived.WalkKit
import Derived.WalkSpells
import Derived.KernelRfl
namespace Go.Sx
open Go.RowKit

/-- A symbolic value: 'h id' is the value that the handle 'id' stands for (a pointer to a block of its own, or a slice). -/
inductive SV where
  | raw (v : Value)
  | h (id : Nat)
  | ep (id off : Nat)
  | bs (id off len cap : Nat)
  | el (id i sz j : Nat)
  | vs (id sz bs off len : Nat) (cap : Option Nat)
  | agg (cs : List SV)
  | tup (vs : List SV)
  | fn (f : Nat) (cap : List SV)

abbrev Asg := Nat → Option Value

def baseOf : Value → Option Addr
  | .pointer (some a) => some a
  | .slice (some a) _ _ => some a
  | _ => none

def capO : Option Nat → Nat → Nat
  | some m, _ => m
  | none, d => d
/-- A part of the slice behind a handle: from an element on, so many; up to its end, or so much. Where nothing is left to the end, its address is that of the slice it was cut from ('bs'). -/
def vsV (v : Value) (sz bs off len : Nat) (cap : Option Nat) : Option Value := match v with
  | .slice (some a) _ c => some (.slice (some (if off = c then a.add (Nat.min bs off * sz) else a.add (off * sz))) len (capO cap (c - off)))
  | _ => none
theorem vsV_slice {v u : Value} {sz bs off len : Nat} {cap : Option Nat} (h : vsV v sz bs off len cap = some u) : ∃ a l c, u = .slice (some a) l c := by
  unfold vsV at h
  split at h
  · simp at h; subst h; exact ⟨_, _, _, rfl⟩
  · cases h
mutual
def den (ρ : Asg) : SV → Option Value
  | .raw v => some v
  | .h id => ρ id
  | .ep id off => (ρ id).bind fun v => (baseOf v).map fun a => .pointer (some (a.add off))
  | .bs id off len cap => (ρ id).bind fun v => (baseOf v).map fun a => .slice (some (a.add off)) len cap
  | .el id i sz j => (ρ id).bind fun v => (baseOf v).map fun a => .pointer (some (a.add (i * sz + j)))
  | .vs id sz bs off len cap => (ρ id).bind fun v => vsV v sz bs off len cap
  | .agg cs => (denL ρ cs).map fun l => .agg l.toArray
  | .tup cs => (denL ρ cs).map fun l => .tuple l.toArray
  | .fn f cap => (denL ρ cap).map fun l => .func (.func f) #[] l.toArray
def denL (ρ : Asg) : List SV → Option (List Value)
  | [] => some []
  | v :: r => (den ρ v).bind fun a => (denL ρ r).map fun l => a :: l
end

def Asg.le (ρ ρ' : Asg) : Prop := ∀ i v, ρ i = some v → ρ' i = some v
theorem Asg.le_refl (ρ : Asg) : ρ.le ρ := fun _ _ h => h
theorem Asg.le_trans {a b c : Asg} (h : a.le b) (k : b.le c) : a.le c := fun i v hv => k i v (h i v hv)

mutual
theorem den_mono {ρ ρ' : Asg} (h : ρ.le ρ') : ∀ (sv : SV) (v : Value), den ρ sv = some v → den ρ' sv = some v
  | .raw _, _, e => by simpa [den] using e
  | .h _, _, e => by simp only [den] at e ⊢; exact h _ _ e
  | .ep id off, v, e => by
    simp only [den] at e ⊢
    cases hi : ρ id with
    | none => simp [hi] at e
    | some u => rw [h _ _ hi]; simpa [hi] using e
  | .bs id off l c, v, e => by
    simp only [den] at e ⊢
    cases hi : ρ id with
    | none => simp [hi] at e
    | some u => rw [h _ _ hi]; simpa [hi] using e
  | .el id i sz j, v, e => by
    simp only [den] at e ⊢
    cases hi : ρ id with
    | none => simp [hi] at e
    | some u => rw [h _ _ hi]; simpa [hi] using e
  | .vs id sz bs off len cap, v, e => by
    simp only [den] at e ⊢
    cases hi : ρ id with
    | none => simp [hi] at e
    | some u => rw [h _ _ hi]; simpa [hi] using e
  | .agg cs, v, e => by
    simp only [den] at e ⊢
    cases hi : denL ρ cs with
    | none => simp [hi] at e
    | some u => rw [denL_mono h cs u hi]; simpa [hi] using e
  | .tup cs, v, e => by
    simp only [den] at e ⊢
    cases hi : denL ρ cs with
    | none => simp [hi] at e
    | some u => rw [denL_mono h cs u hi]; simpa [hi] using e
  | .fn f cs, v, e => by
    simp only [den] at e ⊢
    cases hi : denL ρ cs with
    | none => simp [hi] at e
    | some u => rw [denL_mono h cs u hi]; simpa [hi] using e
theorem denL_mono {ρ ρ' : Asg} (h : ρ.le ρ') : ∀ (l : List SV) (vs : List Value), denL ρ l = some vs → denL ρ' l = some vs
  | [], _, e => by simpa [denL] using e
  | x :: r, vs, e => by
    simp only [denL] at e ⊢
    cases hx : den ρ x with
    | none => simp [hx] at e
    | some u =>
      cases hr : denL ρ r with
      | none => simp [hx, hr] at e
      | some l => rw [den_mono h x u hx, denL_mono h r l hr]; simpa [hx, hr] using e
end

theorem denL_cons {ρ : Asg} {x : SV} {r : List SV} {vs : List Value} : denL ρ (x :: r) = some vs ↔ ∃ u l, den ρ x = some u ∧ denL ρ r = some l ∧ vs = u :: l := by
  simp only [denL]
  cases hx : den ρ x <;> cases hr : denL ρ r <;> simp [eq_comm]

theorem denL_nil {ρ : Asg} {vs : List Value} : denL ρ [] = some vs ↔ vs = [] := by simp [denL, eq_comm]

theorem denL_length {ρ : Asg} : ∀ {l : List SV} {vs : List Value}, denL ρ l = some vs → vs.length = l.length
  | [], vs, h => by rw [denL_nil.1 h]; rfl
  | x :: r, vs, h => by
    obtain ⟨u, l, _, h2, rfl⟩ := denL_cons.1 h
    simp [denL_length h2]

theorem denL_append {ρ : Asg} : ∀ {l m : List SV} {vs us : List Value}, denL ρ l = some vs → denL ρ m = some us → denL ρ (l ++ m) = some (vs ++ us)
  | [], m, vs, us, h, h' => by rw [denL_nil.1 h]; simpa using h'
  | x :: r, m, vs, us, h, h' => by
    obtain ⟨u, l, h1, h2, rfl⟩ := denL_cons.1 h
    simp only [List.cons_append]
    exact denL_cons.2 ⟨u, l ++ us, h1, denL_append h2 h', rfl⟩

theorem denL_take {ρ : Asg} : ∀ (n : Nat) {l : List SV} {vs : List Value}, denL ρ l = some vs → denL ρ (l.take n) = some (vs.take n)
  | 0, _, _, _ => by simp [denL]
  | n + 1, [], vs, h => by rw [denL_nil.1 h]; simp [denL]
  | n + 1, x :: r, vs, h => by
    obtain ⟨u, l, h1, h2, rfl⟩ := denL_cons.1 h
    exact denL_cons.2 ⟨u, l.take n, h1, denL_take n h2, rfl⟩

theorem denL_drop {ρ : Asg} : ∀ (n : Nat) {l : List SV} {vs : List Value}, denL ρ l = some vs → denL ρ (l.drop n) = some (vs.drop n)
  | 0, _, _, h => by simpa using h
  | n + 1, [], vs, h => by rw [denL_nil.1 h]; simp [denL]
  | n + 1, x :: r, vs, h => by
    obtain ⟨u, l, h1, h2, rfl⟩ := denL_cons.1 h
    simpa using denL_drop n h2

theorem denL_get {ρ : Asg} : ∀ {l : List SV} {vs : List Value} (i : Nat) {x : SV}, denL ρ l = some vs → l[i]? = some x → ∃ u, den ρ x = some u ∧ vs[i]? = some u
  | [], _, i, x, _, hx => by simp at hx
  | y :: r, vs, 0, x, h, hx => by
    obtain ⟨u, l, h1, h2, rfl⟩ := denL_cons.1 h
    simp at hx; subst hx
    exact ⟨u, h1, rfl⟩
  | y :: r, vs, i + 1, x, h, hx => by
    obtain ⟨u, l, h1, h2, rfl⟩ := denL_cons.1 h
    simp at hx
    simpa using denL_get i h2 hx

def rawL : List Value → List SV
  | [] => []
  | v :: r => .raw v :: rawL r
theorem denL_rawL {ρ : Asg} : ∀ (l : List Value), denL ρ (rawL l) = some l
  | [] => rfl
  | v :: r => denL_cons.2 ⟨v, r, rfl, denL_rawL r, rfl⟩
theorem rawL_length : ∀ (l : List Value), (rawL l).length = l.length
  | [] => rfl
  | _ :: r => by simp [rawL, rawL_length r]

/-- The cells of a symbolic value. -/
def cellsS : SV → List SV
  | .agg cs => cs
  | .raw v => match v with
    | .agg a => rawL a.toList
    | v => [.raw v]
  | v => [v]

theorem denL_one {ρ : Asg} {x : SV} {v : Value} (h : den ρ x = some v) : denL ρ [x] = some [v] := denL_cons.2 ⟨v, [], h, rfl, rfl⟩

theorem den_cells {ρ : Asg} {x : SV} {v : Value} (h : den ρ x = some v) (hone : ∀ i u, ρ i = some u → u.oneCell' = true) : denL ρ (cellsS x) = some v.cells.toList := by
  have single : ∀ u : Value, (∀ a, u ≠ .agg a) → u.cells.toList = [u] := fun u hu => by
    cases u <;> first | rfl | exact absurd rfl (hu _)
  cases x with
  | raw u =>
    simp [den] at h
    subst h
    cases u <;> first | exact denL_rawL _ | exact denL_one rfl
  | h id =>
    simp only [cellsS]
    rw [single v (fun a ha => by subst ha; have := hone id _ (show ρ id = some (.agg a) from h); simp [Value.oneCell'] at this)]
    exact denL_one h
  | ep id off =>
    have : ∀ a, v ≠ .agg a := by
      simp only [den, Option.bind_eq_some_iff, Option.map_eq_some_iff] at h
      obtain ⟨u, _, b, _, rfl⟩ := h
      simp
    simp only [cellsS]; rw [single v this]; exact denL_one h
  | bs id off l c =>
    have : ∀ a, v ≠ .agg a := by
      simp only [den, Option.bind_eq_some_iff, Option.map_eq_some_iff] at h
      obtain ⟨u, _, b, _, rfl⟩ := h
      simp
    simp only [cellsS]; rw [single v this]; exact denL_one h
  | el id i sz j =>
    have : ∀ a, v ≠ .agg a := by
      simp only [den, Option.bind_eq_some_iff, Option.map_eq_some_iff] at h
      obtain ⟨u, _, b, _, rfl⟩ := h
      simp
    simp only [cellsS]; rw [single v this]; exact denL_one h
  | vs id sz bs off len cap =>
    have : ∀ a, v ≠ .agg a := by
      simp only [den, Option.bind_eq_some_iff] at h
      obtain ⟨u, _, hu⟩ := h
      obtain ⟨_, _, _, rfl⟩ := vsV_slice hu
      simp
    simp only [cellsS]; rw [single v this]; exact denL_one h
  | agg cs =>
    simp only [den, Option.map_eq_some_iff] at h
    obtain ⟨l, hl, rfl⟩ := h
    simpa [cellsS, Value.cells] using hl
  | tup cs =>
    have : ∀ a, v ≠ .agg a := by
      simp only [den, Option.map_eq_some_iff] at h
      obtain ⟨u, _, rfl⟩ := h
      simp
    simp only [cellsS]; rw [single v this]; exact denL_one h
  | fn f cs =>
    have : ∀ a, v ≠ .agg a := by
      simp only [den, Option.map_eq_some_iff] at h
      obtain ⟨u, _, rfl⟩ := h
      simp
    simp only [cellsS]; rw [single v this]; exact denL_one h

def oneS : SV → Bool
  | .raw v => v.oneCell'
  | .agg _ | .tup _ => false
  | _ => true
def allOne : List SV → Bool
  | [] => true
  | x :: r => match oneS x with
    | true => allOne r
    | false => false

theorem one_of_oneS {ρ : Asg} {x : SV} {v : Value} (h : den ρ x = some v) (hone : ∀ i u, ρ i = some u → u.oneCell' = true) (hx : oneS x = true) : v.oneCell' = true := by
  cases x with
  | raw u => simp [den] at h; subst h; exact hx
  | h id => exact hone id v h
  | ep id off =>
    simp only [den, Option.bind_eq_some_iff, Option.map_eq_some_iff] at h
    obtain ⟨u, _, b, _, rfl⟩ := h
    rfl
  | bs id off l c =>
    simp only [den, Option.bind_eq_some_iff, Option.map_eq_some_iff] at h
    obtain ⟨u, _, b, _, rfl⟩ := h
    rfl
  | el id i sz j =>
    simp only [den, Option.bind_eq_some_iff, Option.map_eq_some_iff] at h
    obtain ⟨u, _, b, _, rfl⟩ := h
    rfl
  | vs id sz bs off len cap =>
    simp only [den, Option.bind_eq_some_iff] at h
    obtain ⟨u, _, hu⟩ := h
    obtain ⟨_, _, _, rfl⟩ := vsV_slice hu
    rfl
  | agg cs => simp [oneS] at hx
  | tup cs => simp [oneS] at hx
  | fn f cs =>
    simp only [den, Option.map_eq_some_iff] at h
    obtain ⟨u, _, rfl⟩ := h
    rfl

theorem allOne_mem {ρ : Asg} (hone : ∀ i u, ρ i = some u → u.oneCell' = true) : ∀ {l : List SV} {vs : List Value}, denL ρ l = some vs → allOne l = true → ∀ v ∈ vs, v.oneCell' = true
  | [], vs, h, _ => by rw [denL_nil.1 h]; simp
  | x :: r, vs, h, ho => by
    obtain ⟨u, l, h1, h2, rfl⟩ := denL_cons.1 h
    simp only [allOne] at ho
    cases hx : oneS x with
    | false => simp [hx] at ho
    | true =>
      simp only [hx] at ho
      intro v hv
      rcases List.mem_cons.1 hv with rfl | hv
      · exact one_of_oneS h1 hone hx
      · exact allOne_mem hone h2 ho v hv

/-- Look up in an association list; what stands first counts. -/
def find {α : Type _} (k : Nat) : List (Nat × α) → Option α
  | [] => none
  | (j, v) :: r => match Nat.beq k j with
    | true => some v
    | false => find k r

theorem find_cons {α : Type _} (k j : Nat) (v : α) (r : List (Nat × α)) : find k ((j, v) :: r) = if k = j then some v else find k r := by
  simp only [find]
  by_cases h : k = j
  · subst h; simp
  · have : Nat.beq k j = false := by cases hb : Nat.beq k j <;> first | rfl | exact absurd (Nat.eq_of_beq_eq_true hb) h
    rw [this]; simp [h]

theorem find_append {α : Type _} (k : Nat) : ∀ (l r : List (Nat × α)), find k (l ++ r) = match find k l with | some v => some v | none => find k r
  | [], r => by simp [find]
  | (j, v) :: l, r => by
    rw [List.cons_append, find_cons, find_cons, find_append k l r]
    by_cases h : k = j <;> simp [h]

/-- Elements that are bytes. -/
structure Byt (α : Type) (enc : α → List Value) where
  f : Int → α
  g : α → Int
  law : ∀ x, enc (f x) = [.int .u8 x]
  lawg : ∀ a, enc a = [.int .u8 (g a)]
/-- How the elements of a slice read: 'enc' tells an element's cells. -/
structure Codec where
  α : Type
  ag : Bool
  sz : Nat
  enc : α → List Value
  dec : List SV → Option α
  d : α
  pos : 0 < sz
  len : ∀ a, (enc a).length = sz
  one : ∀ a, ∀ v ∈ enc a, v.oneCell' = true
  law : ∀ cs a, dec cs = some a → cs = rawL (enc a)
  sg : ag = false → sz = 1
  byt : Option (Byt α enc) := none

def Codec.flat (c : Codec) : List c.α → List Value
  | [] => []
  | a :: r => c.enc a ++ c.flat r

theorem Codec.flat_length (c : Codec) : ∀ ts : List c.α, (c.flat ts).length = ts.length * c.sz
  | [] => by simp [Codec.flat]
  | a :: r => by simp [Codec.flat, c.flat_length r, c.len, Nat.add_mul]; omega

theorem Codec.flat_append (c : Codec) : ∀ ts us : List c.α, c.flat (ts ++ us) = c.flat ts ++ c.flat us
  | [], us => by simp [Codec.flat]
  | a :: r, us => by simp [Codec.flat, c.flat_append r us]

theorem Codec.flat_take (c : Codec) : ∀ (n : Nat) (ts : List c.α), c.flat (ts.take n) = (c.flat ts).take (n * c.sz)
  | 0, ts => by simp [Codec.flat]
  | n + 1, [] => by simp [Codec.flat]
  | n + 1, a :: r => by
    simp only [List.take_succ_cons, Codec.flat, c.flat_take n r]
    rw [List.take_append, c.len]
    have : (c.enc a).take ((n + 1) * c.sz) = c.enc a := List.take_of_length_le (by rw [c.len, Nat.add_mul]; omega)
    rw [this]
    congr 2
    rw [Nat.add_mul]; omega

theorem Codec.flat_drop (c : Codec) : ∀ (n : Nat) (ts : List c.α), c.flat (ts.drop n) = (c.flat ts).drop (n * c.sz)
  | 0, ts => by simp
  | n + 1, [] => by simp [Codec.flat]
  | n + 1, a :: r => by
    simp only [List.drop_succ_cons, Codec.flat, c.flat_drop n r]
    rw [List.drop_append, c.len]
    have : (c.enc a).drop ((n + 1) * c.sz) = [] := List.drop_of_length_le (by rw [c.len, Nat.add_mul]; omega)
    rw [this]
    simp only [List.nil_append]
    congr 1
    rw [Nat.add_mul]; omega

theorem Codec.flat_one (c : Codec) : ∀ (ts : List c.α), ∀ v ∈ c.flat ts, v.oneCell' = true
  | [], v, h => by simp [Codec.flat] at h
  | a :: r, v, h => by
    rcases List.mem_append.1 h with h | h
    · exact c.one a v h
    · exact c.flat_one r v h

/-- The cells of the element at i. -/
theorem Codec.flat_at (c : Codec) (ts : List c.α) (i : Nat) (h : i < ts.length) : (c.flat ts).drop (i * c.sz) = c.enc (ts.getD i c.d) ++ c.flat (ts.drop (i + 1)) := by
  rw [← c.flat_drop, List.drop_eq_getElem_cons h]
  simp [Codec.flat, List.getD, h]

theorem Codec.flat_get (c : Codec) (ts : List c.α) (i j : Nat) (h : i < ts.length) (hj : j < c.sz) : (c.flat ts)[i * c.sz + j]? = (c.enc (ts.getD i c.d))[j]? := by
  rw [← List.getElem?_drop, c.flat_at ts i h, List.getElem?_append_left (by rw [c.len]; exact hj)]

theorem Codec.flat_set (c : Codec) : ∀ (ts : List c.α) (i : Nat) (a : c.α), i < ts.length → c.flat (ts.set i a) = (c.flat ts).take (i * c.sz) ++ c.enc a ++ (c.flat ts).drop (i * c.sz + c.sz)
  | [], _, _, h => by simp at h
  | b :: r, 0, a, _ => by
    simp only [List.set_cons_zero, Codec.flat, Nat.zero_mul, List.take_zero, List.nil_append, Nat.zero_add]
    rw [List.drop_append, c.len, List.drop_of_length_le (by rw [c.len]; omega)]
    simp
  | b :: r, i + 1, a, h => by
    have ih := c.flat_set r i a (by simpa using h)
    simp only [List.set_cons_succ, Codec.flat, ih]
    rw [List.take_append, List.drop_append, c.len, List.take_of_length_le (l := c.enc b) (by rw [c.len, Nat.add_mul]; omega), List.drop_of_length_le (l := c.enc b) (by rw [c.len, Nat.add_mul]; omega)]
    have e1 : (i + 1) * c.sz - c.sz = i * c.sz := by rw [Nat.add_mul]; omega
    have e2 : (i + 1) * c.sz + c.sz - c.sz = i * c.sz + c.sz := by rw [Nat.add_mul]; omega
    rw [e1, e2]
    simp

/-- What lies behind a handle. -/
abbrev Tab := TypeId → Codec
/-- An element as one value. -/
def Codec.val (c : Codec) (a : c.α) : Value := match c.ag with
  | true => .agg (c.enc a).toArray
  | false => (c.enc a).headD (.tuple #[])
inductive SO (C : Tab) where
  | box (cs : List SV) (ty : TypeId)
  | sl (own full : Bool) (e : TypeId) (ts : List (C e).α)
  | mp (k : IntKind) (vt : TypeId) (m : List (Int × (C vt).α))
  | mv (k : IntKind) (ag : Bool) (len : Nat) (ks : List (List Int)) (vs : List SV)
  | gone

variable {C : Tab}
def SO.owns : SO C → Bool
  | .box _ _ => true
  | .sl own _ _ _ => own
  | .mp _ _ _ => true
  | .mv _ _ _ _ _ => true
  | .gone => false
def SO.isSl : SO C → Bool
  | .sl _ _ _ _ => true
  | _ => false
/-- A slice behind a handle is never nil. -/
def nnV : Value → Bool
  | .slice none _ _ => false
  | _ => true
def SO.live : SO C → Bool
  | .gone => false
  | _ => true

def blk : Value → Option Nat
  | .pointer (some a) => some a.block
  | .slice (some a) _ _ => some a.block
  | .map r => r
  | _ => none

abbrev Hp (C : Tab) := List (Nat × SO C)

/-- A key out of whole numbers. -/
def keyV (k : IntKind) (ag : Bool) (l : List Int) : Value := match ag with
  | true => .agg (l.map (Value.int k)).toArray
  | false => .int k (l.headD 0)
/-- A row that is owned: all its elements, those that the slice shows at its head. -/
def ownsL (w : World) (okB : Nat → Prop) (c : Codec) (e : TypeId) (a : Option Addr) (cap : Nat) (ts : List c.α) : Prop :=
  ∃ g tot, a = some ⟨g, 0, none⟩ ∧ okB g ∧ w.heap[g]? = some (.cells (c.flat tot).toArray e (0, 0)) ∧ cap ≤ tot.length ∧ tot.take ts.length = ts
theorem ownsL.block {w : World} {okB : Nat → Prop} {c : Codec} {e : TypeId} {a : Option Addr} {cap : Nat} {ts : List c.α} (h : ownsL w okB c e a cap ts) : ∃ g, a = some ⟨g, 0, none⟩ ∧ okB g := by
  obtain ⟨g, tot, h1, h2, _⟩ := h; exact ⟨g, h1, h2⟩
theorem ownsL.to {w w' : World} {okB okB' : Nat → Prop} {c : Codec} {e : TypeId} {a : Option Addr} {cap : Nat} {ts : List c.α} (h : ownsL w okB c e a cap ts) (hb : ∀ g, a = some ⟨g, 0, none⟩ → okB g → okB' g) (hw : ∀ g, a = some ⟨g, 0, none⟩ → w'.heap[g]? = w.heap[g]?) : ownsL w' okB' c e a cap ts := by
  obtain ⟨g, tot, h1, h2, h3, h4⟩ := h; exact ⟨g, tot, h1, hb g h1 h2, by rw [hw g h1]; exact h3, h4⟩
theorem ownsL.cell {w : World} {okB : Nat → Prop} {c : Codec} {e : TypeId} {a : Option Addr} {cap : Nat} {ts : List c.α} (h : ownsL w okB c e a cap ts) : ∀ j x, (c.flat ts)[j]? = some x → ∃ a', a = some a' ∧ w.cell? (a'.add j) = some x := by
  obtain ⟨g, tot, rfl, _, hheap, _, htake⟩ := h
  intro j x hx
  refine ⟨_, rfl, ?_⟩
  rw [← htake, c.flat_take, List.getElem?_take] at hx
  have hadd : (⟨g, 0, none⟩ : Addr).add j = ⟨g, j, none⟩ := by unfold Addr.add; split <;> simp_all
  rw [hadd, cell_of_row w g _ _ _ _ hheap]
  split at hx
  · simpa using hx
  · cases hx
theorem take_append_take {α : Type _} {tot ts : List α} {n : Nat} (h : tot.take n = ts) (hn : ts.length = n) : tot = ts ++ tot.drop n := by
  rw [← h]; exact (List.take_append_drop n tot).symm

def okObj (ρ : Asg) (w : World) (okB : Nat → Prop) (v : Value) : SO C → Prop
  | .box cs ty => ∃ g vs, v = .pointer (some ⟨g, 0, none⟩) ∧ okB g ∧ denL ρ cs = some vs ∧ w.heap[g]? = some (.cells vs.toArray ty (0, 0))
  | .sl own full e ts => ∃ a cap, v = .slice a ts.length cap ∧ ts.length ≤ cap ∧ (full = true → cap = ts.length) ∧
    match own with
    | true => ownsL w okB (C e) e a cap ts
    | false => ∀ j x, ((C e).flat ts)[j]? = some x → ∃ a', a = some a' ∧ w.cell? (a'.add j) = some x
  | .mp k vt m => ∃ g es clock, v = .map (some g) ∧ okB g ∧ w.heap[g]? = some (.map es clock) ∧ es.toList.map (fun e => (e.key, e.val)) = m.map (fun p => (Value.int k p.1, (C vt).val p.2))
  | .mv k ag len ks vs => ∃ g es clock us, v = .map (some g) ∧ okB g ∧ denL ρ vs = some us ∧ w.heap[g]? = some (.map es clock) ∧ ks.length = us.length ∧ ks.Nodup ∧ (∀ l ∈ ks, l.length = len) ∧ (ag = false → len = 1) ∧ (es.toList.map fun e => (e.key, e.val)).Perm ((ks.map (keyV k ag)).zip us)
  | .gone => True

/-- What may be written and seen of the blocks that there were, and the handles that there were. -/
structure Own where
  wr : Nat → Prop
  vw : Nat → Prop
  ba : Asg
  nb : Nat
def Own.no : Own := ⟨fun _ => False, fun _ => False, fun _ => none, 0⟩
def okB (B : World) (X : Own) (g : Nat) : Prop := B.heap.size ≤ g ∨ X.wr g
def okV (B : World) (X : Own) (g : Nat) : Prop := B.heap.size ≤ g ∨ X.wr g ∨ X.vw g
theorem okB.view {B : World} {X : Own} {g : Nat} (h : okB B X g) : okV B X g := h.elim .inl fun h => .inr (.inl h)

structure Rel (B : World) (X : Own) (ρ : Asg) (hp : Hp C) (n : Nat) (w : World) : Prop where
  os : w.os = B.os
  tape : w.tape = B.tape
  out : w.output = B.output
  size : B.heap.size ≤ w.heap.size
  old : ∀ b, b < B.heap.size → ¬ X.wr b → w.heap[b]? = B.heap[b]?
  nbLe : X.nb ≤ n
  agree : ∀ i, i < X.nb → ρ i = X.ba i
  fresh : ∀ i, n ≤ i → ρ i = none
  one : ∀ i v, ρ i = some v → v.oneCell' = true
  obj : ∀ i o, find i hp = some o → ∃ v, ρ i = some v ∧ okObj ρ w (okB B X) v o
  sep : ∀ i j oi oj vi vj g, i ≠ j → find i hp = some oi → find j hp = some oj → oi.owns = true → oj.live = true → ρ i = some vi → ρ j = some vj → blk vi = some g → blk vj ≠ some g
  blkOk : ∀ i o v g, find i hp = some o → o.live = true → ρ i = some v → blk v = some g → g < w.heap.size
  prov : ∀ i o v g, find i hp = some o → o.live = true → ρ i = some v → blk v = some g → okV B X g
  nn : ∀ i o v, find i hp = some o → o.isSl = true → ρ i = some v → nnV v = true

theorem Rel.start (w : World) (X : Own) (hX : X.nb = 0) : Rel (C := C) w X (fun _ => none) [] 0 w :=
  ⟨rfl, rfl, rfl, Nat.le_refl _, fun _ _ _ => rfl, by omega, fun i hi => by omega, fun _ _ => rfl, fun _ _ h => (by cases h), fun _ _ h => (by simp [find] at h), fun _ _ _ _ _ _ _ _ h => (by simp [find] at h), fun _ _ _ _ h => (by simp [find] at h), fun _ _ _ _ h => (by simp [find] at h), fun _ _ _ h => (by simp [find] at h)⟩

theorem Addr.add_zero (a : Addr) : a.add 0 = a := by simp [Addr.add]
theorem Addr.add_block (a : Addr) (n : Nat) : (a.add n).block = a.block := by unfold Addr.add; split <;> rfl
theorem Addr.add_at (g i n : Nat) : (⟨g, i, none⟩ : Addr).add n = ⟨g, i + n, none⟩ := by
  unfold Addr.add; split <;> simp_all
theorem Addr.add_add (a : Addr) (i j : Nat) : (a.add i).add j = a.add (i + j) := by
  unfold Addr.add
  by_cases hi : i = 0 <;> by_cases hj : j = 0 <;> simp [hi, hj, Nat.add_assoc]

/-- An object stands as it stood where its own block does. -/
theorem okObj.keep {ρ ρ' : Asg} {w w' : World} {okb : Nat → Prop} {v : Value} {o : SO C} (h : okObj ρ w okb v o) (hρ : ρ.le ρ')
    (hb : o.live = true → ∀ g, blk v = some g → w'.heap[g]? = w.heap[g]?) : okObj ρ' w' okb v o := by
  cases o with
  | box cs ty =>
    obtain ⟨g, vs, rfl, h1, h2, h3⟩ := h
    exact ⟨g, vs, rfl, h1, denL_mono hρ _ _ h2, by rw [hb rfl g rfl]; exact h3⟩
  | sl own full e ts =>
    obtain ⟨a, cap, rfl, h1, h2, h3⟩ := h
    refine ⟨a, cap, rfl, h1, h2, ?_⟩
    cases own with
    | true =>
      exact h3.to (fun g _ h => h) (fun g hg => hb rfl g (by subst hg; rfl))
    | false =>
      intro j x hx
      obtain ⟨a', rfl, hc⟩ := h3 j x hx
      refine ⟨a', rfl, ?_⟩
      rw [World.cell?_of_block (w := w) (a := a'.add j) (by rw [Addr.add_block]; exact hb rfl a'.block rfl)]
      exact hc
  | mp k vt m =>
    obtain ⟨g, es, clock, rfl, h1, h2, h3⟩ := h
    exact ⟨g, es, clock, rfl, h1, by rw [hb rfl g rfl]; exact h2, h3⟩
  | mv k ag vt ks vs =>
    obtain ⟨g, es, clock, us, rfl, h1, h2, h3, h4⟩ := h
    exact ⟨g, es, clock, us, rfl, h1, denL_mono hρ _ _ h2, by rw [hb rfl g rfl]; exact h3, h4⟩
  | gone => trivial


section rel
variable {B : World} {X : Own} {ρ : Asg} {hp : Hp C} {n : Nat} {w : World}

theorem Rel.shift (h : Rel B X ρ hp n w) {n' : Nat} (hn : n ≤ n') : Rel B X ρ hp n' w :=
  { h with fresh := fun i hi => h.fresh i (Nat.le_trans hn hi), nbLe := Nat.le_trans h.nbLe hn }

/-- What holds of a world when all blocks behind live handles stand. -/
theorem Rel.world (h : Rel B X ρ hp n w) {w' : World} (os : w'.os = w.os) (tape : w'.tape = w.tape) (out : w'.output = w.output) (size : w.heap.size ≤ w'.heap.size)
    (old : ∀ b, b < B.heap.size → ¬ X.wr b → w'.heap[b]? = w.heap[b]?)
    (hb : ∀ i o v g, find i hp = some o → o.live = true → ρ i = some v → blk v = some g → w'.heap[g]? = w.heap[g]?) : Rel B X ρ hp n w' :=
  { os := os.trans h.os, tape := tape.trans h.tape, out := out.trans h.out, size := Nat.le_trans h.size size, old := fun b hlt hx => (old b hlt hx).trans (h.old b hlt hx),
    nbLe := h.nbLe, agree := h.agree, prov := h.prov, nn := h.nn, fresh := h.fresh, one := h.one,
    obj := fun i o hi => by
      obtain ⟨v, hv, ho⟩ := h.obj i o hi
      exact ⟨v, hv, ho.keep (Asg.le_refl _) (fun hl g hg => hb i o v g hi hl hv hg)⟩
    sep := h.sep
    blkOk := fun i o v g hi hl hv hg => Nat.lt_of_lt_of_le (h.blkOk i o v g hi hl hv hg) size }

theorem Rel.below (h : Rel B X ρ hp n w) {w' : World} (hb : Below w.heap.size w w') : Rel B X ρ hp n w' :=
  h.world hb.os hb.tape hb.output hb.size (fun b hlt _ => hb.block b (Nat.lt_of_lt_of_le hlt h.size)) (fun i o v g hi hl hv hg => hb.block g (h.blkOk i o v g hi hl hv hg))

theorem Rel.gone (h : Rel B X ρ hp n w) (i : Nat) {v : Value} (hv : ρ i = some v) : Rel B X ρ ((i, .gone) :: hp) n w :=
  { h with
    obj := fun j o hj => by
      rw [find_cons] at hj
      split at hj
      · rename_i hji; subst hji; simp at hj; subst hj; exact ⟨v, hv, trivial⟩
      · exact h.obj j o hj
    sep := fun a b oa ob va vb g hab ha hb ho hl hva hvb hg => by
      rw [find_cons] at ha hb
      split at ha
      · simp at ha; subst ha; simp [SO.owns] at ho
      · split at hb
        · simp at hb; subst hb; simp [SO.live] at hl
        · exact h.sep a b oa ob va vb g hab ha hb ho hl hva hvb hg
    blkOk := fun j o u g hj hl hu hg => by
      rw [find_cons] at hj
      split at hj
      · simp at hj; subst hj; simp [SO.live] at hl
      · exact h.blkOk j o u g hj hl hu hg
    prov := fun j o u g hj hl hu hg => by
      rw [find_cons] at hj
      split at hj
      · simp at hj; subst hj; simp [SO.live] at hl
      · exact h.prov j o u g hj hl hu hg
    nn := fun j o u hj hs hu => by
      rw [find_cons] at hj
      split at hj
      · simp at hj; subst hj; simp [SO.isSl] at hs
      · exact h.nn j o u hj hs hu }

theorem okObj.sl {ρ : Asg} {w : World} {okb : Nat → Prop} {v : Value} {o : SO C} (h : okObj ρ w okb v o) (hs : o.isSl = true) : ∃ a l c, v = .slice a l c := by
  cases o with
  | sl own full e ts => obtain ⟨a, cap, rfl, _⟩ := h; exact ⟨_, _, _, rfl⟩
  | _ => simp [SO.isSl] at hs
/-- What lives behind a handle whose value is a slice is a slice. -/
theorem Rel.slOf (h : Rel B X ρ hp n w) {i : Nat} {o : SO C} {a : Option Addr} {l c : Nat} (hi : find i hp = some o) (hv : ρ i = some (.slice a l c)) (hl : o.live = true) : nnV (.slice a l c) = true := by
  cases o with
  | box cs t =>
    obtain ⟨v', hv', g, vs, rfl, _⟩ := h.obj i _ hi
    rw [hv] at hv'; cases hv'
  | sl own full e ts => exact h.nn i _ _ hi rfl hv
  | mp k vt m =>
    obtain ⟨v', hv', g, es, clock, rfl, _⟩ := h.obj i _ hi
    rw [hv] at hv'; cases hv'
  | mv k ag vt ks vs =>
    obtain ⟨v', hv', g, es, clock, us, rfl, _⟩ := h.obj i _ hi
    rw [hv] at hv'; cases hv'
  | gone => simp [SO.live] at hl

/-- An object is written anew; nothing else turns but its own block. -/
theorem Rel.set (h : Rel B X ρ hp n w) {i : Nat} {o o' : SO C} {v : Value} {w' : World} (hi : find i hp = some o) (hv : ρ i = some v) (hown : o.owns = true) (hlive : o.live = true)
    (os : w'.os = w.os) (tape : w'.tape = w.tape) (out : w'.output = w.output) (size : w'.heap.size = w.heap.size)
    (hb : ∀ k, blk v ≠ some k → w'.heap[k]? = w.heap[k]?) (hok : okObj ρ w' (okB B X) v o') (hx : ∀ g, blk v = some g → okB B X g) : Rel B X ρ ((i, o') :: hp) n w' :=
  { os := os.trans h.os, tape := tape.trans h.tape, out := out.trans h.out, size := by rw [size]; exact h.size
    old := fun b hlt hxb => by
      rw [hb b (fun e => by rcases hx b e with h' | h'; omega; exact hxb h')]
      exact h.old b hlt hxb
    nbLe := h.nbLe, agree := h.agree, fresh := h.fresh, one := h.one
    prov := fun j oj u g hj hl hu hg => by
      rw [find_cons] at hj
      split at hj
      · rename_i hji; subst hji
        rw [hv] at hu; cases hu
        exact (hx g hg).view
      · exact h.prov j oj u g hj hl hu hg
    nn := fun j oj u hj hs hu => by
      rw [find_cons] at hj
      split at hj
      · rename_i hji; subst hji; simp at hj; subst hj
        obtain ⟨a, l, c, rfl⟩ := hok.sl hs
        rw [hv] at hu; cases hu
        exact h.slOf hi hv hlive
      · exact h.nn j oj u hj hs hu
    obj := fun j oj hj => by
      rw [find_cons] at hj
      split at hj
      · rename_i hji; subst hji; simp at hj; subst hj; exact ⟨v, hv, hok⟩
      · rename_i hji
        obtain ⟨u, hu, ho⟩ := h.obj j oj hj
        refine ⟨u, hu, ho.keep (Asg.le_refl _) (fun hl g hg => hb g (fun e => ?_))⟩
        exact h.sep i j o oj v u g (Ne.symm hji) hi hj hown hl hv hu e hg
    sep := fun a b oa ob va vb g hab ha hb' ho hl hva hvb hg => by
      rw [find_cons] at ha hb'
      split at ha
      · rename_i hai; subst hai; simp at ha; subst ha
        rw [if_neg (Ne.symm hab)] at hb'
        exact h.sep a b o ob va vb g hab hi hb' hown hl hva hvb hg
      · split at hb'
        · rename_i hbi; subst hbi; simp at hb'; subst hb'
          exact h.sep a b oa o va vb g hab ha hi ho hlive hva hvb hg
        · exact h.sep a b oa ob va vb g hab ha hb' ho hl hva hvb hg
    blkOk := fun j oj u g hj hl hu hg => by
      rw [size]
      rw [find_cons] at hj
      split at hj
      · rename_i hji; subst hji
        exact h.blkOk j o u g hi hlive hu hg
      · exact h.blkOk j oj u g hj hl hu hg }

def Asg.add (ρ : Asg) (n : Nat) (v : Value) : Asg := fun i => if i = n then some v else ρ i
theorem Asg.le_add (ρ : Asg) (n : Nat) (v : Value) (h : ρ n = none) : ρ.le (ρ.add n v) := fun i u hu => by
  unfold Asg.add
  split
  · rename_i e; subst e; rw [h] at hu; cases hu
  · exact hu
theorem Asg.add_self (ρ : Asg) (n : Nat) (v : Value) : ρ.add n v n = some v := by simp [Asg.add]

/-- A new handle. -/
theorem Rel.add (h : Rel B X ρ hp n w) {v : Value} {o : SO C} (hone : v.oneCell' = true) (hok : okObj ρ w (okB B X) v o)
    (hlt : ∀ g, blk v = some g → g < w.heap.size)
    (hsep : ∀ j oj vj g, find j hp = some oj → oj.live = true → ρ j = some vj → blk vj = some g → blk v = some g → o.owns = false ∧ oj.owns = false)
    (hpv : ∀ g, blk v = some g → okV B X g) (hnn : o.isSl = true → nnV v = true := by intro h; first | rfl | cases h) :
    Rel B X (ρ.add n v) ((n, o) :: hp) (n + 1) w := by
  have hn : ρ n = none := h.fresh n (Nat.le_refl _)
  have hle := Asg.le_add ρ n v hn
  have hne : ∀ j oj, find j hp = some oj → j ≠ n := fun j oj hj e => by
    subst e
    obtain ⟨u, hu, _⟩ := h.obj _ _ hj
    rw [hn] at hu; cases hu
  have hback : ∀ j u, j ≠ n → ρ.add n v j = some u → ρ j = some u := fun j u hj hu => by
    unfold Asg.add at hu; rwa [if_neg hj] at hu
  refine { h with nbLe := Nat.le_succ_of_le h.nbLe, agree := ?_, prov := ?_, nn := ?_, fresh := ?_, one := ?_, obj := ?_, sep := ?_, blkOk := ?_ }
  · intro i hi
    have := h.nbLe
    unfold Asg.add
    rw [if_neg (by omega)]
    exact h.agree i hi
  · intro i hi
    unfold Asg.add
    rw [if_neg (by omega)]
    exact h.fresh i (by omega)
  · intro i u hu
    unfold Asg.add at hu
    split at hu
    · cases hu; exact hone
    · exact h.one i u hu
  · intro j oj hj
    rw [find_cons] at hj
    split at hj
    · rename_i e; subst e; simp at hj; subst hj
      exact ⟨v, Asg.add_self _ _ _, hok.keep hle (fun _ _ _ => rfl)⟩
    · obtain ⟨u, hu, ho⟩ := h.obj j oj hj
      exact ⟨u, hle _ _ hu, ho.keep hle (fun _ _ _ => rfl)⟩
  · intro a b oa ob va vb g hab ha hb ho hl hva hvb hg hg'
    rw [find_cons] at ha hb
    split at ha
    · rename_i e; subst e; simp at ha; subst ha
      rw [if_neg (Ne.symm hab)] at hb
      rw [Asg.add_self] at hva; cases hva
      have := hsep b ob vb g hb hl (hback b vb (Ne.symm hab) hvb) hg' hg
      rw [this.1] at ho; cases ho
    · rename_i hane
      split at hb
      · rename_i e; subst e; simp at hb; subst hb
        rw [Asg.add_self] at hvb; cases hvb
        have hl' : oa.live = true := by cases oa <;> simp [SO.owns] at ho <;> rfl
        have := hsep a oa va g ha hl' (hback a va hane hva) hg hg'
        rw [this.2] at ho; cases ho
      · rename_i hbne
        exact h.sep a b oa ob va vb g hab ha hb ho hl (hback a va hane hva) (hback b vb hbne hvb) hg hg'
  · intro j oj u g hj hl hu hg
    rw [find_cons] at hj
    split at hj
    · rename_i e; subst e
      rw [Asg.add_self] at hu; cases hu
      exact hlt g hg
    · rename_i hjn
      exact h.blkOk j oj u g hj hl (hback j u hjn hu) hg
  · intro j oj u g hj hl hu hg
    rw [find_cons] at hj
    split at hj
    · rename_i e; subst e
      rw [Asg.add_self] at hu; cases hu
      exact hpv g hg
    · rename_i hjn
      exact h.prov j oj u g hj hl (hback j u hjn hu) hg
  · intro j oj u hj hs hu
    rw [find_cons] at hj
    split at hj
    · rename_i e; subst e; simp at hj; subst hj
      rw [Asg.add_self] at hu; cases hu
      exact hnn hs
    · rename_i hjn
      exact h.nn j oj u hj hs (hback j u hjn hu)

/-- A new handle to a block that has just been laid. -/
theorem Rel.addNew (h : Rel B X ρ hp n w) (ob : Obj) {v : Value} {o : SO C} (hone : v.oneCell' = true) (hblk : ∀ g, blk v = some g → g = w.heap.size)
    (hok : okObj ρ (w.alloc ob) (okB B X) v o) (hnn : o.isSl = true → nnV v = true := by intro h; first | rfl | cases h) : Rel B X (ρ.add n v) ((n, o) :: hp) (n + 1) (w.alloc ob) := by
  have hb : Below w.heap.size w (w.alloc ob) := (Below.refl _ _).alloc (Nat.le_refl _) _
  refine (h.below hb).add hone hok (fun g hg => by rw [hblk g hg]; simp) (fun j oj vj g hj hl hvj hg hg' => ?_) (fun g hg => .inl (by rw [hblk g hg]; exact h.size)) hnn
  have h1 := h.blkOk j oj vj g hj hl hvj hg
  have h2 := hblk g hg'
  omega

theorem Rel.drew (h : Rel B X ρ hp n w) : Rel B X ρ hp n w.drew := h.below (Below.refl _ _).drew

end rel
end Go.Sx
