/-
  The frame of a statement: arguments of plain shapes, and slices of such, read as data. Own work; nothing here is trusted.
-/
import Derived.Test.YtkhlmlcjedbkcaaSxCanon
import Derived.Test.YtkhlmlcjedbkcaaSxFrame
namespace Go.Sx
open Go.RowKit Go.ChangeShapes Go.WideShapes Go.ChangeAt

variable {P : Program}

/-- The cells of a plain type. -/
inductive FK where
  | int (k : IntKind)
  | bool
  | str
def okK : FK → Value → Prop
  | .int k, v => ∃ n, v = .int k n ∧ (Lit.int k n).wf = true
  | .bool, v => ∃ b, v = .bool b
  | .str, v => ∃ s : ByteArray, v = .string s ∧ s.size ≤ maxLen
def matchK : List FK → List Value → Prop
  | [], [] => True
  | k :: ks, v :: vs => okK k v ∧ matchK ks vs
  | _, _ => False
theorem matchK_len : ∀ {ks : List FK} {vs : List Value}, matchK ks vs → vs.length = ks.length
  | [], [], _ => rfl
  | _ :: ks, _ :: vs, h => by simp [matchK_len h.2]
  | [], _ :: _, h => h.elim
  | _ :: _, [], h => h.elim
theorem matchK_append : ∀ {k1 k2 : List FK} {vs : List Value}, matchK k1 (vs.take k1.length) → matchK k2 (vs.drop k1.length) → matchK (k1 ++ k2) vs
  | [], _, _, _, h => h
  | k :: k1, k2, [], h, _ => h.elim
  | k :: k1, k2, v :: vs, h, h' => ⟨h.1, matchK_append h.2 h'⟩

def kindsF (P : Program) (rec : TypeId → Option (List FK)) : List Field → Nat → Option (List FK)
  | [], _ => some []
  | f :: r, off => match Nat.beq f.offset off, rec f.type with
    | true, some ks => match Nat.beq (P.cellsOf f.type) ks.length, kindsF P rec r (off + ks.length) with
      | true, some l => some (ks ++ l)
      | _, _ => none
    | _, _ => none
def repK (ks : List FK) : Nat → List FK
  | 0 => []
  | n + 1 => ks ++ repK ks n
def kindsOf (P : Program) : Nat → TypeId → Option (List FK)
  | 0, _ => none
  | d + 1, t => match P.underlying t with
    | some (.int k) => some [.int k]
    | some .bool => some [.bool]
    | some .string => some [.str]
    | some (.struct fs) => match kindsF P (kindsOf P d) fs.toList 0 with
      | some ks => match Nat.beq (P.cellsOf t) ks.length with
        | true => some ks
        | false => none
      | none => none
    | some (.array n e) => match kindsOf P d e with
      | some ks => match Nat.beq (P.cellsOf e) ks.length, Nat.beq (P.cellsOf t) (repK ks n).length with
        | true, true => some (repK ks n)
        | _, _ => none
      | none => none
    | _ => none

section
variable {H : Type} {enc : TypeId × Value → H} {w : World} {base : Nat} {spare : Nat → Bool} {held : Bool}

theorem kindsF_trod {rec : TypeId → Option (List FK)} {m : Nat} {cs : List Value} (hr : ∀ t ks, rec t = some ks → ∀ cs x, DataW.trod enc P w base spare held m t cs = some x → matchK ks cs) :
    ∀ (l : List Field) (off : Nat) (ks : List FK), kindsF P rec l off = some ks → (∀ f ∈ l, ∃ y, DataW.trod enc P w base spare held m f.type ((cs.drop f.offset).take (P.cellsOf f.type)) = some y) → off + ks.length = cs.length → matchK ks (cs.drop off)
  | [], off, ks, h, _, hl => by
    simp only [kindsF, Option.some.injEq] at h; subst h
    rw [List.drop_eq_nil_of_le (by simpa using Nat.le_of_eq hl.symm)]
    trivial
  | f :: r, off, ks, h, hf, hl => by
    unfold kindsF at h
    split at h
    · rename_i k1 ho hk1
      split at h
      · rename_i l hc hl2
        cases h
        have ho := Nat.eq_of_beq_eq_true ho
        have hc := Nat.eq_of_beq_eq_true hc
        obtain ⟨y, hy⟩ := hf f List.mem_cons_self
        have h1 := hr _ _ hk1 _ _ hy
        rw [ho, hc] at h1
        have h2 := kindsF_trod hr r _ _ hl2 (fun g hg => hf g (List.mem_cons_of_mem _ hg)) (by rw [List.length_append] at hl; omega)
        refine matchK_append h1 ?_
        rw [List.drop_drop]; exact h2
      · cases h
    · cases h
theorem repK_match {ks : List FK} {cs : List Value} : ∀ (n i : Nat), (∀ j, j < n → matchK ks ((cs.drop ((i + j) * ks.length)).take ks.length)) → (i + n) * ks.length = cs.length → matchK (repK ks n) (cs.drop (i * ks.length))
  | 0, i, _, hl => by
    rw [List.drop_eq_nil_of_le (by rw [← hl]; exact Nat.le_refl _)]
    trivial
  | n + 1, i, h, hl => by
    refine matchK_append (h 0 (by omega)) ?_
    have := repK_match (ks := ks) (cs := cs) n (i + 1) (fun j hj => by have := h (j + 1) (by omega); rwa [show i + (j + 1) = i + 1 + j by omega] at this) (by rw [show i + 1 + n = i + (n + 1) by omega]; exact hl)
    rw [List.drop_drop, show i * ks.length + ks.length = (i + 1) * ks.length by rw [Nat.add_mul, Nat.one_mul]]
    exact this
theorem kindsOf_trod : ∀ (d : Nat) (t : TypeId) (ks : List FK), kindsOf P d t = some ks → ∀ (fuel : Nat) (cs : List Value) x, DataW.trod enc P w base spare held fuel t cs = some x → matchK ks cs
  | 0, _, _, h, _, _, _, _ => by cases h
  | d + 1, t, ks, h, fuel, cs, x, hx => by
    unfold kindsOf at h
    split at h
    · rename_i k ht
      cases h
      obtain ⟨a, rfl, _, hw⟩ := DataW.trod_int ht hx
      exact ⟨⟨a, rfl, hw⟩, trivial⟩
    · rename_i ht
      cases h
      obtain ⟨b, rfl, _⟩ := DataW.trod_bool ht hx
      exact ⟨⟨b, rfl⟩, trivial⟩
    · rename_i ht
      cases h
      obtain ⟨s, rfl, _, hw⟩ := DataW.trod_string ht hx
      exact ⟨⟨s, rfl, hw⟩, trivial⟩
    · rename_i fs ht
      split at h
      · rename_i ks' hk
        split at h
        · rename_i hc
          cases h
          have hc := Nat.eq_of_beq_eq_true hc
          obtain ⟨xs, n, rfl, rfl, hl, hlen, hf⟩ := DataW.trod_struct ht hx
          have := kindsF_trod (cs := cs) (m := n) (fun t ks hk cs x hx => kindsOf_trod d t ks hk n cs x hx) fs.toList 0 _ hk (fun f hf' => by
            obtain ⟨i, hi⟩ := List.mem_iff_getElem?.1 hf'
            have hi' : fs[i]? = some f := by simpa using hi
            have hlt : i < xs.length := by rw [hlen]; exact (Array.getElem?_eq_some_iff.1 hi').1
            exact ⟨_, (hf i f hi').trans (List.getElem?_eq_getElem hlt)⟩) (by rw [Nat.zero_add, hl, hc])
          simpa using this
        · cases h
      · cases h
    · rename_i n e ht
      split at h
      · rename_i ks' hk
        split at h
        · rename_i hc1 hc2
          cases h
          have hc1 := Nat.eq_of_beq_eq_true hc1
          have hc2 := Nat.eq_of_beq_eq_true hc2
          obtain ⟨xs, m, rfl, rfl, hl, hlen, hf⟩ := DataW.trod_array ht hx
          have hrep : ∀ n, (repK ks' n).length = n * ks'.length := by
            intro n
            induction n with
            | zero => simp [repK]
            | succ n ih => simp only [repK, List.length_append, ih, Nat.add_mul, Nat.one_mul]; omega
          have := repK_match (ks := ks') (cs := cs) n 0 (fun j hj => by
            have hj' : j < xs.length := by rw [hlen]; exact hj
            have := kindsOf_trod d e ks' hk m _ _ ((hf j hj).trans (List.getElem?_eq_getElem hj'))
            rw [hc1] at this
            rw [Nat.zero_add]; exact this) (by rw [Nat.zero_add, ← hrep, ← hc2, hl])
          simpa using this
        · cases h
      · cases h
    · cases h

theorem mapM_cells {w : World} {a : Addr} : ∀ {n : Nat} {k : Nat} {cs : List Value}, ((List.range' k n).mapM fun i => w.cell? (a.add i)) = some cs → cs.length = n ∧ ∀ (j : Nat) (y : Value), cs[j]? = some y → w.cell? (a.add (k + j)) = some y
  | 0, k, cs, h => by simp at h; subst h; simp
  | n + 1, k, cs, h => by
    rw [List.range'_succ, List.mapM_cons] at h
    cases h1 : w.cell? (a.add k) with
    | none => simp [h1] at h
    | some v =>
      cases h2 : (List.range' (k + 1) n).mapM (fun i => w.cell? (a.add i)) with
      | none => simp [h1, h2] at h
      | some vs =>
        simp [h1, h2] at h
        subst h
        obtain ⟨g1, g2⟩ := mapM_cells h2
        refine ⟨by simp [g1], fun j y hj => ?_⟩
        match j with
        | 0 => simp at hj; subst hj; exact h1
        | j + 1 =>
          have := g2 j y (by simpa using hj)
          rwa [show k + 1 + j = k + (j + 1) by omega] at this
theorem cells_spec {w : World} {base : Nat} {a : Addr} {n : Nat} {cs : List Value} (h : w.cells? base a n = some cs) : cs.length = n ∧ ∀ (j : Nat) (y : Value), cs[j]? = some y → w.cell? (a.add j) = some y := by
  unfold World.cells? at h
  split at h
  · rw [List.range_eq_range'] at h
    obtain ⟨h1, h2⟩ := mapM_cells h
    exact ⟨h1, fun j y hj => by have := h2 j y hj; rwa [Nat.zero_add] at this⟩
  · cases h

/-- A slice of plain elements, opened. -/
theorem open_view {t e : TypeId} {c : Codec} {d : Nat} {ks : List FK} {fuel : Nat} {cs : List Value} {x : DataW H × List MemPlace} (ht : P.underlying t = some (.slice e)) (hk : kindsOf P d e = some ks) (hc : P.cellsOf e = c.sz)
    (henc : ∀ l, matchK ks l → ∃ a, c.enc a = l) (h : DataW.trod enc P w base spare held fuel t cs = some x) :
    cs = [.slice none 0 0] ∨ ∃ (a : Addr) (cap : Nat) (ts : List c.α), cs = [.slice (some a) ts.length cap] ∧ ts.length ≤ cap ∧ (∀ j y, (c.flat ts)[j]? = some y → w.cell? (a.add j) = some y) ∧ ∀ t ∈ ts, matchK ks (c.enc t) := by
  rcases DataW.trod_slice ht h with ⟨rfl, _⟩ | ⟨a, len, cap, elems, rest, n, _, rfl, _, _, hl, _, hlen, hel, _⟩
  · exact .inl rfl
  · right
    have each : ∀ i, i < len → ∃ q : c.α, matchK ks (c.enc q) ∧ ∀ j y, (c.enc q)[j]? = some y → w.cell? (a.add (i * c.sz + j)) = some y := by
      intro i hi
      have h1 := hel i hi
      rw [List.getElem?_eq_getElem (by omega)] at h1
      obtain ⟨cells, h2, h3⟩ := Option.bind_eq_some_iff.1 h1
      rw [hc] at h2
      have hm := kindsOf_trod d e ks hk n cells _ h3
      obtain ⟨q, rfl⟩ := henc cells hm
      obtain ⟨g1, g2⟩ := cells_spec h2
      refine ⟨q, hm, fun j y hj => ?_⟩
      have := g2 j y hj
      rwa [Addr.add_add] at this
    have build : ∀ m, m ≤ len → ∃ ts : List c.α, ts.length = m ∧ (∀ j y, (c.flat ts)[j]? = some y → w.cell? (a.add j) = some y) ∧ ∀ t ∈ ts, matchK ks (c.enc t) := by
      intro m
      induction m with
      | zero => exact fun _ => ⟨[], rfl, fun j y h => by simp [Codec.flat] at h, fun t h => by cases h⟩
      | succ m ih =>
        intro hm
        obtain ⟨ts, e1, e2, e3⟩ := ih (by omega)
        obtain ⟨q, q1, q2⟩ := each m (by omega)
        refine ⟨ts ++ [q], by simp [e1], fun j y hj => ?_, fun t ht => ?_⟩
        · rw [c.flat_append, List.getElem?_append] at hj
          split at hj
          · exact e2 j y hj
          · rename_i hge
            rw [c.flat_length, e1] at hj hge
            simp only [Codec.flat, List.append_nil] at hj
            have := q2 _ y hj
            rwa [show m * c.sz + (j - m * c.sz) = j by omega] at this
        · rcases List.mem_append.1 ht with ht | ht
          · exact e3 t ht
          · rw [List.mem_singleton.1 ht]; exact q1
    obtain ⟨ts, e1, e2, e3⟩ := build len (Nat.le_refl _)
    exact ⟨a, cap, ts, by rw [e1], by rw [e1]; exact hl, e2, e3⟩
end

theorem matchK_cons {k : FK} {ks : List FK} {l : List Value} (h : matchK (k :: ks) l) : ∃ v r, l = v :: r ∧ okK k v ∧ matchK ks r := by
  match l, h with
  | v :: r, h => exact ⟨v, r, rfl, h.1, h.2⟩
theorem matchK_nil {l : List Value} (h : matchK [] l) : l = [] := by
  match l, h with
  | [], _ => rfl
/-- A struct of plain fields, opened. -/
theorem open_struct {H : Type} {enc : TypeId × Value → H} {w : World} {base : Nat} {spare : Nat → Bool} {held : Bool} {r : Reach} {b0 : Nat} {t : TypeId} {fs : Array Field} {d : Nat} {ks : List FK} {v : Value} {y : DataW H} {ps : List MemPlace}
    (ht : P.underlying t = some (.struct fs)) (hk : kindsOf P d t = some ks) (hval : Value.okWide P w r b0 t v) (hd : DataW.Trod enc P w base spare held t v y ps) : ∃ l : List Value, v = .agg l.toArray ∧ matchK ks l := by
  obtain ⟨cs, rfl, _⟩ := Go.WideShapes.okWide_struct ht hval
  obtain ⟨fuel, hf⟩ := hd
  exact ⟨cs.toList, by simp, kindsOf_trod d t ks hk fuel _ _ hf⟩
/-- A slice that was handed over lies in a block that there is. -/
theorem slice_block {w : World} {r : Reach} {b0 : Nat} {t e : TypeId} {a : Addr} {len cap : Nat} (ht : P.underlying t = some (.slice e)) (h : Value.okWide P w r b0 t (.slice (some a) len cap)) : a.block < w.heap.size := by
  simp only [Value.okWide, ht, Cell.okWide, Cell.ok] at h
  obtain ⟨_, _, _, _, row, cells, h, _⟩ := h
  unfold World.shape? at h
  split at h
  · rename_i hb
    exact (Array.getElem?_eq_some_iff.1 hb).1
  · cases h

section
variable {C : Tab} {W : World}
/-- Nothing of what there was may be written; all of it may be seen. -/
def ownSee (ρ : Asg) (n : Nat) : Own := ⟨fun _ => False, fun _ => True, ρ, n⟩
/-- A view of what there was, behind a new handle. -/
theorem Rel.see {X : Own} {ρ : Asg} {hp : Hp C} {n : Nat} (h : Rel W ⟨fun _ => False, fun _ => True, X.ba, X.nb⟩ ρ hp n W) (hno : ∀ i o, find i hp = some o → o.owns = false) {e : TypeId} {a : Addr} {cap : Nat} {ts : List (C e).α} (hl : ts.length ≤ cap)
    (hc : ∀ j y, ((C e).flat ts)[j]? = some y → W.cell? (a.add j) = some y) (hb : a.block < W.heap.size) :
    Rel W ⟨fun _ => False, fun _ => True, X.ba, X.nb⟩ (ρ.add n (.slice (some a) ts.length cap)) ((n, .sl false false e ts) :: hp) (n + 1) W :=
  h.add rfl ⟨some a, cap, rfl, hl, nofun, fun j x hj => ⟨a, rfl, hc j x hj⟩⟩ (fun g hg => by simp [blk] at hg; subst hg; exact hb)
    (fun j oj vj g hj _ _ _ _ => ⟨rfl, hno j oj hj⟩) (fun g hg => .inr (.inr trivial)) (fun _ => rfl)
/-- A statement's call, out of what its function answers by its own numbers. -/
theorem run_fn0 {g : Nat} {args : List SV} {os : List (SO C)} {vals : List Value} {ρ : Asg} (h : Fn0 P g args os (.raw (.bool true), [])) (hR : Rel W ⟨fun _ => False, fun _ => True, ρ, os.length⟩ ρ (numH 0 os) os.length W) (hd : denL ρ args = some vals) :
    Calls P g vals.toArray W fun e w' => e = .returned (.bool true) ∧ Below W.heap.size W w' := by
  refine (h W _ ρ W vals rfl hR hd).2.mono ?_
  rintro e w' ⟨ρ', v, rfl, R, hv⟩
  simp only [den, Option.some.injEq] at hv
  subst hv
  exact ⟨rfl, { os := R.os, tape := R.tape, output := R.out, size := R.size, block := fun b hb => R.old b hb (fun h => h) }⟩
theorem rel_none : Rel (C := C) W ⟨fun _ => False, fun _ => True, fun _ => none, 0⟩ (fun _ => none) (numH 0 []) 0 W := Rel.start W _ rfl
theorem run_flat {g : Nat} {args : List SV} {vals : List Value} (h : Fn0 (C := C) P g args [] (.raw (.bool true), [])) (hd : denL (fun _ => none) args = some vals) :
    Calls P g vals.toArray W fun e w' => e = .returned (.bool true) ∧ Below W.heap.size W w' := run_fn0 h rel_none hd
end
end Go.Sx
