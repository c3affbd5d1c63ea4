/-
  The symbolic evaluator: append. Own work; nothing here is trusted.
-/
import Derived.Test.YtkhlmlcjedbkcaaSxCut
namespace Go.Sx
noncomputable section
open Go.RowKit

variable {C : Tab} {P : Program}

/-- The elements of a slice that is appended. -/
def srcL (look : Nat → Option (SO C)) (e : TypeId) (x : SV) : Option (List (C e).α) := match x with
  | .h id => match look id with
    | some (.sl _ _ e2 us) => match Nat.decEq e2 e with
      | .isTrue h => some (h ▸ us)
      | .isFalse _ => none
    | _ => none
  | .raw (.slice none 0 0) => some []
  | .bs id off len _ => match look id with
    | some (.box cs _) => match segS cs off (len * (C e).sz) with
      | some l => chunk (C e) len l
      | none => none
    | _ => none
  | _ => none

section sound
variable {B : World} {X : Own} {ρ : Asg} {hp : Hp C} {n : Nat} {w : World}

theorem srcL_spec (R : Rel B X ρ hp n w) {e : TypeId} {x : SV} {us : List (C e).α} {v : Value} (h : srcL (fun i => find i hp) e x = some us) (hx : den ρ x = some v) :
    ∃ a cap, v = .slice a us.length cap ∧ ∀ j y, ((C e).flat us)[j]? = some y → ∃ a', a = some a' ∧ w.cell? (a'.add j) = some y := by
  unfold srcL at h
  split at h
  · rename_i id
    split at h
    · rename_i own full e2 us2 hid
      split at h
      · rename_i he _
        subst he
        cases h
        obtain ⟨a, cap, rfl, _, hc⟩ := flat_cell R hid hx
        exact ⟨a, cap, rfl, hc⟩
      · cases h
    · cases h
  · cases h
    simp [den] at hx; subst hx
    exact ⟨none, 0, rfl, fun j y hy => by simp [Codec.flat] at hy⟩
  · rename_i id off len cap
    split at h
    · rename_i cs ty hid
      split at h
      · rename_i l hl
        simp only [den, Option.bind_eq_some_iff, Option.map_eq_some_iff] at hx
        obtain ⟨u, hu, a, ha, rfl⟩ := hx
        obtain ⟨v', hv', g, vs, rfl, _, hden, hheap⟩ := R.obj id _ hid
        rw [hu] at hv'; cases hv'
        simp [baseOf] at ha; subst ha
        obtain ⟨e1, e2, e3⟩ := segS_spec hl hden
        obtain ⟨h1, h2⟩ := chunk_spec (C e) h e2
        refine ⟨_, cap, by rw [h1], fun j y hy => ⟨_, rfl, ?_⟩⟩
        rw [Addr.add_add, Addr.add_at, cell_of_row w g _ _ _ _ hheap, Nat.zero_add]
        rw [← h2, List.getElem?_take] at hy
        split at hy
        · rw [List.getElem?_drop] at hy; simpa using hy
        · cases hy
      · cases h
    · cases h
  · cases h
end sound

def roomB (k by_ : Nat) : Bool := decide (k * by_ ≤ 140737488355328)
/-- A list's elements from a place on written over. -/
def overL {α : Type} (ts : List α) (k : Nat) (us : List α) : List α := ts.take k ++ us ++ ts.drop (k + us.length)
theorem overL_length {α : Type} {ts us : List α} {k : Nat} (h : k + us.length ≤ ts.length) : (overL ts k us).length = ts.length := by
  unfold overL; simp; omega
theorem overL_take {α : Type} {tot ts us : List α} {k : Nat} (h : tot.take ts.length = ts) (hk : k + us.length ≤ ts.length) : (overL tot k us).take ts.length = overL ts k us := by
  unfold overL
  have hl : ts.length ≤ tot.length := by
    have := congrArg List.length h
    simp at this; omega
  have := take_splice (cur := tot) (F := ts) (us := us) (L := ts.length) (o := k) h rfl hk
  exact this
theorem overL_flat (c : Codec) (ts us : List c.α) (k : Nat) : c.flat (overL ts k us) = (c.flat ts).take (k * c.sz) ++ c.flat us ++ (c.flat ts).drop (k * c.sz + (c.flat us).length) := by
  unfold overL
  rw [c.flat_append, c.flat_append, c.flat_take, c.flat_drop, c.flat_length, Nat.add_mul]

/-! ### what is appended or copied -/
def strL {α : Type} (f : Int → α) (s : ByteArray) : List α := s.data.toList.map fun b => f b.toNat
def srcT (look : Nat → Option (SO C)) (e : TypeId) (x : SV) : Tr (List (C e).α) := match x with
  | .raw (.string s) => match (C e).byt with
    | some b => .leaf (strL b.f s)
    | none => .fail
  | .vs id sz bs off len _ => match look id with
    | some (.sl _ _ e2 ts) => match Nat.decEq e2 e, Nat.beq sz (C e).sz with
      | .isTrue h, true => .br (decide (off + len ≤ ts.length)) (.leaf ((((h ▸ ts : List (C e).α)).drop off).take len)) .fail
      | _, _ => .fail
    | _ => .fail
  | x => Tr.ofOpt (srcL look e x)

structure SrcV (P : Program) (size : Nat) (x : Value) (n : Nat) (news : List Value) (w : World) : Prop where
  len : ∀ w' : World, (Builtin.lenOf x).run P w' = .ok n w'
  cells : ∀ m, m ≤ n → (Builtin.firstCells size m x).run P w = .ok (news.take (m * size)).toArray w
  cellsD : (Builtin.firstCells size n x).run P w.drew = .ok news.toArray w.drew
  newsLen : news.length = n * size

theorem SrcV.slice {size n cap : Nat} {a : Option Addr} {news : List Value} {w : World} (hl : news.length = n * size) (h : ∀ j y, news[j]? = some y → ∃ a', a = some a' ∧ w.cell? (a'.add j) = some y) (hs : 0 < size) : SrcV P size (.slice a n cap) n news w := by
  cases a with
  | none =>
    have : news = [] := by
      cases news with
      | nil => rfl
      | cons y r => obtain ⟨a', e, _⟩ := h 0 y rfl; cases e
    subst this
    exact ⟨fun _ => rfl, fun m hm => by simpa using run_firstCells_none w size m n cap, run_firstCells_none w.drew size n n cap, hl⟩
  | some a =>
    have h' : ∀ j y, news[j]? = some y → w.cell? (a.add j) = some y := fun j y hy => by obtain ⟨a', e, hc⟩ := h j y hy; cases e; exact hc
    refine ⟨fun _ => rfl, fun m hm => ?_, run_firstCells_some w.drew size n a n cap news hl (by simpa using h'), hl⟩
    have hm' := Nat.mul_le_mul_right size hm
    exact run_firstCells_some w size m a n cap _ (by rw [List.length_take]; omega) (fun j v hv => h' j v (by
      rw [List.getElem?_take] at hv
      split at hv
      · exact hv
      · cases hv))

theorem bytes_length (s : ByteArray) : (s.data.toList.map fun b : UInt8 => Value.int .u8 b.toNat).length = s.size := by
  rw [List.length_map, Array.length_toList]; rfl
theorem SrcV.string {s : ByteArray} {w : World} : SrcV P 1 (.string s) s.size (s.data.toList.map fun b : UInt8 => Value.int .u8 b.toNat) w := by
  have key : ∀ (m : Nat) (w : World), (Builtin.firstCells 1 m (.string s)).run P w = .ok ((s.data.toList.map fun b : UInt8 => Value.int .u8 b.toNat).take m).toArray w := fun m w => by
    simp only [Builtin.firstCells, Sem.run_pure]
    congr 1
    apply Array.ext'
    simp [List.map_take]
  refine ⟨fun _ => rfl, fun m hm => by rw [Nat.mul_one]; exact key m w, ?_, by rw [bytes_length, Nat.mul_one]⟩
  rw [key, List.take_of_length_le (by rw [bytes_length]; exact Nat.le_refl _)]

theorem strL_flat {c : Codec} (b : Byt c.α c.enc) (s : ByteArray) : c.flat (strL b.f s) = s.data.toList.map fun b : UInt8 => Value.int .u8 b.toNat := by
  unfold strL
  induction s.data.toList with
  | nil => rfl
  | cons x r ih => simp only [List.map_cons, Codec.flat, b.law, ih]; rfl
theorem byt_sz {c : Codec} (b : Byt c.α c.enc) : c.sz = 1 := by rw [← c.len (b.f 0), b.law]; rfl

section sound
variable {B : World} {X : Own} {ρ : Asg} {hp : Hp C} {n : Nat} {w : World}

theorem srcT_spec (R : Rel B X ρ hp n w) {e : TypeId} {x : SV} {us : List (C e).α} {v : Value} (h : (srcT (fun i => find i hp) e x).get = some us) (hx : den ρ x = some v) :
    SrcV P (C e).sz v us.length ((C e).flat us) w ∧ ((∃ a l c, v = .slice a l c) ∨ ∃ s, v = .string s) := by
  unfold srcT at h
  split at h
  · rename_i s
    split at h
    · rename_i b hb
      simp only [Tr.get, Option.some.injEq] at h; subst h
      simp [den] at hx; subst hx
      refine ⟨?_, .inr ⟨s, rfl⟩⟩
      rw [strL_flat, byt_sz b, show (strL b.f s).length = s.size from by unfold strL; rw [List.length_map, Array.length_toList]; rfl]
      exact SrcV.string
    · simp [Tr.get] at h
  · rename_i id sz bs off len cap
    split at h
    · rename_i own full e2 ts hid
      split at h
      · rename_i he _ hsz
        subst he
        have hsz := Nat.eq_of_beq_eq_true hsz
        subst hsz
        obtain ⟨hb, h⟩ := Tr.get_ask.1 h
        have hb := of_decide_eq_true hb
        simp only [Tr.get, Option.some.injEq] at h; subst h
        obtain ⟨a, c, hv, hc, _, rfl, hcell⟩ := vs_den R hid hx
        have hlen : (((ts : List (C e2).α).drop off).take len).length = len := by rw [List.length_take, List.length_drop]; omega
        refine ⟨?_, .inl ⟨_, _, _, rfl⟩⟩
        have := SrcV.slice (P := P) (size := (C e2).sz) (n := (((ts : List (C e2).α).drop off).take len).length) (cap := capO cap (c - off)) (a := some (if off = c then a.add (Nat.min bs off * (C e2).sz) else a.add (off * (C e2).sz))) (news := (C e2).flat ((ts.drop off).take len)) (w := w) ((C e2).flat_length _) (fun j y hy => ⟨_, rfl, ?_⟩) (C e2).pos
        · rw [hlen] at this; rw [hlen]; exact this
        · have hj : j < len * (C e2).sz := by
            have := (List.getElem?_eq_some_iff.1 hy).1
            rwa [(C e2).flat_length, hlen] at this
          have hne : ¬ off = c := fun e => by
            have : len = 0 := by omega
            subst this; simp at hj
          rw [if_neg hne, Addr.add_add]
          rw [(C e2).flat_take, (C e2).flat_drop, List.getElem?_take, if_pos (by exact hj), List.getElem?_drop] at hy
          exact hcell _ _ hy
      · simp [Tr.get] at h
    · simp [Tr.get] at h
  · rw [Tr.get_ofOpt] at h
    obtain ⟨a, cap, rfl, hc⟩ := srcL_spec R h hx
    exact ⟨SrcV.slice ((C e).flat_length us) hc (C e).pos, .inl ⟨_, _, _, rfl⟩⟩

/-- What the second argument of an append does. -/
structure AppV (P : Program) (t tx ty e : TypeId) (i : TypeInfo) (z : Value) (x : Value) (n : Nat) (news : List Value) (w : World) : Prop where
  newsLen : news.length = n * i.size
  room : ∀ base sLen sCap, sLen + n ≤ sCap → (Builtin.append_ #[t, tx] ty #[.slice base sLen sCap, x]).run P w = (match base with | some a => (storeCells (a.add (sLen * i.size)) news).run P w | none => Result.ok () w).andThen fun _ w' => .ok (.slice base (sLen + n) sCap) w'
  grow : ∀ base sLen sCap (olds : List Value), sCap < sLen + n → ((sLen + n : Nat) : Int) ≤ 9223372036854775807 → Builtin.nextslicecap (sLen + n) sCap * i.bytes ≤ 281474976710656 →
    (Builtin.firstCells i.size sLen (.slice base sLen sCap)).run P w.drew = .ok olds.toArray w.drew →
    (Builtin.append_ #[t, tx] ty #[.slice base sLen sCap, x]).run P w = .ok (.slice (some ⟨w.heap.size, 0, none⟩) (sLen + n) (grownCap w (sLen + n) sCap e))
      (w.drew.alloc (.cells (olds.toArray ++ news.toArray ++ Builtin.zeroCells z.cells (grownCap w (sLen + n) sCap e - (sLen + n))) e))

theorem AppV.ofSrc {t tx ty e : TypeId} {i : TypeInfo} {z x : Value} {k : Nat} {news : List Value} (ht : P.underlying t = some (.slice e)) (hi : P.info? e = some i) (hz : i.zero = some z) (hx : (∃ e', P.underlying tx = some (.slice e')) ∨ P.underlying tx = some .string)
    (hs : SrcV P i.size x k news w) : AppV P t tx ty e i z x k news w where
  newsLen := hs.newsLen
  room base sLen sCap hroom := by
    have hcells := hs.cells k (Nat.le_refl _)
    rw [List.take_of_length_le (by rw [hs.newsLen]; exact Nat.le_refl _)] at hcells
    rcases hx with ⟨e', hk⟩ | hk <;> cases base <;> simp [Builtin.append_, run_underlying ht, run_underlying hk, sizeOf, typeInfo, hi, hs.len, hroom, hcells]
  grow base sLen sCap olds hg h63 hfit hold := by
    have hn : ¬ (sLen + k ≤ sCap) := by omega
    have h63' : ¬ (9223372036854775807 < ((sLen : Int) + (k : Int))) := by omega
    have h48' : ¬ (281474976710656 < Builtin.nextslicecap (sLen + k) sCap * i.bytes) := by omega
    rcases hx with ⟨e', hk⟩ | hk <;>
      (simp [Builtin.append_, run_underlying ht, run_underlying hk, sizeOf, typeInfo, zeroValue, hi, hz, hs.len, hn, h63', h48', Question.forced, hs.cellsD, hold, newRow, grownCap]
       congr 2
       apply Array.ext'
       simp [List.append_assoc])

/-- So many zero values, as 'append(s, make(.., n)...)' appends them. -/
theorem AppV.zeros {t tx ty e : TypeId} {i : TypeInfo} {z : Value} {kx kk : IntKind} {l : Int} (ht : P.underlying t = some (.slice e)) (hi : P.info? e = some i) (hz : i.zero = some z) (hx : P.underlying tx = some (.int kx)) (hzs : z.cells.size = i.size)
    (h0 : 0 ≤ l) (h1 : l ≤ 9223372036854775807) (hb : l * (i.bytes : Int) ≤ 281474976710656) : AppV P t tx ty e i z (.int kk l) l.toNat (Builtin.zeroCells z.cells l.toNat).toList w := by
  obtain ⟨N, rfl⟩ := Int.eq_ofNat_of_zero_le h0
  have hw : IntKind.i64.wrap (N : Int) = N := IntWalk.i64_in _ ⟨by omega, h1⟩
  have h0' : ¬ ((N : Int) < 0) := by omega
  have hb' : ¬ (281474976710656 < (N : Int) * (i.bytes : Int)) := by omega
  have hzc : N * i.size = 0 → Builtin.zeroCells z.cells N = #[] := fun h => by
    apply Array.eq_empty_of_size_eq_zero; rw [size_zeroCells, hzs, h]
  refine ⟨(by rw [Array.length_toList, size_zeroCells, hzs]), fun base sLen sCap hroom => ?_, fun base sLen sCap olds hg h63 hfit hold => ?_⟩
  · simp only [Int.toNat_natCast] at hroom ⊢
    by_cases hz0 : N * i.size = 0
    · have hzc := hzc hz0
      cases base <;> simp [Builtin.append_, run_underlying ht, run_underlying hx, sizeOf, typeInfo, zeroValue, hi, hz, asInt, asIntOf, hw, h0', hb', hroom, hz0, hzc]
    · have hz1 : N ≠ 0 ∧ i.size ≠ 0 := ⟨fun h => hz0 (by rw [h, Nat.zero_mul]), fun h => hz0 (by rw [h, Nat.mul_zero])⟩
      cases base <;> simp [Builtin.append_, run_underlying ht, run_underlying hx, sizeOf, typeInfo, zeroValue, hi, hz, asInt, asIntOf, hw, h0', hb', hroom, hz0, hz1]
  · simp only [Int.toNat_natCast] at hg h63 hfit ⊢
    have hn : ¬ (sLen + N ≤ sCap) := by omega
    have h63' : ¬ (9223372036854775807 < ((sLen : Int) + (N : Int))) := by omega
    have h48' : ¬ (281474976710656 < Builtin.nextslicecap (sLen + N) sCap * i.bytes) := by omega
    by_cases hz0 : N * i.size = 0
    · have hzc := hzc hz0
      simp [Builtin.append_, run_underlying ht, run_underlying hx, sizeOf, typeInfo, zeroValue, hi, hz, asInt, asIntOf, hw, h0', hb', hn, h63', h48', hz0, hzc, Question.forced, hold, newRow, grownCap]
    · have hz1 : N ≠ 0 ∧ i.size ≠ 0 := ⟨fun h => hz0 (by rw [h, Nat.zero_mul]), fun h => hz0 (by rw [h, Nat.mul_zero])⟩
      simp [Builtin.append_, run_underlying ht, run_underlying hx, sizeOf, typeInfo, zeroValue, hi, hz, asInt, asIntOf, hw, h0', hb', hn, h63', h48', hz0, hz1, Question.forced, hold, newRow, grownCap]

end sound
end
end Go.Sx
