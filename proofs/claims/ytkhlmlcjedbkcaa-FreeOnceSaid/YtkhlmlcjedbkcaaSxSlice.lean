/-
  The symbolic evaluator: slices: literals, make, slicing, append. Own work; nothing here is trusted.
-/
import Derived.Test.YtkhlmlcjedbkcaaSxNew
namespace Go.Sx
noncomputable section
open Go.RowKit

variable {C : Tab} {P : Program}

def chunk (c : Codec) : Nat → List SV → Option (List c.α)
  | 0, cs => match cs with
    | [] => some []
    | _ => none
  | m + 1, cs => match c.dec (cs.take c.sz) with
    | some a => match chunk c m (cs.drop c.sz) with
      | some r => some (a :: r)
      | none => none
    | none => none

theorem chunk_spec {ρ : Asg} (c : Codec) : ∀ {m : Nat} {cs : List SV} {ts : List c.α} {vs : List Value}, chunk c m cs = some ts → denL ρ cs = some vs → ts.length = m ∧ vs = c.flat ts
  | 0, cs, ts, vs, h, hd => by
    unfold chunk at h
    split at h
    · cases h
      exact ⟨rfl, denL_nil.1 hd⟩
    · cases h
  | m + 1, cs, ts, vs, h, hd => by
    unfold chunk at h
    split at h
    · rename_i a ha
      split at h
      · rename_i r hr
        cases h
        obtain ⟨h1, h2⟩ := chunk_spec c hr (denL_drop c.sz hd)
        refine ⟨by simp [h1], ?_⟩
        have h3 := c.law _ _ ha
        have h4 : denL ρ (cs.take c.sz) = some (c.enc a) := by rw [h3]; exact denL_rawL _
        have h5 := denL_inj h4 (denL_take c.sz hd)
        simp only [Codec.flat]
        rw [h5, ← h2, List.take_append_drop]
      · cases h
    · cases h

/-- So many copies of a list, one behind the other. -/
def repL {α : Type} (l : List α) : Nat → List α
  | 0 => []
  | m + 1 => l ++ repL l m

theorem repL_length {α : Type} (l : List α) : ∀ m, (repL l m).length = m * l.length
  | 0 => by simp [repL]
  | m + 1 => by simp [repL, repL_length l m, Nat.add_mul]; omega

theorem repL_get (l : List Value) : ∀ (m i : Nat), i < m * l.length → (repL l m)[i]? = l[i % l.length]?
  | 0, i, h => by omega
  | m + 1, i, h => by
    simp only [repL]
    by_cases hi : i < l.length
    · rw [List.getElem?_append_left hi, Nat.mod_eq_of_lt hi]
    · rw [List.getElem?_append_right (by omega), repL_get l m (i - l.length) (by rw [Nat.add_mul] at h; omega)]
      congr 1
      rw [Nat.mod_eq_sub_mod (a := i) (by omega)]

theorem made_eq (z : Array Value) (m : Nat) : (Array.range (m * z.size)).map (fun i => z[i % z.size]!) = (repL z.toList m).toArray := by
  apply Array.ext'
  apply List.ext_getElem?
  intro i
  simp only [Array.toList_map, Array.toList_range, List.getElem?_map]
  by_cases hi : i < m * z.size
  · rw [List.getElem?_range hi, repL_get z.toList m i (by simpa using hi)]
    have hz : 0 < z.size := by
      rcases Nat.eq_zero_or_pos z.size with h | h
      · rw [h] at hi; omega
      · exact h
    have hlt : i % z.size < z.size := Nat.mod_lt _ hz
    simp [hlt]
  · rw [List.getElem?_eq_none (by simpa using hi), List.getElem?_eq_none (by rw [repL_length]; simpa using hi)]
    rfl

theorem flat_replicate (c : Codec) (a : c.α) : ∀ m, c.flat (List.replicate m a) = repL (c.enc a) m
  | 0 => rfl
  | m + 1 => by simp [List.replicate_succ, Codec.flat, repL, flat_replicate c a m]

theorem repL_take {α : Type} (l : List α) : ∀ (m k : Nat), k ≤ m → (repL l m).take (k * l.length) = repL l k
  | m, 0, _ => by simp [repL]
  | 0, k + 1, h => by omega
  | m + 1, k + 1, h => by
    simp only [repL]
    rw [List.take_append, List.take_of_length_le (by rw [Nat.add_mul]; omega)]
    congr 1
    rw [show (k + 1) * l.length - l.length = k * l.length from by rw [Nat.add_mul]; omega]
    exact repL_take l m k (by omega)

/-! ### literals -/
def pBuildSlice (P : Program) (n : Nat) (t : TypeId) (len : Nat) (idx : List Nat) (vs : List SV) : Tr (Res C) := match P.underlying t with
  | some (.slice e) => match szOf P e, zeroT P e with
    | some k, some z => match Nat.ble (len * k) 16777216, Nat.beq z.cells.size k, Nat.beq k (C e).sz with
      | true, true, true => match fillS (fun i => some (i * k, k)) (rawL (repL z.cells.toList len)) (zipP idx vs) with
        | some l => match chunk (C e) len l with
          | some ts => .leaf (.h n, [(n, .sl true true e ts)])
          | none => forceL l fun l => .leaf (.bs n 0 len len, [(n, .box l e)])
        | none => .fail
      | _, _, _ => .fail
    | _, _ => .fail
  | _ => .fail

section sound
variable {B : World} {X : Own} {ρ : Asg} {hp : Hp C} {n : Nat} {w : World}

theorem newSlice (R : Rel B X ρ hp n w) {e : TypeId} {ts tot : List (C e).α} {full : Bool} {cap : Nat} {cur : Array Value} (hcap : ts.length ≤ cap) (hf : full = true → cap = ts.length) (hcur : cur = ((C e).flat tot).toArray) (ht : cap ≤ tot.length)
    (htake : tot.take ts.length = ts) :
    Rel B X (ρ.add n (.slice (some ⟨w.heap.size, 0, none⟩) ts.length cap)) ((n, .sl true full e ts) :: hp) (n + 4) (w.alloc (.cells cur e)) :=
  Rel.shift (R.addNew (.cells cur e) (o := .sl true full e ts) (v := .slice (some ⟨w.heap.size, 0, none⟩) ts.length cap) rfl (fun g hg => by simp [blk] at hg; exact hg.symm)
    ⟨_, cap, rfl, hcap, hf, w.heap.size, tot, rfl, .inl R.size, by rw [hcur]; exact heap_alloc_new w _, ht, htake⟩) (by omega)

theorem pBuildSlice_sound (R : Rel B X ρ hp n w) {t : TypeId} {len : Nat} {idx : List Nat} {vs : List SV} {r : Res C} {pv : List (Nat × Value)} (h : (pBuildSlice P n t len idx vs).get = some r) (hi : pv.map (·.1) = idx) (hv : denL ρ vs = some (pv.map (·.2))) :
    NewOk P B X ρ hp n w (Instr.buildSlice t len pv.toArray) r := by
  have hlen : idx.length = vs.length := by rw [← hi, ← denL_length hv]; simp
  unfold pBuildSlice at h
  split at h
  · rename_i e ht
    split at h
    · rename_i k z hk hz
      split at h
      · rename_i b1 b2 b3
        have b1 := Nat.le_of_ble_eq_true b1
        have b2 := Nat.eq_of_beq_eq_true b2
        have b3 := Nat.eq_of_beq_eq_true b3
        split at h
        · rename_i l hl
          obtain ⟨us, h1, h2, h3⟩ := fillS_sound R.one (pv := pv) hl (denL_rawL _) (by rw [zipP_fst hlen, hi]) (by rw [zipP_snd hlen, hv])
          have hus : us.length = len * k := by rw [h2, repL_length]; simp [b2]
          have hrun : (Instr.buildSlice t len pv.toArray).run P w = .ok (.slice (some ⟨w.heap.size, 0, none⟩) len len) (w.alloc (.cells us.toArray e)) := by
            have n1 : ¬ (len * k > 2 ^ 24) := by simpa using b1
            have hpos : 0 < k := by rw [b3]; exact (C e).pos
            simp only [Instr.buildSlice, Sem.run_bind, run_underlying ht, Result.andThen_ok, run_sizeOf hk, n1, if_false]
            by_cases h0 : len * k = 0
            · have hl0 : len = 0 := by rcases Nat.mul_eq_zero.1 h0 with h | h; exact h; omega
              subst hl0
              have h3' : Instr.fill (fun i => some (i * k, k)) #[] pv = some us.toArray := by simpa [repL] using h3
              simp only [Nat.zero_mul, if_true, Sem.run_bind, Sem.run_pure, Result.andThen_ok, Array.range_zero', Array.map_empty, h3']
              simp [newRow]
            · have hm : (Array.range (len * k)).map (fun i => z.cells[i % z.cells.size]!) = (repL z.cells.toList len).toArray := by
                rw [← made_eq z.cells len, b2]
              simp only [h0, if_false, Sem.run_bind, run_zeroValue hz, Sem.run_pure, Result.andThen_ok, hm, h3]
              simp [newRow]
          split at h
          · rename_i ts hts
            simp only [Tr.get, Option.some.injEq] at h; subst h
            obtain ⟨h4, h5⟩ := chunk_spec (C e) hts h1
            have := newSlice R (e := e) (ts := ts) (tot := ts) (full := true) (cap := len) (cur := us.toArray) (by omega) (fun _ => h4.symm) (by rw [h5]) (by omega) (List.take_of_length_le (Nat.le_refl _))
            rw [h4] at this
            exact ⟨.slice (some ⟨w.heap.size, 0, none⟩) len len, _, _, hrun, Asg.le_add ρ n _ (R.fresh n (Nat.le_refl _)), Asg.add_self ρ n _, this⟩
          · rw [forceL_eq] at h
            simp only [Tr.get, Option.some.injEq] at h; subst h
            refine ⟨.slice (some ⟨w.heap.size, 0, none⟩) len len, _, _, hrun, Asg.le_add ρ n _ (R.fresh n (Nat.le_refl _)), ?_, newBox R h1⟩
            simp [den, Asg.add_self, baseOf, Addr.add_zero]
        · simp [Tr.get] at h
      · simp [Tr.get] at h
    · simp [Tr.get] at h
  · simp [Tr.get] at h
end sound

/-! ### make -/
def bytesT (P : Program) (t : TypeId) : Option Nat := match P.info? t with
  | some i => some i.bytes
  | none => none

def pMakeSlice (P : Program) (n : Nat) (t : TypeId) (l c : SV) : Tr (Res C) := match P.underlying t, l, c with
  | some (.slice e), .raw (.int _ l), .raw (.int _ c) => match szOf P e, zeroT P e, bytesT P e with
    | some k, some z, some by_ => match Nat.beq z.cells.size k, Nat.beq k (C e).sz, (C e).dec (rawL z.cells.toList) with
      | true, true, some a => .br (decide (0 ≤ l) && (decide (l ≤ c) && (decide ((by_ : Int) * c ≤ 281474976710656) && decide (c ≤ 9223372036854775807))))
          (.br (decide (l = c)) (.leaf (.h n, [(n, .sl true true e (List.replicate l.toNat a))])) (.leaf (.h n, [(n, .sl true false e (List.replicate l.toNat a))]))) .fail
      | _, _, _ => .fail
    | _, _, _ => .fail
  | _, _, _ => .fail

section sound
variable {B : World} {X : Own} {ρ : Asg} {hp : Hp C} {n : Nat} {w : World}

theorem pMakeSlice_sound (R : Rel B X ρ hp n w) {t : TypeId} {l c : SV} {r : Res C} {vl vc : Value} (h : (pMakeSlice P n t l c).get = some r) (hl : den ρ l = some vl) (hc : den ρ c = some vc) :
    NewOk P B X ρ hp n w (Instr.makeSlice t vl vc) r := by
  unfold pMakeSlice at h
  split at h
  · rename_i e kl l kc c ht
    split at h
    · rename_i k z by_ hk hz hby
      split at h
      · rename_i a b1 b2 hdec
        have b1 := Nat.eq_of_beq_eq_true b1
        have b2 := Nat.eq_of_beq_eq_true b2
        obtain ⟨hb, h⟩ := Tr.get_ask.1 h
        simp only [Bool.and_eq_true, decide_eq_true_eq] at hb
        obtain ⟨h0, h1, h2, h3⟩ := hb
        simp [den] at hl hc; subst hl; subst hc
        obtain ⟨i, hi⟩ : ∃ i, P.info? e = some i := by
          unfold szOf at hk; split at hk
          · rename_i i hi; exact ⟨i, hi⟩
          · cases hk
        have ek : i.size = k := by simpa [szOf, hi] using hk
        have ez : i.zero = some z := by simpa [zeroT, hi] using hz
        have eb : i.bytes = by_ := by simpa [bytesT, hi] using hby
        have hrun := run_make (P := P) w t e i z ht hi ez kl kc l c h0 h1 (by rw [eb]; exact h2) h3
        have hmade : madeCells z.cells (c.toNat * i.size) = (repL z.cells.toList c.toNat).toArray := by
          unfold madeCells
          rw [ek, ← b1]
          exact made_eq z.cells c.toNat
        rw [hmade] at hrun
        have henc : z.cells.toList = (C e).enc a := by
          have := (C e).law _ _ hdec
          have h1 : denL ρ (rawL z.cells.toList) = some ((C e).enc a) := by rw [this]; exact denL_rawL _
          exact denL_inj (denL_rawL _) h1
        have fin : ∀ full : Bool, (full = true → l = c) → NewOk P B X ρ hp n w (Instr.makeSlice t (.int kl l) (.int kc c)) (.h n, [(n, .sl true full e (List.replicate l.toNat a))]) := fun full hf => by
          have := newSlice R (e := e) (ts := List.replicate l.toNat a) (tot := List.replicate c.toNat a) (full := full) (cap := c.toNat) (cur := (repL z.cells.toList c.toNat).toArray) (by simp; omega) (fun hh => by simp [hf hh]) (by
              rw [flat_replicate, ← henc]) (by simp) (by
              rw [List.length_replicate, List.take_replicate, Nat.min_eq_left (by omega)])
          simp only [List.length_replicate] at this
          exact ⟨.slice (some ⟨w.heap.size, 0, none⟩) l.toNat c.toNat, _, _, hrun, Asg.le_add ρ n _ (R.fresh n (Nat.le_refl _)), Asg.add_self ρ n _, this⟩
        rcases Tr.get_br.1 h with ⟨hb, h⟩ | ⟨hb, h⟩
        · simp only [Tr.get, Option.some.injEq] at h; subst h
          exact fin true fun _ => of_decide_eq_true hb
        · simp only [Tr.get, Option.some.injEq] at h; subst h
          exact fin false fun hh => by cases hh
      · simp [Tr.get] at h
    · simp [Tr.get] at h
  · simp [Tr.get] at h
end sound
end
end Go.Sx
