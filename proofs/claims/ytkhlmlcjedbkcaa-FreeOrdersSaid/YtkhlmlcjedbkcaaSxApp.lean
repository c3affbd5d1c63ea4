/-
  The symbolic evaluator: append. Own work; nothing here is trusted.
-/
import Derived.Test.YtkhlmlcjedbkcaaSxCut
namespace Go.Sx
noncomputable section
open Go.RowKit

variable {C : Tab} {P : Program}

/-- The elements of a slice that is appended. -/
def srcL (look : Nat → Option (SO C)) (e : TypeId) (x : SV) : Option (List (C e).α) := match x with
  | .h id => match look id with
    | some (.sl _ _ e2 us) => match Nat.decEq e2 e with
      | .isTrue h => some (h ▸ us)
      | .isFalse _ => none
    | _ => none
  | .raw (.slice none 0 0) => some []
  | .bs id off len _ => match look id with
    | some (.box cs _) => match segS cs off (len * (C e).sz) with
      | some l => chunk (C e) len l
      | none => none
    | _ => none
  | _ => none

section sound
variable {B : World} {X : Own} {ρ : Asg} {hp : Hp C} {n : Nat} {w : World}

theorem srcL_spec (R : Rel B X ρ hp n w) {e : TypeId} {x : SV} {us : List (C e).α} {v : Value} (h : srcL (fun i => find i hp) e x = some us) (hx : den ρ x = some v) :
    ∃ a cap, v = .slice a us.length cap ∧ ∀ j y, ((C e).flat us)[j]? = some y → ∃ a', a = some a' ∧ w.cell? (a'.add j) = some y := by
  unfold srcL at h
  split at h
  · rename_i id
    split at h
    · rename_i own full e2 us2 hid
      split at h
      · rename_i he _
        subst he
        cases h
        obtain ⟨a, cap, rfl, _, hc⟩ := flat_cell R hid hx
        exact ⟨a, cap, rfl, hc⟩
      · cases h
    · cases h
  · cases h
    simp [den] at hx; subst hx
    exact ⟨none, 0, rfl, fun j y hy => by simp [Codec.flat] at hy⟩
  · rename_i id off len cap
    split at h
    · rename_i cs ty hid
      split at h
      · rename_i l hl
        simp only [den, Option.bind_eq_some_iff, Option.map_eq_some_iff] at hx
        obtain ⟨u, hu, a, ha, rfl⟩ := hx
        obtain ⟨v', hv', g, vs, rfl, _, hden, hheap⟩ := R.obj id _ hid
        rw [hu] at hv'; cases hv'
        simp [baseOf] at ha; subst ha
        obtain ⟨e1, e2, e3⟩ := segS_spec hl hden
        obtain ⟨h1, h2⟩ := chunk_spec (C e) h e2
        refine ⟨_, cap, by rw [h1], fun j y hy => ⟨_, rfl, ?_⟩⟩
        rw [Addr.add_add, Addr.add_at, cell_of_row w g _ _ _ _ hheap, Nat.zero_add]
        rw [← h2, List.getElem?_take] at hy
        split at hy
        · rw [List.getElem?_drop] at hy; simpa using hy
        · cases hy
      · cases h
    · cases h
  · cases h
end sound

def roomB (k by_ : Nat) : Bool := decide (k * by_ ≤ 140737488355328)

def appGo (look : Nat → Option (SO C)) (n : Nat) (e by_ : Nat) (s : SV) (us : List (C e).α) : Tr (Res C) := match s with
  | .h id => match look id with
    | some (.sl own full e' ts) => match Nat.decEq e' e with
      | .isTrue h => match own with
        | true => .br (roomB (ts.length + us.length) by_) (.leaf (.h n, [(n, .sl true false e ((h ▸ ts : List (C e).α) ++ us)), (id, .gone)])) .fail
        | false => match full with
          | true => .br (roomB (ts.length + us.length) by_) (.br (decide (us.length = 0)) (.leaf (.h id, [])) (.leaf (.h n, [(n, .sl true false e ((h ▸ ts : List (C e).α) ++ us))]))) .fail
          | false => .fail
      | .isFalse _ => .fail
    | _ => .fail
  | .raw (.slice none 0 0) => .br (roomB us.length by_) (.br (decide (us.length = 0)) (.leaf (.raw (.slice none 0 0), [])) (.leaf (.h n, [(n, .sl true false e us)]))) .fail
  | _ => .fail

def pAppend (P : Program) (look : Nat → Option (SO C)) (n : Nat) (t : TypeId) (s x : SV) : Tr (Res C) := match P.underlying t with
  | some (.slice e) => match szOf P e, zeroT P e, bytesT P e with
    | some k, some z, some by_ => match Nat.beq z.cells.size k, Nat.beq k (C e).sz, Nat.ble 1 by_ with
      | true, true, true => match srcL look e x with
        | some us => appGo look n e by_ s us
        | none => .fail
      | _, _, _ => .fail
    | _, _, _ => .fail
  | _ => .fail

section sound
variable {B : World} {X : Own} {ρ : Asg} {hp : Hp C} {n : Nat} {w : World}

theorem append_zero {t ty e : TypeId} {k : Nat} (ht : P.underlying t = some (.slice e)) (hk : szOf P e = some k) (base : Option Addr) (sLen sCap : Nat) (a : Option Addr) (c : Nat) (hle : sLen ≤ sCap) :
    (Builtin.append_ #[t, t] ty #[.slice base sLen sCap, .slice a 0 c]).run P w = .ok (.slice base sLen sCap) w := by
  cases a <;> cases base <;> simp [Builtin.append_, run_underlying ht, run_sizeOf hk, Builtin.lenOf, Builtin.firstCells, loadCells, loadCellsFrom, storeCells, hle]

structure AppT (P : Program) (t e : TypeId) (i : TypeInfo) (z : Value) (c : Codec) : Prop where
  ht : P.underlying t = some (.slice e)
  hi : P.info? e = some i
  hz : i.zero = some z
  hsz : i.size = c.sz
  hzs : z.cells.size = c.sz
  hb : 1 ≤ i.bytes

theorem room_le {k b : Nat} (h : k * b ≤ 140737488355328) (hb : 1 ≤ b) : k ≤ 140737488355328 := by
  have := Nat.mul_le_mul_left k hb
  omega

/-- Growing into a new block. -/
theorem grow_take {c : Codec} {z : Value} {ts us : List c.α} {m : Nat} (hzs : z.cells.size = c.sz) (hm : (ts ++ us).length ≤ m) :
    ((c.flat ts).toArray ++ (c.flat us).toArray ++ Builtin.zeroCells z.cells (m - (ts.length + us.length))).size = m * c.sz ∧
    ((c.flat ts).toArray ++ (c.flat us).toArray ++ Builtin.zeroCells z.cells (m - (ts.length + us.length))).toList.take ((ts ++ us).length * c.sz) = c.flat (ts ++ us) := by
  simp only [List.length_append] at hm
  constructor
  · simp only [Array.size_append, List.size_toArray, c.flat_length, size_zeroCells, hzs, ← Nat.add_mul]
    congr 1; omega
  · simp only [Array.toList_append, ← c.flat_append]
    have : (ts ++ us).length * c.sz = (c.flat (ts ++ us)).length := (c.flat_length _).symm
    rw [this]
    exact List.take_left

theorem add_new_slice (R : Rel B X ρ hp n w) {e : TypeId} {ts us : List (C e).α} {z : Value} {m : Nat} (hzs : z.cells.size = (C e).sz) (hm : ts.length + us.length ≤ m) :
    Rel B X (ρ.add n (.slice (some ⟨w.heap.size, 0, none⟩) (ts.length + us.length) m)) ((n, .sl true false e (ts ++ us)) :: hp) (n + 4)
      (w.drew.alloc (.cells (((C e).flat ts).toArray ++ ((C e).flat us).toArray ++ Builtin.zeroCells z.cells (m - (ts.length + us.length))) e)) := by
  obtain ⟨h1, h2⟩ := grow_take (c := C e) (z := z) (ts := ts) (us := us) (m := m) hzs (by simpa using hm)
  have := newSlice R.drew (e := e) (ts := ts ++ us) (full := false) (cap := m) (by simpa using hm) (fun h => by cases h) h1 h2
  simpa using this

theorem appGo_sound (R : Rel B X ρ hp n w) {t e ty : TypeId} {i : TypeInfo} {z : Value} (A : AppT P t e i z (C e)) {s : SV} {us : List (C e).α} {vs vx : Value} {r : Res C} (h : (appGo (fun i => find i hp) n e i.bytes s us).get = some r)
    (hs : den ρ s = some vs) (hx : ∃ a cap, vx = .slice a us.length cap ∧ ∀ j y, ((C e).flat us)[j]? = some y → ∃ a', a = some a' ∧ w.cell? (a'.add j) = some y) : NewOk P B X ρ hp n w (Builtin.append_ #[t, t] ty #[vs, vx]) r := by
  obtain ⟨sa, sc, rfl, hcell⟩ := hx
  have hk : szOf P e = some (C e).sz := by simp [szOf, A.hi, A.hsz]
  have hn : ρ n = none := R.fresh n (Nat.le_refl _)
  have hle : ∀ u, ρ.le (ρ.add n u) := fun u => Asg.le_add ρ n u hn
  have hul := (C e).flat_length us
  -- when something is appended, there is an address
  have hsrc : us ≠ [] → ∃ a', sa = some a' ∧ ∀ j y, ((C e).flat us)[j]? = some y → w.cell? (a'.add j) = some y := fun hne => by
    have hpos : 0 < ((C e).flat us).length := by
      rw [hul]; exact Nat.mul_pos (List.length_pos_iff.2 hne) (C e).pos
    obtain ⟨a', rfl, _⟩ := hcell 0 _ (List.getElem?_eq_getElem hpos)
    exact ⟨a', rfl, fun j y hy => by obtain ⟨b, hb, hc⟩ := hcell j y hy; cases hb; exact hc⟩
  -- a slice that is nil
  have nilCase : us ≠ [] → roomB us.length i.bytes = true → ∀ (hp' : Hp C), Rel B X ρ hp' n w → ∃ v w' ρ', (Builtin.append_ #[t, t] ty #[.slice none 0 0, .slice sa us.length sc]).run P w = .ok v w' ∧ ρ.le ρ' ∧ ρ' n = some v ∧ Rel B X ρ' ((n, .sl true false e us) :: hp') (n + 4) w' := fun hne hroom hp' R' => by
    have hroom := of_decide_eq_true hroom
    by_cases hne : us = []
    · subst hne
      exact absurd rfl ‹([] : List (C e).α) ≠ []›
    · obtain ⟨a', rfl, hc⟩ := hsrc hne
      have hkk := room_le hroom A.hb
      have hrun := run_append_nil (P := P) w t ty e i z A.ht A.hi A.hz a' us.length sc ((C e).flat us) (by rw [hul, A.hsz]) hc (List.length_pos_iff.2 hne) (by omega) (by omega)
      have hge := grownCap_ge w us.length 0 e
      have := add_new_slice R' (ts := []) (us := us) (z := z) (m := grownCap w us.length 0 e) A.hzs (by simpa using hge)
      simp only [List.length_nil, Nat.zero_add, List.nil_append, Codec.flat, Array.empty_append] at this
      exact ⟨_, _, _, hrun, hle _, Asg.add_self ρ n _, this⟩
  -- growing
  have growCase : ∀ {b : Option Addr} {ts : List (C e).α} {cap : Nat} (hp' : Hp C), Rel B X ρ hp' n w → us ≠ [] → roomB (ts.length + us.length) i.bytes = true → cap < ts.length + us.length → (ts ≠ [] → b ≠ none) → (b = none → cap = 0) →
      (∀ j y, ((C e).flat ts)[j]? = some y → ∃ b', b = some b' ∧ w.cell? (b'.add j) = some y) →
      ∃ v w' ρ', (Builtin.append_ #[t, t] ty #[.slice b ts.length cap, .slice sa us.length sc]).run P w = .ok v w' ∧ ρ.le ρ' ∧ ρ' n = some v ∧ Rel B X ρ' ((n, .sl true false e (ts ++ us)) :: hp') (n + 4) w' := fun {b ts cap} hp' R' hne hroom hlt hb0 hcap0 hbc => by
    cases b with
    | none =>
      have hts : ts = [] := by
        by_cases h : ts = []
        · exact h
        · exact absurd rfl (hb0 h)
      subst hts
      rw [hcap0 rfl]
      simpa using nilCase hne (by simpa using hroom) hp' R'
    | some b' =>
      obtain ⟨a', rfl, hc⟩ := hsrc hne
      have hroom := of_decide_eq_true hroom
      have hkk := room_le hroom A.hb
      have hrun := run_append_grow (P := P) w t ty e i z A.ht A.hi A.hz b' ts.length cap ((C e).flat ts) (by rw [(C e).flat_length, A.hsz]) (fun j y hy => by obtain ⟨b2, hb2, h⟩ := hbc j y hy; cases hb2; exact h)
        a' us.length sc ((C e).flat us) (by rw [hul, A.hsz]) hc hlt (by omega) (growslice_fits hlt hroom)
      have hge := grownCap_ge w (ts.length + us.length) cap e
      exact ⟨_, _, _, hrun, hle _, Asg.add_self ρ n _, add_new_slice R' A.hzs hge⟩
  unfold appGo at h
  split at h
  · rename_i id
    split at h
    · rename_i own full e' ts hid
      split at h
      · rename_i he _
        subst he
        obtain ⟨v', hv', a, cap, rfl, h1, h2, h3⟩ := R.obj id _ hid
        simp only [den] at hs
        rw [hs] at hv'; cases hv'
        split at h
        · obtain ⟨hroom, h⟩ := Tr.get_ask.1 h
          simp only [Tr.get, Option.some.injEq] at h; subst h
          have Rg := R.gone id hs
          rcases h3 with ⟨rfl, rfl, rfl⟩ | ⟨g, cur, rfl, hok, hheap, hsz, htake⟩
          · have := R.nn id _ _ hid rfl hs
            simp [nnV] at this
          · have hother : ∀ j oj vj, find j ((id, SO.gone) :: hp) = some oj → oj.live = true → ρ j = some vj → blk vj ≠ some g := fun j oj vj hj hl hvj => by
              rw [find_cons] at hj
              split at hj
              · simp at hj; subst hj; simp [SO.live] at hl
              · rename_i hji
                exact R.sep id j _ oj _ vj g (Ne.symm hji) hid hj rfl hl hs hvj rfl
            by_cases hne : us = []
            · subst hne
              refine ⟨.slice (some ⟨g, 0, none⟩) ts.length cap, w, _, append_zero A.ht hk _ _ _ sa sc h1, hle _, Asg.add_self ρ n _, Rel.shift (Rg.add (v := .slice (some ⟨g, 0, none⟩) ts.length cap) (o := .sl true false e' (ts ++ [])) rfl ⟨_, cap, by simp, by simpa using h1, fun h => (by cases h), .inr ⟨g, cur, rfl, hok, hheap, hsz, by simpa using htake⟩⟩
                (fun g' hg' => R.blkOk id _ _ g' hid rfl hs hg') (fun j oj vj g' hj hl hvj hgj hg' => ?_) (fun g' hg' => R.prov id _ _ g' hid rfl hs hg')) (by omega)⟩
              simp [blk] at hg'; subst hg'
              exact absurd hgj (hother j oj vj hj hl hvj)
            · by_cases hfit : ts.length + us.length ≤ cap
              · obtain ⟨a', rfl, hc⟩ := hsrc hne
                have hmul : (ts.length + us.length) * (C e').sz ≤ cap * (C e').sz := Nat.mul_le_mul_right _ hfit
                rw [Nat.add_mul] at hmul
                have hrun := run_append_room (P := P) w t ty e' i A.ht A.hi g ts.length cap cur hheap a' us.length sc ((C e').flat us) (by rw [hul, A.hsz]) hc ((C e').flat_one us) hfit (by rw [A.hsz, hul, hsz]; exact hmul)
                rw [A.hsz] at hrun
                refine ⟨.slice (some ⟨g, 0, none⟩) (ts.length + us.length) cap, _, _, hrun, hle _, Asg.add_self ρ n _, Rel.shift (n := n + 1) ?_ (by omega)⟩
                have Rw := Rg.world (w' := w.setRow g (cur.toList.take (ts.length * (C e').sz) ++ (C e').flat us ++ cur.toList.drop (ts.length * (C e').sz + ((C e').flat us).length)).toArray)
                  (by simp) (by simp) (by simp) (by simp) (fun b hb hx => setRow_other w g b _ (fun e => by subst e; rcases hok with h' | h'; omega; exact hx h'))
                  (fun j oj vj g' hj hl hvj hg' => setRow_other w g g' _ (fun e => by subst e; exact hother j oj vj hj hl hvj hg'))
                refine Rw.add (v := .slice (some ⟨g, 0, none⟩) (ts.length + us.length) cap) (o := .sl true false e' (ts ++ us)) rfl ⟨_, cap, by simp, by simpa using hfit, fun h => (by cases h), .inr ⟨g, _, rfl, hok, setRow_heap w g _ _ e' _ hheap, ?_, ?_⟩⟩ (fun g' hg' => ?_) (fun j oj vj g' hj hl hvj hgj hg' => ?_) (fun g' hg' => R.prov id _ _ g' hid rfl hs hg')
                · rw [List.size_toArray, splice_length (by simp only [Array.length_toList]; omega)]
                  simpa using hsz
                · rw [(C e').flat_append, htake]
                  have : (ts ++ us).length * (C e').sz = ((C e').flat ts ++ (C e').flat us).length := by
                    rw [List.length_append, List.length_append, (C e').flat_length, hul, Nat.add_mul]
                  rw [this]
                  simp only [List.append_assoc]
                  rw [← List.append_assoc]
                  exact List.take_left
                · have := R.blkOk id _ _ g' hid rfl hs hg'
                  simpa using this
                · simp [blk] at hg'; subst hg'
                  exact absurd hgj (hother j oj vj hj hl hvj)
              · obtain ⟨_, _, heq, _, hcl⟩ := flat_cell R hid hs
                cases heq
                obtain ⟨v, w', ρ', e1, e2, e3, e4⟩ := growCase (b := some ⟨g, 0, none⟩) (ts := ts) (cap := cap) _ Rg hne hroom (by omega) (fun _ h => by cases h) (fun h => by cases h) hcl
                exact ⟨v, w', ρ', e1, e2, e3, e4⟩
        · split at h
          · obtain ⟨hroom, h⟩ := Tr.get_ask.1 h
            have hcap := h2 rfl
            subst hcap
            rcases Tr.get_br.1 h with ⟨hb, h⟩ | ⟨hb, h⟩
            · simp only [Tr.get, Option.some.injEq] at h; subst h
              have hz := of_decide_eq_true hb
              rw [hz]
              exact ⟨_, w, ρ, append_zero A.ht hk _ _ _ sa sc h1, Asg.le_refl _, hs, Rel.shift R (by omega)⟩
            · simp only [Tr.get, Option.some.injEq] at h; subst h
              have hz := of_decide_eq_false hb
              have hne : us ≠ [] := fun h => hz (by rw [h]; rfl)
              have hpos := List.length_pos_iff.2 hne
              have hb0 : ts ≠ [] → a ≠ none := fun hts ha => by
                have hpos : 0 < ((C e').flat ts).length := by
                  rw [(C e').flat_length]; exact Nat.mul_pos (List.length_pos_iff.2 hts) (C e').pos
                obtain ⟨b', hb', _⟩ := h3 0 _ (List.getElem?_eq_getElem hpos)
                rw [ha] at hb'; cases hb'
              obtain ⟨v, w', ρ', e1, e2, e3, e4⟩ := growCase (b := a) (ts := ts) (cap := ts.length) hp R hne hroom (by omega) hb0 (fun ha => by
                by_cases hts : ts = []
                · rw [hts]; rfl
                · exact absurd ha (hb0 hts)) h3
              exact ⟨v, w', ρ', e1, e2, e3, e4⟩
          · simp [Tr.get] at h
      · simp [Tr.get] at h
    · simp [Tr.get] at h
  · obtain ⟨hroom, h⟩ := Tr.get_ask.1 h
    simp [den] at hs; subst hs
    rcases Tr.get_br.1 h with ⟨hb, h⟩ | ⟨hb, h⟩
    · simp only [Tr.get, Option.some.injEq] at h; subst h
      have hz := of_decide_eq_true hb
      rw [hz]
      exact ⟨_, w, ρ, append_zero A.ht hk none 0 0 sa sc (Nat.le_refl _), Asg.le_refl _, rfl, Rel.shift R (by omega)⟩
    · simp only [Tr.get, Option.some.injEq] at h; subst h
      have hz := of_decide_eq_false hb
      obtain ⟨v, w', ρ', e1, e2, e3, e4⟩ := nilCase (fun h => hz (by rw [h]; rfl)) hroom hp R
      exact ⟨v, w', ρ', e1, e2, e3, e4⟩
  · simp [Tr.get] at h

theorem pAppend_sound (R : Rel B X ρ hp n w) {t ty : TypeId} {s x : SV} {vs vx : Value} {r : Res C} (h : (pAppend P (fun i => find i hp) n t s x).get = some r) (hs : den ρ s = some vs) (hx : den ρ x = some vx) :
    NewOk P B X ρ hp n w (Builtin.append_ #[t, t] ty #[vs, vx]) r := by
  unfold pAppend at h
  split at h
  · rename_i e ht
    split at h
    · rename_i k z by_ hk hz hby
      split at h
      · rename_i b1 b2 b3
        have b1 := Nat.eq_of_beq_eq_true b1
        have b2 := Nat.eq_of_beq_eq_true b2
        have b3 := Nat.le_of_ble_eq_true b3
        split at h
        · rename_i us hus
          obtain ⟨i, hi⟩ : ∃ i, P.info? e = some i := by
            unfold szOf at hk; split at hk
            · rename_i i hi; exact ⟨i, hi⟩
            · cases hk
          have ek : i.size = k := by simpa [szOf, hi] using hk
          have ez : i.zero = some z := by simpa [zeroT, hi] using hz
          have eb : i.bytes = by_ := by simpa [bytesT, hi] using hby
          exact appGo_sound R (P := P) (t := t) (e := e) (i := i) (z := z) ⟨ht, hi, ez, by rw [ek, b2], by rw [b1, b2], by omega⟩ (by rw [eb]; exact h) hs (srcL_spec R hus hx)
        · simp [Tr.get] at h
      · simp [Tr.get] at h
    · simp [Tr.get] at h
  · simp [Tr.get] at h
end sound
end
end Go.Sx
