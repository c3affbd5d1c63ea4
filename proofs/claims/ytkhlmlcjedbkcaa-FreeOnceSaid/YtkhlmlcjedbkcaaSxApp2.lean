/-
  The symbolic evaluator: append, by what the second argument yields. Own work; nothing here is trusted.
-/
import Derived.Test.YtkhlmlcjedbkcaaSxApp
namespace Go.Sx
noncomputable section
open Go.RowKit

variable {C : Tab} {P : Program}

def appGo (look : Nat → Option (SO C)) (n : Nat) (e by_ : Nat) (s : SV) (us : List (C e).α) : Tr (Res C) := match s with
  | .h id => match look id with
    | some (.sl own full e' ts) => match Nat.decEq e' e with
      | .isTrue h => match own with
        | true => .br (roomB (ts.length + us.length) by_) (.leaf (.h n, [(n, .sl true false e ((h ▸ ts : List (C e).α) ++ us)), (id, .gone)])) .fail
        | false => match full with
          | true => .br (roomB (ts.length + us.length) by_) (.br (decide (us.length = 0)) (.leaf (.h id, [])) (.leaf (.h n, [(n, .sl true false e ((h ▸ ts : List (C e).α) ++ us))]))) .fail
          | false => .fail
      | .isFalse _ => .fail
    | _ => .fail
  | .raw (.slice none 0 0) => .br (roomB us.length by_) (.br (decide (us.length = 0)) (.leaf (.raw (.slice none 0 0), [])) (.leaf (.h n, [(n, .sl true false e us)]))) .fail
  | .vs id sz bs off len cap => match look id with
    | some (.sl own full e' ts) => match Nat.decEq e' e, Nat.beq sz (C e).sz, own with
      | .isTrue h, true, true => .br (decide (off + len ≤ ts.length))
          (.br (match cap with | some m => decide (len + us.length ≤ m) | none => decide (off + len + us.length ≤ ts.length))
            (.br (decide (off + len + us.length ≤ ts.length)) (.leaf (.vs id sz bs off (len + us.length) cap, [(id, .sl true full e (overL (h ▸ ts : List (C e).α) (off + len) us))])) .fail)
            (.br (match cap with | some _ => true | none => full) (.br (roomB (len + us.length) by_) (.leaf (.h n, [(n, .sl true false e ((((h ▸ ts : List (C e).α)).drop off).take len ++ us))])) .fail) .fail)) .fail
      | _, _, _ => .fail
    | _ => .fail
  | _ => .fail

def pAppend (P : Program) (look : Nat → Option (SO C)) (n : Nat) (t tx : TypeId) (s x : SV) : Tr (Res C) := match P.underlying t with
  | some (.slice e) => match szOf P e, zeroT P e, bytesT P e with
    | some k, some z, some by_ => match Nat.beq z.cells.size k, Nat.beq k (C e).sz, Nat.ble 1 by_ with
      | true, true, true => match (C e).dec (rawL z.cells.toList) with
        | some a0 => match P.underlying tx with
          | some (.slice _) => (srcT look e x).bind fun us => appGo look n e by_ s us
          | some .string => (srcT look e x).bind fun us => appGo look n e by_ s us
          | some (.int _) => match x with
            | .raw (.int _ l) => .br (decide (0 ≤ l) && (decide (l ≤ 9223372036854775807) && decide (l * (by_ : Int) ≤ 281474976710656))) (appGo look n e by_ s (List.replicate l.toNat a0)) .fail
            | _ => .fail
          | _ => .fail
        | none => .fail
      | _, _, _ => .fail
    | _, _, _ => .fail
  | _ => .fail

section sound
variable {B : World} {X : Own} {ρ : Asg} {hp : Hp C} {n : Nat} {w : World}

structure AppT (P : Program) (t e : TypeId) (i : TypeInfo) (z : Value) (c : Codec) : Prop where
  ht : P.underlying t = some (.slice e)
  hi : P.info? e = some i
  hz : i.zero = some z
  hsz : i.size = c.sz
  hzs : ∃ a0, z.cells.toList = c.enc a0
  hb : 1 ≤ i.bytes

theorem room_le {k b : Nat} (h : k * b ≤ 140737488355328) (hb : 1 ≤ b) : k ≤ 140737488355328 := by
  have := Nat.mul_le_mul_left k hb
  omega

/-- Growing into a new block. -/
theorem zero_flat {c : Codec} {z : Value} {a0 : c.α} (hz : z.cells.toList = c.enc a0) (m : Nat) : (Builtin.zeroCells z.cells m).toList = c.flat (List.replicate m a0) := by
  rw [flat_replicate, ← hz]; unfold Builtin.zeroCells; rw [made_eq]
theorem add_new_slice (R : Rel B X ρ hp n w) {e : TypeId} {ts us : List (C e).α} {z : Value} {m : Nat} {a0 : (C e).α} (hz : z.cells.toList = (C e).enc a0) (hm : ts.length + us.length ≤ m) :
    Rel B X (ρ.add n (.slice (some ⟨w.heap.size, 0, none⟩) (ts.length + us.length) m)) ((n, .sl true false e (ts ++ us)) :: hp) (n + 4)
      (w.drew.alloc (.cells (((C e).flat ts).toArray ++ ((C e).flat us).toArray ++ Builtin.zeroCells z.cells (m - (ts.length + us.length))) e)) := by
  have := newSlice R.drew (e := e) (ts := ts ++ us) (tot := (ts ++ us) ++ List.replicate (m - (ts.length + us.length)) a0) (full := false) (cap := m) (cur := ((C e).flat ts).toArray ++ ((C e).flat us).toArray ++ Builtin.zeroCells z.cells (m - (ts.length + us.length))) (by simpa using hm) (fun h => by cases h)
    (by
      apply Array.toList_inj.1
      simp only [Array.toList_append, zero_flat hz, (C e).flat_append])
    (by simp; omega) List.take_left
  simpa using this

theorem app_grow (R : Rel B X ρ hp n w) {t tx ty e : TypeId} {i : TypeInfo} {z x : Value} (A : AppT P t e i z (C e)) {us : List (C e).α} (V : AppV P t tx ty e i z x us.length ((C e).flat us) w) {base : Option Addr} {ts : List (C e).α} {cap : Nat}
    (hroom : roomB (ts.length + us.length) i.bytes = true) (hlt : cap < ts.length + us.length) (hbc : ∀ j y, ((C e).flat ts)[j]? = some y → ∃ b', base = some b' ∧ w.cell? (b'.add j) = some y) :
    ∃ v w' ρ', (Builtin.append_ #[t, tx] ty #[.slice base ts.length cap, x]).run P w = .ok v w' ∧ ρ.le ρ' ∧ ρ' n = some v ∧ Rel B X ρ' ((n, .sl true false e (ts ++ us)) :: hp) (n + 4) w' := by
  have hroom := of_decide_eq_true hroom
  have hkk := room_le hroom A.hb
  obtain ⟨a0, hz0⟩ := A.hzs
  have hs := SrcV.slice (P := P) (size := (C e).sz) (n := ts.length) (cap := cap) (w := w) ((C e).flat_length ts) hbc (C e).pos
  have hold : (Builtin.firstCells i.size ts.length (.slice base ts.length cap)).run P w.drew = .ok ((C e).flat ts).toArray w.drew := by
    have := hs.cellsD; rw [A.hsz]; exact this
  have hrun := V.grow base ts.length cap ((C e).flat ts) hlt (by omega) (growslice_fits hlt hroom) hold
  have hge := grownCap_ge w (ts.length + us.length) cap e
  exact ⟨_, _, _, hrun, Asg.le_add ρ n _ (R.fresh n (Nat.le_refl _)), Asg.add_self ρ n _, add_new_slice R hz0 hge⟩

theorem store_nil (a : Addr) (w : World) : (storeCells a []).run P w = .ok () w := rfl

/-- Elements of what is owned are written over. -/
theorem Rel.over (R : Rel B X ρ hp n w) {id : Nat} {full : Bool} {e : TypeId} {ts : List (C e).α} {v : Value} (hi : find id hp = some (.sl true full e ts)) (hv : ρ id = some v) (k : Nat) (us : List (C e).α) (hk : k + us.length ≤ ts.length) :
    ∃ a c, v = .slice (some a) ts.length c ∧ ∃ w', (storeCells (a.add (k * (C e).sz)) ((C e).flat us)).run P w = .ok () w' ∧ Rel B X ρ ((id, .sl true full e (overL ts k us)) :: hp) n w' := by
  obtain ⟨v', hv', a, c, rfl, h1, h2, h3⟩ := R.obj id _ hi
  rw [hv] at hv'; cases hv'
  obtain ⟨g, tot, rfl, hok, hheap, hcapt, htake⟩ := h3
  refine ⟨_, c, rfl, ?_⟩
  have hul := (C e).flat_length us
  have hmul : (k + us.length) * (C e).sz ≤ tot.length * (C e).sz := Nat.mul_le_mul_right _ (by omega)
  rw [Nat.add_mul] at hmul
  have hst := run_storeCells_at P g (k * (C e).sz) e ((C e).flat us) 0 _ w hheap (by simp only [List.size_toArray, (C e).flat_length]; omega) ((C e).flat_one us)
  simp only [Nat.add_zero] at hst
  have hspl : ((C e).flat tot).toArray.toList.take (k * (C e).sz) ++ (C e).flat us ++ ((C e).flat tot).toArray.toList.drop (k * (C e).sz + ((C e).flat us).length) = (C e).flat (overL tot k us) := (overL_flat (C e) tot us k).symm
  rw [hspl] at hst
  refine ⟨_, by rw [Addr.add_at, Nat.zero_add]; exact hst, ?_⟩
  have hol : (overL ts k us).length = ts.length := overL_length hk
  refine R.set hi hv rfl rfl (by simp) (by simp) (by simp) (by simp) (fun k' hk' => ?_) ⟨_, c, by rw [hol], by rw [hol]; exact h1, by rw [hol]; exact h2, g, overL tot k us, rfl, hok, setRow_heap w g _ _ e _ hheap, ?_, ?_⟩ (fun g' hg' => ?_)
  · exact setRow_other w g k' _ (fun e => hk' (by simp [blk, e]))
  · rw [overL_length (by omega)]; exact hcapt
  · rw [hol]; exact overL_take htake hk
  · simp [blk] at hg'; subst hg'; exact hok

/-- .. at a part of it. -/
theorem Rel.overV (R : Rel B X ρ hp n w) {id bs off len : Nat} {cap : Option Nat} {full : Bool} {e : TypeId} {ts : List (C e).α} {v : Value} (hi : find id hp = some (.sl true full e ts)) (hv : den ρ (.vs id (C e).sz bs off len cap) = some v) (k : Nat) (us : List (C e).α) (hk : off + k + us.length ≤ ts.length) :
    ∃ a c, v = .slice (some a) len c ∧ ∃ w', (storeCells (a.add (k * (C e).sz)) ((C e).flat us)).run P w = .ok () w' ∧ Rel B X ρ ((id, .sl true full e (overL ts (off + k) us)) :: hp) n w' := by
  obtain ⟨a, c, hid, hc, _, rfl, _⟩ := vs_den R hi hv
  obtain ⟨a2, c2, he, w', hst, R'⟩ := R.over (P := P) hi hid (off + k) us hk
  cases he
  refine ⟨_, _, rfl, ?_⟩
  by_cases hoc : off = c
  · have h0 : us = [] := List.length_eq_zero_iff.1 (by omega)
    subst h0
    rw [show (C e).flat ([] : List (C e).α) = [] from rfl, store_nil] at hst
    cases hst
    exact ⟨w, store_nil _ _, R'⟩
  · rw [if_neg hoc, Addr.add_add, ← Nat.add_mul]
    exact ⟨w', hst, R'⟩

theorem appGo_sound (R : Rel B X ρ hp n w) {t tx ty e : TypeId} {i : TypeInfo} {z : Value} (A : AppT P t e i z (C e)) {s : SV} {us : List (C e).α} {vs vx : Value} {r : Res C} (h : (appGo (fun i => find i hp) n e i.bytes s us).get = some r)
    (hs : den ρ s = some vs) (V : AppV P t tx ty e i z vx us.length ((C e).flat us) w) : NewOk P B X ρ hp n w (Builtin.append_ #[t, tx] ty #[vs, vx]) r := by
  have hn : ρ n = none := R.fresh n (Nat.le_refl _)
  have hle : ∀ u, ρ.le (ρ.add n u) := fun u => Asg.le_add ρ n u hn
  have hul := (C e).flat_length us
  unfold appGo at h
  split at h
  · rename_i id
    split at h
    · rename_i own full e' ts hid
      split at h
      · rename_i he _
        subst he
        obtain ⟨v', hv', a, cap, rfl, h1, h2, h3⟩ := R.obj id _ hid
        simp only [den] at hs
        rw [hs] at hv'; cases hv'
        obtain ⟨_, _, heq, _, hcl⟩ := flat_cell R hid hs
        cases heq
        split at h
        · obtain ⟨hroom, h⟩ := Tr.get_ask.1 h
          simp only [Tr.get, Option.some.injEq] at h; subst h
          have Rg := R.gone id hs
          by_cases hfit : ts.length + us.length ≤ cap
          · obtain ⟨g, tot, rfl, hok, hheap, hcapt, htake⟩ := h3
            have hother : ∀ j oj vj, find j ((id, SO.gone) :: hp) = some oj → oj.live = true → ρ j = some vj → blk vj ≠ some g := fun j oj vj hj hl hvj => by
              rw [find_cons] at hj
              split at hj
              · simp at hj; subst hj; simp [SO.live] at hl
              · rename_i hji
                exact R.sep id j _ oj _ vj g (Ne.symm hji) hid hj rfl hl hs hvj rfl
            have hmul : (ts.length + us.length) * (C e').sz ≤ tot.length * (C e').sz := Nat.mul_le_mul_right _ (by omega)
            rw [Nat.add_mul] at hmul
            have hst := run_storeCells_at P g (ts.length * (C e').sz) e' ((C e').flat us) 0 _ w hheap (by simp only [List.size_toArray, (C e').flat_length]; omega) ((C e').flat_one us)
            simp only [Nat.add_zero] at hst
            have hspl : ((C e').flat tot).toArray.toList.take (ts.length * (C e').sz) ++ (C e').flat us ++ ((C e').flat tot).toArray.toList.drop (ts.length * (C e').sz + ((C e').flat us).length) = (C e').flat (ts ++ us ++ tot.drop (ts.length + us.length)) := by
              rw [(C e').flat_append, (C e').flat_append, hul, ← Nat.add_mul, ← (C e').flat_take, ← (C e').flat_drop, htake]
            rw [hspl] at hst
            have hrun := V.room (some ⟨g, 0, none⟩) ts.length cap hfit
            simp only [A.hsz, Addr.add_at, Nat.zero_add, hst, Result.andThen_ok] at hrun
            refine ⟨.slice (some ⟨g, 0, none⟩) (ts.length + us.length) cap, _, _, hrun, hle _, Asg.add_self ρ n _, Rel.shift (n := n + 1) ?_ (by omega)⟩
            have Rw := Rg.world (w' := w.setRow g ((C e').flat (ts ++ us ++ tot.drop (ts.length + us.length))).toArray)
              (by simp) (by simp) (by simp) (by simp) (fun b hb hx => setRow_other w g b _ (fun e => by subst e; rcases hok with h' | h'; omega; exact hx h'))
              (fun j oj vj g' hj hl hvj hg' => setRow_other w g g' _ (fun e => by subst e; exact hother j oj vj hj hl hvj hg'))
            refine Rw.add (v := .slice (some ⟨g, 0, none⟩) (ts.length + us.length) cap) (o := .sl true false e' (ts ++ us)) rfl ⟨_, cap, by simp, by simpa using hfit, fun h => (by cases h), g, _, rfl, hok, setRow_heap w g _ _ e' _ hheap, ?_, ?_⟩ (fun g' hg' => ?_) (fun j oj vj g' hj hl hvj hgj hg' => ?_) (fun g' hg' => R.prov id _ _ g' hid rfl hs hg')
            · simp; omega
            · exact List.take_left
            · have := R.blkOk id _ _ g' hid rfl hs hg'
              simpa using this
            · simp [blk] at hg'; subst hg'
              exact absurd hgj (hother j oj vj hj hl hvj)
          · exact app_grow Rg A V hroom (by omega) hcl
        · split at h
          · obtain ⟨hroom, h⟩ := Tr.get_ask.1 h
            have hcap := h2 rfl
            subst hcap
            rcases Tr.get_br.1 h with ⟨hb, h⟩ | ⟨hb, h⟩
            · simp only [Tr.get, Option.some.injEq] at h; subst h
              have hz := of_decide_eq_true hb
              have h0 : us = [] := List.length_eq_zero_iff.1 hz
              subst h0
              have hrun := V.room a ts.length ts.length (by simp)
              refine ⟨_, w, ρ, hrun.trans ?_, Asg.le_refl _, hs, Rel.shift R (by omega)⟩
              cases a <;> rfl
            · simp only [Tr.get, Option.some.injEq] at h; subst h
              have hz := of_decide_eq_false hb
              exact app_grow R A V hroom (by omega) hcl
          · simp [Tr.get] at h
      · simp [Tr.get] at h
    · simp [Tr.get] at h
  · obtain ⟨hroom, h⟩ := Tr.get_ask.1 h
    simp [den] at hs; subst hs
    rcases Tr.get_br.1 h with ⟨hb, h⟩ | ⟨hb, h⟩
    · simp only [Tr.get, Option.some.injEq] at h; subst h
      have hz := of_decide_eq_true hb
      have h0 : us = [] := List.length_eq_zero_iff.1 hz
      subst h0
      have hrun := V.room none 0 0 (by simp)
      exact ⟨_, w, ρ, hrun, Asg.le_refl _, rfl, Rel.shift R (by omega)⟩
    · simp only [Tr.get, Option.some.injEq] at h; subst h
      have hz := of_decide_eq_false hb
      have := app_grow R A V (base := none) (ts := []) (cap := 0) (by simpa using hroom) (by simp; omega) (fun j y hy => by simp [Codec.flat] at hy)
      simp only [List.length_nil, List.nil_append] at this
      exact this
  · rename_i id sz bs off len cap
    split at h
    · rename_i own full e' ts hid
      split at h
      · rename_i he _ hsz
        subst he
        have hsz := Nat.eq_of_beq_eq_true hsz
        subst hsz
        obtain ⟨hol, h⟩ := Tr.get_ask.1 h
        have hol := of_decide_eq_true hol
        obtain ⟨a, c, hidv, hc, hful, hvs, hcell⟩ := vs_den R hid hs
        have hseg : ((ts.drop off).take len).length = len := by rw [List.length_take, List.length_drop]; omega
        rcases Tr.get_br.1 h with ⟨hb, h⟩ | ⟨hb, h⟩
        · obtain ⟨hin, h⟩ := Tr.get_ask.1 h
          have hin := of_decide_eq_true hin
          simp only [Tr.get, Option.some.injEq] at h; subst h
          obtain ⟨a2, c2, he, w', hst, R'⟩ := R.overV (P := P) hid hs len us hin
          rw [he] at hvs
          have hcap : len + us.length ≤ c2 := by
            cases hvs
            cases cap with
            | none => simp only [capO]; omega
            | some m => simp only [capO]; exact of_decide_eq_true hb
          subst he
          have hrun := V.room (some a2) len c2 hcap
          simp only [A.hsz, hst, Result.andThen_ok] at hrun
          refine ⟨_, w', ρ, hrun, Asg.le_refl _, ?_, Rel.shift R' (by omega)⟩
          cases hvs
          simp only [den, hidv, Option.bind_some, vsV]
        · obtain ⟨hful2, h⟩ := Tr.get_ask.1 h
          obtain ⟨hroom, h⟩ := Tr.get_ask.1 h
          simp only [Tr.get, Option.some.injEq] at h; subst h
          have hlt : capO cap (c - off) < len + us.length := by
            cases cap with
            | none =>
              have hb := of_decide_eq_false hb
              have := hful hful2
              simp only [capO]; omega
            | some m =>
              have hb := of_decide_eq_false hb
              simp only [capO]; omega
          subst hvs
          have hbc : ∀ j y, ((C e').flat ((ts.drop off).take len))[j]? = some y → ∃ b', some (if off = c then a.add (Nat.min bs off * (C e').sz) else a.add (off * (C e').sz)) = some b' ∧ w.cell? (b'.add j) = some y := fun j y hy => by
            refine ⟨_, rfl, ?_⟩
            have hj : j < len * (C e').sz := by
              have := (List.getElem?_eq_some_iff.1 hy).1
              rwa [(C e').flat_length, hseg] at this
            have hne : ¬ off = c := fun e => by
              have : len = 0 := by omega
              subst this; simp at hj
            rw [if_neg hne, Addr.add_add]
            rw [(C e').flat_take, (C e').flat_drop, List.getElem?_take, if_pos (by exact hj), List.getElem?_drop] at hy
            exact hcell _ _ hy
          have := app_grow R A V (base := some (if off = c then a.add (Nat.min bs off * (C e').sz) else a.add (off * (C e').sz))) (ts := (ts.drop off).take len) (cap := capO cap (c - off)) (by rw [hseg]; exact hroom) (by rw [hseg]; exact hlt) hbc
          rw [hseg] at this
          exact this
      · simp [Tr.get] at h
    · simp [Tr.get] at h
  · simp [Tr.get] at h

theorem pAppend_sound (R : Rel B X ρ hp n w) {t tx ty : TypeId} {s x : SV} {vs vx : Value} {r : Res C} (h : (pAppend P (fun i => find i hp) n t tx s x).get = some r) (hs : den ρ s = some vs) (hx : den ρ x = some vx) :
    NewOk P B X ρ hp n w (Builtin.append_ #[t, tx] ty #[vs, vx]) r := by
  unfold pAppend at h
  split at h
  · rename_i e ht
    split at h
    · rename_i k z by_ hk hz hby
      split at h
      · rename_i b1 b2 b3
        have b1 := Nat.eq_of_beq_eq_true b1
        have b2 := Nat.eq_of_beq_eq_true b2
        have b3 := Nat.le_of_ble_eq_true b3
        split at h
        · rename_i a0 hdec
          have henc : z.cells.toList = (C e).enc a0 := by
            have := (C e).law _ _ hdec
            have h1 : denL ρ (rawL z.cells.toList) = some ((C e).enc a0) := by rw [this]; exact denL_rawL _
            exact denL_inj (denL_rawL _) h1
          obtain ⟨i, hi⟩ : ∃ i, P.info? e = some i := by
            unfold szOf at hk; split at hk
            · rename_i i hi; exact ⟨i, hi⟩
            · cases hk
          have ek : i.size = k := by simpa [szOf, hi] using hk
          have ez : i.zero = some z := by simpa [zeroT, hi] using hz
          have eb : i.bytes = by_ := by simpa [bytesT, hi] using hby
          have A : AppT P t e i z (C e) := ⟨ht, hi, ez, by rw [ek, b2], ⟨a0, henc⟩, by omega⟩
          split at h
          · rename_i e' htx
            obtain ⟨us, hus, h⟩ := Tr.get_bind h
            obtain ⟨hsrc, _⟩ := srcT_spec (P := P) R hus hx
            exact appGo_sound R A (by rw [eb]; exact h) hs (AppV.ofSrc ht hi ez (.inl ⟨e', htx⟩) (by rw [ek, b2]; exact hsrc))
          · rename_i htx
            obtain ⟨us, hus, h⟩ := Tr.get_bind h
            obtain ⟨hsrc, _⟩ := srcT_spec (P := P) R hus hx
            exact appGo_sound R A (by rw [eb]; exact h) hs (AppV.ofSrc ht hi ez (.inr htx) (by rw [ek, b2]; exact hsrc))
          · rename_i kx htx
            split at h
            · rename_i kk l
              obtain ⟨hb, h⟩ := Tr.get_ask.1 h
              simp only [Bool.and_eq_true, decide_eq_true_eq] at hb
              simp [den] at hx; subst hx
              have V := AppV.zeros (P := P) (w := w) (ty := ty) (kk := kk) ht hi ez htx (by rw [b1, ek]) hb.1 hb.2.1 (by rw [eb]; exact hb.2.2)
              rw [zero_flat henc] at V
              refine appGo_sound R A (by rw [eb]; exact h) hs ?_
              rw [List.length_replicate]
              exact V
            · simp [Tr.get] at h
          · simp [Tr.get] at h
        · simp [Tr.get] at h
      · simp [Tr.get] at h
    · simp [Tr.get] at h
  · simp [Tr.get] at h
end sound
end
end Go.Sx
