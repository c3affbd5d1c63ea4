/-
  The symbolic evaluator: copy, clear, cap; do two slices overlap. Own work; nothing here is trusted.
-/
import Derived.Test.YtkhlmlcjedbkcaaSxApp2
namespace Go.Sx
noncomputable section
open Go.RowKit

variable {C : Tab} {P : Program}

/-- A slice that is owned, as a part: where it begins, how long it is, how much it may hold. -/
def asV (look : Nat → Option (SO C)) : SV → Option (Nat × Nat × Nat × Option Nat)
  | .h id => match look id with
    | some (.sl true _ _ ts) => some (id, 0, ts.length, none)
    | _ => none
  | .vs id _ _ off len cap => some (id, off, len, cap)
  | _ => none
def szV (d : Nat) : SV → Nat
  | .vs _ sz _ _ _ _ => sz
  | _ => d

def putV (look : Nat → Option (SO C)) (e : TypeId) (d : SV) (f : Nat → List (C e).α) (ret : Nat → SV) : Tr (Res C) := match asV look d with
  | some (id, off, len, _) => match look id with
    | some (.sl true full e' ts) => match Nat.decEq e' e, Nat.beq (szV (C e).sz d) (C e).sz with
      | .isTrue h, true => .br (decide (off + (f len).length ≤ ts.length)) (.leaf (ret (f len).length, [(id, .sl true full e (overL (h ▸ ts : List (C e).α) off (f len)))])) .fail
      | _, _ => .fail
    | _ => .fail
  | none => .fail

def pCopy (P : Program) (look : Nat → Option (SO C)) (t : TypeId) (d x : SV) : Tr (Res C) := match P.underlying t with
  | some (.slice e) => match szOf P e with
    | some k => match Nat.beq k (C e).sz with
      | true => (srcT look e x).bind fun us => putV look e d (fun len => us.take len) fun m => .raw (.int .i64 m)
      | false => .fail
    | none => .fail
  | _ => .fail

def pClear (P : Program) (look : Nat → Option (SO C)) (t : TypeId) (d : SV) : Tr (Res C) := match P.underlying t with
  | some (.slice e) => match szOf P e, zeroT P e with
    | some k, some z => match Nat.beq k (C e).sz, (C e).dec (rawL z.cells.toList) with
      | true, some a0 => putV look e d (fun len => List.replicate len a0) fun _ => .raw (.tuple #[])
      | _, _ => .fail
    | _, _ => .fail
  | _ => .fail

def pCap (P : Program) (look : Nat → Option (SO C)) (t : TypeId) (x : SV) : Tr SV := match P.underlying t with
  | some (.slice _) => match x with
    | .raw (.slice _ _ n) => .leaf (.raw (.int .i64 n))
    | .bs _ _ _ n => .leaf (.raw (.int .i64 n))
    | .vs id _ _ off _ cap => match cap with
      | some m => .leaf (.raw (.int .i64 m))
      | none => match look id with
        | some (.sl _ true _ ts) => .leaf (.raw (.int .i64 (ts.length - off : Nat)))
        | _ => .fail
    | .h id => match look id with
      | some (.sl _ true _ ts) => .leaf (.raw (.int .i64 ts.length))
      | _ => .fail
    | _ => .fail
  | _ => .fail

section sound
variable {B : World} {X : Own} {ρ : Asg} {hp : Hp C} {n : Nat} {w : World}

theorem asV_den (R : Rel B X ρ hp n w) {d : SV} {id off len sz : Nat} {cap : Option Nat} {v : Value} (h : asV (fun i => find i hp) d = some (id, off, len, cap)) (hx : den ρ d = some v) (hs : szV sz d = sz) : ∃ bs, den ρ (.vs id sz bs off len cap) = some v := by
  unfold asV at h
  split at h
  · split at h
    · rename_i hid
      cases h
      exact ⟨0, h_vs R hid hx⟩
    · cases h
  · cases h
    simp only [szV] at hs
    subst hs
    exact ⟨_, hx⟩
  · cases h

/-- What a write over elements leaves. -/
theorem putV_sound (R : Rel B X ρ hp n w) {e : TypeId} {d : SV} {f : Nat → List (C e).α} {ret : Nat → SV} {v : Value} {r : Res C} (h : (putV (fun i => find i hp) e d f ret).get = some r) (hx : den ρ d = some v) (hf : ∀ len, (f len).length ≤ len) :
    ∃ a len c, v = .slice (some a) len c ∧ r.1 = ret (f len).length ∧ ∃ w', (storeCells a ((C e).flat (f len))).run P w = .ok () w' ∧ Rel B X ρ (r.2 ++ hp) n w' := by
  unfold putV at h
  split at h
  · rename_i id off len cap hv
    split at h
    · rename_i full e' ts hid
      split at h
      · rename_i he _ hsz
        subst he
        have hsz := Nat.eq_of_beq_eq_true hsz
        obtain ⟨hb, h⟩ := Tr.get_ask.1 h
        have hb := of_decide_eq_true hb
        simp only [Tr.get, Option.some.injEq] at h; subst h
        obtain ⟨bs, hd⟩ := asV_den R hv hx hsz
        obtain ⟨a, c, rfl, w', hst, R'⟩ := R.overV (P := P) hid hd 0 (f len) (by omega)
        simp only [Nat.zero_mul, Addr.add_zero, Nat.add_zero] at hst R'
        exact ⟨a, len, c, rfl, rfl, w', hst, R'⟩
      · simp [Tr.get] at h
    · simp [Tr.get] at h
  · simp [Tr.get] at h

theorem pCopy_sound (R : Rel B X ρ hp n w) {t t' ty : TypeId} {d x : SV} {vd vx : Value} {r : Res C} (h : (pCopy P (fun i => find i hp) t d x).get = some r) (hd : den ρ d = some vd) (hx : den ρ x = some vx) :
    NewOk P B X ρ hp n w (Builtin.copy_ #[t, t'] ty #[vd, vx]) r := by
  unfold pCopy at h
  split at h
  · rename_i e ht
    split at h
    · rename_i k hk
      split at h
      · rename_i hb
        have hb := Nat.eq_of_beq_eq_true hb
        subst hb
        obtain ⟨us, hus, h⟩ := Tr.get_bind h
        obtain ⟨hsrc, _⟩ := srcT_spec (P := P) R hus hx
        obtain ⟨a, len, c, rfl, hr, w', hst, R'⟩ := putV_sound (P := P) R h hd (fun len => by rw [List.length_take]; omega)
        have hm : (us.take len).length = Nat.min us.length len := by rw [List.length_take]; exact Nat.min_comm _ _
        have hcells := hsrc.cells (Nat.min us.length len) (Nat.min_le_left _ _)
        have hfl : ((C e).flat us).take (Nat.min us.length len * (C e).sz) = (C e).flat (us.take len) := by
          rw [← (C e).flat_take]
          congr 1
          rw [← hm, List.length_take]
          by_cases h : len ≤ us.length
          · rw [Nat.min_eq_left h]
          · rw [Nat.min_eq_right (by omega), List.take_of_length_le (Nat.le_refl _), List.take_of_length_le (by omega)]
        rw [hfl] at hcells
        refine ⟨.int .i64 ((us.take len).length : Nat), w', ρ, ?_, Asg.le_refl _, by rw [hr]; rfl, Rel.shift R' (by omega)⟩
        simp [Builtin.copy_, run_underlying ht, hsrc.len, run_sizeOf hk, hcells, hst, hm, goInt]
      · simp [Tr.get] at h
    · simp [Tr.get] at h
  · simp [Tr.get] at h

theorem pClear_sound (R : Rel B X ρ hp n w) {t ty : TypeId} {d : SV} {vd : Value} {r : Res C} (h : (pClear P (fun i => find i hp) t d).get = some r) (hd : den ρ d = some vd) :
    NewOk P B X ρ hp n w (Builtin.clear_ #[t] ty #[vd]) r := by
  unfold pClear at h
  split at h
  · rename_i e ht
    split at h
    · rename_i k z hk hz
      split at h
      · rename_i a0 hb hdec
        have hb := Nat.eq_of_beq_eq_true hb
        subst hb
        have henc : z.cells.toList = (C e).enc a0 := by
          have := (C e).law _ _ hdec
          have h1 : denL ρ (rawL z.cells.toList) = some ((C e).enc a0) := by rw [this]; exact denL_rawL _
          exact denL_inj (denL_rawL _) h1
        obtain ⟨a, len, c, rfl, hr, w', hst, R'⟩ := putV_sound (P := P) R h hd (fun len => by rw [List.length_replicate]; exact Nat.le_refl _)
        refine ⟨.tuple #[], w', ρ, ?_, Asg.le_refl _, by rw [hr]; rfl, Rel.shift R' (by omega)⟩
        have hzf := zero_flat henc len
        rw [← hzf] at hst
        have hhz : P.info? e ≠ none := by
          intro h0; simp [szOf, h0] at hk
        cases len with
        | zero =>
          have h0 : (Builtin.zeroCells z.cells 0).toList = [] := by simp [Builtin.zeroCells]
          rw [h0, store_nil] at hst
          cases hst
          simp [Builtin.clear_, run_underlying ht]
        | succ m => simp [Builtin.clear_, run_underlying ht, run_zeroValue hz, hst]
      · simp [Tr.get] at h
    · simp [Tr.get] at h
  · simp [Tr.get] at h

theorem pCap_sound (R : Rel B X ρ hp n w) {t ty : TypeId} {x r : SV} {v : Value} (h : (pCap P (fun i => find i hp) t x).get = some r) (hx : den ρ x = some v) : PureOk P ρ w (Builtin.cap_ #[t] ty #[v]) r := by
  unfold pCap at h
  split at h
  · rename_i e ht
    have fin : ∀ (a : Option Addr) (l c : Nat), PureOk P ρ w (Builtin.cap_ #[t] ty #[.slice a l c]) (.raw (.int .i64 c)) := fun a l c => ⟨_, by simp [Builtin.cap_, run_underlying ht, goInt], rfl⟩
    split at h
    · simp only [Tr.get, Option.some.injEq] at h; subst h
      simp [den] at hx; subst hx
      exact fin _ _ _
    · simp only [Tr.get, Option.some.injEq] at h; subst h
      simp only [den, Option.bind_eq_some_iff, Option.map_eq_some_iff] at hx
      obtain ⟨u, hu, a, ha, rfl⟩ := hx
      exact fin _ _ _
    · split at h
      · simp only [Tr.get, Option.some.injEq] at h; subst h
        simp only [den, Option.bind_eq_some_iff] at hx
        obtain ⟨u, hu, hx⟩ := hx
        unfold vsV at hx
        split at hx
        · cases hx; exact fin _ _ _
        · cases hx
      · split at h
        · rename_i hid
          simp only [Tr.get, Option.some.injEq] at h; subst h
          obtain ⟨a, c, hv, hc, hful, rfl, _⟩ := vs_den R hid hx
          rw [← hful rfl]
          exact fin _ _ _
        · simp [Tr.get] at h
    · split at h
      · rename_i hid
        simp only [Tr.get, Option.some.injEq] at h; subst h
        obtain ⟨v', hv', a, c, rfl, h1, h2, h3⟩ := R.obj _ _ hid
        simp only [den] at hx; rw [hx] at hv'; cases hv'
        rw [← h2 rfl]
        exact fin _ _ _
      · simp [Tr.get] at h
    · simp [Tr.get] at h
  · simp [Tr.get] at h

/-! ### do two slices overlap -/
def pOverlaps (P : Program) (look : Nat → Option (SO C)) (t : TypeId) (x y : SV) : Tr (Res C) := match P.underlying t with
  | some (.slice e) => match szOf P e with
    | some _ => match asV look x, asV look y with
      | some (i, _, _, _), some (j, _, _, _) => match look i, look j, Nat.beq i j with
        | some (.sl true _ e1 _), some (.sl true _ e2 ts2), false => match Nat.beq (szV (C e1).sz x) (C e1).sz, Nat.beq (szV (C e2).sz y) (C e2).sz with
          | true, true => .br (decide (0 < ts2.length)) (.leaf (.raw (.bool false), [])) .fail
          | _, _ => .fail
        | _, _, _ => .fail
      | _, _ => .fail
    | none => .fail
  | _ => .fail

theorem run_overlaps (tS : TypeId) {e : TypeId} {size : Nat} {tP tR : Array TypeId} (htp : tP[0]? = some tS) (ht : P.underlying tS = some (.slice e)) (hz : szOf P e = some size) (a b : Addr) (la ca lb cb : Nat) (hne : a.block ≠ b.block) {xa xb : Array Value} {ta tb : TypeId}
    (ha : w.heap[a.block]? = some (.cells xa ta (0, 0))) (hb : w.heap[b.block]? = some (.cells xb tb (0, 0))) (hlb : lb ≠ 0 → xb.size ≠ 0) :
    (Extern.SlicesOverlaps.overlaps tP tR #[.slice (some a) la ca, .slice (some b) lb cb]).run P w = .ok (.bool false) w := by
  have hnb : (a.block != b.block) = true := by simpa using hne
  have hnb' : (a.block == b.block) = false := by simpa using hne
  have hsa : w.shape? a.block = some (ta, xa.size) := by simp [World.shape?, ha]
  have hsb : w.shape? b.block = some (tb, xb.size) := by simp [World.shape?, hb]
  have hf : ∀ (c : Addr) (xs : Array Value) (t : TypeId), w.heap[c.block]? = some (.cells xs t (0, 0)) → w.frozen? c = false := fun c xs t h => by simp [World.frozen?, h]
  have hfa := hf a xa ta ha
  have hfe := hf { block := a.block, off := xa.size } xa ta ha
  change Sem.run P (α := Value) (do
    let some t := tP[0]? | stuck "slices.overlaps: no parameter types"
    let .slice elem ← underlying t | stuck "slices.overlaps: slice type expected"
    let size ← sizeOf elem
    match (some a : Option Addr), (some b : Option Addr) with
    | some a, some b =>
      if la = 0 ∨ lb = 0 ∨ size = 0 then pure (Value.bool false)
      else if a.block != b.block && (← frozen a) && (← frozen b) then unsupported .addressObserved
      else do
        if a.block != b.block then do
          noView a; noView b
          if ← mayBeOne a b then return Value.bool ((← choose (.extern "sameAddr.stringBytes" 2)) == 1)
        pure (Value.bool (a.block == b.block && a.off < b.off + lb * size && b.off < a.off + la * size))
    | _, _ => pure (Value.bool false)) w = _
  by_cases h0 : la = 0 ∨ lb = 0 ∨ size = 0
  · simp [htp, run_underlying ht, run_sizeOf hz, h0]
  · have hk := hlb (fun h => h0 (.inr (.inl h)))
    cases hkB : xb.size with
    | zero => exact absurd hkB hk
    | succ kB =>
      rw [hkB] at hsb
      simp [htp, run_underlying ht, run_sizeOf hz, h0, hnb, hnb', frozen, noView, viewAt, mayBeOne, stringish, shape, Sem.run, hsa, hsb, hfa, hfe]

theorem pOverlaps_sound (R : Rel B X ρ hp n w) {t : TypeId} {tP tR : Array TypeId} (htp : tP[0]? = some t) {x y : SV} {vx vy : Value} {r : Res C} (h : (pOverlaps P (fun i => find i hp) t x y).get = some r) (hx : den ρ x = some vx) (hy : den ρ y = some vy) :
    NewOk P B X ρ hp n w (Extern.SlicesOverlaps.overlaps tP tR #[vx, vy]) r := by
  unfold pOverlaps at h
  split at h
  · rename_i e ht
    split at h
    · rename_i k hk
      split at h
      · rename_i i o1 l1 c1 j o2 l2 c2 hi hj
        split at h
        · rename_i f1 e1 ts1 f2 e2 ts2 hfi hfj hij
          split at h
          · rename_i hs1 hs2
            obtain ⟨hpos, h⟩ := Tr.get_ask.1 h
            have hpos := of_decide_eq_true hpos
            simp only [Tr.get, Option.some.injEq] at h; subst h
            have hs1 := Nat.eq_of_beq_eq_true hs1
            have hs2 := Nat.eq_of_beq_eq_true hs2
            have hne : i ≠ j := Nat.ne_of_beq_eq_false hij
            obtain ⟨b1, hd1⟩ := asV_den R hi hx hs1
            obtain ⟨b2, hd2⟩ := asV_den R hj hy hs2
            obtain ⟨a, ca, hva, hca, _, rfl, _⟩ := vs_den R hfi hd1
            obtain ⟨b, cb, hvb, hcb, _, rfl, _⟩ := vs_den R hfj hd2
            obtain ⟨v', hv', a', c', rfl, _, _, g1, tot1, e1', _, hh1, ht1, _⟩ := R.obj _ _ hfi
            rw [hva] at hv'; cases hv'; cases e1'
            obtain ⟨v', hv', a', c', rfl, _, _, g2, tot2, e2', _, hh2, ht2, _⟩ := R.obj _ _ hfj
            rw [hvb] at hv'; cases hv'; cases e2'
            have hsep := R.sep i j _ _ _ _ g1 hne hfi hfj rfl rfl hva hvb rfl
            have hg : g1 ≠ g2 := fun e => hsep (by subst e; rfl)
            have bl : ∀ (g k off sz c : Nat), (if off = c then (⟨g, 0, none⟩ : Addr).add (k * sz) else (⟨g, 0, none⟩ : Addr).add (off * sz)).block = g := fun g k off sz c => by
              split
              · rw [Addr.add_block]
              · rw [Addr.add_block]
            refine ⟨_, w, ρ, run_overlaps (P := P) (w := w) t htp ht hk _ _ l1 _ l2 _ (by rw [bl, bl]; exact hg) (by rw [bl]; exact hh1) (by rw [bl]; exact hh2) (fun hl => ?_), Asg.le_refl _, rfl, Rel.shift R (by omega)⟩
            rw [List.size_toArray, (C e2).flat_length]
            exact Nat.ne_of_gt (Nat.mul_pos (by omega) (C e2).pos)
          · simp [Tr.get] at h
        · simp [Tr.get] at h
      · simp [Tr.get] at h
    · simp [Tr.get] at h
  · simp [Tr.get] at h
end sound
end
end Go.Sx
