/-
  Merged texts, part 2 of 6. Own work; nothing here is trusted.
-/
import Derived.MapKept
import Derived.WideKeyRuns
import Derived.WideKeyEntry
import Derived.Test.YtfgbhgeppdffaaaGreatTbPA
/-
  The symbolic evaluator: copy, clear, cap; do two slices overlap. Own work; nothing here is trusted.
-/
namespace Go.Sx
noncomputable section
open Go.RowKit
variable {C : Tab} {P : Program}
def asV (look : Nat → Option (SO C)) : SV → Option (Nat × Nat × Nat × Option Nat)
  | .h id => match look id with
    | some (.sl true _ _ ts) => some (id, 0, ts.length, none)
    | _ => none
  | .vs id _ _ off len cap => some (id, off, len, cap)
  | _ => none
def szV (d : Nat) : SV → Nat
  | .vs _ sz _ _ _ _ => sz
  | _ => d
def putV (look : Nat → Option (SO C)) (e : TypeId) (d : SV) (f : Nat → List (C e).α) (ret : Nat → SV) : Tr (Res C) := match asV look d with
  | some (id, off, len, _) => match look id with
    | some (.sl true full e' ts) => match Nat.decEq e' e, Nat.beq (szV (C e).sz d) (C e).sz with
      | .isTrue h, true => .br (decide (off + (f len).length ≤ ts.length)) (.leaf (ret (f len).length, [(id, .sl true full e (overL (h ▸ ts : List (C e).α) off (f len)))])) .fail
      | _, _ => .fail
    | _ => .fail
  | none => .fail
def cellsN (c : Codec) (us : List c.α) : Nat → Nat → List Value
  | _, 0 => []
  | i, n + 1 => c.enc (us.getD i c.d) ++ cellsN c us (i + 1) n
theorem cellsN_eq (c : Codec) (us : List c.α) : ∀ (n i : Nat), i + n ≤ us.length → cellsN c us i n = c.flat ((us.drop i).take n)
  | 0, i, _ => by simp [cellsN, Codec.flat]
  | n + 1, i, h => by
    have hi : i < us.length := by omega
    rw [List.drop_eq_getElem_cons hi, List.take_succ_cons]
    simp only [cellsN, Codec.flat]
    rw [cellsN_eq c us n (i + 1) (by omega), List.getD_eq_getElem?_getD, List.getElem?_eq_getElem hi]; rfl
def putB (look : Nat → Option (SO C)) (e : TypeId) (id off len : Nat) (us : List (C e).α) : Tr (Res C) := match look id with
  | some (.box cs ty) => match Nat.ble (off + len * (C e).sz) cs.length with
    | true => .br (decide (len ≤ us.length)) (forceL (spliceS cs off (rawL (cellsN (C e) us 0 len))) fun l => .leaf (.raw (.int .i64 len), [(id, .box l ty)])) .fail
    | false => .fail
  | some (.sl true full e' ts) => match (C e').dec (rawL ((C e).flat (us.take len))) with
    | some a' => .br (decide (len ≤ us.length) && (decide (off = off / (C e').sz * (C e').sz) && decide (off / (C e').sz < ts.length))) (.leaf (.raw (.int .i64 len), [(id, .sl true full e' (overL ts (off / (C e').sz) [a']))])) .fail
    | none => .fail
  | _ => .fail
def pCopy (P : Program) (look : Nat → Option (SO C)) (t : TypeId) (d x : SV) : Tr (Res C) := match P.underlying t with
  | some (.slice e) => match szOf P e with
    | some k => match Nat.beq k (C e).sz with
      | true => (srcT look e x).bind fun us => match d with
        | .bs id off len _ => putB look e id off len us
        | d => putV look e d (fun len => us.take len) fun m => .raw (.int .i64 m)
      | false => .fail
    | none => .fail
  | _ => .fail
def pClear (P : Program) (look : Nat → Option (SO C)) (t : TypeId) (d : SV) : Tr (Res C) := match P.underlying t with
  | some (.slice e) => match szOf P e, zeroT P e with
    | some k, some z => match Nat.beq k (C e).sz, (C e).dec (rawL z.cells.toList) with
      | true, some a0 => putV look e d (fun len => List.replicate len a0) fun _ => .raw (.tuple #[])
      | _, _ => .fail
    | _, _ => .fail
  | _ => .fail
def pCap (P : Program) (look : Nat → Option (SO C)) (t : TypeId) (x : SV) : Tr SV := match P.underlying t with
  | some (.slice _) => match x with
    | .raw (.slice _ _ n) => .leaf (.raw (.int .i64 n))
    | .bs _ _ _ n => .leaf (.raw (.int .i64 n))
    | .vs id _ _ off _ cap => match cap with
      | some m => .leaf (.raw (.int .i64 m))
      | none => match look id with
        | some (.sl _ true _ ts) => .leaf (.raw (.int .i64 (ts.length - off : Nat)))
        | _ => .fail
    | .h id => match look id with
      | some (.sl _ true _ ts) => .leaf (.raw (.int .i64 ts.length))
      | _ => .fail
    | _ => .fail
  | _ => .fail
section sound
variable {B : World} {X : Own} {ρ : Asg} {hp : Hp C} {n : Nat} {w : World}
theorem asV_den (R : Rel B X ρ hp n w) {d : SV} {id off len sz : Nat} {cap : Option Nat} {v : Value} (h : asV (fun i => find i hp) d = some (id, off, len, cap)) (hx : den ρ d = some v) (hs : szV sz d = sz) : ∃ bs, den ρ (.vs id sz bs off len cap) = some v := by
  unfold asV at h
  split at h
  · split at h
    · rename_i hid
      cases h
      exact ⟨0, h_vs R hid hx⟩
    · cases h
  · cases h
    simp only [szV] at hs
    subst hs
    exact ⟨_, hx⟩
  · cases h
theorem putV_sound (R : Rel B X ρ hp n w) {e : TypeId} {d : SV} {f : Nat → List (C e).α} {ret : Nat → SV} {v : Value} {r : Res C} (h : (putV (fun i => find i hp) e d f ret).get = some r) (hx : den ρ d = some v) (hf : ∀ len, (f len).length ≤ len) :
    ∃ a len c, v = .slice (some a) len c ∧ r.1 = ret (f len).length ∧ ∃ w', (storeCells a ((C e).flat (f len))).run P w = .ok () w' ∧ Rel B X ρ (r.2 ++ hp) n w' := by
  unfold putV at h
  split at h
  · rename_i id off len cap hv
    split at h
    · rename_i full e' ts hid
      split at h
      · rename_i he _ hsz
        subst he
        have hsz := Nat.eq_of_beq_eq_true hsz
        obtain ⟨hb, h⟩ := Tr.get_ask.1 h
        have hb := of_decide_eq_true hb
        simp only [Tr.get, Option.some.injEq] at h; subst h
        obtain ⟨bs, hd⟩ := asV_den R hv hx hsz
        obtain ⟨a, c, rfl, w', hst, R'⟩ := R.overV (P := P) hid hd 0 (f len) (by omega)
        simp only [Nat.zero_mul, Addr.add_zero, Nat.add_zero] at hst R'
        exact ⟨a, len, c, rfl, rfl, w', hst, R'⟩
      · simp [Tr.get] at h
    · simp [Tr.get] at h
  · simp [Tr.get] at h
theorem putB_sound (R : Rel B X ρ hp n w) {e : TypeId} {id off len cap : Nat} {us : List (C e).α} {v : Value} {r : Res C} (h : (putB (fun i => find i hp) e id off len us).get = some r) (hx : den ρ (.bs id off len cap) = some v) :
    ∃ a len c, v = .slice (some a) len c ∧ r.1 = .raw (.int .i64 ((us.take len).length : Nat)) ∧ ∃ w', (storeCells a ((C e).flat (us.take len))).run P w = .ok () w' ∧ Rel B X ρ (r.2 ++ hp) n w' := by
  unfold putB at h
  split at h
  · rename_i cs ty hid
    split at h
    · rename_i hb2
      obtain ⟨hb, h⟩ := Tr.get_ask.1 h
      have hb := of_decide_eq_true hb
      rw [forceL_eq] at h
      simp only [Tr.get, Option.some.injEq] at h; subst h
      have e2 := Nat.le_of_ble_eq_true hb2
      obtain ⟨v', hv', g, vs, rfl, hok, hden, hheap⟩ := R.obj id _ hid
      simp only [den, hv', Option.bind_some, baseOf, Option.map_some, Option.some.injEq] at hx
      subst hx
      have ec : cellsN (C e) us 0 len = (C e).flat (us.take len) := by rw [cellsN_eq (C e) us len 0 (by omega), List.drop_zero]
      have hlen : ((C e).flat (us.take len)).length = len * (C e).sz := by rw [(C e).flat_length, List.length_take, Nat.min_eq_left hb]
      have hlv := denL_length hden
      have hst := run_storeCells_at P g off ty ((C e).flat (us.take len)) 0 vs.toArray w hheap (by rw [hlen]; simp only [List.size_toArray]; omega) ((C e).flat_one _)
      simp only [Nat.add_zero] at hst
      refine ⟨_, len, cap, rfl, by rw [List.length_take, Nat.min_eq_left hb], _, by rw [Addr.add_at, Nat.zero_add]; exact hst, ?_⟩
      have hcx : denL ρ (rawL (cellsN (C e) us 0 len)) = some ((C e).flat (us.take len)) := by rw [ec]; exact denL_rawL _
      refine R.set hid hv' rfl rfl (by simp) (by simp) (by simp) (by simp) (fun k' hk' => ?_) ⟨g, _, rfl, hok, denL_splice hden hcx, ?_⟩ (fun g' hg' => ?_)
      · exact setRow_other w g k' _ (fun e => hk' (by simp [blk, e]))
      · exact setRow_heap w g _ _ ty _ hheap
      · simp [blk] at hg'; subst hg'; exact hok
    · simp [Tr.get] at h
  · rename_i full e' ts hid
    split at h
    · rename_i a' hdec
      obtain ⟨hb, h⟩ := Tr.get_ask.1 h
      simp only [Bool.and_eq_true, decide_eq_true_eq] at hb
      obtain ⟨hb, hoff, hlt⟩ := hb
      simp only [Tr.get, Option.some.injEq] at h; subst h
      have henc : (C e).flat (us.take len) = (C e').enc a' := by
        have := (C e').law _ _ hdec
        have h1 : denL ρ (rawL ((C e).flat (us.take len))) = some ((C e').enc a') := by rw [this]; exact denL_rawL _
        exact denL_inj (denL_rawL _) h1
      obtain ⟨v', hv', _⟩ := R.obj id _ hid
      obtain ⟨a, c, rfl, w', hst, R'⟩ := R.over (P := P) hid hv' (off / (C e').sz) [a'] (by simp only [List.length_singleton]; omega)
      simp only [den, hv', Option.bind_some, baseOf, Option.map_some, Option.some.injEq] at hx
      subst hx
      refine ⟨_, len, cap, rfl, by rw [List.length_take, Nat.min_eq_left hb], w', ?_, R'⟩
      rw [← hoff] at hst
      have hf : (C e').flat [a'] = (C e).flat (us.take len) := by
        rw [henc]
        simp [Codec.flat]
      rw [← hf]; exact hst
    · simp [Tr.get] at h
  · simp [Tr.get] at h
theorem pCopy_sound (R : Rel B X ρ hp n w) {t t' ty : TypeId} {d x : SV} {vd vx : Value} {r : Res C} (h : (pCopy P (fun i => find i hp) t d x).get = some r) (hd : den ρ d = some vd) (hx : den ρ x = some vx) :
    NewOk P B X ρ hp n w (Builtin.copy_ #[t, t'] ty #[vd, vx]) r := by
  unfold pCopy at h
  split at h
  · rename_i e ht
    split at h
    · rename_i k hk
      split at h
      · rename_i hb
        have hb := Nat.eq_of_beq_eq_true hb
        subst hb
        obtain ⟨us, hus, h⟩ := Tr.get_bind h
        obtain ⟨hsrc, _⟩ := srcT_spec (P := P) R hus hx
        have hP : ∃ a len c, vd = .slice (some a) len c ∧ r.1 = .raw (.int .i64 ((us.take len).length : Nat)) ∧ ∃ w', (storeCells a ((C e).flat (us.take len))).run P w = .ok () w' ∧ Rel B X ρ (r.2 ++ hp) n w' := by
          split at h
          · exact putB_sound (P := P) R h hd
          · exact putV_sound (P := P) R h hd (fun len => by rw [List.length_take]; omega)
        obtain ⟨a, len, c, rfl, hr, w', hst, R'⟩ := hP
        have hm : (us.take len).length = Nat.min us.length len := by rw [List.length_take]; exact Nat.min_comm _ _
        have hcells := hsrc.cells (Nat.min us.length len) (Nat.min_le_left _ _)
        have hfl : ((C e).flat us).take (Nat.min us.length len * (C e).sz) = (C e).flat (us.take len) := by
          rw [← (C e).flat_take]
          congr 1
          rw [← hm, List.length_take]
          by_cases h : len ≤ us.length
          · rw [Nat.min_eq_left h]
          · rw [Nat.min_eq_right (by omega), List.take_of_length_le (Nat.le_refl _), List.take_of_length_le (by omega)]
        rw [hfl] at hcells
        refine ⟨.int .i64 ((us.take len).length : Nat), w', ρ, ?_, Asg.le_refl _, by rw [hr]; rfl, Rel.shift R' (by omega)⟩
        simp [Builtin.copy_, run_underlying ht, hsrc.len, run_sizeOf hk, hcells, hst, hm, goInt]
      · simp [Tr.get] at h
    · simp [Tr.get] at h
  · simp [Tr.get] at h
theorem pClear_sound (R : Rel B X ρ hp n w) {t ty : TypeId} {d : SV} {vd : Value} {r : Res C} (h : (pClear P (fun i => find i hp) t d).get = some r) (hd : den ρ d = some vd) :
    NewOk P B X ρ hp n w (Builtin.clear_ #[t] ty #[vd]) r := by
  unfold pClear at h
  split at h
  · rename_i e ht
    split at h
    · rename_i k z hk hz
      split at h
      · rename_i a0 hb hdec
        have hb := Nat.eq_of_beq_eq_true hb
        subst hb
        have henc : z.cells.toList = (C e).enc a0 := by
          have := (C e).law _ _ hdec
          have h1 : denL ρ (rawL z.cells.toList) = some ((C e).enc a0) := by rw [this]; exact denL_rawL _
          exact denL_inj (denL_rawL _) h1
        obtain ⟨a, len, c, rfl, hr, w', hst, R'⟩ := putV_sound (P := P) R h hd (fun len => by rw [List.length_replicate]; exact Nat.le_refl _)
        refine ⟨.tuple #[], w', ρ, ?_, Asg.le_refl _, by rw [hr]; rfl, Rel.shift R' (by omega)⟩
        have hzf := zero_flat henc len
        rw [← hzf] at hst
        have hhz : P.info? e ≠ none := by
          intro h0; simp [szOf, h0] at hk
        cases len with
        | zero =>
          have h0 : (Builtin.zeroCells z.cells 0).toList = [] := by simp [Builtin.zeroCells]
          rw [h0, store_nil] at hst
          cases hst
          simp [Builtin.clear_, run_underlying ht]
        | succ m => simp [Builtin.clear_, run_underlying ht, run_zeroValue hz, hst]
      · simp [Tr.get] at h
    · simp [Tr.get] at h
  · simp [Tr.get] at h
theorem pCap_sound (R : Rel B X ρ hp n w) {t ty : TypeId} {x r : SV} {v : Value} (h : (pCap P (fun i => find i hp) t x).get = some r) (hx : den ρ x = some v) : PureOk P ρ w (Builtin.cap_ #[t] ty #[v]) r := by
  unfold pCap at h
  split at h
  · rename_i e ht
    have fin : ∀ (a : Option Addr) (l c : Nat), PureOk P ρ w (Builtin.cap_ #[t] ty #[.slice a l c]) (.raw (.int .i64 c)) := fun a l c => ⟨_, by simp [Builtin.cap_, run_underlying ht, goInt], rfl⟩
    split at h
    · simp only [Tr.get, Option.some.injEq] at h; subst h
      simp [den] at hx; subst hx
      exact fin _ _ _
    · simp only [Tr.get, Option.some.injEq] at h; subst h
      simp only [den, Option.bind_eq_some_iff, Option.map_eq_some_iff] at hx
      obtain ⟨u, hu, a, ha, rfl⟩ := hx
      exact fin _ _ _
    · split at h
      · simp only [Tr.get, Option.some.injEq] at h; subst h
        simp only [den, Option.bind_eq_some_iff] at hx
        obtain ⟨u, hu, hx⟩ := hx
        unfold vsV at hx
        split at hx
        · cases hx; exact fin _ _ _
        · cases hx
      · split at h
        · rename_i hid
          simp only [Tr.get, Option.some.injEq] at h; subst h
          obtain ⟨a, c, hv, hc, hful, rfl, _⟩ := vs_den R hid hx
          rw [← hful rfl]
          exact fin _ _ _
        · simp [Tr.get] at h
    · split at h
      · rename_i hid
        simp only [Tr.get, Option.some.injEq] at h; subst h
        obtain ⟨v', hv', a, c, rfl, h1, h2, h3⟩ := R.obj _ _ hid
        simp only [den] at hx; rw [hx] at hv'; cases hv'
        rw [← h2 rfl]
        exact fin _ _ _
      · simp [Tr.get] at h
    · simp [Tr.get] at h
  · simp [Tr.get] at h
def pOverlaps (P : Program) (look : Nat → Option (SO C)) (t : TypeId) (x y : SV) : Tr (Res C) := match P.underlying t with
  | some (.slice e) => match szOf P e with
    | some _ => match asV look x, asV look y with
      | some (i, _, _, _), some (j, _, _, _) => match look i, look j, Nat.beq i j with
        | some (.sl true _ e1 _), some (.sl true _ e2 ts2), false => match Nat.beq (szV (C e1).sz x) (C e1).sz, Nat.beq (szV (C e2).sz y) (C e2).sz with
          | true, true => .br (decide (0 < ts2.length)) (.leaf (.raw (.bool false), [])) .fail
          | _, _ => .fail
        | _, _, _ => .fail
      | _, _ => .fail
    | none => .fail
  | _ => .fail
theorem run_overlaps (tS : TypeId) {e : TypeId} {size : Nat} {tP tR : Array TypeId} (htp : tP[0]? = some tS) (ht : P.underlying tS = some (.slice e)) (hz : szOf P e = some size) (a b : Addr) (la ca lb cb : Nat) (hne : a.block ≠ b.block) {xa xb : Array Value} {ta tb : TypeId}
    (ha : w.heap[a.block]? = some (.cells xa ta (0, 0))) (hb : w.heap[b.block]? = some (.cells xb tb (0, 0))) (hlb : lb ≠ 0 → xb.size ≠ 0) :
    (Extern.SlicesOverlaps.overlaps tP tR #[.slice (some a) la ca, .slice (some b) lb cb]).run P w = .ok (.bool false) w := by
  have hnb : (a.block != b.block) = true := by simpa using hne
  have hnb' : (a.block == b.block) = false := by simpa using hne
  have hsa : w.shape? a.block = some (ta, xa.size) := by simp [World.shape?, ha]
  have hsb : w.shape? b.block = some (tb, xb.size) := by simp [World.shape?, hb]
  have hf : ∀ (c : Addr) (xs : Array Value) (t : TypeId), w.heap[c.block]? = some (.cells xs t (0, 0)) → w.frozen? c = false := fun c xs t h => by simp [World.frozen?, h]
  have hfa := hf a xa ta ha
  have hfe := hf { block := a.block, off := xa.size } xa ta ha
  change Sem.run P (α := Value) (do
    let some t := tP[0]? | stuck "slices.overlaps: no parameter types"
    let .slice elem ← underlying t | stuck "slices.overlaps: slice type expected"
    let size ← sizeOf elem
    match (some a : Option Addr), (some b : Option Addr) with
    | some a, some b =>
      if la = 0 ∨ lb = 0 ∨ size = 0 then pure (Value.bool false)
      else if a.block != b.block && (← frozen a) && (← frozen b) then unsupported .addressObserved
      else do
        if a.block != b.block then do
          noView a; noView b
          if ← mayBeOne a b then return Value.bool ((← choose (.extern "sameAddr.stringBytes" 2)) == 1)
        pure (Value.bool (a.block == b.block && a.off < b.off + lb * size && b.off < a.off + la * size))
    | _, _ => pure (Value.bool false)) w = _
  by_cases h0 : la = 0 ∨ lb = 0 ∨ size = 0
  · simp [htp, run_underlying ht, run_sizeOf hz, h0]
  · have hk := hlb (fun h => h0 (.inr (.inl h)))
    cases hkB : xb.size with
    | zero => exact absurd hkB hk
    | succ kB =>
      rw [hkB] at hsb
      simp [htp, run_underlying ht, run_sizeOf hz, h0, hnb, hnb', frozen, noView, viewAt, mayBeOne, stringish, shape, Sem.run, hsa, hsb, hfa, hfe]
theorem pOverlaps_sound (R : Rel B X ρ hp n w) {t : TypeId} {tP tR : Array TypeId} (htp : tP[0]? = some t) {x y : SV} {vx vy : Value} {r : Res C} (h : (pOverlaps P (fun i => find i hp) t x y).get = some r) (hx : den ρ x = some vx) (hy : den ρ y = some vy) :
    NewOk P B X ρ hp n w (Extern.SlicesOverlaps.overlaps tP tR #[vx, vy]) r := by
  unfold pOverlaps at h
  split at h
  · rename_i e ht
    split at h
    · rename_i k hk
      split at h
      · rename_i i o1 l1 c1 j o2 l2 c2 hi hj
        split at h
        · rename_i f1 e1 ts1 f2 e2 ts2 hfi hfj hij
          split at h
          · rename_i hs1 hs2
            obtain ⟨hpos, h⟩ := Tr.get_ask.1 h
            have hpos := of_decide_eq_true hpos
            simp only [Tr.get, Option.some.injEq] at h; subst h
            have hs1 := Nat.eq_of_beq_eq_true hs1
            have hs2 := Nat.eq_of_beq_eq_true hs2
            have hne : i ≠ j := Nat.ne_of_beq_eq_false hij
            obtain ⟨b1, hd1⟩ := asV_den R hi hx hs1
            obtain ⟨b2, hd2⟩ := asV_den R hj hy hs2
            obtain ⟨a, ca, hva, hca, _, rfl, _⟩ := vs_den R hfi hd1
            obtain ⟨b, cb, hvb, hcb, _, rfl, _⟩ := vs_den R hfj hd2
            obtain ⟨v', hv', a', c', rfl, _, _, g1, tot1, e1', _, hh1, ht1, _⟩ := R.obj _ _ hfi
            rw [hva] at hv'; cases hv'; cases e1'
            obtain ⟨v', hv', a', c', rfl, _, _, g2, tot2, e2', _, hh2, ht2, _⟩ := R.obj _ _ hfj
            rw [hvb] at hv'; cases hv'; cases e2'
            have hsep := R.sep i j _ _ _ _ g1 hne hfi hfj rfl rfl hva hvb rfl
            have hg : g1 ≠ g2 := fun e => hsep (by subst e; rfl)
            have bl : ∀ (g k off sz c : Nat), (if off = c then (⟨g, 0, none⟩ : Addr).add (k * sz) else (⟨g, 0, none⟩ : Addr).add (off * sz)).block = g := fun g k off sz c => by
              split
              · rw [Addr.add_block]
              · rw [Addr.add_block]
            refine ⟨_, w, ρ, run_overlaps (P := P) (w := w) t htp ht hk _ _ l1 _ l2 _ (by rw [bl, bl]; exact hg) (by rw [bl]; exact hh1) (by rw [bl]; exact hh2) (fun hl => ?_), Asg.le_refl _, rfl, Rel.shift R (by omega)⟩
            rw [List.size_toArray, (C e2).flat_length]
            exact Nat.ne_of_gt (Nat.mul_pos (by omega) (C e2).pos)
          · simp [Tr.get] at h
        · simp [Tr.get] at h
      · simp [Tr.get] at h
    · simp [Tr.get] at h
  · simp [Tr.get] at h
end sound
end
end Go.Sx
/-
  The symbolic evaluator: strings out of bytes; arrays seen in slices. Own work; nothing here is trusted.
-/
namespace Go.Sx
noncomputable section
open Go.RowKit
variable {C : Tab} {P : Program}
def isStr : SV → Bool
  | .raw (.string _) => true
  | _ => false
def strOf (l : List Int) : ByteArray := ⟨(l.map fun n => UInt8.ofNat n.toNat).toArray⟩
def pConvM (P : Program) (look : Nat → Option (SO C)) (s t : TypeId) (x : SV) : Tr SV := match P.underlying s, P.underlying t with
  | some (.slice e), some .string => match P.underlying e, (C e).byt with
    | some (.int .u8), some b => match isStr x with
      | false => (srcT look e x).bind fun us => .leaf (.raw (.string (strOf (us.map b.g))))
      | true => .fail
    | _, _ => .fail
  | _, _ => pConv P s t x
def pArrAt (P : Program) (look : Nat → Option (SO C)) (arr : TypeId) (x : SV) : Tr SV := match P.underlying arr with
  | some (.array m _) => match x with
    | .h id => match look id with
      | some (.sl _ _ e ts) => .br (decide (m ≤ ts.length) && decide (0 < ts.length)) (.leaf (.el id 0 (C e).sz 0)) .fail
      | _ => .fail
    | .vs id sz bs off len _ => match look id with
      | some (.sl _ _ e ts) => match Nat.beq sz (C e).sz with
        | true => .br (decide (m ≤ len) && decide (off < ts.length)) (.leaf (.el id off (C e).sz 0)) .fail
        | false => .fail
      | _ => .fail
    | .bs id off len _ => .br (decide (m ≤ len)) (.leaf (.ep id off)) .fail
    | _ => .fail
  | _ => .fail
section sound
variable {B : World} {X : Own} {ρ : Asg} {hp : Hp C} {n : Nat} {w : World}
theorem run_bytes (w : World) : ∀ (l : List Int) (s : ByteArray), (forIn ((l.map (Value.int .u8)).toArray) s (fun c (s : ByteArray) => do
      match c with
      | Value.int IntKind.u8 n => pure (ForInStep.yield (s.push (UInt8.ofNat n.toNat)))
      | _ => do
        stuck "bytesToString: byte expected"
        pure (ForInStep.yield s)) : Sem ByteArray).run P w = .ok (l.foldl (fun s n => s.push (UInt8.ofNat n.toNat)) s) w := by
  intro l
  induction l with
  | nil => intro s; simp
  | cons x l ih =>
    intro s
    have := ih (s.push (UInt8.ofNat x.toNat))
    simp only [List.forIn_toArray, List.map_cons, List.forIn_cons] at this ⊢
    simp only [Sem.run_bind, Sem.run_pure, Result.andThen_ok, List.foldl_cons]
    exact this
theorem foldl_strOf : ∀ (l : List Int) (s : ByteArray), l.foldl (fun s n => s.push (UInt8.ofNat n.toNat)) s = ⟨s.data ++ (l.map fun n => UInt8.ofNat n.toNat).toArray⟩
  | [], s => by simp
  | x :: l, s => by
    rw [List.foldl_cons, foldl_strOf l]
    simp [ByteArray.push]
theorem pConvM_sound (R : Rel B X ρ hp n w) {s t : TypeId} {x r : SV} {v : Value} (h : (pConvM P (fun i => find i hp) s t x).get = some r) (hx : den ρ x = some v) : PureOk P ρ w (convert s t v) r := by
  unfold pConvM at h
  split at h
  · rename_i e hs ht
    split at h
    · rename_i b he hb
      cases hstr : isStr x with
      | true => rw [hstr] at h; simp [Tr.get] at h
      | false =>
      rw [hstr] at h
      obtain ⟨us, hus, h⟩ := Tr.get_bind h
      simp only [Tr.get, Option.some.injEq] at h; subst h
      obtain ⟨hsrc, hform⟩ := srcT_spec (P := P) R hus hx
      have hsz := byt_sz b
      rw [hsz] at hsrc
      have hfl : ∀ l : List (C e).α, (C e).flat l = (l.map b.g).map (Value.int .u8) := fun l => by
        induction l with
        | nil => rfl
        | cons y l ih => simp only [Codec.flat, b.lawg, List.map_cons, ih]; rfl
      refine ⟨.string (strOf (us.map b.g)), ?_, rfl⟩
      rcases hform with ⟨a, l, c, rfl⟩ | ⟨str, rfl⟩
      · have hlen : l = us.length := by
          have := hsrc.len w
          simpa [Builtin.lenOf] using this
        subst hlen
        have hcells := hsrc.cells us.length (Nat.le_refl _)
        rw [List.take_of_length_le (by rw [(C e).flat_length, hsz]; exact Nat.le_refl _)] at hcells
        cases a with
        | none =>
          have : us = [] := by
            have h0 : (Builtin.firstCells 1 us.length (.slice none us.length c)).run P w = .ok #[] w := run_firstCells_none w 1 us.length us.length c
            rw [h0] at hcells
            have := congrArg List.length (congrArg Array.toList (Result.ok.inj hcells).1)
            simp only [List.length_nil, (C e).flat_length, hsz, Nat.mul_one] at this
            exact List.length_eq_zero_iff.1 (by simpa using this.symm)
          subst this
          simp [convert, run_underlying hs, run_underlying ht, run_underlying he, Conv.bytesToString, strOf]
          rfl
        | some a =>
          have hload : (loadCells a us.length).run P w = .ok ((us.map b.g).map (Value.int .u8)).toArray w := by
            have : Builtin.firstCells 1 us.length (.slice (some a) us.length c) = loadCells a (us.length * 1) := rfl
            rw [this, Nat.mul_one, hfl] at hcells
            exact hcells
          have hloop := run_bytes (P := P) w (us.map b.g) ByteArray.empty
          rw [foldl_strOf] at hloop
          simp only [convert, Sem.run_bind, run_underlying hs, run_underlying ht, run_underlying he, Result.andThen_ok, Conv.bytesToString, hload]
          refine (congrArg (fun r : Result ByteArray => r.andThen fun a w' => Sem.run P (pure (Value.string a)) w') hloop).trans ?_
          simp only [Result.andThen_ok, Sem.run_pure]
          congr 2
          simp [strOf]
      · exfalso
        cases x with
        | raw u => simp [den] at hx; subst hx; simp [isStr] at hstr
        | h id =>
          unfold srcT srcL at hus
          simp only at hus
          split at hus
          · rename_i hid
            obtain ⟨_, _, he', _⟩ := flat_cell R hid hx
            cases he'
          · simp [Tr.ofOpt, Tr.get] at hus
        | ep id off => simp [den, Option.bind_eq_some_iff, Option.map_eq_some_iff] at hx
        | bs id off l c => simp [den, Option.bind_eq_some_iff, Option.map_eq_some_iff] at hx
        | el id i sz j => simp [den, Option.bind_eq_some_iff, Option.map_eq_some_iff] at hx
        | vs id sz off len cap =>
          simp only [den, Option.bind_eq_some_iff] at hx
          obtain ⟨u, _, hu⟩ := hx
          obtain ⟨_, _, _, e'⟩ := vsV_slice hu
          cases e'
        | agg cs => simp [den, Option.map_eq_some_iff] at hx
        | tup cs => simp [den, Option.map_eq_some_iff] at hx
        | fn f k cs => simp [den, Option.map_eq_some_iff] at hx
        | ifc t cs =>
          simp only [den, Option.bind_eq_some_iff] at hx
          obtain ⟨l, _, hx⟩ := hx
          obtain ⟨u, _, hx⟩ := ifcV_some hx
          cases hx
    · simp [Tr.get] at h
  · exact pConv_sound h hx
theorem base_of (R : Rel B X ρ hp n w) {id : Nat} {own full : Bool} {e : TypeId} {ts : List (C e).α} {v : Value} (hi : find id hp = some (.sl own full e ts)) (hv : ρ id = some v) : ∃ a c, v = .slice (some a) ts.length c ∧ ts.length ≤ c := by
  obtain ⟨a, c, rfl, h1, _⟩ := flat_cell R hi hv
  have hnn := R.nn id _ _ hi rfl hv
  cases a with
  | none => simp [nnV] at hnn
  | some a => exact ⟨a, c, rfl, h1⟩
theorem pArrAt_sound (R : Rel B X ρ hp n w) {arr : TypeId} {x r : SV} {v : Value} (h : (pArrAt P (fun i => find i hp) arr x).get = some r) (hx : den ρ x = some v) : PureOk P ρ w (Instr.arrayAt arr v) r := by
  unfold pArrAt at h
  split at h
  · rename_i m e0 ha
    have fin : ∀ {a : Option Addr} {l c : Nat}, m ≤ l → (Instr.arrayAt arr (.slice a l c)).run P w = .ok (.pointer a) w := fun {a l c} hml => by
      have : ¬ l < m := by omega
      simp [Instr.arrayAt, run_underlying ha, this]
    split at h
    · rename_i id
      split at h
      · rename_i own full e ts hid
        obtain ⟨hb, h⟩ := Tr.get_ask.1 h
        simp only [Bool.and_eq_true, decide_eq_true_eq] at hb
        simp only [Tr.get, Option.some.injEq] at h; subst h
        obtain ⟨a, c, rfl, _⟩ := base_of R hid hx
        exact ⟨_, fin hb.1, by simp only [den] at hx; simp [den, hx, baseOf, Addr.add_zero]⟩
      · simp [Tr.get] at h
    · rename_i id sz bs off len cap
      split at h
      · rename_i own full e ts hid
        split at h
        · rename_i hsz
          have hsz := Nat.eq_of_beq_eq_true hsz
          subst hsz
          obtain ⟨hb, h⟩ := Tr.get_ask.1 h
          simp only [Bool.and_eq_true, decide_eq_true_eq] at hb
          simp only [Tr.get, Option.some.injEq] at h; subst h
          obtain ⟨a, c, hv, hc, _, rfl, _⟩ := vs_den R hid hx
          exact ⟨_, fin hb.1, by rw [if_neg (by omega)]; simp [den, hv, baseOf]⟩
        · simp [Tr.get] at h
      · simp [Tr.get] at h
    · rename_i id off len cap
      obtain ⟨hb, h⟩ := Tr.get_ask.1 h
      have hb := of_decide_eq_true hb
      simp only [Tr.get, Option.some.injEq] at h; subst h
      simp only [den, Option.bind_eq_some_iff, Option.map_eq_some_iff] at hx
      obtain ⟨u, hu, a, ha', rfl⟩ := hx
      exact ⟨_, fin hb, by simp [den, hu, ha']⟩
    · simp [Tr.get] at h
  · simp [Tr.get] at h
end sound
end
end Go.Sx
/-
  The symbolic evaluator: maps whose keys are whole numbers. Own work; nothing here is trusted.
-/
namespace Go.Sx
noncomputable section
open Go.RowKit
variable {C : Tab} {P : Program}
def lkM {α : Type} : List (Int × α) → Int → Option α
  | [], _ => none
  | (j, a) :: r, i => match decide (i = j) with
    | true => some a
    | false => lkM r i
def insM {α : Type} : List (Int × α) → Int → α → List (Int × α)
  | [], i, a => [(i, a)]
  | (j, b) :: r, i, a => match decide (i = j) with
    | true => (i, a) :: r
    | false => (j, b) :: insM r i a
def mapT (P : Program) (t : TypeId) : Option (IntKind × TypeId) := match P.underlying t with
  | some (.map key elem) => match P.underlying key with
    | some (.int k) => some (k, elem)
    | _ => none
  | _ => none
theorem mapT_spec {t : TypeId} {k : IntKind} {e : TypeId} (h : mapT P t = some (k, e)) : ∃ key, P.underlying t = some (.map key e) ∧ P.underlying key = some (.int k) := by
  unfold mapT at h
  split at h
  · rename_i key elem h1
    split at h
    · rename_i k' h2; cases h; exact ⟨key, h1, h2⟩
    · cases h
  · cases h
def valS (c : Codec) (a : c.α) : SV := match c.ag with
  | true => .agg (rawL (c.enc a))
  | false => match c.enc a with
    | [v] => .raw v
    | _ => .raw undef
theorem valS_den {c : Codec} {a : c.α} {ρ : Asg} : den ρ (valS c a) = some (c.val a) := by
  unfold valS Codec.val
  cases h : c.ag with
  | true => simp only [den, denL_rawL, Option.map_some]
  | false =>
    have h1 := c.sg h
    have h2 := c.len a
    rw [h1] at h2
    match hx : c.enc a, h2 with
    | [v], _ => rfl
def pMakeMap (P : Program) (n : Nat) (t : TypeId) : Tr (Res C) := match mapT P t with
  | some (k, e) => .leaf (.h n, [(n, .mp k e [])])
  | none => .fail
def sameZ : Value → Value → Bool
  | .bool a, .bool b => a == b
  | .int j a, .int k b => match kindEq j k with
    | true => decide (a = b)
    | false => false
  | _, _ => false
theorem sameZ_eq {a b : Value} (h : sameZ a b = true) : a = b := by
  unfold sameZ at h
  split at h
  · rw [beq_iff_eq.1 h]
  · split at h
    · rename_i hk
      cases kindEq_eq hk
      rw [of_decide_eq_true h]
    · cases h
  · cases h
def lkOut (commaOk : Bool) (v : SV) (ok : Bool) : SV := match commaOk with
  | true => .tup [v, .raw (.bool ok)]
  | false => v
def lkGo (commaOk : Bool) (z : Value) (c : Codec) (m : List (Int × c.α)) (i : Int) : Tr (Res C) := match sameZ z (c.val c.d) with
  | true => .leaf (lkOut commaOk (valS c ((lkM m i).getD c.d)) (lkM m i).isSome, [])
  | false => .br (lkM m i).isSome (.leaf (lkOut commaOk (valS c ((lkM m i).getD c.d)) true, [])) (.leaf (lkOut commaOk (.raw z) false, []))
def pLookup (P : Program) (look : Nat → Option (SO C)) (t : TypeId) (x i : SV) (commaOk : Bool) : Tr (Res C) := match mapT P t with
  | some (k, e) => match zeroT P e with
    | some z => match i with
      | .raw (.int k' i) => match kindEq k' k with
        | true => match x with
          | .h id => match look id with
            | some (.mp k2 vt m) => match kindEq k2 k, Nat.beq vt e with
              | true, true => lkGo commaOk z (C vt) m i
              | _, _ => .fail
            | _ => .fail
          | .raw (.map none) => .leaf (lkOut commaOk (.raw z) false, [])
          | _ => .fail
        | false => .fail
      | _ => .fail
    | none => .fail
  | none => .fail
def pMapUpdate (P : Program) (look : Nat → Option (SO C)) (t : TypeId) (x i v : SV) : Tr (Res C) := match mapT P t with
  | some (k, e) => match i with
    | .raw (.int k' i) => match kindEq k' k with
      | true => match x with
        | .h id => match look id with
          | some (.mp k2 vt m) => match kindEq k2 k, Nat.beq vt e with
            | true, true => match (C vt).dec (cellsS v), Bool.and (isAggS v) (C vt).ag, Bool.or (isAggS v) (C vt).ag with
              | some a, true, _ => .leaf (.raw undef, [(id, .mp k2 vt (insM m i a))])
              | some a, _, false => .leaf (.raw undef, [(id, .mp k2 vt (insM m i a))])
              | _, _, _ => .fail
            | _, _ => .fail
          | _ => .fail
        | _ => .fail
      | false => .fail
    | _ => .fail
  | none => .fail
section sound
variable {B : World} {X : Own} {ρ : Asg} {hp : Hp C} {n : Nat} {w : World}
theorem pMakeMap_sound (R : Rel B X ρ hp n w) {t : TypeId} {r : Res C} (h : (pMakeMap P n t).get = some r) : NewOk P B X ρ hp n w (Instr.makeMap t none) r := by
  unfold pMakeMap at h
  split at h
  · rename_i k e ht
    simp only [Tr.get, Option.some.injEq] at h; subst h
    have R' := Rel.shift (n' := n + 4) (R.addNew (.map #[] 0) (o := .mp k e []) (v := .map (some w.heap.size)) rfl (fun g hg => by simp [blk] at hg; exact hg.symm)
      ⟨w.heap.size, #[], 0, rfl, .inl R.size, heap_alloc_new w _, rfl, stOk_nil 0⟩) (by omega)
    exact ⟨.map (some w.heap.size), _, _, by simp [Instr.makeMap], Asg.le_add ρ n _ (R.fresh n (Nat.le_refl _)), Asg.add_self ρ n _, R'⟩
  · simp [Tr.get] at h
theorem findNow_lk {α : Type} {k : IntKind} {f : α → Value} (i : Int) : ∀ (l : List MapEntry) (m : List (Int × α)) (j : Nat), l.map (fun e => (e.key, e.val)) = m.map (fun p => (Value.int k p.1, f p.2)) →
    (lkM m i = none ∧ Instr.findNow (.int k) (.int k i) l j = some none ∧ ∀ a : MapEntry, (l ++ [a]).map (fun e => (e.key, e.val)) = m.map (fun p => (Value.int k p.1, f p.2)) ++ [(a.key, a.val)]) ∨
    ∃ (a : α) (q : Nat) (e : MapEntry), lkM m i = some a ∧ Instr.findNow (.int k) (.int k i) l j = some (some (j + q, f a)) ∧ l[q]? = some (e : MapEntry) ∧ e.key = .int k i
  | [], [], j, _ => .inl ⟨rfl, rfl, fun a => rfl⟩
  | [], _ :: _, _, h => by simp at h
  | _ :: _, [], _, h => by simp at h
  | e :: l, (x, a) :: m, j, h => by
    simp only [List.map_cons, List.cons.injEq, Prod.mk.injEq] at h
    obtain ⟨⟨h1, h2⟩, h3⟩ := h
    by_cases hx : i = x
    · subst hx
      refine .inr ⟨a, 0, e, by simp [lkM], ?_, rfl, h1⟩
      simp [Instr.findNow, h1, Instr.sameNow, h2]
    · have hxb : (i == x) = false := beq_eq_false_iff_ne.2 hx
      rcases findNow_lk i l m (j + 1) h3 with ⟨g1, g2, g3⟩ | ⟨a', q, e', g1, g2, g3, g4⟩
      · refine .inl ⟨by simp [lkM, hx, g1], by simp [Instr.findNow, h1, Instr.sameNow, hxb, g2], fun b => ?_⟩
        simp only [List.cons_append, List.map_cons, List.cons.injEq]
        exact ⟨by rw [h1, h2], g3 b⟩
      · refine .inr ⟨a', q + 1, e', by simp [lkM, hx, g1], ?_, by simpa using g3, g4⟩
        simp [Instr.findNow, h1, Instr.sameNow, hxb, g2]; omega
theorem insM_none {α : Type} {i : Int} {a : α} : ∀ {m : List (Int × α)}, lkM m i = none → insM m i a = m ++ [(i, a)]
  | [], _ => rfl
  | (j, b) :: r, h => by
    unfold lkM at h
    split at h
    · cases h
    · rename_i hd
      simp only [insM, hd, List.cons_append, insM_none h]
theorem insM_some {α : Type} {k : IntKind} {f : α → Value} {i : Int} {a : α} {j q : Nat} : ∀ {l : List MapEntry} {m : List (Int × α)} {e : MapEntry} {v : Value}, l.map (fun e => (e.key, e.val)) = m.map (fun p => (Value.int k p.1, f p.2)) →
    Instr.findNow (.int k) (.int k i) l j = some (some (j + q, v)) → l[q]? = some e → e.key = .int k i → ∀ b : MapEntry, b.key = .int k i → b.val = f a → (l.set q b).map (fun e => (e.key, e.val)) = (insM m i a).map (fun p => (Value.int k p.1, f p.2))
  | [], _, _, _, _, h, _, _, _, _, _ => by simp [Instr.findNow] at h
  | _ :: _, [], _, _, h, _, _, _, _, _, _ => by simp at h
  | x :: l, (y, c) :: m, e, v, h, hf, he, hk, b, hb1, hb2 => by
    simp only [List.map_cons, List.cons.injEq, Prod.mk.injEq] at h
    obtain ⟨⟨h1, h2⟩, h3⟩ := h
    by_cases hy : i = y
    · subst hy
      simp [Instr.findNow, h1, Instr.sameNow] at hf
      have : q = 0 := by omega
      subst this
      simp [insM, hb1, hb2, h3]
    · have hyb : (i == y) = false := beq_eq_false_iff_ne.2 hy
      simp [Instr.findNow, h1, Instr.sameNow, hyb] at hf
      match q, he with
      | 0, he =>
        simp at he; subst he
        rw [h1] at hk; cases hk; exact absurd rfl hy
      | q + 1, he =>
        have := insM_some (j := j + 1) (q := q) (a := a) h3 (by rw [hf]; congr 3; omega) (by simpa using he) hk b hb1 hb2
        simp only [List.set_cons_succ, List.map_cons, insM, decide_eq_false hy, this, h1, h2]
theorem lkOut_den {commaOk : Bool} {v : SV} {u : Value} {ok : Bool} (h : den ρ v = some u) : den ρ (lkOut commaOk v ok) = some (if commaOk then .tuple #[u, .bool ok] else u) := by
  cases commaOk with
  | true => simp [lkOut, den, denL, h]
  | false => simpa [lkOut] using h
theorem pLookup_sound (R : Rel B X ρ hp n w) {t : TypeId} {x i : SV} {commaOk : Bool} {r : Res C} {vx vi : Value} (h : (pLookup P (fun i => find i hp) t x i commaOk).get = some r) (hx : den ρ x = some vx) (hi : den ρ i = some vi) :
    (∃ u, (Instr.lookup t vx vi commaOk).run P w = .ok u w ∧ den ρ r.1 = some u) ∧ r.2 = [] := by
  unfold pLookup at h
  split at h
  · rename_i k e ht
    obtain ⟨key, h1, h2⟩ := mapT_spec ht
    split at h
    · rename_i z hz
      have hz' := run_zeroValue hz w
      split at h
      · rename_i k' i'
        simp only [den, Option.some.injEq] at hi; subst hi
        split at h
        · rename_i hk; cases kindEq_eq hk
          have hck : ∀ em, (Instr.checkKey em 10000 key (.int k i')).run P w = .ok () w := fun em => MapKept.run_checkKey (P := P) (w := w) h2 (k := .int k i') (by simp [MapKept.IsKey]) em 9999
          split at h
          · rename_i id
            split at h
            · rename_i k2 vt m hid
              split at h
              · rename_i hk2 hvt
                cases kindEq_eq hk2; cases Nat.eq_of_beq_eq_true hvt
                obtain ⟨v', hv', g, es, clock, rfl, _, hheap, hes, _⟩ := R.obj id _ hid
                simp only [den] at hx; rw [hx] at hv'; cases hv'
                rcases findNow_lk (f := (C e).val) i' es.toList m 0 hes with ⟨g1, g2, _⟩ | ⟨a, q, en, g1, g2, _, _⟩
                · have hrun : (Instr.lookup t (.map (some g)) (.int k i') commaOk).run P w = .ok (if commaOk then .tuple #[z, .bool false] else z) w := by
                    simp [Instr.lookup, run_underlying h1, MapKept.run_getObj_map hheap, hck, MapKept.run_findKey h2 g2, hz', Result.andThen]
                  unfold lkGo at h
                  rw [g1] at h
                  split at h
                  · rename_i hzz
                    have hzz := sameZ_eq hzz
                    simp only [Tr.get, Option.some.injEq] at h; subst h
                    refine ⟨⟨_, hrun, ?_⟩, rfl⟩
                    simp only [Option.getD_none, Option.isSome_none]
                    rw [hzz]; exact lkOut_den valS_den
                  · simp only [Option.isSome_none, Tr.get, Option.some.injEq] at h; subst h
                    exact ⟨⟨_, hrun, lkOut_den rfl⟩, rfl⟩
                · have hrun : (Instr.lookup t (.map (some g)) (.int k i') commaOk).run P w = .ok (if commaOk then .tuple #[(C e).val a, .bool true] else (C e).val a) w := by
                    simp [Instr.lookup, run_underlying h1, MapKept.run_getObj_map hheap, hck, MapKept.run_findKey h2 g2, Result.andThen]
                  unfold lkGo at h
                  rw [g1] at h
                  split at h
                  · simp only [Tr.get, Option.some.injEq] at h; subst h
                    exact ⟨⟨_, hrun, lkOut_den valS_den⟩, rfl⟩
                  · simp only [Option.isSome_some, Tr.get, Option.some.injEq] at h; subst h
                    exact ⟨⟨_, hrun, lkOut_den valS_den⟩, rfl⟩
              · simp [Tr.get] at h
            · simp [Tr.get] at h
          · simp only [Tr.get, Option.some.injEq] at h; subst h
            simp only [den, Option.some.injEq] at hx; subst hx
            refine ⟨⟨_, ?_, lkOut_den rfl⟩, rfl⟩
            have g2 : Instr.findNow (.int k) (.int k i') [] 0 = some none := rfl
            simp [Instr.lookup, run_underlying h1, hck, MapKept.run_findKey h2 g2, hz', Result.andThen]
          · simp [Tr.get] at h
        · simp [Tr.get] at h
      · simp [Tr.get] at h
    · simp [Tr.get] at h
  · simp [Tr.get] at h
theorem insM_run (l : List MapEntry) (es : Array MapEntry) (q : Nat) (k v : Value) (hl : es.toList = l) : (es.modify q fun e => { e with key := k, val := v }).toList = match l[q]? with
    | some e => l.set q { e with key := k, val := v }
    | none => l := by
  subst hl
  rw [Array.toList_modify]
  cases h : es.toList[q]? with
  | none =>
    simp only
    have : es.toList.length ≤ q := List.getElem?_eq_none_iff.1 h
    rw [List.modify_eq_self this]
  | some e =>
    simp only
    rw [List.modify_eq_set, h]; rfl
theorem dec_val {c : Codec} {x : SV} {a : c.α} {v : Value} (hd : c.dec (cellsS x) = some a) (hg : (Bool.and (isAggS x) c.ag = true) ∨ Bool.or (isAggS x) c.ag = false) (hx : den ρ x = some v) : c.val a = v := by
  have hl := c.law _ _ hd
  unfold Codec.val
  rcases hg with hg | hg
  · have h1 : isAggS x = true := by cases h : isAggS x <;> simp_all
    have h2 : c.ag = true := by cases h : c.ag <;> simp_all
    rw [h2]
    unfold isAggS at h1
    split at h1
    · rename_i cs
      simp only [cellsS] at hl
      subst hl
      simp only [den, denL_rawL, Option.map_some, Option.some.injEq] at hx
      exact hx
    · rename_i b
      split at h1
      case h_2 => cases h1
      simp only [cellsS] at hl
      have e2 : ∀ {l l' : List Value}, rawL l = rawL l' → l = l' := by
        intro l
        induction l with
        | nil => intro l' h; cases l' with
          | nil => rfl
          | cons _ _ => simp [rawL] at h
        | cons y l ih => intro l' h; cases l' with
          | nil => simp [rawL] at h
          | cons z l' => simp only [rawL, List.cons.injEq, SV.raw.injEq] at h; rw [h.1, ih h.2]
      simp only [den, Option.some.injEq] at hx
      subst hx
      rw [← e2 hl]
    · cases h1
  · have h1 : isAggS x = false := by cases h : isAggS x <;> simp_all
    have h2 : c.ag = false := by cases h : c.ag <;> simp_all
    rw [h2]
    have h3 := c.sg h2
    have h4 := c.len a
    rw [h3] at h4
    match he : c.enc a, h4 with
    | [u], _ =>
      rw [he] at hl
      simp only [rawL] at hl
      simp only [List.headD_cons]
      cases x with
      | raw y =>
        have : cellsS (.raw y) = [.raw y] := by
          cases y <;> first | rfl | (simp [isAggS] at h1)
        rw [this] at hl
        cases hl
        simpa [den] using hx
      | agg cs => simp [isAggS] at h1
      | _ => simp [cellsS] at hl
theorem pMapUpdate_sound (R : Rel B X ρ hp n w) {t : TypeId} {x i v : SV} {r : Res C} {vx vi vv : Value} (h : (pMapUpdate P (fun i => find i hp) t x i v).get = some r) (hx : den ρ x = some vx) (hi : den ρ i = some vi) (hv : den ρ v = some vv) :
    r.1 = .raw undef ∧ ∃ w', (Instr.mapUpdate t vx vi vv).run P w = .ok () w' ∧ Rel B X ρ (r.2 ++ hp) n w' := by
  unfold pMapUpdate at h
  split at h
  · rename_i k e ht
    obtain ⟨key, h1, h2⟩ := mapT_spec ht
    split at h
    · rename_i k' i'
      simp only [den, Option.some.injEq] at hi; subst hi
      split at h
      · rename_i hk; cases kindEq_eq hk
        have hck : ∀ em, (Instr.checkKey em 10000 key (.int k i')).run P w = .ok () w := fun em => MapKept.run_checkKey (P := P) (w := w) h2 (k := .int k i') (by simp [MapKept.IsKey]) em 9999
        have hks : (Instr.keyThatStays (.int k i') (.int k i')).run P w = .ok (.int k i') w := MapKept.run_keyThatStays (d := .int k) (by simp [MapKept.IsKey])
        split at h
        · rename_i id
          split at h
          · rename_i k2 vt m hid
            split at h
            · rename_i hk2 hvt
              cases kindEq_eq hk2; cases Nat.eq_of_beq_eq_true hvt
              have fin : ∀ a : (C e).α, (C e).val a = vv → r = (.raw undef, [(id, .mp k e (insM m i' a))]) → r.1 = .raw undef ∧ ∃ w', (Instr.mapUpdate t vx (.int k i') vv).run P w = .ok () w' ∧ Rel B X ρ (r.2 ++ hp) n w' := fun a ha hr => by
                subst hr; subst ha
                refine ⟨rfl, ?_⟩
                obtain ⟨v', hv', g, es, clock, rfl, hokb, hheap, hes, hst⟩ := R.obj id _ hid
                have hv2 := hv'
                simp only [den] at hx; rw [hx] at hv'; cases hv'
                have upd : ∀ o : Obj, okObj ρ { w with heap := w.heap.setIfInBounds g o } (okB B X) (.map (some g)) (.mp k e (insM m i' a)) → Rel B X ρ ((id, .mp k e (insM m i' a)) :: hp) n { w with heap := w.heap.setIfInBounds g o } := fun o ho =>
                  R.set hid hv2 rfl rfl rfl rfl rfl (by simp) (fun b hb => by
                    have : b ≠ g := fun eq => hb (by rw [eq]; rfl)
                    exact (MapKept.heap_set hheap).2 b this) ho (fun g' hg' => by simp [blk] at hg'; subst hg'; exact hokb)
                rcases findNow_lk (f := (C e).val) i' es.toList m 0 hes with ⟨g1, g2, g3⟩ | ⟨b, q, en, g1, g2, g3, g4⟩
                · refine ⟨{ w with heap := w.heap.setIfInBounds g (.map (es.push { key := .int k i', val := (C e).val a, born := clock }) (clock + 1)) }, ?_, upd _ ?_⟩
                  · simp [Instr.mapUpdate, run_underlying h1, MapKept.run_getObj_map hheap, hck, MapKept.run_findKey h2 g2, MapKept.run_setObj_map _ hheap, Result.andThen]
                  · refine ⟨g, _, _, rfl, hokb, (MapKept.heap_set hheap).1, ?_, stOk_push hst _ _⟩
                    rw [insM_none g1, Array.toList_push, g3, List.map_append]; rfl
                · have hj : es[q]? = some en := by simpa using g3
                  rw [Nat.zero_add] at g2
                  refine ⟨{ w with heap := w.heap.setIfInBounds g (.map (es.modify q fun e' => { e' with key := .int k i', val := (C e).val a }) clock) }, ?_, upd _ ?_⟩
                  · simp [Instr.mapUpdate, run_underlying h1, MapKept.run_getObj_map hheap, hck, MapKept.run_findKey h2 g2, MapKept.run_setObj_map _ hheap, hj, g4, hks, Result.andThen]
                  · refine ⟨g, _, _, rfl, hokb, (MapKept.heap_set hheap).1, ?_, stOk_modify hst _ _ _⟩
                    rw [insM_run es.toList es q _ _ rfl, g3]
                    exact insM_some (j := 0) (q := q) hes (by rw [Nat.zero_add]; exact g2) g3 g4 _ rfl rfl
              split at h
              · rename_i a _ _ hd hg
                simp only [Tr.get, Option.some.injEq] at h
                exact fin _ (dec_val hd (.inl hg) hv) h.symm
              · rename_i a hd hg _
                simp only [Tr.get, Option.some.injEq] at h
                exact fin _ (dec_val hd (.inr hg) hv) h.symm
              · simp [Tr.get] at h
            · simp [Tr.get] at h
          · simp [Tr.get] at h
        · simp [Tr.get] at h
      · simp [Tr.get] at h
    · simp [Tr.get] at h
  · simp [Tr.get] at h
end sound
end
end Go.Sx
/-
  The symbolic evaluator: maps whose keys are whole numbers or arrays of such, of any values. Own work; nothing here is trusted.
-/
namespace Go.Sx
noncomputable section
open Go.RowKit
variable {C : Tab} {P : Program}
def mapK (P : Program) (t : TypeId) : Option (TypeId × IntKind × Bool × Nat × TypeId) := match P.underlying t with
  | some (.map key elem) => match P.underlying key with
    | some (.int k) => some (key, k, false, 1, elem)
    | some (.array len e) => match P.underlying e, szOf P e with
      | some (.int k), some 1 => some (key, k, true, len, elem)
      | _, _ => none
    | _ => none
  | _ => none
def intsK (k : IntKind) : List SV → Option (List Int)
  | [] => some []
  | x :: r => match x with
    | .raw (.int k' a) => match kindEq k' k with
      | true => match intsK k r with
        | some l => some (a :: l)
        | none => none
      | false => none
    | _ => none
def keyOf (k : IntKind) (ag : Bool) (len : Nat) (x : SV) : Option (List Int) := match ag with
  | false => match x with
    | .raw (.int k' a) => match kindEq k' k with
      | true => some [a]
      | false => none
    | _ => none
  | true => match isAggS x with
    | true => match intsK k (cellsS x) with
      | some l => match Nat.beq l.length len with
        | true => some l
        | false => none
      | none => none
    | false => none
def eqI : List Int → List Int → Bool
  | [], [] => true
  | a :: r, b :: s => decide (a = b) && eqI r s
  | _, _ => false
theorem eqI_eq : ∀ {a b : List Int}, eqI a b = true ↔ a = b
  | [], [] => by simp [eqI]
  | [], _ :: _ => by simp [eqI]
  | _ :: _, [] => by simp [eqI]
  | a :: r, b :: s => by simp [eqI, eqI_eq (a := r) (b := s)]
def newK (a : List Int) : List (List Int) → Bool
  | [] => true
  | k :: r => !eqI a k && newK a r
theorem newK_mem {a : List Int} : ∀ {ks : List (List Int)}, newK a ks = true → a ∉ ks
  | [], _ => by simp
  | k :: r, h => by
    simp only [newK, Bool.and_eq_true, Bool.not_eq_true'] at h
    have h1 : ¬ a = k := fun e => by rw [eqI_eq.2 e] at h; cases h.1
    simp [h1, newK_mem h.2]
def plainM (P : Program) (C : Tab) (e : TypeId) : Bool := match zeroT P e with
  | some z => match (C e).dec (cellsS (.raw z)) with
    | some _ => true
    | none => false
  | none => false
def pMakeMv (P : Program) (n : Nat) (t : TypeId) : Tr (Res C) := match mapK P t with
  | some (_, k, ag, len, _) => .leaf (.h n, [(n, .mv k ag len [] [] [] 0)])
  | none => .fail
def pMake (P : Program) (n : Nat) (t : TypeId) : Tr (Res C) := match mapT P t with
  | some (k, e) => match plainM P C e with
    | true => .leaf (.h n, [(n, .mp k e [])])
    | false => pMakeMv P n t
  | none => pMakeMv P n t
def lkT (a : List Int) (z : Value) (ok : Bool) : List (List Int) → List SV → Tr (Res C)
  | k :: ks, v :: vs => .br (eqI a k) (.leaf (lkOut ok v true, [])) (lkT a z ok ks vs)
  | _, _ => .leaf (lkOut ok (.raw z) false, [])
def pLook (P : Program) (look : Nat → Option (SO C)) (t : TypeId) (x i : SV) (ok : Bool) : Tr (Res C) := match x with
  | .h id => match look id with
    | some (.mv k ag len ks vs st ck) => match mapK P t with
      | some (_, k2, ag2, len2, e) => match kindEq k2 k && Nat.beq len2 len, ag2, ag, zeroT P e, keyOf k ag len i with
        | true, true, true, some z, some a => lkT a z ok ks vs
        | true, false, false, some z, some a => lkT a z ok ks vs
        | _, _, _, _, _ => .fail
      | none => .fail
    | some (.mx k ag len ks vs) => match mapK P t with
      | some (_, k2, ag2, len2, e) => match kindEq k2 k && Nat.beq len2 len, ag2, ag, zeroT P e, keyOf k ag len i with
        | true, true, true, some z, some a => lkT a z ok ks vs
        | true, false, false, some z, some a => lkT a z ok ks vs
        | _, _, _, _, _ => .fail
      | none => .fail
    | _ => pLookup P look t x i ok
  | x => pLookup P look t x i ok
def pUpdate (P : Program) (look : Nat → Option (SO C)) (t : TypeId) (x i v : SV) : Tr (Res C) := match x with
  | .h id => match look id with
    | some (.mv k ag len ks vs st ck) => match mapK P t with
      | some (_, k2, ag2, len2, _) => match kindEq k2 k && Nat.beq len2 len, ag2, ag, keyOf k ag len i with
        | true, true, true, some a => .br (newK a ks) (.leaf (.raw undef, [(id, .mv k ag len (ks ++ [a]) (vs ++ [v]) (st ++ [ck]) (ck + 1))])) .fail
        | true, false, false, some a => .br (newK a ks) (.leaf (.raw undef, [(id, .mv k ag len (ks ++ [a]) (vs ++ [v]) (st ++ [ck]) (ck + 1))])) .fail
        | _, _, _, _ => .fail
      | none => .fail
    | _ => pMapUpdate P look t x i v
  | x => pMapUpdate P look t x i v
structure KeyT (P : Program) (key : TypeId) (k : IntKind) (ag : Bool) (len : Nat) : Prop where
  int : ag = false → P.underlying key = some (.int k) ∧ len = 1
  arr : ag = true → ∃ e, P.underlying key = some (.array len e) ∧ P.underlying e = some (.int k) ∧ szOf P e = some 1
theorem mapK_spec {t key e : TypeId} {k : IntKind} {ag : Bool} {len : Nat} (h : mapK P t = some (key, k, ag, len, e)) : P.underlying t = some (.map key e) ∧ KeyT P key k ag len := by
  unfold mapK at h
  split at h
  · rename_i key elem ht
    split at h
    · rename_i hk
      cases h
      exact ⟨ht, ⟨fun _ => ⟨hk, rfl⟩, fun h => by cases h⟩⟩
    · rename_i hk
      split at h
      · rename_i he hz
        cases h
        exact ⟨ht, ⟨(fun h => by cases h), fun _ => ⟨_, hk, he, hz⟩⟩⟩
      · cases h
    · cases h
  · cases h
theorem intsK_spec {k : IntKind} {ρ : Asg} : ∀ {l : List SV} {a : List Int} {vs : List Value}, intsK k l = some a → denL ρ l = some vs → vs = a.map (Value.int k)
  | [], a, vs, h, hd => by cases h; exact denL_nil.1 hd
  | x :: r, a, vs, h, hd => by
    obtain ⟨u, l, h1, h2, rfl⟩ := denL_cons.1 hd
    unfold intsK at h
    split at h
    · split at h
      · rename_i hk
        split at h
        · rename_i l' hl
          cases h
          cases kindEq_eq hk
          simp only [den, Option.some.injEq] at h1
          subst h1
          rw [intsK_spec hl h2]; rfl
        · cases h
      · cases h
    · cases h
theorem keyOf_spec {k : IntKind} {ag : Bool} {len : Nat} {x : SV} {a : List Int} {ρ : Asg} {v : Value} (h : keyOf k ag len x = some a) (hone : ∀ i u, ρ i = some u → u.oneCell' = true) (hd : den ρ x = some v) (hl : ag = false → len = 1) : v = keyV k ag a ∧ a.length = len := by
  unfold keyOf at h
  split at h
  · split at h
    · split at h
      · rename_i hk
        cases h; cases kindEq_eq hk
        simp only [den, Option.some.injEq] at hd
        subst hd
        exact ⟨rfl, (hl rfl).symm⟩
      · cases h
    · cases h
  · split at h
    · rename_i hag
      split at h
      · rename_i l hl2
        split at h
        · rename_i hb
          cases h
          obtain ⟨c, rfl⟩ := is_agg hd hag
          have := intsK_spec hl2 (den_cells hd hone)
          refine ⟨?_, Nat.eq_of_beq_eq_true hb⟩
          simp only [keyV]
          rw [← this]; simp [Value.cells]
        · cases h
      · cases h
    · cases h
theorem keyV_inj {k : IntKind} {ag : Bool} {a b : List Int} (h : keyV k ag a = keyV k ag b) (ha : ag = false → a.length = 1) (hb : ag = false → b.length = 1) : a = b := by
  cases ag with
  | true =>
    simp only [keyV, Value.agg.injEq] at h
    exact (List.map_inj_right (f := Value.int k) (by intro x y h; cases h; rfl)).1 (congrArg Array.toList h)
  | false =>
    have ha := ha rfl
    have hb := hb rfl
    match a, b, ha, hb with
    | [x], [y], _, _ => simp only [keyV, List.headD_cons, Value.int.injEq, true_and] at h; rw [h]
section run
variable {w : World}
theorem eqAs_ints {e : TypeId} {k : IntKind} (d : Nat) (he : P.underlying e = some (.int k)) : ∀ (m i : Nat) (xs ys : List Int), xs.length = i + m → ys.length = i + m →
    ∃ b, eqAs (eqT P (d + 1) e) 1 m i (rawL (xs.map (Value.int k))) (rawL (ys.map (Value.int k))) = some b ∧ (b = true ↔ xs.drop i = ys.drop i)
  | 0, i, xs, ys, hx, hy => ⟨true, rfl, by rw [List.drop_eq_nil_of_le (by omega), List.drop_eq_nil_of_le (by omega)]; simp⟩
  | m + 1, i, xs, ys, hx, hy => by
    obtain ⟨b, h1, h2⟩ := eqAs_ints d he m (i + 1) xs ys (by omega) (by omega)
    have seg : ∀ zs : List Int, zs.length = i + (m + 1) → ∃ z, segS (rawL (zs.map (Value.int k))) (i * 1) 1 = some [.raw (.int k z)] ∧ zs.drop i = z :: zs.drop (i + 1) := fun zs hz => by
      have hlt : i < zs.length := by omega
      refine ⟨zs[i], ?_, List.drop_eq_getElem_cons hlt⟩
      have hr : ∀ l : List Int, rawL (l.map (Value.int k)) = l.map fun z => SV.raw (.int k z) := fun l => by
        induction l with
        | nil => rfl
        | cons z l ih => simp only [List.map_cons, rawL, ih]
      have hb : Nat.ble (i * 1 + 1) (rawL (zs.map (Value.int k))).length = true := by rw [rawL_length, List.length_map]; exact Nat.ble_eq_true_of_le (by omega)
      unfold segS
      rw [hb]
      simp only [Nat.mul_one, hr]
      rw [← List.map_drop, List.drop_eq_getElem_cons hlt]; rfl
    obtain ⟨x, sx, dx⟩ := seg xs hx
    obtain ⟨y, sy, dy⟩ := seg ys hy
    refine ⟨(x == y) && b, ?_, ?_⟩
    · have hq : eqT P (d + 1) e [.raw (.int k x)] [.raw (.int k y)] = some (x == y) := by
        unfold eqT
        rw [he]
        simp only
        have : kindEq k k = true := by cases k <;> rfl
        rw [this]
      simp only [eqAs, sx, sy, hq, h1]
    · rw [dx, dy, Bool.and_eq_true, beq_iff_eq, h2, List.cons.injEq]
theorem run_keyEq {key : TypeId} {k : IntKind} {len : Nat} (hk : KeyT P key k true len) {a b : List Int} (ha : a.length = len) (hb : b.length = len) : (Op.equal key (keyV k true a) (keyV k true b)).run P w = .ok (eqI a b) w := by
  obtain ⟨e, h1, h2, h3⟩ := hk.arr rfl
  obtain ⟨r, q1, q2⟩ := eqAs_ints (P := P) 9998 h2 len 0 a b (by omega) (by omega)
  have hq : eqT P 10000 key (rawL (a.map (Value.int k))) (rawL (b.map (Value.int k))) = some r := by
    show eqT P (9999 + 1) key _ _ = _
    unfold eqT
    rw [h1]
    simp only [h3]
    exact q1
  have hr : r = eqI a b := by
    rw [Bool.eq_iff_iff, q2, eqI_eq]; rfl
  obtain ⟨x, y, v1, v2, hrun⟩ := eqT_sound _ _ _ _ _ hq (fun _ => none) _ _ w (denL_rawL _) (denL_rawL _)
  have hag := aggT_of_array h1
  have ev : ∀ {l : List Value} {v : Value}, valOf P key l v → v = .agg l.toArray := fun {l v} h => by
    rcases h with ⟨_, h⟩ | ⟨h, _⟩
    · exact h
    · rw [hag] at h; cases h
  rw [ev v1, ev v2, hr] at hrun
  exact hrun
theorem run_checkKey_mv {key : TypeId} {k : IntKind} {ag : Bool} {len : Nat} (hk : KeyT P key k ag len) {a : List Int} (ha : a.length = len) (em : Bool) : (Instr.checkKey em 10000 key (keyV k ag a)).run P w = .ok () w := by
  cases ag with
  | false => exact MapKept.run_checkKey (P := P) (w := w) (hk.int rfl).1 (k := keyV k false a) (by simp [MapKept.IsKey, keyV]) em 9999
  | true =>
    obtain ⟨e, h1, h2, h3⟩ := hk.arr rfl
    have hag : aggT P e = some false := by simp [aggT, h2]
    have step : ∀ (m i : Nat), i + m = a.length → (forIn (List.range' i m) PUnit.unit (fun i (_ : PUnit) => do
        let v ← part e (a.map (Value.int k)).toArray (i * (← sizeOf e))
        Instr.checkKey em 9999 e v
        pure (ForInStep.yield PUnit.unit)) : Sem PUnit).run P w = .ok PUnit.unit w := fun m => by
      induction m with
      | zero => intro i _; simp
      | succ m ih =>
        intro i hi
        have hlt : i < a.length := by omega
        have hpart : (part e (a.map (Value.int k)).toArray (i * 1)).run P w = .ok (.int k a[i]) w := by
          unfold part
          rw [Sem.run_bind, run_isAgg hag]
          simp [hlt]
        have hck : (Instr.checkKey em 9999 e (.int k a[i])).run P w = .ok () w := MapKept.run_checkKey (P := P) (w := w) h2 (by simp [MapKept.IsKey]) em 9998
        rw [List.range'_succ, List.forIn_cons]
        simp only [Sem.run_bind, run_sizeOf h3, Result.andThen_ok, hpart, hck, Sem.run_pure]
        exact ih (i + 1) (by omega)
    have h0 := step len 0 (by omega)
    show (Instr.checkKey em (9999 + 1) key (keyV k true a)).run P w = _
    unfold Instr.checkKey
    simp only [Sem.run_bind, run_underlying h1, Result.andThen_ok, keyV]
    rw [Std.Legacy.Range.forIn_eq_forIn_range']
    simp only [Std.Legacy.Range.size, Nat.sub_zero, Nat.add_one_sub_one, Nat.div_one]
    first
      | exact h0
      | (rw [h0]; rfl)
      | simpa using h0
theorem find_run {key : TypeId} {k : IntKind} {ag : Bool} {len : Nat} (hk : KeyT P key k ag len) {a : List Int} (ha : a.length = len) (l : List MapEntry) (hl : ∀ e ∈ l, ∃ b : List Int, b.length = len ∧ e.key = keyV k ag b) :
    ∃ r, (Instr.findKey key (keyV k ag a) l).run P w = .ok r w ∧ (r = none → ∀ e ∈ l, e.key ≠ keyV k ag a) ∧ ∀ i v, r = some (i, v) → ∃ e ∈ l, e.key = keyV k ag a ∧ e.val = v := by
  cases ag with
  | false =>
    obtain ⟨hu, rfl⟩ := hk.int rfl
    have key1 : ∀ b : List Int, b.length = 1 → ∃ x, b = [x] := fun b hb => match b, hb with | [x], _ => ⟨x, rfl⟩
    obtain ⟨x, rfl⟩ := key1 a ha
    have go : ∀ (l : List MapEntry) (j : Nat), (∀ e ∈ l, ∃ b : List Int, b.length = 1 ∧ e.key = keyV k false b) → ∃ r, Instr.findNow (.int k) (.int k x) l j = some r ∧ (r = none → ∀ e ∈ l, e.key ≠ keyV k false [x]) ∧ ∀ i v, r = some (i, v) → ∃ e ∈ l, e.key = keyV k false [x] ∧ e.val = v := by
      intro l
      induction l with
      | nil => exact fun j _ => ⟨none, rfl, by simp, by simp⟩
      | cons e l ih =>
        intro j h
        obtain ⟨b, hb, he⟩ := h e List.mem_cons_self
        obtain ⟨y, rfl⟩ := key1 b hb
        simp only [keyV, List.headD_cons] at he
        by_cases hxy : x = y
        · subst hxy
          refine ⟨some (j, e.val), by simp [Instr.findNow, he, Instr.sameNow], by simp, fun i v h => ?_⟩
          simp only [Option.some.injEq, Prod.mk.injEq] at h
          exact ⟨e, List.mem_cons_self, by simpa [keyV] using he, h.2⟩
        · obtain ⟨r, r1, r2, r3⟩ := ih (j + 1) fun e he => h e (List.mem_cons_of_mem _ he)
          refine ⟨r, by simp [Instr.findNow, he, Instr.sameNow, beq_eq_false_iff_ne.2 hxy, r1], fun hr e' he' => ?_, fun i v hr => ?_⟩
          · rcases List.mem_cons.1 he' with rfl | he'
            · rw [he]; simp only [keyV, List.headD_cons]; intro h; cases h; exact hxy rfl
            · exact r2 hr e' he'
          · obtain ⟨e', m1, m2⟩ := r3 i v hr
            exact ⟨e', List.mem_cons_of_mem _ m1, m2⟩
    obtain ⟨r, r1, r2, r3⟩ := go l 0 hl
    exact ⟨r, MapKept.run_findKey hu r1, r2, r3⟩
  | true =>
    obtain ⟨e, h1, h2, h3⟩ := hk.arr rfl
    have go : ∀ (l : List MapEntry) (j : Nat), (∀ e ∈ l, ∃ b : List Int, b.length = len ∧ e.key = keyV k true b) → ∃ r, (Instr.findAsking key (keyV k true a) l j).run P w = .ok r w ∧ (r = none → ∀ e ∈ l, e.key ≠ keyV k true a) ∧ ∀ i v, r = some (i, v) → ∃ e ∈ l, e.key = keyV k true a ∧ e.val = v := by
      intro l
      induction l with
      | nil => exact fun j _ => ⟨none, rfl, by simp, by simp⟩
      | cons e l ih =>
        intro j h
        obtain ⟨b, hb, he⟩ := h e List.mem_cons_self
        have hq := run_keyEq (P := P) (w := w) hk ha hb
        unfold Instr.findAsking
        rw [Sem.run_bind, he, hq, Result.andThen_ok]
        cases hab : eqI a b with
        | true =>
          have := eqI_eq.1 hab
          subst this
          refine ⟨some (j, e.val), rfl, by simp, fun i v h => ?_⟩
          simp only [Option.some.injEq, Prod.mk.injEq] at h
          exact ⟨e, List.mem_cons_self, he, h.2⟩
        | false =>
          obtain ⟨r, r1, r2, r3⟩ := ih (j + 1) fun e he => h e (List.mem_cons_of_mem _ he)
          refine ⟨r, r1, fun hr e' he' => ?_, fun i v hr => ?_⟩
          · rcases List.mem_cons.1 he' with rfl | he'
            · rw [he]; intro h
              have := keyV_inj h (fun h => by cases h) (fun h => by cases h)
              rw [eqI_eq.2 this.symm] at hab; cases hab
            · exact r2 hr e' he'
          · obtain ⟨e', m1, m2⟩ := r3 i v hr
            exact ⟨e', List.mem_cons_of_mem _ m1, m2⟩
    obtain ⟨r, r1, r2, r3⟩ := go l 0 hl
    exact ⟨r, by rw [run_findKey_eq (P := P) w (by rw [h1]) _ _]; exact r1, r2, r3⟩
end run
section sound
variable {B : World} {X : Own} {ρ : Asg} {hp : Hp C} {n : Nat} {w : World}
theorem pMakeMv_sound (R : Rel B X ρ hp n w) {t : TypeId} {r : Res C} (h : (pMakeMv P n t).get = some r) : NewOk P B X ρ hp n w (Instr.makeMap t none) r := by
  unfold pMakeMv at h
  split at h
  · rename_i key k ag len e hm
    simp only [Tr.get, Option.some.injEq] at h; subst h
    obtain ⟨ht, hkt⟩ := mapK_spec hm
    refine ⟨.map (some w.heap.size), w.alloc (.map #[] 0), ρ.add n (.map (some w.heap.size)), by simp [Instr.makeMap, newObj, Sem.run, run_underlying ht], Asg.le_add ρ n _ (R.fresh n (Nat.le_refl _)), Asg.add_self ρ n _, ?_⟩
    · refine Rel.shift (R.addNew (.map #[] 0) (o := .mv k ag len [] [] [] 0) (v := .map (some w.heap.size)) rfl (fun g hg => by simp [blk] at hg; exact hg.symm)
        ⟨w.heap.size, #[], 0, [], rfl, .inl R.size, rfl, heap_alloc_new w _, rfl, List.nodup_nil, (fun l hl => by simp at hl), (fun h => (hkt.int h).2), mvOk.nil _ _ _⟩) (by omega)
  · simp [Tr.get] at h
theorem pMake_sound (R : Rel B X ρ hp n w) {t : TypeId} {r : Res C} (h : (pMake P n t).get = some r) : NewOk P B X ρ hp n w (Instr.makeMap t none) r := by
  unfold pMake at h
  split at h
  · rename_i k e hm
    split at h
    · exact pMakeMap_sound R (by unfold pMakeMap; rw [hm]; exact h)
    · exact pMakeMv_sound R h
  · exact pMakeMv_sound R h
theorem mv_keys {k : IntKind} {ag : Bool} {len : Nat} {ks : List (List Int)} {us : List Value} {es : List MapEntry} (hlen : ks.length = us.length) (hp : (es.map fun e => (e.key, e.val)).Perm ((ks.map (keyV k ag)).zip us)) (hl : ∀ l ∈ ks, l.length = len) :
    ∀ e ∈ es, ∃ b : List Int, b.length = len ∧ e.key = keyV k ag b := by
  intro e he
  have h1 : (e.key, e.val) ∈ (ks.map (keyV k ag)).zip us := hp.mem_iff.1 (List.mem_map.2 ⟨e, he, rfl⟩)
  obtain ⟨b, hb, hk⟩ := List.mem_map.1 (List.of_mem_zip h1).1
  exact ⟨b, hl b hb, hk.symm⟩
theorem lkT_spec {a : List Int} {z : Value} {ok : Bool} {k : IntKind} {ag : Bool} {ρ : Asg} {r : Res C} : ∀ {ks : List (List Int)} {vs : List SV} {us : List Value}, (lkT a z ok ks vs).get = some r → denL ρ vs = some us → ks.length = us.length →
    r.2 = [] ∧ ((a ∉ ks ∧ r.1 = lkOut ok (.raw z) false) ∨ ∃ sv u, den ρ sv = some u ∧ (keyV k ag a, u) ∈ (ks.map (keyV k ag)).zip us ∧ r.1 = lkOut ok sv true)
  | [], vs, us, h, hd, hl => by
    simp only [lkT, Tr.get, Option.some.injEq] at h; subst h
    exact ⟨rfl, .inl ⟨by simp, rfl⟩⟩
  | k0 :: ks, [], us, h, hd, hl => by
    rw [denL_nil.1 hd] at hl; simp at hl
  | k0 :: ks, v :: vs, us, h, hd, hl => by
    obtain ⟨u, l, h1, h2, rfl⟩ := denL_cons.1 hd
    unfold lkT at h
    rcases Tr.get_br.1 h with ⟨hb, h⟩ | ⟨hb, h⟩
    · simp only [Tr.get, Option.some.injEq] at h; subst h
      have := eqI_eq.1 hb
      subst this
      exact ⟨rfl, .inr ⟨v, u, h1, by simp, rfl⟩⟩
    · obtain ⟨g1, g2⟩ := lkT_spec h h2 (by simpa using hl)
      refine ⟨g1, ?_⟩
      rcases g2 with ⟨g2, g3⟩ | ⟨sv, u', g2, g3, g4⟩
      · refine .inl ⟨fun hm => ?_, g3⟩
        rcases List.mem_cons.1 hm with rfl | hm
        · rw [eqI_eq.2 rfl] at hb; cases hb
        · exact g2 hm
      · exact .inr ⟨sv, u', g2, List.mem_cons_of_mem _ g3, g4⟩
theorem zip_unique {k : IntKind} {ag : Bool} {K u v : Value} : ∀ {ks : List (List Int)} {us : List Value}, ks.Nodup → (ag = false → ∀ l ∈ ks, l.length = 1) → (K, u) ∈ (ks.map (keyV k ag)).zip us → (K, v) ∈ (ks.map (keyV k ag)).zip us → u = v
  | [], us, _, _, hu, _ => by simp at hu
  | _ :: _, [], _, _, hu, _ => by simp at hu
  | k0 :: ks, u0 :: us, hn, h1, hu, hv => by
    rw [List.map_cons, List.zip_cons_cons] at hu hv
    have hn' := List.nodup_cons.1 hn
    have no : ∀ x, (keyV k ag k0, x) ∉ (ks.map (keyV k ag)).zip us := fun x hx => by
      obtain ⟨b, hb, hk⟩ := List.mem_map.1 (List.of_mem_zip hx).1
      have := keyV_inj hk (fun e => h1 e b (List.mem_cons_of_mem _ hb)) (fun e => h1 e k0 List.mem_cons_self)
      subst this
      exact hn'.1 hb
    rcases List.mem_cons.1 hu with pu | pu <;> rcases List.mem_cons.1 hv with pv | pv
    · cases pu; cases pv; rfl
    · cases pu; exact absurd pv (no _)
    · cases pv; exact absurd pu (no _)
    · exact zip_unique hn'.2 (fun e l hl => h1 e l (List.mem_cons_of_mem _ hl)) pu pv
theorem pLook_sound (R : Rel B X ρ hp n w) {t : TypeId} {x i : SV} {commaOk : Bool} {r : Res C} {vx vi : Value} (h : (pLook P (fun i => find i hp) t x i commaOk).get = some r) (hx : den ρ x = some vx) (hi : den ρ i = some vi) :
    (∃ u, (Instr.lookup t vx vi commaOk).run P w = .ok u w ∧ den ρ r.1 = some u) ∧ r.2 = [] := by
  unfold pLook at h
  split at h
  · rename_i id
    split at h
    · rename_i k ag len ks vs st ck hid
      split at h
      · rename_i key k2 ag2 len2 e hm
        obtain ⟨ht, hkt⟩ := mapK_spec hm
        have fin : ∀ z a, (kindEq k2 k && Nat.beq len2 len) = true → ag2 = ag → zeroT P e = some z → keyOf k ag len i = some a → (lkT (C := C) a z commaOk ks vs).get = some r → (∃ u, (Instr.lookup t vx vi commaOk).run P w = .ok u w ∧ den ρ r.1 = some u) ∧ r.2 = [] := fun z a hke hag hz ha hr => by
          rw [Bool.and_eq_true] at hke
          cases kindEq_eq hke.1; cases Nat.eq_of_beq_eq_true hke.2; subst hag
          obtain ⟨v', hv', g, es, clock, us, rfl, _, hus, hheap, hlen, hnd, hkl, hag1, hmv⟩ := R.obj id _ hid
          have hperm := hmv.perm
          simp only [den] at hx; rw [hx] at hv'; cases hv'
          obtain ⟨rfl, hal⟩ := keyOf_spec ha R.one hi hag1
          obtain ⟨q, q1, q2, q3⟩ := find_run (P := P) (w := w) hkt hal es.toList (mv_keys hlen hperm hkl)
          have hck := run_checkKey_mv (P := P) (w := w) hkt hal
          obtain ⟨g1, g2⟩ := lkT_spec (k := k) (ag := ag2) hr hus hlen
          refine ⟨?_, g1⟩
          rcases g2 with ⟨g2, g3⟩ | ⟨sv, u, g2, g3, g4⟩
          · have hq : q = none := by
              cases q with
              | none => rfl
              | some p =>
                obtain ⟨e', m1, m2, _⟩ := q3 p.1 p.2 rfl
                obtain ⟨b, hb, hk⟩ := mv_keys hlen hperm hkl e' m1
                have h1 : (e'.key, e'.val) ∈ (ks.map (keyV k ag2)).zip us := hperm.mem_iff.1 (List.mem_map.2 ⟨e', m1, rfl⟩)
                obtain ⟨b2, hb2, hk2⟩ := List.mem_map.1 (List.of_mem_zip h1).1
                have := keyV_inj (hk2.trans m2) (fun e => by rw [hkl b2 hb2, hag1 e]) (fun e => by rw [hal, hag1 e])
                subst this
                exact absurd hb2 g2
            subst hq
            refine ⟨_, ?_, by rw [g3]; exact lkOut_den rfl⟩
            simp [Instr.lookup, run_underlying ht, MapKept.run_getObj_map hheap, hck, q1, run_zeroValue hz, Result.andThen]
          · obtain ⟨e0, m0, hke0⟩ : ∃ e0 ∈ es.toList, (e0.key, e0.val) = (keyV k ag2 a, u) := List.mem_map.1 (hperm.mem_iff.2 g3)
            simp only [Prod.mk.injEq] at hke0
            cases q with
            | none => exact absurd hke0.1 (q2 rfl e0 m0)
            | some p =>
              obtain ⟨i0, v0⟩ := p
              obtain ⟨e', m1, m2, m3⟩ := q3 i0 v0 rfl
              have h1 : (e'.key, e'.val) ∈ (ks.map (keyV k ag2)).zip us := hperm.mem_iff.1 (List.mem_map.2 ⟨e', m1, rfl⟩)
              rw [m2, m3] at h1
              have := zip_unique hnd (fun e l hl => by rw [hkl l hl, hag1 e]) h1 g3
              subst this
              refine ⟨_, ?_, by rw [g4]; exact lkOut_den g2⟩
              simp [Instr.lookup, run_underlying ht, MapKept.run_getObj_map hheap, hck, q1, Result.andThen]
        split at h
        · rename_i z a hke hz ha
          exact fin z a hke rfl hz ha h
        · rename_i z a hke hz ha
          exact fin z a hke rfl hz ha h
        · simp [Tr.get] at h
      · simp [Tr.get] at h
    · rename_i k ag len ks vs hid
      split at h
      · rename_i key k2 ag2 len2 e hm
        obtain ⟨ht, hkt⟩ := mapK_spec hm
        have fin : ∀ z a, (kindEq k2 k && Nat.beq len2 len) = true → ag2 = ag → zeroT P e = some z → keyOf k ag len i = some a → (lkT (C := C) a z commaOk ks vs).get = some r → (∃ u, (Instr.lookup t vx vi commaOk).run P w = .ok u w ∧ den ρ r.1 = some u) ∧ r.2 = [] := fun z a hke hag hz ha hr => by
          rw [Bool.and_eq_true] at hke
          cases kindEq_eq hke.1; cases Nat.eq_of_beq_eq_true hke.2; subst hag
          obtain ⟨v', hv', g, es, clock, us, rfl, _, hus, hheap, hlen, hnd, hkl, hag1, hperm⟩ := R.obj id _ hid
          simp only [den] at hx; rw [hx] at hv'; cases hv'
          obtain ⟨rfl, hal⟩ := keyOf_spec ha R.one hi hag1
          obtain ⟨q, q1, q2, q3⟩ := find_run (P := P) (w := w) hkt hal es.toList (mv_keys hlen hperm hkl)
          have hck := run_checkKey_mv (P := P) (w := w) hkt hal
          obtain ⟨g1, g2⟩ := lkT_spec (k := k) (ag := ag2) hr hus hlen
          refine ⟨?_, g1⟩
          rcases g2 with ⟨g2, g3⟩ | ⟨sv, u, g2, g3, g4⟩
          · have hq : q = none := by
              cases q with
              | none => rfl
              | some p =>
                obtain ⟨e', m1, m2, _⟩ := q3 p.1 p.2 rfl
                obtain ⟨b, hb, hk⟩ := mv_keys hlen hperm hkl e' m1
                have h1 : (e'.key, e'.val) ∈ (ks.map (keyV k ag2)).zip us := hperm.mem_iff.1 (List.mem_map.2 ⟨e', m1, rfl⟩)
                obtain ⟨b2, hb2, hk2⟩ := List.mem_map.1 (List.of_mem_zip h1).1
                have := keyV_inj (hk2.trans m2) (fun e => by rw [hkl b2 hb2, hag1 e]) (fun e => by rw [hal, hag1 e])
                subst this
                exact absurd hb2 g2
            subst hq
            refine ⟨_, ?_, by rw [g3]; exact lkOut_den rfl⟩
            simp [Instr.lookup, run_underlying ht, MapKept.run_getObj_map hheap, hck, q1, run_zeroValue hz, Result.andThen]
          · obtain ⟨e0, m0, hke0⟩ : ∃ e0 ∈ es.toList, (e0.key, e0.val) = (keyV k ag2 a, u) := List.mem_map.1 (hperm.mem_iff.2 g3)
            simp only [Prod.mk.injEq] at hke0
            cases q with
            | none => exact absurd hke0.1 (q2 rfl e0 m0)
            | some p =>
              obtain ⟨i0, v0⟩ := p
              obtain ⟨e', m1, m2, m3⟩ := q3 i0 v0 rfl
              have h1 : (e'.key, e'.val) ∈ (ks.map (keyV k ag2)).zip us := hperm.mem_iff.1 (List.mem_map.2 ⟨e', m1, rfl⟩)
              rw [m2, m3] at h1
              have := zip_unique hnd (fun e l hl => by rw [hkl l hl, hag1 e]) h1 g3
              subst this
              refine ⟨_, ?_, by rw [g4]; exact lkOut_den g2⟩
              simp [Instr.lookup, run_underlying ht, MapKept.run_getObj_map hheap, hck, q1, Result.andThen]
        split at h
        · rename_i z a hke hz ha
          exact fin z a hke rfl hz ha h
        · rename_i z a hke hz ha
          exact fin z a hke rfl hz ha h
        · simp [Tr.get] at h
      · simp [Tr.get] at h
    · exact pLookup_sound R h hx hi
  · exact pLookup_sound R h hx hi
theorem zip_append_one {k : IntKind} {ag : Bool} {ks : List (List Int)} {us : List Value} {a : List Int} {u : Value} (hl : ks.length = us.length) : ((ks ++ [a]).map (keyV k ag)).zip (us ++ [u]) = (ks.map (keyV k ag)).zip us ++ [(keyV k ag a, u)] := by
  rw [List.map_append, List.zip_append (by simpa using hl)]; rfl
theorem pUpdate_sound (R : Rel B X ρ hp n w) {t : TypeId} {x i v : SV} {r : Res C} {vx vi vv : Value} (h : (pUpdate P (fun i => find i hp) t x i v).get = some r) (hx : den ρ x = some vx) (hi : den ρ i = some vi) (hv : den ρ v = some vv) :
    r.1 = .raw undef ∧ ∃ w', (Instr.mapUpdate t vx vi vv).run P w = .ok () w' ∧ Rel B X ρ (r.2 ++ hp) n w' := by
  unfold pUpdate at h
  split at h
  · rename_i id
    split at h
    · rename_i k ag len ks vs st ck hid
      split at h
      · rename_i key k2 ag2 len2 e hm
        obtain ⟨ht, hkt⟩ := mapK_spec hm
        have fin : ∀ a, (kindEq k2 k && Nat.beq len2 len) = true → ag2 = ag → keyOf k ag len i = some a → newK a ks = true → r = (.raw undef, [(id, .mv k ag len (ks ++ [a]) (vs ++ [v]) (st ++ [ck]) (ck + 1))]) → r.1 = .raw undef ∧ ∃ w', (Instr.mapUpdate t vx vi vv).run P w = .ok () w' ∧ Rel B X ρ (r.2 ++ hp) n w' := fun a hke hag ha hnew hr => by
          subst hr
          refine ⟨rfl, ?_⟩
          rw [Bool.and_eq_true] at hke
          cases kindEq_eq hke.1; cases Nat.eq_of_beq_eq_true hke.2; subst hag
          obtain ⟨v', hv', g, es, clock, us, rfl, hokb, hus, hheap, hlen, hnd, hkl, hag1, hmv⟩ := R.obj id _ hid
          have hperm := hmv.perm
          have hv2 := hv'
          simp only [den] at hx; rw [hx] at hv'; cases hv'
          obtain ⟨rfl, hal⟩ := keyOf_spec ha R.one hi hag1
          obtain ⟨q, q1, q2, q3⟩ := find_run (P := P) (w := w) hkt hal es.toList (mv_keys hlen hperm hkl)
          have hck := run_checkKey_mv (P := P) (w := w) hkt hal
          have hq : q = none := by
            cases q with
            | none => rfl
            | some p =>
              obtain ⟨e', m1, m2, _⟩ := q3 p.1 p.2 rfl
              have h1 : (e'.key, e'.val) ∈ (ks.map (keyV k ag2)).zip us := hperm.mem_iff.1 (List.mem_map.2 ⟨e', m1, rfl⟩)
              obtain ⟨b2, hb2, hk2⟩ := List.mem_map.1 (List.of_mem_zip h1).1
              have := keyV_inj (hk2.trans m2) (fun e => by rw [hkl b2 hb2, hag1 e]) (fun e => by rw [hal, hag1 e])
              subst this
              exact absurd hb2 (newK_mem hnew)
          subst hq
          refine ⟨{ w with heap := w.heap.setIfInBounds g (.map (es.push { key := keyV k ag2 a, val := vv, born := clock }) (clock + 1)) }, ?_, ?_⟩
          · simp [Instr.mapUpdate, run_underlying ht, MapKept.run_getObj_map hheap, hck, q1, MapKept.run_setObj_map _ hheap, Result.andThen]
          · refine R.set hid hv2 rfl rfl rfl rfl rfl (by simp) (fun b hb => ?_) ⟨g, _, _, us ++ [vv], rfl, hokb, denL_append hus (denL_one hv), (MapKept.heap_set hheap).1, by simp [hlen], ?_, ?_, hag1, ?_⟩ (fun g' hg' => by simp [blk] at hg'; subst hg'; exact hokb)
            · have : b ≠ g := fun eq => hb (by rw [eq]; rfl)
              exact (MapKept.heap_set hheap).2 b this
            · rw [List.nodup_append]
              exact ⟨hnd, by simp, fun x hx y hy => by simp at hy; subst hy; exact fun e => newK_mem hnew (e ▸ hx)⟩
            · intro l hl
              rcases List.mem_append.1 hl with hl | hl
              · exact hkl l hl
              · simp at hl; subst hl; exact hal
            · refine ⟨?_, ?_, by rw [hmv.clock], ?_, fun b hb => ?_⟩
              · rw [zip_append_one hlen, Array.toList_push, List.map_append, hmv.pairs]; rfl
              · rw [Array.toList_push, List.map_append, hmv.born, hmv.clock]; rfl
              · rw [List.nodup_append]
                exact ⟨hmv.apart, by simp, fun x hx y hy => by simp at hy; subst hy; exact Nat.ne_of_lt (hmv.below x hx)⟩
              · rcases List.mem_append.1 hb with hb | hb
                · exact Nat.lt_succ_of_lt (hmv.below b hb)
                · simp at hb; subst hb; exact Nat.lt_succ_self _
        split at h
        · rename_i a hke ha
          obtain ⟨hb, h⟩ := Tr.get_ask.1 h
          simp only [Tr.get, Option.some.injEq] at h
          exact fin a hke rfl ha hb h.symm
        · rename_i a hke ha
          obtain ⟨hb, h⟩ := Tr.get_ask.1 h
          simp only [Tr.get, Option.some.injEq] at h
          exact fin a hke rfl ha hb h.symm
        · simp [Tr.get] at h
      · simp [Tr.get] at h
    · exact pMapUpdate_sound R h hx hi hv
  · exact pMapUpdate_sound R h hx hi hv
end sound
end
end Go.Sx
/-
  The symbolic evaluator: rows whose elements hold slices: what is read of them. Own work; nothing here is trusted.
-/
set_option linter.unusedVariables false
namespace Go.Sx
noncomputable section
open Go.RowKit
variable {C : Tab} {P : Program}
def ssD (c : Codec) {β : Type} : c.α × Option (Addr × Nat) × List β := (c.d, none, [])
def isNo (o : Option (Addr × Nat)) : Bool := match o with
  | none => true
  | some (_, c) => Nat.beq c 0
def adO (o : Option (Addr × Nat)) : Option Addr := match o with
  | none => none
  | some (a, _) => some a
def loadSs (P : Program) (look : Nat → Option (SO C)) (n : Nat) (t : TypeId) (id i sz j : Nat) : Tr (Res C) := match look id, szOf P t with
  | some (.ss e pos it ts), some k => match Nat.beq sz (C e).sz with
    | true => .br (decide (i < ts.length)) (match segS (rawL ((C e).enc (ts.getD i (ssD (C e))).1)) j k with
      | some l => match Nat.ble j pos, Nat.blt pos (j + k) with
        | true, true => .br (isNo (ts.getD i (ssD (C e))).2.1) ((mkV P t (l.set (pos - j) (.raw (.slice (adO (ts.getD i (ssD (C e))).2.1) 0 0)))).bind fun v => .leaf (v, []))
            ((mkV P t (l.set (pos - j) (.h n))).bind fun v => .leaf (v, [(n, .sl false false it (ts.getD i (ssD (C e))).2.2)]))
        | _, _ => (mkV P t l).bind fun v => .leaf (v, [])
      | none => .fail) .fail
    | false => .fail
  | _, _ => .fail
def pLoadS (P : Program) (look : Nat → Option (SO C)) (n : Nat) (t : TypeId) (ad : SV) : Tr (Res C) := match ad with
  | .el id i sz j => match look id with
    | some (.ss _ _ _ _) => loadSs P look n t id i sz j
    | _ => pLoad P look t (.el id i sz j)
  | ad => pLoad P look t ad
theorem ssFlat_get (c : Codec) {β : Type} (pos : Nat) : ∀ (ts : List (c.α × Option (Addr × Nat) × List β)) (i m : Nat), i < ts.length → m < c.sz → (ssFlat c pos ts)[i * c.sz + m]? = (ssCells c pos (ts.getD i (ssD c)))[m]?
  | [], i, m, h, _ => by simp at h
  | t :: r, 0, m, _, hm => by
    show (ssCells c pos t ++ ssFlat c pos r)[0 * c.sz + m]? = (ssCells c pos t)[m]?
    rw [Nat.zero_mul, Nat.zero_add, List.getElem?_append_left (by simp [ssCells, c.len]; exact hm)]
  | t :: r, i + 1, m, h, hm => by
    show (ssCells c pos t ++ ssFlat c pos r)[(i + 1) * c.sz + m]? = (ssCells c pos (r.getD i (ssD c)))[m]?
    have hl : (ssCells c pos t).length = c.sz := by simp [ssCells, c.len]
    rw [List.getElem?_append_right (by rw [hl, Nat.add_mul]; omega), hl, show (i + 1) * c.sz + m - c.sz = i * c.sz + m by rw [Nat.add_mul]; omega]
    exact ssFlat_get c pos r i m (by simpa using h) hm
theorem denL_set {ρ : Asg} : ∀ {l : List SV} {vs : List Value} {x : SV} {u : Value} (i : Nat), denL ρ l = some vs → den ρ x = some u → denL ρ (l.set i x) = some (vs.set i u)
  | [], vs, x, u, i, h, _ => by rw [denL_nil.1 h]; rfl
  | y :: r, vs, x, u, 0, h, hx => by
    obtain ⟨a, l, h1, h2, rfl⟩ := denL_cons.1 h
    exact denL_cons.2 ⟨u, l, hx, h2, rfl⟩
  | y :: r, vs, x, u, i + 1, h, hx => by
    obtain ⟨a, l, h1, h2, rfl⟩ := denL_cons.1 h
    exact denL_cons.2 ⟨a, l.set i u, h1, denL_set i h2 hx, rfl⟩
theorem seg_in {α : Type} (l : List α) (x : α) {pos j k : Nat} (h1 : j ≤ pos) (h2 : pos < j + k) : (((l.drop j).take k).set (pos - j) x) = ((l.set pos x).drop j).take k := by
  apply List.ext_getElem?
  intro m
  rw [List.getElem?_set, List.getElem?_take, List.getElem?_take, List.getElem?_drop, List.getElem?_drop, List.getElem?_set]
  by_cases hm : m < k
  · rw [if_pos hm, if_pos hm]
    by_cases he : pos - j = m
    · have he' : pos = j + m := by omega
      rw [if_pos he, if_pos he']
      simp only [List.length_take, List.length_drop]
      by_cases hl : j + m < l.length
      · rw [if_pos (by omega), if_pos (by omega)]
      · rw [if_neg (by omega), if_neg (by omega)]
    · rw [if_neg he, if_neg (show ¬ pos = j + m by omega)]
  · rw [if_neg hm, if_neg hm, if_neg (by omega)]
theorem seg_out {α : Type} (l : List α) (x : α) {pos j k : Nat} (h : ¬ (j ≤ pos ∧ pos < j + k)) : ((l.set pos x).drop j).take k = (l.drop j).take k := by
  apply List.ext_getElem?
  intro m
  rw [List.getElem?_take, List.getElem?_take, List.getElem?_drop, List.getElem?_drop, List.getElem?_set]
  by_cases hm : m < k
  · rw [if_pos hm, if_pos hm, if_neg (by omega)]
  · rw [if_neg hm, if_neg hm]
section sound
variable {B : World} {X : Own} {ρ : Asg} {hp : Hp C} {n : Nat} {w : World}
theorem ss_cell (R : Rel B X ρ hp n w) {id : Nat} {e it : TypeId} {pos : Nat} {ts : List ((C e).α × Option (Addr × Nat) × List (C it).α)} {v : Value} (hid : find id hp = some (.ss e pos it ts)) (hv : ρ id = some v) :
    ∃ a cap, v = .slice a ts.length cap ∧ ts.length ≤ cap ∧ ∀ j x, (ssFlat (C e) pos ts)[j]? = some x → ∃ a', a = some a' ∧ w.cell? (a'.add j) = some x := by
  obtain ⟨v', hv', a, cap, rfl, hc1, hc3⟩ := R.obj id _ hid
  rw [hv] at hv'; cases hv'
  exact ⟨a, cap, rfl, hc1, hc3⟩
theorem Rel.inner (R : Rel B X ρ hp n w) {it : TypeId} {a : Addr} {cap : Nat} {us : List (C it).α} (hl : us.length ≤ cap) (hf : X.fz a.block) (hc : ∀ j x, ((C it).flat us)[j]? = some x → B.cell? (a.add j) = some x) :
    Rel B X (ρ.add n (.slice (some a) us.length cap)) ((n, .sl false false it us) :: hp) (n + 1) w := by
  obtain ⟨h1, h2⟩ := R.fzHeap hf
  refine R.add rfl ⟨some a, cap, rfl, hl, nofun, fun j x hj => ⟨a, rfl, ?_⟩⟩ (fun g hg => by simp [blk] at hg; subst hg; exact Nat.lt_of_lt_of_le h1 R.size) (fun j oj vj g hj hlj hvj hgj hg => ?_) (fun g hg => by simp [blk] at hg; subst hg; exact .inr (.inr (.inr hf))) (fun _ => rfl)
  · rw [World.cell?_of_block (w := B) (a := a.add j) (by rw [Addr.add_block]; exact h2)]
    exact hc j x hj
  · simp [blk] at hg
    subst hg
    refine ⟨rfl, ?_⟩
    cases ho : oj.owns with
    | false => rfl
    | true => exact absurd (R.okOwn hj ho hvj hgj) (R.frz _ hf)
theorem loadSs_sound (R : Rel B X ρ hp n w) {t : TypeId} {id i sz j : Nat} {r : Res C} (h : (loadSs P (fun i => find i hp) n t id i sz j).get = some r) {v : Value} (hv : den ρ (.el id i sz j) = some v) : NewOk P B X ρ hp n w (Instr.loadAt t v) r := by
  have fin : ∀ {a : Addr} {u : Value}, (loadVar t a).run P w = .ok u w → (Instr.loadAt t (.pointer (some a))).run P w = .ok u w := fun {a u} h => by
    simp [Instr.loadAt, Instr.sureAddr, h]
  simp only [den, Option.bind_eq_some_iff, Option.map_eq_some_iff] at hv
  obtain ⟨v0, hv0, a0, ha0, rfl⟩ := hv
  unfold loadSs at h
  split at h
  · rename_i e pos it ts k hid hk
    split at h
    · rename_i hsz
      have hsz := Nat.eq_of_beq_eq_true hsz
      subst hsz
      obtain ⟨hb, h⟩ := Tr.get_ask.1 h
      have hlt : i < ts.length := by simpa using hb
      obtain ⟨a, cap, rfl, _, hcell⟩ := ss_cell R hid hv0
      have ha : a = some a0 := by
        cases a with
        | none => simp [baseOf] at ha0
        | some a => simp [baseOf] at ha0; rw [ha0]
      subst ha
      have hcell : ∀ m x, m < (C e).sz → (ssCells (C e) pos (ts.getD i (ssD (C e))))[m]? = some x → w.cell? (a0.add (i * (C e).sz + m)) = some x := fun m x hm hx => by
        rw [← ssFlat_get (C e) pos ts i m hlt hm] at hx
        obtain ⟨a', ha', hc⟩ := hcell _ x hx
        cases ha'; exact hc
      have hmem : ts.getD i (ssD (C e)) ∈ ts := by
        rw [List.getD_eq_getElem?_getD, List.getElem?_eq_getElem hlt]; exact List.getElem_mem hlt
      have hin := R.inn id _ hid _ hmem
      generalize ts.getD i (ssD (C e)) = q at h hcell hin
      obtain ⟨q1, q2, q3⟩ := q
      simp only at h hin
      split at h
      · rename_i l hl
        obtain ⟨e1, e2, e3⟩ := segS_spec hl (denL_rawL (ρ := ρ) _)
        rw [(C e).len] at e3
        have hcs : ∀ m x, ((((C e).enc q1).set pos (ssV q2 q3.length)).drop j |>.take k)[m]? = some x → w.cell? ((a0.add (i * (C e).sz + j)).add m) = some x := fun m x hx => by
          rw [List.getElem?_take] at hx
          split at hx
          · rename_i hm
            rw [List.getElem?_drop] at hx
            rw [Addr.add_add, Nat.add_assoc]
            exact hcell (j + m) x (by omega) hx
          · cases hx
        split at h
        · rename_i g1 g2
          have g1 := Nat.le_of_ble_eq_true g1
          have g2 := Nat.le_of_ble_eq_true g2
          cases q2 with
          | none =>
            rcases Tr.get_br.1 h with ⟨_, h⟩ | ⟨hb, _⟩
            · obtain ⟨sv, h1, h2⟩ := Tr.get_bind h
              simp [Tr.get] at h2; subst h2
              have hq : q3 = [] := hin.1 rfl
              subst hq
              have hd : denL ρ (l.set (pos - j) (.raw (.slice none 0 0))) = some (((((C e).enc q1).set pos (ssV none ([] : List (C it).α).length)).drop j).take k) := by
                rw [denL_set (pos - j) e2 (x := .raw (.slice none 0 0)) (u := .slice none 0 0) rfl, seg_in _ _ g1 (by omega)]; rfl
              obtain ⟨u, hu1, hu2⟩ := mkV_load (w := w) (a := a0.add (i * (C e).sz + j)) h1 (by rw [hk, List.length_set, e1]) hd hcs
              exact ⟨u, w, ρ, fin hu1, Asg.le_refl _, hu2, Rel.shift R (by omega)⟩
            · cases hb
          | some ac =>
            obtain ⟨ad, c⟩ := ac
            rcases Tr.get_br.1 h with ⟨hb, h⟩ | ⟨hb, h⟩
            · have hb : Nat.beq c 0 = true := hb
              have hb := Nat.eq_of_beq_eq_true hb
              subst hb
              obtain ⟨sv, h1, h2⟩ := Tr.get_bind h
              simp [Tr.get] at h2; subst h2
              have hq : q3 = [] := List.length_eq_zero_iff.1 (Nat.le_zero.1 (hin.2 ad 0 rfl).1)
              subst hq
              have hd : denL ρ (l.set (pos - j) (.raw (.slice (some ad) 0 0))) = some (((((C e).enc q1).set pos (ssV (some (ad, 0)) ([] : List (C it).α).length)).drop j).take k) := by
                rw [denL_set (pos - j) e2 (x := .raw (.slice (some ad) 0 0)) (u := .slice (some ad) 0 0) rfl, seg_in _ _ g1 (by omega)]; rfl
              obtain ⟨u, hu1, hu2⟩ := mkV_load (w := w) (a := a0.add (i * (C e).sz + j)) h1 (by rw [hk, List.length_set, e1]) hd hcs
              exact ⟨u, w, ρ, fin hu1, Asg.le_refl _, hu2, Rel.shift R (by omega)⟩
            · obtain ⟨sv, h1, h2⟩ := Tr.get_bind h
              simp [Tr.get] at h2; subst h2
              have hb : Nat.beq c 0 = false := hb
              have hc0 : 0 < c := by
                cases c with
                | zero => cases hb
                | succ c => exact Nat.succ_pos c
              obtain ⟨i1, i23⟩ := hin.2 ad c rfl
              obtain ⟨i2, i3⟩ := i23 hc0
              have R' := R.inner (it := it) (us := q3) i1 i2 i3
              have hle := Asg.le_add ρ n (.slice (some ad) q3.length c) (R.fresh n (Nat.le_refl _))
              have hd : denL (ρ.add n (.slice (some ad) q3.length c)) (l.set (pos - j) (.h n)) = some (((((C e).enc q1).set pos (ssV (some (ad, c)) q3.length)).drop j).take k) := by
                rw [denL_set (pos - j) (denL_mono hle _ _ e2) (x := .h n) (u := .slice (some ad) q3.length c) (Asg.add_self _ _ _), seg_in _ _ g1 (by omega)]; rfl
              obtain ⟨u, hu1, hu2⟩ := mkV_load (w := w) (a := a0.add (i * (C e).sz + j)) h1 (by rw [hk, List.length_set, e1]) hd hcs
              exact ⟨u, w, _, fin hu1, hle, hu2, Rel.shift R' (by omega)⟩
        · rename_i hno
          obtain ⟨sv, h1, h2⟩ := Tr.get_bind h
          simp [Tr.get] at h2; subst h2
          have hout : ¬ (j ≤ pos ∧ pos < j + k) := fun hc => hno (Nat.ble_eq_true_of_le hc.1) (Nat.ble_eq_true_of_le hc.2)
          rw [seg_out _ _ hout] at hcs
          obtain ⟨u, hu1, hu2⟩ := mkV_load (w := w) (a := a0.add (i * (C e).sz + j)) h1 (by rw [hk, e1]) e2 hcs
          exact ⟨u, w, ρ, fin hu1, Asg.le_refl _, hu2, Rel.shift R (by omega)⟩
      · simp [Tr.get] at h
    · simp [Tr.get] at h
  · simp [Tr.get] at h
theorem pLoadS_sound (R : Rel B X ρ hp n w) {t : TypeId} {ad : SV} {r : Res C} (h : (pLoadS P (fun i => find i hp) n t ad).get = some r) {v : Value} (hv : den ρ ad = some v) : NewOk P B X ρ hp n w (Instr.loadAt t v) r := by
  have old : ∀ {ad : SV}, (pLoad P (fun i => find i hp) t ad).get = some r → den ρ ad = some v → NewOk P B X ρ hp n w (Instr.loadAt t v) r := fun {ad} h hv => by
    obtain ⟨u, h1, h2, h3⟩ := pLoad_sound R h hv
    exact ⟨u, w, ρ, h1, Asg.le_refl _, h2, by rw [h3]; exact Rel.shift R (by omega)⟩
  unfold pLoadS at h
  split at h
  · split at h
    · exact loadSs_sound R h hv
    · exact old h hv
  · exact old h hv
end sound
end
end Go.Sx
/-
  The symbolic evaluator: rows of values of any kind, and bytes told by a function: loads, stores, places, lengths. Own work; nothing here is trusted.
-/
namespace Go.Sx
noncomputable section
open Go.RowKit
variable {C : Tab} {P : Program}
def wrM (f : Nat → Int) (off : Nat) (us : List Int) (j : Nat) : Int := match Nat.ble off j, Nat.blt j (off + us.length) with
  | true, true => us.getD (j - off) 0
  | _, _ => f j
theorem wrM_in {f : Nat → Int} {off : Nat} {us : List Int} {j : Nat} (h1 : off ≤ j) (h2 : j < off + us.length) : wrM f off us j = us.getD (j - off) 0 := by
  unfold wrM
  rw [Nat.ble_eq_true_of_le h1, show Nat.blt j (off + us.length) = true from Nat.ble_eq_true_of_le h2]
theorem wrM_out {f : Nat → Int} {off : Nat} {us : List Int} {j : Nat} (h : j < off ∨ off + us.length ≤ j) : wrM f off us j = f j := by
  unfold wrM
  split
  · rename_i h1 h2
    have h1 := Nat.le_of_ble_eq_true h1
    have h2 : j + 1 ≤ off + us.length := Nat.le_of_ble_eq_true h2
    omega
  · rfl
def memL (f : Nat → Int) (off : Nat) : Nat → List Int
  | 0 => []
  | n + 1 => f off :: memL f (off + 1) n
theorem memL_length (f : Nat → Int) : ∀ (n off : Nat), (memL f off n).length = n
  | 0, _ => rfl
  | n + 1, off => by simp [memL, memL_length f n]
theorem memL_get (f : Nat → Int) : ∀ (n off j : Nat), j < n → (memL f off n)[j]? = some (f (off + j))
  | 0, _, j, h => by omega
  | n + 1, off, 0, _ => rfl
  | n + 1, off, j + 1, h => by
    simp only [memL, List.getElem?_cons_succ]
    rw [memL_get f n (off + 1) j (by omega), Nat.add_right_comm, Nat.add_assoc]
section sound
variable {B : World} {X : Own} {ρ : Asg} {hp : Hp C} {n : Nat} {w : World}
theorem rw_obj (R : Rel B X ρ hp n w) {id : Nat} {e : TypeId} {sz len : Nat} {full : Bool} {cs : List SV} {v : Value} (hi : find id hp = some (.rw e sz len full cs)) (hv : ρ id = some v) :
    ∃ g cap vs rest, v = .slice (some ⟨g, 0, none⟩) len cap ∧ okB B X g ∧ denL ρ cs = some vs ∧ vs.length = len * sz ∧ len ≤ cap ∧ (full = true → cap = len) ∧ w.heap[g]? = some (.cells (vs ++ rest).toArray e (0, 0)) ∧ cap * sz ≤ (vs ++ rest).length ∧
      ∀ j x, vs[j]? = some x → w.cell? ⟨g, j, none⟩ = some x := by
  obtain ⟨v', hv', vs, h1, g, cap, rest, rfl, h2, h3, h4, h5, h6, h7⟩ := R.obj id _ hi
  rw [hv] at hv'; cases hv'
  refine ⟨g, cap, vs, rest, rfl, h2, h1, h3, h4, h5, h6, h7, fun j x hx => ?_⟩
  rw [cell_of_row w g _ _ _ _ h6]
  have := (List.getElem?_eq_some_iff.1 hx).1
  rw [List.getElem?_toArray, List.getElem?_append_left this]; exact hx
theorem mem_obj (R : Rel B X ρ hp n w) {id : Nat} {e : TypeId} {m : Nat} {f : Nat → Int} {v : Value} (hi : find id hp = some (.mem e m f)) (hv : ρ id = some v) :
    ∃ g c, v = .slice (some ⟨g, 0, none⟩) m m ∧ okB B X g ∧ w.heap[g]? = some (.cells c e (0, 0)) ∧ c.size = m ∧ (∀ i, i < m → c[i]? = some (.int .u8 (f i))) ∧ ∀ i, i < m → w.cell? ⟨g, i, none⟩ = some (.int .u8 (f i)) := by
  obtain ⟨v', hv', g, c, rfl, h1, h2, h3, h4⟩ := R.obj id _ hi
  rw [hv] at hv'; cases hv'
  exact ⟨g, c, rfl, h1, h2, h3, h4, fun i hi => by rw [cell_of_row w g _ _ _ _ h2]; exact h4 i hi⟩
def pLoadW (P : Program) (look : Nat → Option (SO C)) (n : Nat) (t : TypeId) (a : SV) : Tr (Res C) := match a with
  | .el id i sz j => match look id with
    | some (.rw _ _ _ _ cs) => match szOf P t with
      | some k => match segS cs (i * sz + j) k with
        | some l => (mkV P t l).bind fun v => .leaf (v, [])
        | none => .fail
      | none => .fail
    | some (.mem _ m f) => match szOf P t, aggT P t with
      | some 1, some false => .br (decide (i * sz + j < m)) (.leaf (.raw (.int .u8 (f (i * sz + j))), [])) .fail
      | _, _ => .fail
    | _ => pLoadS P look n t a
  | _ => pLoadS P look n t a
theorem pLoadW_sound (R : Rel B X ρ hp n w) {t : TypeId} {ad : SV} {r : Res C} (h : (pLoadW P (fun i => find i hp) n t ad).get = some r) {v : Value} (hv : den ρ ad = some v) : NewOk P B X ρ hp n w (Instr.loadAt t v) r := by
  have fin : ∀ {a : Addr} {u : Value}, (loadVar t a).run P w = .ok u w → (Instr.loadAt t (.pointer (some a))).run P w = .ok u w := fun {a u} h => by
    simp [Instr.loadAt, Instr.sureAddr, h]
  unfold pLoadW at h
  split at h
  · rename_i id i sz j
    split at h
    · rename_i e sz' len full cs hid
      split at h
      · rename_i k hk
        split at h
        · rename_i l hl
          obtain ⟨sv, h1, h2⟩ := Tr.get_bind h
          simp only [Tr.get, Option.some.injEq] at h2; subst h2
          simp only [den, Option.bind_eq_some_iff, Option.map_eq_some_iff] at hv
          obtain ⟨v0, hv0, a, ha, rfl⟩ := hv
          obtain ⟨g, cap, vs, rest, rfl, _, hden, _, _, _, _, _, hcell⟩ := rw_obj R hid hv0
          simp only [baseOf, Option.some.injEq] at ha; subst ha
          obtain ⟨e1, e2, e3⟩ := segS_spec hl hden
          obtain ⟨u, hu1, hu2⟩ := mkV_load (P := P) (w := w) (a := (⟨g, 0, none⟩ : Addr).add (i * sz + j)) h1 (by rw [hk, e1]) e2 (fun q x hx => by
            rw [Addr.add_add, Addr.add_at]
            refine hcell _ _ ?_
            rw [List.getElem?_take] at hx
            split at hx
            · rw [List.getElem?_drop] at hx; simpa using hx
            · cases hx)
          exact ⟨u, w, ρ, fin hu1, Asg.le_refl _, hu2, Rel.shift R (by omega)⟩
        · simp [Tr.get] at h
      · simp [Tr.get] at h
    · rename_i e m f hid
      split at h
      · rename_i hk hag
        obtain ⟨hb, h⟩ := Tr.get_ask.1 h
        have hb := of_decide_eq_true hb
        simp only [Tr.get, Option.some.injEq] at h; subst h
        simp only [den, Option.bind_eq_some_iff, Option.map_eq_some_iff] at hv
        obtain ⟨v0, hv0, a, ha, rfl⟩ := hv
        obtain ⟨g, c, rfl, _, _, _, _, hcell⟩ := mem_obj R hid hv0
        simp only [baseOf, Option.some.injEq] at ha; subst ha
        have h1 : (mkV P t [.raw (.int .u8 (f (i * sz + j)))]).get = some (.raw (.int .u8 (f (i * sz + j)))) := by unfold mkV; rw [hag]; rfl
        obtain ⟨u, hu1, hu2⟩ := mkV_load (P := P) (w := w) (ρ := ρ) (a := (⟨g, 0, none⟩ : Addr).add (i * sz + j)) (vs := [.int .u8 (f (i * sz + j))]) h1 (by rw [hk]; rfl) rfl (fun q x hx => by
          have hq := (List.getElem?_eq_some_iff.1 hx).1
          simp only [List.length_cons, List.length_nil] at hq
          have hq : q = 0 := by omega
          subst hq
          simp only [List.getElem?_cons_zero, Option.some.injEq] at hx; subst hx
          rw [Addr.add_zero, Addr.add_at, Nat.zero_add]
          exact hcell _ hb)
        exact ⟨u, w, ρ, fin hu1, Asg.le_refl _, hu2, Rel.shift R (by omega)⟩
      · simp [Tr.get] at h
    · exact pLoadS_sound R h hv
  · exact pLoadS_sound R h hv
def byteOf : SV → Option Int
  | .raw (.int .u8 b) => some b
  | _ => none
def pStoreW (P : Program) (look : Nat → Option (SO C)) (t : TypeId) (ad x : SV) : Tr (Res C) := match ad with
  | .el id i sz j => match look id with
    | some (.rw e sz' len full cs) => match szOf P t with
      | some k => match Nat.beq (cellsS x).length k, allOne (cellsS x), Nat.ble (i * sz + j + k) cs.length with
        | true, true, true => forceL (spliceS cs (i * sz + j) (cellsS x)) fun l => .leaf (.raw undef, [(id, .rw e sz' len full l)])
        | _, _, _ => .fail
      | none => .fail
    | some (.mem e m f) => match szOf P t, byteOf x with
      | some 1, some b => .br (decide (i * sz + j < m)) (.leaf (.raw undef, [(id, .mem e m (wrM f (i * sz + j) [b]))])) .fail
      | _, _ => .fail
    | _ => pStore P look t ad x
  | _ => pStore P look t ad x
theorem byteOf_spec {x : SV} {b : Int} (h : byteOf x = some b) : x = .raw (.int .u8 b) := by
  unfold byteOf at h
  split at h
  · cases h; rfl
  · cases h
theorem Rel.setM (R : Rel B X ρ hp n w) {id : Nat} {e : TypeId} {m : Nat} {f : Nat → Int} {v : Value} (hi : find id hp = some (.mem e m f)) (hv : ρ id = some v) {off : Nat} {us : List Int} (hfit : off + us.length ≤ m) :
    ∃ g, v = .slice (some ⟨g, 0, none⟩) m m ∧ ∃ w', (storeCells ⟨g, off, none⟩ (us.map (Value.int .u8))).run P w = .ok () w' ∧ Rel B X ρ ((id, .mem e m (wrM f off us)) :: hp) n w' := by
  obtain ⟨g, c, rfl, hok, hheap, hsz, hc, _⟩ := mem_obj R hi hv
  refine ⟨g, rfl, ?_⟩
  have hst := run_storeCells_at P g off e (us.map (Value.int .u8)) 0 c w hheap (by simp only [List.length_map, Nat.add_zero]; omega) (fun v hv => by
    obtain ⟨b, _, rfl⟩ := List.mem_map.1 hv; rfl)
  simp only [Nat.add_zero] at hst
  refine ⟨_, hst, ?_⟩
  refine R.set hi hv rfl rfl (by simp) (by simp) (by simp) (by simp) (fun k' hk' => ?_) ⟨g, _, rfl, hok, setRow_heap w g _ _ e _ hheap, ?_, fun i hi => ?_⟩ (fun g' hg' => ?_)
  · exact setRow_other w g k' _ (fun e => hk' (by simp [blk, e]))
  · simp; omega
  · have hcl : c.toList.length = m := by simpa using hsz
    rw [List.getElem?_toArray]
    by_cases h1 : i < off
    · rw [wrM_out (.inl h1), List.append_assoc, List.getElem?_append_left (by simp; omega), List.getElem?_take, if_pos h1, Array.getElem?_toList]
      exact hc i hi
    · by_cases h2 : i < off + us.length
      · rw [wrM_in (by omega) h2, List.append_assoc, List.getElem?_append_right (by simp; omega), List.getElem?_append_left (by simp; omega), List.getElem?_map]
        have hlt : off ≤ c.size := by omega
        simp only [List.length_take, Array.length_toList]
        rw [Nat.min_eq_left hlt, List.getD_eq_getElem?_getD, List.getElem?_eq_getElem (by omega)]
        rfl
      · rw [wrM_out (.inr (by omega)), List.getElem?_append_right (by simp; omega), List.getElem?_drop]
        rw [Array.getElem?_toList]
        have : off + (us.map (Value.int .u8)).length + (i - (c.toList.take off ++ us.map (Value.int .u8)).length) = i := by simp; omega
        rw [this]
        exact hc i hi
  · simp [blk] at hg'; subst hg'; exact hok
theorem Rel.setR (R : Rel B X ρ hp n w) {id : Nat} {e : TypeId} {sz len : Nat} {full : Bool} {cs : List SV} {v : Value} (hi : find id hp = some (.rw e sz len full cs)) (hv : ρ id = some v) {off : Nat} {new : List SV} {us : List Value} (hd : denL ρ new = some us) (h1 : ∀ u ∈ us, u.oneCell' = true) (hfit : off + new.length ≤ cs.length) :
    ∃ g cap, v = .slice (some ⟨g, 0, none⟩) len cap ∧ ∃ w', (storeCells ⟨g, off, none⟩ us).run P w = .ok () w' ∧ Rel B X ρ ((id, .rw e sz len full (spliceS cs off new)) :: hp) n w' := by
  obtain ⟨g, cap, vs, rest, rfl, hok, hden, hlen, hcap, hf, hheap, hfitc, _⟩ := rw_obj R hi hv
  refine ⟨g, cap, rfl, ?_⟩
  have hl := denL_length hd
  have hlv := denL_length hden
  have hst := run_storeCells_at P g off e us 0 _ w hheap (by simp only [List.size_toArray, List.length_append]; omega) h1
  simp only [Nat.add_zero] at hst
  have hsp : (vs ++ rest).toArray.toList.take off ++ us ++ (vs ++ rest).toArray.toList.drop (off + us.length) = (vs.take off ++ us ++ vs.drop (off + us.length)) ++ rest := by
    rw [List.toList_toArray, List.take_append, List.drop_append, show off - vs.length = 0 from by omega, show off + us.length - vs.length = 0 from by omega, List.take_zero, List.drop_zero]
    simp only [List.append_assoc, List.nil_append]
  rw [hsp] at hst
  have hsl := splice_length (vs := vs) (us := us) (off := off) (by omega)
  refine ⟨_, hst, ?_⟩
  refine R.set hi hv rfl rfl (by simp) (by simp) (by simp) (by simp) (fun k' hk' => ?_) ⟨_, denL_splice hden hd, g, cap, rest, rfl, hok, ?_, hcap, hf, setRow_heap w g _ _ e _ hheap, ?_⟩ (fun g' hg' => ?_)
  · exact setRow_other w g k' _ (fun e => hk' (by simp [blk, e]))
  · rw [hsl]; exact hlen
  · rw [List.length_append, hsl, ← List.length_append]; exact hfitc
  · simp [blk] at hg'; subst hg'; exact hok
theorem storeAt_cells {t : TypeId} {a : Addr} {v : Value} {w' : World} (hsz : szOf P t = some v.cells.size) (h : (storeCells a v.cells.toList).run P w = .ok () w') : (Instr.storeAt t (.pointer (some a)) v).run P w = .ok () w' := by
  simp only [Instr.storeAt, Instr.sureAddr, Sem.run_bind, Sem.run_pure, Result.andThen_ok, storeVar, run_sizeOf hsz, ne_eq, not_true, if_false]
  exact h
theorem pStoreW_sound (R : Rel B X ρ hp n w) {t : TypeId} {ad x : SV} {r : Res C} (h : (pStoreW P (fun i => find i hp) t ad x).get = some r) {va vx : Value} (ha : den ρ ad = some va) (hx : den ρ x = some vx) : Stored P B X ρ hp n w t va vx r := by
  unfold pStoreW at h
  split at h
  · rename_i id i sz j
    split at h
    · rename_i e sz' len full cs hid
      split at h
      · rename_i k hk
        split at h
        · rename_i hb1 hone hb2
          rw [forceL_eq] at h
          simp only [Tr.get, Option.some.injEq] at h; subst h
          have e1 := Nat.eq_of_beq_eq_true hb1
          have e2 := Nat.le_of_ble_eq_true hb2
          simp only [den, Option.bind_eq_some_iff, Option.map_eq_some_iff] at ha
          obtain ⟨v0, hv0, a, ha, rfl⟩ := ha
          have hcx := den_cells hx R.one
          have hl := denL_length hcx
          obtain ⟨g, cap, rfl, w', hst, R'⟩ := R.setR (P := P) hid hv0 (off := i * sz + j) hcx (allOne_mem R.one hcx hone) (by omega)
          simp only [baseOf, Option.some.injEq] at ha; subst ha
          refine ⟨rfl, w', ?_, R'⟩
          rw [Addr.add_at, Nat.zero_add]
          exact storeAt_cells (by rw [hk]; congr 1; rw [← e1, ← hl]; simp) hst
        · simp [Tr.get] at h
      · simp [Tr.get] at h
    · rename_i e m f hid
      split at h
      · rename_i b hk hb
        obtain ⟨hlt, h⟩ := Tr.get_ask.1 h
        have hlt := of_decide_eq_true hlt
        simp only [Tr.get, Option.some.injEq] at h; subst h
        have := byteOf_spec hb
        subst this
        simp only [den, Option.some.injEq] at hx; subst hx
        simp only [den, Option.bind_eq_some_iff, Option.map_eq_some_iff] at ha
        obtain ⟨v0, hv0, a, ha, rfl⟩ := ha
        obtain ⟨g, rfl, w', hst, R'⟩ := R.setM (P := P) hid hv0 (off := i * sz + j) (us := [b]) (by simp only [List.length_cons, List.length_nil]; omega)
        simp only [baseOf, Option.some.injEq] at ha; subst ha
        refine ⟨rfl, w', ?_, R'⟩
        rw [Addr.add_at, Nat.zero_add]
        exact storeAt_cells (by rw [hk]; rfl) hst
      · simp [Tr.get] at h
    · exact pStore_sound R h ha hx
  · exact pStore_sound R h ha hx
def pIndexAddrW (P : Program) (look : Nat → Option (SO C)) (t : TypeId) (x i : SV) : Tr SV := match P.underlying t, x, i with
  | some (.slice e), .h id, .raw (.int _ k) => match look id, szOf P e with
    | some (.rw _ sz len _ _), some q => match Nat.beq q sz with
      | true => .br (inB k len) (.leaf (.el id k.toNat q 0)) .fail
      | false => .fail
    | some (.mem _ m _), some q => .br (inB k m) (.leaf (.el id k.toNat q 0)) .fail
    | _, _ => pIndexAddr P look t x i
  | some (.slice e), .vs id sz bs off len cap, .raw (.int _ k) => match look id, szOf P e with
    | some (.rw _ _ tl _ _), some q => match Nat.beq sz q with
      | true => .br (inB k len) (.br (decide (off + k.toNat < tl)) (.leaf (.el id (off + k.toNat) q 0)) .fail) .fail
      | false => .fail
    | some (.mem _ tl _), some q => match Nat.beq sz q with
      | true => .br (inB k len) (.br (decide (off + k.toNat < tl)) (.leaf (.el id (off + k.toNat) q 0)) .fail) .fail
      | false => .fail
    | _, _ => pIndexAddr P look t x i
  | _, _, _ => pIndexAddr P look t x i
def pLenW (P : Program) (look : Nat → Option (SO C)) (t : TypeId) (x : SV) : Tr SV := match P.underlying t, x with
  | some (.slice _), .h id => match look id with
    | some (.rw _ _ len _ _) => .leaf (.raw (.int .i64 len))
    | some (.mem _ m _) => .leaf (.raw (.int .i64 m))
    | _ => pLen P look t x
  | _, _ => pLen P look t x
theorem vs_gen {id sz bs off len tl c : Nat} {cap : Option Nat} {a : Addr} {v : Value} (hv : ρ id = some (.slice (some a) tl c)) (hx : den ρ (.vs id sz bs off len cap) = some v) :
    v = .slice (some (if off = c then a.add (Nat.min bs off * sz) else a.add (off * sz))) len (capO cap (c - off)) := by
  simp only [den, hv, Option.bind_some, vsV, Option.some.injEq] at hx
  exact hx.symm
theorem index_run {t e : TypeId} {q len c : Nat} {a : Addr} {kk : IntKind} {k : Int} (ht : P.underlying t = some (.slice e)) (hq : szOf P e = some q) (hb : inB k len = true) : (Instr.indexAt t (.slice (some a) len c) (.int kk k)).run P w = .ok (.pointer (some (a.add (k.toNat * q)))) w := by
  obtain ⟨h0, h1⟩ := inB_spec hb
  simp [Instr.indexAt, asIntOf, run_underlying ht, h0, h1, run_sizeOf hq]
theorem pIndexAddrW_sound (R : Rel B X ρ hp n w) {t : TypeId} {x i r : SV} {v vi : Value} (h : (pIndexAddrW P (fun i => find i hp) t x i).get = some r) (hx : den ρ x = some v) (hi : den ρ i = some vi) :
    PureOk P ρ w (Instr.indexAt t v vi) r := by
  have vs : ∀ {id sz bs off len tl c q : Nat} {cap : Option Nat} {a : Addr} {e : TypeId} {kk : IntKind} {k : Int}, ρ id = some (.slice (some a) tl c) → tl ≤ c → P.underlying t = some (.slice e) → szOf P e = some q → sz = q → den ρ (.vs id sz bs off len cap) = some v → den ρ (.raw (.int kk k)) = some vi →
      (Tr.br (inB k len) (Tr.br (decide (off + k.toNat < tl)) (.leaf (.el id (off + k.toNat) q 0)) .fail) .fail).get = some r → PureOk P ρ w (Instr.indexAt t v vi) r := fun {id sz bs off len tl c q cap a e kk k} hv hc ht hq hs hx hi h => by
    subst hs
    obtain ⟨hb, h⟩ := Tr.get_ask.1 h
    obtain ⟨hlt, h⟩ := Tr.get_ask.1 h
    have hlt := of_decide_eq_true hlt
    simp only [Tr.get, Option.some.injEq] at h; subst h
    simp only [den, Option.some.injEq] at hi; subst hi
    have := vs_gen hv hx
    subst this
    rw [if_neg (by omega)]
    exact ⟨_, index_run ht hq hb, by simp [den, hv, baseOf, Addr.add_add, Nat.add_mul]⟩
  unfold pIndexAddrW at h
  split at h
  · rename_i e id kk k ht
    split at h
    · rename_i e' sz len full cs q hid hq
      split at h
      · rename_i hs
        have hs := Nat.eq_of_beq_eq_true hs
        obtain ⟨hb, h⟩ := Tr.get_ask.1 h
        simp only [Tr.get, Option.some.injEq] at h; subst h
        simp only [den, Option.some.injEq] at hi; subst hi
        simp only [den] at hx
        obtain ⟨g, cap, vs, rest, rfl, _⟩ := rw_obj R hid hx
        exact ⟨_, index_run ht hq hb, by simp [den, hx, baseOf]⟩
      · simp [Tr.get] at h
    · rename_i e' m f q hid hq
      obtain ⟨hb, h⟩ := Tr.get_ask.1 h
      simp only [Tr.get, Option.some.injEq] at h; subst h
      simp only [den, Option.some.injEq] at hi; subst hi
      simp only [den] at hx
      obtain ⟨g, c, rfl, _⟩ := mem_obj R hid hx
      exact ⟨_, index_run ht hq hb, by simp [den, hx, baseOf]⟩
    · exact pIndexAddr_sound R h hx hi
  · rename_i e id sz bs off len cap kk k ht
    split at h
    · rename_i e' sz' tl full cs q hid hq
      split at h
      · rename_i hs
        obtain ⟨v', hv', _⟩ := R.obj id _ hid
        obtain ⟨g, c, us, rest, rfl, _, _, _, hc, _⟩ := rw_obj R hid hv'
        exact vs hv' hc ht hq (Nat.eq_of_beq_eq_true hs) hx hi h
      · simp [Tr.get] at h
    · rename_i e' tl f q hid hq
      split at h
      · rename_i hs
        obtain ⟨v', hv', _⟩ := R.obj id _ hid
        obtain ⟨g, c, rfl, _⟩ := mem_obj R hid hv'
        exact vs hv' (Nat.le_refl _) ht hq (Nat.eq_of_beq_eq_true hs) hx hi h
      · simp [Tr.get] at h
    · exact pIndexAddr_sound R h hx hi
  · exact pIndexAddr_sound R h hx hi
theorem pLenW_sound (R : Rel B X ρ hp n w) {t ty : TypeId} {x r : SV} {v : Value} (h : (pLenW P (fun i => find i hp) t x).get = some r) (hx : den ρ x = some v) : PureOk P ρ w (Builtin.len_ #[t] ty #[v]) r := by
  unfold pLenW at h
  split at h
  · rename_i e id ht
    split at h
    · rename_i e' sz len full cs hid
      simp only [Tr.get, Option.some.injEq] at h; subst h
      simp only [den] at hx
      obtain ⟨g, cap, vs, rest, rfl, _⟩ := rw_obj R hid hx
      exact ⟨_, by simp [Builtin.len_, run_underlying ht, goInt], rfl⟩
    · rename_i e' m f hid
      simp only [Tr.get, Option.some.injEq] at h; subst h
      simp only [den] at hx
      obtain ⟨g, c, rfl, _⟩ := mem_obj R hid hx
      exact ⟨_, by simp [Builtin.len_, run_underlying ht, goInt], rfl⟩
    · exact pLen_sound R h hx
  · exact pLen_sound R h hx
end sound
end
end Go.Sx
/-
  The symbolic evaluator: parts of rows and of bytes, of boxes too. Own work; nothing here is trusted.
-/
namespace Go.Sx
noncomputable section
open Go.RowKit
variable {C : Tab} {P : Program}
section sound
variable {B : World} {X : Own} {ρ : Asg} {hp : Hp C} {n : Nat} {w : World}
theorem cutVsG (R : Rel B X ρ hp n w) {t e : TypeId} {id bs off len : Nat} {cap : Option Nat} {sz tl c : Nat} {a : Addr} {v : Value} (hid : ρ id = some (.slice (some a) tl c)) (hc : tl ≤ c) (hv : den ρ (.vs id sz bs off len cap) = some v) (ht : P.underlying t = some (.slice e)) (hk : szOf P e = some sz)
    {lo hi_ mx : Option SV} {vlo vhi vmx : Option Value} {l h m : Option Int} (hl : optN lo = some l) (hh : optN hi_ = some h) (hm : optN mx = some m) (b1 : bndV ρ lo vlo) (b2 : bndV ρ hi_ vhi) (b3 : bndV ρ mx vmx) {r : Res C}
    (hr : (cutVs (C := C) id sz bs off len cap tl l h m).get = some r) : NewOk P B X ρ hp n w (Instr.sliceAt t v vlo vhi vmx) r := by
  have hve := vs_gen hid hv
  subst hve
  have hroom : roomV off tl cap ≤ ((capO cap (c - off) : Nat) : Int) := by
    cases cap <;> simp only [roomV, capO]
    · omega
    · exact Int.le_refl _
  generalize hb : (if off = c then a.add (Nat.min bs off * sz) else a.add (off * sz)) = b at *
  have run : bOk (intO 0 l) (intO len h) (intO (capO cap (c - off)) m) = true → intO (capO cap (c - off)) m ≤ (capO cap (c - off) : Nat) → (m.isSome = true → h.isSome = true) →
      (Instr.sliceAt t (.slice (some b) len (capO cap (c - off))) vlo vhi vmx).run P w = .ok (.slice (if (intO (capO cap (c - off)) m).toNat = (intO 0 l).toNat then some b else (some b).map (·.add ((intO 0 l).toNat * sz))) ((intO len h).toNat - (intO 0 l).toNat) ((intO (capO cap (c - off)) m).toNat - (intO 0 l).toNat)) w := fun e3 e4 e5 => by
    simp only [Instr.sliceAt, Sem.run_bind, run_underlying ht, Result.andThen_ok, Instr.slice, bounds_run (P := P) true hl hh hm b1 b2 b3 e3 e4 e5 w, run_sizeOf hk, Sem.run_pure]
  have fin : ∀ {sv : SV} {u : Value}, (Instr.sliceAt t (.slice (some b) len (capO cap (c - off))) vlo vhi vmx).run P w = .ok u w → den ρ sv = some u → NewOk P B X ρ hp n w (Instr.sliceAt t (.slice (some b) len (capO cap (c - off))) vlo vhi vmx) (sv, []) := fun h1 h2 => ⟨_, w, ρ, h1, Asg.le_refl _, h2, Rel.shift R (by omega)⟩
  have head : ∀ (H : Nat) (k : Option Nat), den ρ (.vs id sz bs off H k) = some (.slice (some b) H (capO k (c - off))) := fun H k => by
    simp only [den, hid, Option.bind_some, vsV, hb]
  have rest : ∀ (L : Int) (H : Nat) (k : Option Nat), off + L.toNat ≤ c → den ρ (.vs id sz (baseN bs off L) (off + L.toNat) H k) = some (.slice (if c - off = L.toNat then some b else some (b.add (L.toNat * sz))) H (capO k (c - (off + L.toNat)))) := fun L H k hlk => by
    simp only [den, hid, Option.bind_some, vsV]
    congr 2
    unfold baseN
    by_cases hL : off + L.toNat = c
    · rw [if_pos hL, if_pos (by omega)]
      cases h0 : Nat.beq L.toNat 0 with
      | true =>
        have h0 := Nat.eq_of_beq_eq_true h0
        rw [← hb, if_pos (by omega), h0, Nat.add_zero]
      | false =>
        have h0 := Nat.ne_of_beq_eq_false h0
        rw [← hb, if_neg (by omega)]
        simp only
        rw [show Nat.min off (off + L.toNat) = off from Nat.min_eq_left (by omega)]
    · rw [if_neg hL, if_neg (by omega), ← hb, if_neg (by omega), Addr.add_add, Nat.add_mul]
  unfold cutVs at hr
  split at hr
  · split at hr
    · obtain ⟨hb1, hr⟩ := Tr.get_ask.1 hr
      simp only [Tr.get, Option.some.injEq] at hr; subst hr
      obtain ⟨h0, h1, h2⟩ := bOk_spec hb1
      have hrun := run (bOk_mk ⟨by simp, by simp only [intO_none]; omega, by simp only [intO_none]; omega⟩) (by simp) (fun h => by cases h)
      refine fin hrun ((head _ _).trans ?_)
      simp only [intO_none, Int.toNat_zero, Nat.sub_zero, Nat.zero_mul, Option.map_some, Addr.add_zero, ite_self, Int.toNat_natCast]
    · rename_i L
      obtain ⟨hb1, hr⟩ := Tr.get_ask.1 hr
      simp only [Tr.get, Option.some.injEq] at hr; subst hr
      rw [Bool.and_eq_true] at hb1
      obtain ⟨hb1, hat⟩ := hb1
      obtain ⟨h0, h1, h2⟩ := bOk_spec hb1
      have hrun := run (bOk_mk ⟨by simpa using h0, by simp only [intO_some]; omega, by simp only [intO_none]; omega⟩) (by simp) (fun h => by cases h)
      have hlk : off + L.toNat ≤ c ∧ (capO cap (c - off) = L.toNat → c - off = L.toNat) ∧ (c - off = L.toNat → capO cap (c - off) = L.toNat) ∧ capO (capS cap L) (c - (off + L.toNat)) = capO cap (c - off) - L.toNat := by
        cases cap with
        | none =>
          simp only [roomV] at h1 h2
          exact ⟨by omega, fun h => h, fun h => h, by simp only [capS, capO]; omega⟩
        | some k =>
          simp only [atV, Bool.and_eq_true, decide_eq_true_eq] at hat
          exact ⟨by omega, by simp only [capO]; omega, by omega, rfl⟩
      obtain ⟨k1, k2, k3, k4⟩ := hlk
      refine fin hrun ((rest _ _ _ k1).trans ?_)
      rw [k4]
      simp only [intO_some, intO_none, Int.toNat_natCast, Option.map_some]
      congr 2
      by_cases hL : c - off = L.toNat
      · rw [if_pos hL]; exact (if_pos (k3 hL)).symm
      · rw [if_neg hL]; exact (if_neg (fun e => hL (k2 e))).symm
  · rename_i M
    split at hr
    · simp [Tr.get] at hr
    · rename_i H
      split at hr
      · obtain ⟨hb1, hr⟩ := Tr.get_ask.1 hr
        simp only [Tr.get, Option.some.injEq] at hr; subst hr
        simp only [Bool.and_eq_true, decide_eq_true_eq] at hb1
        obtain ⟨hb1, hM⟩ := hb1
        obtain ⟨h0, h1, h2⟩ := bOk_spec hb1
        have hrun := run (bOk_mk ⟨by simp, by simp only [intO_some, intO_none]; omega, by simp only [intO_some]; omega⟩) (by simp only [intO_some]; omega) (fun _ => rfl)
        refine fin hrun ((head _ _).trans ?_)
        simp only [intO_none, intO_some, Int.toNat_zero, Nat.sub_zero, Nat.zero_mul, Option.map_some, Addr.add_zero, ite_self, capO]
      · rename_i L
        obtain ⟨hb1, hr⟩ := Tr.get_ask.1 hr
        simp only [Tr.get, Option.some.injEq] at hr; subst hr
        simp only [Bool.and_eq_true, decide_eq_true_eq] at hb1
        obtain ⟨hb1, hM, hLt, hLM⟩ := hb1
        obtain ⟨h0, h1, h2⟩ := bOk_spec hb1
        have hrun := run (bOk_mk ⟨by simpa using h0, by simp only [intO_some]; omega, by simp only [intO_some]; omega⟩) (by simp only [intO_some]; omega) (fun _ => rfl)
        refine fin hrun ((rest _ _ _ (by omega)).trans ?_)
        simp only [intO_some, Option.map_some, capO]
        congr 2
        rw [if_neg (show ¬ c - off = L.toNat by omega)]
        exact (if_neg (show ¬ M.toNat = L.toNat by omega)).symm
def cutBs (id k off len cap : Nat) (l h m : Option Int) : Tr (Res C) :=
  .br (bOk (intO 0 l) (intO len h) (intO cap m) && (decide (intO cap m ≤ cap) && (h.isSome || !m.isSome)))
    (.br (decide (intO cap m = intO 0 l)) (.leaf (.bs id off 0 0, [])) (.leaf (.bs id (off + (intO 0 l).toNat * k) ((intO len h).toNat - (intO 0 l).toNat) ((intO cap m).toNat - (intO 0 l).toNat), []))) .fail
theorem cutBs_sound (R : Rel B X ρ hp n w) {t e : TypeId} {id k off len cap : Nat} {v : Value} (hv : den ρ (.bs id off len cap) = some v) (ht : P.underlying t = some (.slice e)) (hk : szOf P e = some k)
    {lo hi_ mx : Option SV} {vlo vhi vmx : Option Value} {l h m : Option Int} (hl : optN lo = some l) (hh : optN hi_ = some h) (hm : optN mx = some m) (b1 : bndV ρ lo vlo) (b2 : bndV ρ hi_ vhi) (b3 : bndV ρ mx vmx) {r : Res C}
    (hr : (cutBs (C := C) id k off len cap l h m).get = some r) : NewOk P B X ρ hp n w (Instr.sliceAt t v vlo vhi vmx) r := by
  simp only [den, Option.bind_eq_some_iff, Option.map_eq_some_iff] at hv
  obtain ⟨u, hu, a, ha, rfl⟩ := hv
  unfold cutBs at hr
  obtain ⟨hb, hr⟩ := Tr.get_ask.1 hr
  simp only [Bool.and_eq_true, decide_eq_true_eq] at hb
  obtain ⟨hb1, hb2, hb3⟩ := hb
  obtain ⟨h0, h1, h2⟩ := bOk_spec hb1
  have hx : m.isSome = true → h.isSome = true := fun hms => by
    rw [hms] at hb3
    simpa using hb3
  have hrun : (Instr.sliceAt t (.slice (some (a.add off)) len cap) vlo vhi vmx).run P w = .ok (.slice (if (intO cap m).toNat = (intO 0 l).toNat then some (a.add off) else (some (a.add off)).map (·.add ((intO 0 l).toNat * k))) ((intO len h).toNat - (intO 0 l).toNat) ((intO cap m).toNat - (intO 0 l).toNat)) w := by
    simp only [Instr.sliceAt, Sem.run_bind, run_underlying ht, Result.andThen_ok, Instr.slice, bounds_run (P := P) true hl hh hm b1 b2 b3 hb1 hb2 hx w, run_sizeOf hk, Sem.run_pure]
  rcases Tr.get_br.1 hr with ⟨hq, hr⟩ | ⟨hq, hr⟩
  · have hq := of_decide_eq_true hq
    simp only [Tr.get, Option.some.injEq] at hr; subst hr
    refine ⟨_, w, ρ, hrun, Asg.le_refl _, ?_, Rel.shift R (by omega)⟩
    rw [if_pos (by omega), show (intO len h).toNat - (intO 0 l).toNat = 0 from by omega, show (intO cap m).toNat - (intO 0 l).toNat = 0 from by omega]
    simp [den, hu, ha]
  · have hq := of_decide_eq_false hq
    simp only [Tr.get, Option.some.injEq] at hr; subst hr
    refine ⟨_, w, ρ, hrun, Asg.le_refl _, ?_, Rel.shift R (by omega)⟩
    rw [if_neg (by omega)]
    simp [den, hu, ha, Addr.add_add]
theorem h_vsG {id sz tl c : Nat} {a : Addr} {v : Value} (hv : ρ id = some (.slice (some a) tl c)) (hx : den ρ (.h id) = some v) : den ρ (.vs id sz 0 0 tl none) = some v := by
  simp only [den] at hx ⊢
  rw [hv] at hx; cases hx
  rw [hv]
  simp only [Option.bind_some, vsV, capO, Nat.zero_mul, Nat.sub_zero, Addr.add_zero, ite_self, Nat.zero_min]
def lenO : SO C → Option Nat
  | .rw _ _ len _ _ => some len
  | .mem _ m _ => some m
  | _ => none
theorem lenO_spec (R : Rel B X ρ hp n w) {id : Nat} {o : SO C} {tl : Nat} (hi : find id hp = some o) (hl : lenO o = some tl) : ∃ a c, ρ id = some (.slice (some a) tl c) ∧ tl ≤ c := by
  obtain ⟨v, hv, _⟩ := R.obj id _ hi
  unfold lenO at hl
  split at hl
  · cases hl
    obtain ⟨g, c, vs, rest, rfl, _, _, _, hc, _⟩ := rw_obj R hi hv
    exact ⟨_, _, hv, hc⟩
  · cases hl
    obtain ⟨g, c, rfl, _⟩ := mem_obj R hi hv
    exact ⟨_, _, hv, Nat.le_refl _⟩
  · cases hl
def pSliceW (P : Program) (look : Nat → Option (SO C)) (n : Nat) (t : TypeId) (lo hi mx : Bool) (x : SV) (bs : List SV) : Tr (Res C) :=
  match bnds lo hi mx bs with
  | some (a, b, c) => match optN a, optN b, optN c with
    | some l, some h, some m => match P.underlying t, x with
      | some (.slice e), .h id => match look id with
        | some o => match lenO o, szOf P e with
          | some tl, some k => cutVs id k 0 0 tl none tl l h m
          | _, _ => pSlice P look n t lo hi mx x bs
        | none => .fail
      | some (.slice e), .vs id sz bs' off len cap => match look id with
        | some o => match lenO o, szOf P e with
          | some tl, some k => match Nat.beq sz k with
            | true => cutVs id k bs' off len cap tl l h m
            | false => .fail
          | _, _ => pSlice P look n t lo hi mx x bs
        | none => .fail
      | some (.slice e), .bs id off len cap => match szOf P e with
        | some k => cutBs id k off len cap l h m
        | none => .fail
      | _, _ => pSlice P look n t lo hi mx x bs
    | _, _, _ => .fail
  | none => .fail
theorem pSliceW_sound (R : Rel B X ρ hp n w) {t : TypeId} {lo hi mx : Bool} {x : SV} {bs : List SV} {v : Value} {r : Res C} (h : (pSliceW P (fun i => find i hp) n t lo hi mx x bs).get = some r) (hx : den ρ x = some v)
    {vlo vhi vmx : Option Value} (hb : ∀ a b c, bnds lo hi mx bs = some (a, b, c) → bndV ρ a vlo ∧ bndV ρ b vhi ∧ bndV ρ c vmx) : NewOk P B X ρ hp n w (Instr.sliceAt t v vlo vhi vmx) r := by
  unfold pSliceW at h
  split at h
  · rename_i slo shi smx hbn
    obtain ⟨b1, b2, b3⟩ := hb _ _ _ hbn
    split at h
    · rename_i l hh m hl hhh hm
      split at h
      · rename_i e id ht
        split at h
        · rename_i o hid
          split at h
          · rename_i tl k hlo hk
            obtain ⟨a, c, hv, hc⟩ := lenO_spec R hid hlo
            exact cutVsG R hv hc (h_vsG hv hx) ht hk hl hhh hm b1 b2 b3 h
          · exact pSlice_sound R h hx hb
        · simp [Tr.get] at h
      · rename_i e id sz bs' off len cap ht
        split at h
        · rename_i o hid
          split at h
          · rename_i tl k hlo hk
            split at h
            · rename_i hs
              have hs := Nat.eq_of_beq_eq_true hs
              subst hs
              obtain ⟨a, c, hv, hc⟩ := lenO_spec R hid hlo
              exact cutVsG R hv hc hx ht hk hl hhh hm b1 b2 b3 h
            · simp [Tr.get] at h
          · exact pSlice_sound R h hx hb
        · simp [Tr.get] at h
      · rename_i e id off len cap ht
        split at h
        · rename_i k hk
          exact cutBs_sound R hx ht hk hl hhh hm b1 b2 b3 h
        · simp [Tr.get] at h
      · exact pSlice_sound R h hx hb
    · simp [Tr.get] at h
  · simp [Tr.get] at h
end sound
end
end Go.Sx
/-
  The symbolic evaluator: append onto rows of values of any kind. Own work; nothing here is trusted.
-/
namespace Go.Sx
noncomputable section
open Go.RowKit
variable {C : Tab} {P : Program}
def srcW (look : Nat → Option (SO C)) (k : Nat) : SV → Option (Nat × List SV)
  | .raw (.slice none 0 0) => some (0, [])
  | .bs id off len _ => match look id with
    | some (.box cs _) => match segS cs off (len * k) with
      | some l => some (len, l)
      | none => none
    | _ => none
  | .h id => match look id with
    | some (.rw _ sz len _ cs) => match Nat.beq sz k with
      | true => some (len, cs)
      | false => none
    | _ => none
  | .vs id sz _ off len _ => match look id with
    | some (.rw _ sz' tl _ cs) => match Nat.beq sz k, Nat.beq sz' k, Nat.ble (off + len) tl with
      | true, true, true => match segS cs (off * k) (len * k) with
        | some l => some (len, l)
        | none => none
      | _, _, _ => none
    | _ => none
  | _ => none
def appW (look : Nat → Option (SO C)) (n e k by_ : Nat) (s : SV) (m : Nat) (us : List SV) : Tr (Res C) := match s with
  | .raw (.slice none 0 0) => match m with
    | 0 => .leaf (.raw (.slice none 0 0), [])
    | _ + 1 => .br (roomB m by_) (.leaf (.h n, [(n, .rw e k m false us)])) .fail
  | .h id => match look id with
    | some (.rw e' k' len _ cs) => match Nat.beq e' e, Nat.beq k' k with
      | true, true => .br (roomB (len + m) by_) (forceL (cs ++ us) fun l => .leaf (.h n, [(n, .rw e k (len + m) false l), (id, .gone)])) .fail
      | _, _ => .fail
    | _ => .fail
  | .bs id off len cap => match look id with
    | some (.box cs ty) => .br (decide (len + m ≤ cap))
        (match Nat.ble (off + len * k + us.length) cs.length with
          | true => forceL (spliceS cs (off + len * k) us) fun l => .leaf (.bs id off (len + m) cap, [(id, .box l ty)])
          | false => .fail)
        (.br (roomB (len + m) by_) (match segS cs off (len * k) with
          | some l => forceL (l ++ us) fun l => .leaf (.h n, [(n, .rw e k (len + m) false l)])
          | none => .fail) .fail)
    | _ => .fail
  | .vs id sz bs off len cap => match look id with
    | some (.rw e' k' tl full cs) => match Nat.beq sz k, Nat.beq k' k with
      | true, true => .br (decide (off + len ≤ tl))
          (.br (match cap with | some c => decide (len + m ≤ c) | none => decide (off + len + m ≤ tl))
            (.br (decide (off + len + m ≤ tl)) (forceL (spliceS cs ((off + len) * k) us) fun l => .leaf (.vs id sz bs off (len + m) cap, [(id, .rw e' k' tl full l)])) .fail)
            (.br (match cap with | some _ => true | none => full) (.br (roomB (len + m) by_) (match segS cs (off * k) (len * k) with
              | some l => forceL (l ++ us) fun l => .leaf (.h n, [(n, .rw e k (len + m) false l)])
              | none => .fail) .fail) .fail)) .fail
      | _, _ => .fail
    | _ => .fail
  | _ => .fail
section sound
variable {B : World} {X : Own} {ρ : Asg} {hp : Hp C} {n : Nat} {w : World}
theorem segS_get {cs l : List SV} {off k : Nat} {vs : List Value} (h : segS cs off k = some l) (hd : denL ρ cs = some vs) : ∃ us, denL ρ l = some us ∧ us.length = k ∧ us = (vs.drop off).take k ∧ off + k ≤ vs.length := by
  obtain ⟨e1, e2, e3⟩ := segS_spec h hd
  have hl := denL_length hd
  unfold segS at h
  split at h
  · rename_i hb
    have hb := Nat.le_of_ble_eq_true hb
    exact ⟨_, e2, by rw [List.length_take, List.length_drop]; omega, rfl, by omega⟩
  · cases h
theorem srcW_spec (R : Rel B X ρ hp n w) {k m : Nat} {x : SV} {us : List SV} {v : Value} (h : srcW (fun i => find i hp) k x = some (m, us)) (hx : den ρ x = some v) :
    ∃ a cap vu, v = .slice a m cap ∧ denL ρ us = some vu ∧ vu.length = m * k ∧ ∀ j y, vu[j]? = some y → ∃ a', a = some a' ∧ w.cell? (a'.add j) = some y := by
  unfold srcW at h
  split at h
  · cases h
    simp only [den, Option.some.injEq] at hx; subst hx
    exact ⟨_, _, [], rfl, rfl, by simp, fun j y hy => by simp at hy⟩
  · rename_i id off len cap
    split at h
    · rename_i cs ty hid
      split at h
      · rename_i l hl
        cases h
        simp only [den, Option.bind_eq_some_iff, Option.map_eq_some_iff] at hx
        obtain ⟨u, hu, a, ha, rfl⟩ := hx
        obtain ⟨v', hv', g, vs, rfl, _, hden, hheap⟩ := R.obj id _ hid
        rw [hu] at hv'; cases hv'
        simp only [baseOf, Option.some.injEq] at ha; subst ha
        obtain ⟨vu, h1, h2, rfl, h4⟩ := segS_get hl hden
        refine ⟨_, _, _, rfl, h1, h2, fun j y hy => ⟨_, rfl, ?_⟩⟩
        rw [Addr.add_add, Addr.add_at, Nat.zero_add, cell_of_row w g _ _ _ _ hheap]
        rw [List.getElem?_take] at hy
        split at hy
        · rw [List.getElem?_drop] at hy; simpa using hy
        · cases hy
      · cases h
    · cases h
  · rename_i id
    split at h
    · rename_i e sz len full cs hid
      split at h
      · rename_i hs
        cases h
        have hs := Nat.eq_of_beq_eq_true hs
        subst hs
        simp only [den] at hx
        obtain ⟨g, cap, vs, rest, rfl, _, hden, hlen, _, _, _, _, hcell⟩ := rw_obj R hid hx
        exact ⟨_, _, vs, rfl, hden, hlen, fun j y hy => ⟨_, rfl, by rw [Addr.add_at, Nat.zero_add]; exact hcell j y hy⟩⟩
      · cases h
    · cases h
  · rename_i id sz bs off len cap
    split at h
    · rename_i e sz' tl full cs hid
      split at h
      · rename_i hs1 hs2 hb
        have hs1 := Nat.eq_of_beq_eq_true hs1
        have hs2 := Nat.eq_of_beq_eq_true hs2
        have hb := Nat.le_of_ble_eq_true hb
        subst hs1
        subst hs2
        split at h
        · rename_i l hl
          cases h
          obtain ⟨v', hv', _⟩ := R.obj id _ hid
          obtain ⟨g, c, vs, rest, rfl, _, hden, hlen, hc, _, _, _, hcell⟩ := rw_obj R hid hv'
          have := vs_gen hv' hx
          subst this
          obtain ⟨vu, h1, h2, rfl, h4⟩ := segS_get hl hden
          refine ⟨_, _, _, rfl, h1, h2, fun j y hy => ⟨_, rfl, ?_⟩⟩
          rw [List.getElem?_take] at hy
          split at hy
          · rename_i hj
            have hne : ¬ off = c := fun e => by
              have : m = 0 := by omega
              subst this; simp at hj
            rw [if_neg hne, Addr.add_add, Addr.add_at, Nat.zero_add]
            rw [List.getElem?_drop] at hy
            exact hcell _ _ hy
          · cases hy
        · cases h
      · cases h
    · cases h
  · cases h
structure AppR (P : Program) (t e : TypeId) (i : TypeInfo) (z : Value) (k : Nat) : Prop where
  ht : P.underlying t = some (.slice e)
  hi : P.info? e = some i
  hz : i.zero = some z
  hsz : i.size = k
  hzs : z.cells.size = k
  hb : 1 ≤ i.bytes
  hk : 0 < k
theorem add_new_row (R : Rel B X ρ hp n w) {e : TypeId} {k len m cap : Nat} {l us : List SV} {vl vu : List Value} {z : Value} (hl : denL ρ l = some vl) (hu : denL ρ us = some vu) (hll : vl.length = len * k) (hul : vu.length = m * k) (hz : z.cells.size = k) (hm : len + m ≤ cap) :
    Rel B X (ρ.add n (.slice (some ⟨w.heap.size, 0, none⟩) (len + m) cap)) ((n, .rw e k (len + m) false (l ++ us)) :: hp) (n + 4) (w.drew.alloc (.cells (vl.toArray ++ vu.toArray ++ Builtin.zeroCells z.cells (cap - (len + m))) e)) := by
  have hle := Asg.le_add ρ n (.slice (some ⟨w.heap.size, 0, none⟩) (len + m) cap) (R.fresh n (Nat.le_refl _))
  refine Rel.shift (R.drew.addNew (.cells (vl.toArray ++ vu.toArray ++ Builtin.zeroCells z.cells (cap - (len + m))) e) (v := .slice (some ⟨w.heap.size, 0, none⟩) (len + m) cap) (o := .rw e k (len + m) false (l ++ us)) rfl (fun g hg => ?_) ?_) (by omega)
  · simp [blk] at hg; subst hg; rfl
  · refine ⟨vl ++ vu, denL_append hl hu, w.heap.size, cap, (Builtin.zeroCells z.cells (cap - (len + m))).toList, rfl, .inl R.size, ?_, hm, (fun h => by cases h), ?_, ?_⟩
    · rw [List.length_append, hll, hul, Nat.add_mul]
    · have e0 : (vl.toArray ++ vu.toArray ++ Builtin.zeroCells z.cells (cap - (len + m))) = (vl ++ vu ++ (Builtin.zeroCells z.cells (cap - (len + m))).toList).toArray := by
        apply Array.ext'
        simp
      rw [← e0]; exact heap_alloc_new w.drew _
    · have e1 : (Builtin.zeroCells z.cells (cap - (len + m))).toList.length = (cap - (len + m)) * k := by rw [Array.length_toList, size_zeroCells, hz]
      rw [List.length_append, List.length_append, e1, hll, hul, ← Nat.add_mul, ← Nat.add_mul]
      exact Nat.le_of_eq (by congr 1; omega)
theorem appW_grow (R : Rel B X ρ hp n w) {t tx ty e : TypeId} {i : TypeInfo} {z x : Value} {k len m cap : Nat} (A : AppR P t e i z k) {l us : List SV} {vl vu : List Value} (V : AppV P t tx ty e i z x m vu w) {base : Option Addr}
    (hl : denL ρ l = some vl) (hu : denL ρ us = some vu) (hll : vl.length = len * k) (hroom : roomB (len + m) i.bytes = true) (hlt : cap < len + m) (hbc : ∀ j y, vl[j]? = some y → ∃ b', base = some b' ∧ w.cell? (b'.add j) = some y) :
    ∃ v w' ρ', (Builtin.append_ #[t, tx] ty #[.slice base len cap, x]).run P w = .ok v w' ∧ ρ.le ρ' ∧ ρ' n = some v ∧ Rel B X ρ' ((n, .rw e k (len + m) false (l ++ us)) :: hp) (n + 4) w' := by
  have hroom := of_decide_eq_true hroom
  have hkk := room_le hroom A.hb
  have hs := SrcV.slice (P := P) (size := k) (n := len) (cap := cap) (w := w) hll hbc A.hk
  have hold : (Builtin.firstCells i.size len (.slice base len cap)).run P w.drew = .ok vl.toArray w.drew := by
    have := hs.cellsD; rw [A.hsz]; exact this
  have hrun := V.grow base len cap vl hlt (by omega) (growslice_fits hlt hroom) hold
  have hge := grownCap_ge w (len + m) cap e
  exact ⟨_, _, _, hrun, Asg.le_add ρ n _ (R.fresh n (Nat.le_refl _)), Asg.add_self ρ n _, add_new_row R hl hu hll (by rw [V.newsLen, A.hsz]) A.hzs hge⟩
theorem appW_sound (R : Rel B X ρ hp n w) {t tx ty e : TypeId} {i : TypeInfo} {z : Value} {k m : Nat} (A : AppR P t e i z k) {s : SV} {us : List SV} {vu : List Value} {vs vx : Value} {r : Res C} (h : (appW (fun i => find i hp) n e k i.bytes s m us).get = some r)
    (hs : den ρ s = some vs) (hu : denL ρ us = some vu) (h1 : ∀ u ∈ vu, u.oneCell' = true) (V : AppV P t tx ty e i z vx m vu w) : NewOk P B X ρ hp n w (Builtin.append_ #[t, tx] ty #[vs, vx]) r := by
  have hn : ρ n = none := R.fresh n (Nat.le_refl _)
  have hle : ∀ u, ρ.le (ρ.add n u) := fun u => Asg.le_add ρ n u hn
  have hul : vu.length = m * k := by rw [V.newsLen, A.hsz]
  have hus := denL_length hu
  unfold appW at h
  split at h
  · simp only [den, Option.some.injEq] at hs; subst hs
    split at h
    · simp only [Tr.get, Option.some.injEq] at h; subst h
      exact ⟨_, w, ρ, V.room none 0 0 (by simp), Asg.le_refl _, rfl, Rel.shift R (by omega)⟩
    · rename_i m
      obtain ⟨hroom, h⟩ := Tr.get_ask.1 h
      simp only [Tr.get, Option.some.injEq] at h; subst h
      have := appW_grow R A V (base := none) (l := []) (vl := []) (len := 0) (cap := 0) rfl hu (by simp) (by rw [Nat.zero_add]; exact hroom) (by omega) (fun j y hy => by simp at hy)
      simp only [List.nil_append, Nat.zero_add] at this
      exact this
  · rename_i id
    split at h
    · rename_i e' k' len full cs hid
      split at h
      · rename_i he hk
        have he := Nat.eq_of_beq_eq_true he
        have hk := Nat.eq_of_beq_eq_true hk
        subst he
        subst hk
        obtain ⟨hroom, h⟩ := Tr.get_ask.1 h
        rw [forceL_eq] at h
        simp only [Tr.get, Option.some.injEq] at h; subst h
        simp only [den] at hs
        obtain ⟨g, cap, vs, rest, rfl, hok, hden, hlen, hcap, hf, hheap, hfitc, hcell⟩ := rw_obj R hid hs
        have Rg := R.gone id hs
        by_cases hfit : len + m ≤ cap
        · have hother : ∀ j oj vj, find j ((id, SO.gone) :: hp) = some oj → oj.live = true → ρ j = some vj → blk vj ≠ some g := fun j oj vj hj hl hvj => by
            rw [find_cons] at hj
            split at hj
            · simp at hj; subst hj; simp [SO.live] at hl
            · rename_i hji
              exact R.sep id j _ oj _ vj g (Ne.symm hji) hid hj rfl hl hs hvj rfl
          have hmul : (len + m) * k' ≤ cap * k' := Nat.mul_le_mul_right _ hfit
          rw [Nat.add_mul] at hmul
          rw [List.length_append] at hfitc
          have hst := run_storeCells_at P g (len * k') e' vu 0 _ w hheap (by simp only [List.size_toArray, List.length_append]; omega) h1
          simp only [Nat.add_zero] at hst
          have hspl : (vs ++ rest).toArray.toList.take (len * k') ++ vu ++ (vs ++ rest).toArray.toList.drop (len * k' + vu.length) = (vs ++ vu) ++ rest.drop vu.length := by
            rw [List.toList_toArray, List.take_left' hlen, List.drop_append, show len * k' + vu.length - vs.length = vu.length from by omega, List.drop_of_length_le (l := vs) (by omega), List.nil_append]
          rw [hspl] at hst
          have hrun := V.room (some ⟨g, 0, none⟩) len cap hfit
          simp only [A.hsz, Addr.add_at, Nat.zero_add, hst, Result.andThen_ok] at hrun
          refine ⟨.slice (some ⟨g, 0, none⟩) (len + m) cap, _, _, hrun, hle _, Asg.add_self ρ n _, Rel.shift (n := n + 1) ?_ (by omega)⟩
          have Rw := Rg.world (w' := w.setRow g ((vs ++ vu) ++ rest.drop vu.length).toArray)
            (by simp) (by simp) (by simp) (by simp) (fun b hb hx => setRow_other w g b _ (fun e => by subst e; rcases hok with h' | h'; omega; exact hx h'))
            (fun j oj vj g' hj hl hvj hg' => setRow_other w g g' _ (fun e => by subst e; exact hother j oj vj hj hl hvj hg'))
          refine Rw.add (v := .slice (some ⟨g, 0, none⟩) (len + m) cap) (o := .rw e' k' (len + m) false (cs ++ us)) rfl ⟨vs ++ vu, denL_append hden hu, g, cap, rest.drop vu.length, rfl, hok, ?_, hfit, fun h => (by cases h), setRow_heap w g _ _ e' _ hheap, ?_⟩ (fun g' hg' => ?_) (fun j oj vj g' hj hl hvj hgj hg' => ?_) (fun g' hg' => R.prov id _ _ g' hid rfl hs hg')
          · rw [List.length_append, hlen, hul, Nat.add_mul]
          · rw [List.length_append, List.length_append, List.length_drop]; omega
          · have := R.blkOk id _ _ g' hid rfl hs hg'
            simpa using this
          · simp [blk] at hg'; subst hg'
            exact absurd hgj (hother j oj vj hj hl hvj)
        · exact appW_grow Rg A V hden hu hlen hroom (by omega) (fun j y hy => ⟨_, rfl, by rw [Addr.add_at, Nat.zero_add]; exact hcell j y hy⟩)
      · simp [Tr.get] at h
    · simp [Tr.get] at h
  · rename_i id off len cap
    split at h
    · rename_i cs ty hid
      simp only [den, Option.bind_eq_some_iff, Option.map_eq_some_iff] at hs
      obtain ⟨u, hu', a, ha, rfl⟩ := hs
      obtain ⟨v', hv', g, vs, rfl, hok, hden, hheap⟩ := R.obj id _ hid
      rw [hu'] at hv'; cases hv'
      simp only [baseOf, Option.some.injEq] at ha; subst ha
      rcases Tr.get_br.1 h with ⟨hb, h⟩ | ⟨hb, h⟩
      · have hb := of_decide_eq_true hb
        split at h
        · rename_i hfit
          have hfit := Nat.le_of_ble_eq_true hfit
          rw [forceL_eq] at h
          simp only [Tr.get, Option.some.injEq] at h; subst h
          have hlv := denL_length hden
          have hst := run_storeCells_at P g (off + len * k) ty vu 0 _ w hheap (by simp only [List.size_toArray]; omega) h1
          simp only [Nat.add_zero] at hst
          have hrun := V.room (some ((⟨g, 0, none⟩ : Addr).add off)) len cap hb
          simp only [A.hsz, Addr.add_add, Addr.add_at, Nat.zero_add, hst, Result.andThen_ok] at hrun
          refine ⟨_, _, ρ, by rw [Addr.add_at, Nat.zero_add]; exact hrun, Asg.le_refl _, by simp [den, hu', baseOf, Addr.add_at], Rel.shift (n := n) ?_ (by omega)⟩
          refine R.set hid hu' rfl rfl (by simp) (by simp) (by simp) (by simp) (fun k' hk' => ?_) ⟨g, _, rfl, hok, denL_splice hden hu, ?_⟩ (fun g' hg' => ?_)
          · exact setRow_other w g k' _ (fun e => hk' (by simp [blk, e]))
          · exact setRow_heap w g _ _ ty _ hheap
          · simp [blk] at hg'; subst hg'; exact hok
        · simp [Tr.get] at h
      · have hb := of_decide_eq_false hb
        obtain ⟨hroom, h⟩ := Tr.get_ask.1 h
        split at h
        · rename_i l hl
          rw [forceL_eq] at h
          simp only [Tr.get, Option.some.injEq] at h; subst h
          obtain ⟨vl, q1, q2, rfl, q4⟩ := segS_get hl hden
          refine appW_grow R A V q1 hu q2 hroom (by omega) (fun j y hy => ⟨_, rfl, ?_⟩)
          rw [Addr.add_add, Addr.add_at, Nat.zero_add, cell_of_row w g _ _ _ _ hheap]
          rw [List.getElem?_take] at hy
          split at hy
          · rw [List.getElem?_drop] at hy; simpa using hy
          · cases hy
        · simp [Tr.get] at h
    · simp [Tr.get] at h
  · rename_i id sz bs off len cap
    split at h
    · rename_i e' k' tl full cs hid
      split at h
      · rename_i hs1 hs2
        have hs1 := Nat.eq_of_beq_eq_true hs1
        have hs2 := Nat.eq_of_beq_eq_true hs2
        subst hs2
        subst hs1
        obtain ⟨hol, h⟩ := Tr.get_ask.1 h
        have hol := of_decide_eq_true hol
        obtain ⟨v', hv', _⟩ := R.obj id _ hid
        obtain ⟨g, c, vs, rest, rfl, hok, hden, hlen, hc, hful, hheap, hfitc, hcell⟩ := rw_obj R hid hv'
        have hve := vs_gen hv' hs
        have hlv := denL_length hden
        rcases Tr.get_br.1 h with ⟨hb, h⟩ | ⟨hb, h⟩
        · obtain ⟨hin, h⟩ := Tr.get_ask.1 h
          have hin := of_decide_eq_true hin
          rw [forceL_eq] at h
          simp only [Tr.get, Option.some.injEq] at h; subst h
          have hmul : (off + len + m) * sz ≤ tl * sz := Nat.mul_le_mul_right _ hin
          rw [Nat.add_mul] at hmul
          obtain ⟨g2, cap2, he, w', hst, R'⟩ := R.setR (P := P) hid hv' (off := (off + len) * sz) hu h1 (by omega)
          cases he
          have hcap : len + m ≤ capO cap (c - off) := by
            cases cap with
            | none => simp only [capO]; omega
            | some q => simp only [capO]; exact of_decide_eq_true hb
          subst hve
          have hrun := V.room (some (if off = c then (⟨g, 0, none⟩ : Addr).add (Nat.min bs off * sz) else (⟨g, 0, none⟩ : Addr).add (off * sz))) len (capO cap (c - off)) hcap
          have hst2 : (storeCells ((if off = c then (⟨g, 0, none⟩ : Addr).add (Nat.min bs off * sz) else (⟨g, 0, none⟩ : Addr).add (off * sz)).add (len * sz)) vu).run P w = .ok () w' := by
            by_cases hoc : off = c
            · have h0 : vu = [] := List.length_eq_zero_iff.1 (by rw [hul, show m = 0 from by omega, Nat.zero_mul])
              subst h0
              rw [store_nil] at hst ⊢
              exact hst
            · rw [if_neg hoc, Addr.add_add, ← Nat.add_mul, Addr.add_at, Nat.zero_add]
              exact hst
          simp only [A.hsz, hst2, Result.andThen_ok] at hrun
          refine ⟨_, w', ρ, hrun, Asg.le_refl _, ?_, Rel.shift R' (by omega)⟩
          simp only [den, hv', Option.bind_some, vsV]
        · obtain ⟨hful2, h⟩ := Tr.get_ask.1 h
          obtain ⟨hroom, h⟩ := Tr.get_ask.1 h
          split at h
          · rename_i l hl
            rw [forceL_eq] at h
            simp only [Tr.get, Option.some.injEq] at h; subst h
            have hlt : capO cap (c - off) < len + m := by
              cases cap with
              | none =>
                have hb := of_decide_eq_false hb
                have := hful hful2
                simp only [capO]; omega
              | some q =>
                have hb := of_decide_eq_false hb
                simp only [capO]; omega
            subst hve
            obtain ⟨vl, q1, q2, rfl, q4⟩ := segS_get hl hden
            refine appW_grow R A V q1 hu q2 hroom hlt (fun j y hy => ⟨_, rfl, ?_⟩)
            rw [List.getElem?_take] at hy
            split at hy
            · rename_i hj
              have hne : ¬ off = c := fun e => by
                have : len = 0 := by omega
                subst this; simp at hj
              rw [if_neg hne, Addr.add_add, Addr.add_at, Nat.zero_add]
              rw [List.getElem?_drop] at hy
              exact hcell _ _ hy
            · cases hy
          · simp [Tr.get] at h
      · simp [Tr.get] at h
    · simp [Tr.get] at h
  · simp [Tr.get] at h
def pAppendW (P : Program) (look : Nat → Option (SO C)) (n : Nat) (t tx : TypeId) (s x : SV) : Tr (Res C) := match P.underlying t with
  | some (.slice e) => match szOf P e, zeroT P e, bytesT P e with
    | some k, some z, some by_ => match (C e).dec (rawL z.cells.toList) with
      | some _ => pAppend P look n t tx s x
      | none => match Nat.beq z.cells.size k, Nat.ble 1 k, Nat.ble 1 by_ with
        | true, true, true => match P.underlying tx with
          | some (.slice _) => match srcW look k x with
            | some (m, us) => match allOne us with
              | true => appW look n e k by_ s m us
              | false => .fail
            | none => .fail
          | _ => .fail
        | _, _, _ => .fail
    | _, _, _ => .fail
  | _ => .fail
theorem pAppendW_sound (R : Rel B X ρ hp n w) {t tx ty : TypeId} {s x : SV} {vs vx : Value} {r : Res C} (h : (pAppendW P (fun i => find i hp) n t tx s x).get = some r) (hs : den ρ s = some vs) (hx : den ρ x = some vx) :
    NewOk P B X ρ hp n w (Builtin.append_ #[t, tx] ty #[vs, vx]) r := by
  unfold pAppendW at h
  split at h
  · rename_i e ht
    split at h
    · rename_i k z by_ hk hz hby
      split at h
      · exact pAppend_sound R h hs hx
      · split at h
        · rename_i b1 b2 b3
          have b1 := Nat.eq_of_beq_eq_true b1
          have b2 := Nat.le_of_ble_eq_true b2
          have b3 := Nat.le_of_ble_eq_true b3
          obtain ⟨i, hi⟩ : ∃ i, P.info? e = some i := by
            unfold szOf at hk; split at hk
            · rename_i i hi; exact ⟨i, hi⟩
            · cases hk
          have ek : i.size = k := by simpa [szOf, hi] using hk
          have ez : i.zero = some z := by simpa [zeroT, hi] using hz
          have eb : i.bytes = by_ := by simpa [bytesT, hi] using hby
          have A : AppR P t e i z k := ⟨ht, hi, ez, ek, b1, by omega, b2⟩
          split at h
          · rename_i e' htx
            split at h
            · rename_i m us hsrc
              split at h
              · rename_i hone
                obtain ⟨a, cap, vu, rfl, q1, q2, q3⟩ := srcW_spec R hsrc hx
                exact appW_sound R A (by rw [eb]; exact h) hs q1 (allOne_mem R.one q1 hone) (AppV.ofSrc ht hi ez (.inl ⟨e', htx⟩) (by rw [ek]; exact SrcV.slice q2 q3 b2))
              · simp [Tr.get] at h
            · simp [Tr.get] at h
          · simp [Tr.get] at h
        · simp [Tr.get] at h
    · simp [Tr.get] at h
  · simp [Tr.get] at h
end sound
end
end Go.Sx
/-
  The symbolic evaluator: bytes told by a function as sources and targets; rows and such bytes made. Own work; nothing here is trusted.
-/
namespace Go.Sx
noncomputable section
open Go.RowKit
variable {C : Tab} {P : Program}
def srcM (look : Nat → Option (SO C)) (e : TypeId) (x : SV) : Tr (List (C e).α) := match x with
  | .vs id sz _ off len _ => match look id, (C e).byt with
    | some (.mem _ m f), some b => match Nat.beq sz 1 with
      | true => .br (decide (off + len ≤ m)) (.leaf ((memL f off len).map b.f)) .fail
      | false => .fail
    | _, _ => srcT look e x
  | .h id => match look id, (C e).byt with
    | some (.mem _ m f), some b => .leaf ((memL f 0 m).map b.f)
    | _, _ => srcT look e x
  | _ => srcT look e x
theorem byt_flat {c : Codec} (b : Byt c.α c.enc) : ∀ l : List Int, c.flat (l.map b.f) = l.map (Value.int .u8)
  | [] => rfl
  | x :: r => by simp only [List.map_cons, Codec.flat, b.law, byt_flat b r]; rfl
theorem byt_flatg {c : Codec} (b : Byt c.α c.enc) : ∀ l : List c.α, c.flat l = (l.map b.g).map (Value.int .u8)
  | [] => rfl
  | x :: r => by simp only [List.map_cons, Codec.flat, b.lawg, byt_flatg b r]; rfl
section sound
variable {B : World} {X : Own} {ρ : Asg} {hp : Hp C} {n : Nat} {w : World}
theorem srcM_spec (R : Rel B X ρ hp n w) {e : TypeId} {x : SV} {us : List (C e).α} {v : Value} (h : (srcM (fun i => find i hp) e x).get = some us) (hx : den ρ x = some v) :
    SrcV P (C e).sz v us.length ((C e).flat us) w ∧ ((∃ a l c, v = .slice a l c) ∨ ∃ s, v = .string s) := by
  have key : ∀ {off len : Nat} {f : Nat → Int} {b : Byt (C e).α (C e).enc} {a : Addr} {cap : Nat}, (∀ i, i < len → w.cell? (a.add i) = some (.int .u8 (f (off + i)))) →
      SrcV P (C e).sz (.slice (some a) len cap) ((memL f off len).map b.f).length ((C e).flat ((memL f off len).map b.f)) w := fun {off len f b a cap} hc => by
    have hl : ((memL f off len).map b.f).length = len := by rw [List.length_map, memL_length]
    rw [hl]
    refine SrcV.slice (by rw [(C e).flat_length, hl]) (fun j y hy => ⟨a, rfl, ?_⟩) (C e).pos
    rw [byt_flat, List.getElem?_map] at hy
    have hj : j < len := by
      by_cases hj : j < len
      · exact hj
      · rw [List.getElem?_eq_none (by rw [memL_length]; omega)] at hy; cases hy
    rw [memL_get f len off j hj] at hy
    cases hy
    exact hc j hj
  unfold srcM at h
  split at h
  · rename_i id sz bs off len cap
    split at h
    · rename_i e2 m f b hid hb
      split at h
      · rename_i hs
        have hs := Nat.eq_of_beq_eq_true hs
        subst hs
        obtain ⟨hfit, h⟩ := Tr.get_ask.1 h
        have hfit := of_decide_eq_true hfit
        simp only [Tr.get, Option.some.injEq] at h; subst h
        obtain ⟨v', hv', _⟩ := R.obj id _ hid
        obtain ⟨g, c, rfl, _, _, _, _, hcell⟩ := mem_obj R hid hv'
        have := vs_gen hv' hx
        subst this
        refine ⟨key fun i hi => ?_, .inl ⟨_, _, _, rfl⟩⟩
        rw [if_neg (by omega), Nat.mul_one, Addr.add_add, Addr.add_at, Nat.zero_add]
        exact hcell _ (by omega)
      · simp [Tr.get] at h
    · exact srcT_spec R h hx
  · rename_i id
    split at h
    · rename_i e2 m f b hid hb
      simp only [Tr.get, Option.some.injEq] at h; subst h
      simp only [den] at hx
      obtain ⟨g, c, rfl, _, _, _, _, hcell⟩ := mem_obj R hid hx
      refine ⟨key fun i hi => ?_, .inl ⟨_, _, _, rfl⟩⟩
      rw [Addr.add_at, Nat.zero_add]
      exact hcell _ hi
    · exact srcT_spec R h hx
  · exact srcT_spec R h hx
def isMem (look : Nat → Option (SO C)) : SV → Bool
  | .vs id _ _ _ _ _ => match look id with
    | some (.mem _ _ _) => true
    | _ => false
  | .h id => match look id with
    | some (.mem _ _ _) => true
    | _ => false
  | _ => false
def pAppendX (P : Program) (look : Nat → Option (SO C)) (n : Nat) (t tx : TypeId) (s x : SV) : Tr (Res C) := match isMem look x with
  | false => pAppendW P look n t tx s x
  | true => match P.underlying t with
    | some (.slice e) => match szOf P e, zeroT P e, bytesT P e with
      | some k, some z, some by_ => match Nat.beq z.cells.size k, Nat.beq k (C e).sz, Nat.ble 1 by_ with
        | true, true, true => match (C e).dec (rawL z.cells.toList), P.underlying tx with
          | some _, some (.slice _) => (srcM look e x).bind fun us => appGo look n e by_ s us
          | _, _ => .fail
        | _, _, _ => .fail
      | _, _, _ => .fail
    | _ => .fail
theorem pAppendX_sound (R : Rel B X ρ hp n w) {t tx ty : TypeId} {s x : SV} {vs vx : Value} {r : Res C} (h : (pAppendX P (fun i => find i hp) n t tx s x).get = some r) (hs : den ρ s = some vs) (hx : den ρ x = some vx) :
    NewOk P B X ρ hp n w (Builtin.append_ #[t, tx] ty #[vs, vx]) r := by
  unfold pAppendX at h
  split at h
  · exact pAppendW_sound R h hs hx
  · split at h
    · rename_i e ht
      split at h
      · rename_i k z by_ hk hz hby
        split at h
        · rename_i b1 b2 b3
          have b1 := Nat.eq_of_beq_eq_true b1
          have b2 := Nat.eq_of_beq_eq_true b2
          have b3 := Nat.le_of_ble_eq_true b3
          split at h
          · rename_i a0 e' hdec htx
            have henc : z.cells.toList = (C e).enc a0 := by
              have := (C e).law _ _ hdec
              have h1 : denL ρ (rawL z.cells.toList) = some ((C e).enc a0) := by rw [this]; exact denL_rawL _
              exact denL_inj (denL_rawL _) h1
            obtain ⟨i, hi⟩ : ∃ i, P.info? e = some i := by
              unfold szOf at hk; split at hk
              · rename_i i hi; exact ⟨i, hi⟩
              · cases hk
            have ek : i.size = k := by simpa [szOf, hi] using hk
            have ez : i.zero = some z := by simpa [zeroT, hi] using hz
            have eb : i.bytes = by_ := by simpa [bytesT, hi] using hby
            have A : AppT P t e i z (C e) := ⟨ht, hi, ez, by rw [ek, b2], ⟨a0, henc⟩, by omega⟩
            obtain ⟨us, hus, h⟩ := Tr.get_bind h
            obtain ⟨hsrc, _⟩ := srcM_spec (P := P) R hus hx
            exact appGo_sound R A (by rw [eb]; exact h) hs (AppV.ofSrc ht hi ez (.inl ⟨e', htx⟩) (by rw [ek, b2]; exact hsrc))
          · simp [Tr.get] at h
        · simp [Tr.get] at h
      · simp [Tr.get] at h
    · simp [Tr.get] at h
def pCopyX (P : Program) (look : Nat → Option (SO C)) (t : TypeId) (d x : SV) : Tr (Res C) := match P.underlying t, d with
  | some (.slice e), .vs id sz _ off len _ => match look id with
    | some (.mem e2 m f) => match szOf P e, (C e).byt, Nat.beq sz 1 with
      | some 1, some b, true => (srcM look e x).bind fun us => .br (decide (off + (us.take len).length ≤ m)) (.leaf (.raw (.int .i64 ((us.take len).length : Nat)), [(id, .mem e2 m (wrM f off ((us.take len).map b.g)))])) .fail
      | _, _, _ => .fail
    | _ => pCopy P look t d x
  | _, _ => pCopy P look t d x
theorem pCopyX_sound (R : Rel B X ρ hp n w) {t t' ty : TypeId} {d x : SV} {vd vx : Value} {r : Res C} (h : (pCopyX P (fun i => find i hp) t d x).get = some r) (hd : den ρ d = some vd) (hx : den ρ x = some vx) :
    NewOk P B X ρ hp n w (Builtin.copy_ #[t, t'] ty #[vd, vx]) r := by
  unfold pCopyX at h
  split at h
  · rename_i e id sz bs off len cap ht
    split at h
    · rename_i e2 m f hid
      split at h
      · rename_i b hk hb hs
        have hs := Nat.eq_of_beq_eq_true hs
        subst hs
        obtain ⟨us, hus, h⟩ := Tr.get_bind h
        obtain ⟨hfit, h⟩ := Tr.get_ask.1 h
        have hfit := of_decide_eq_true hfit
        simp only [Tr.get, Option.some.injEq] at h; subst h
        obtain ⟨hsrc, _⟩ := srcM_spec (P := P) R hus hx
        have hsz := byt_sz b
        rw [hsz] at hsrc
        obtain ⟨v', hv', _⟩ := R.obj id _ hid
        have hml : ((us.take len).map b.g).length = (us.take len).length := List.length_map _
        obtain ⟨g, rfl, w', hst, R'⟩ := R.setM (P := P) hid hv' (off := off) (us := (us.take len).map b.g) (by rw [hml]; exact hfit)
        have := vs_gen hv' hd
        subst this
        have hst2 : (storeCells (if off = m then (⟨g, 0, none⟩ : Addr).add (Nat.min bs off * 1) else (⟨g, 0, none⟩ : Addr).add (off * 1)) ((C e).flat (us.take len))).run P w = .ok () w' := by
          rw [byt_flatg b]
          by_cases hoc : off = m
          · have h0 : us.take len = [] := List.length_eq_zero_iff.1 (by omega)
            rw [h0] at hst ⊢
            simp only [List.map_nil] at hst ⊢
            rw [store_nil] at hst ⊢
            exact hst
          · rw [if_neg hoc, Nat.mul_one, Addr.add_at, Nat.zero_add]; exact hst
        have hm : (us.take len).length = Nat.min us.length len := by rw [List.length_take]; exact Nat.min_comm _ _
        have hcells := hsrc.cells (Nat.min us.length len) (Nat.min_le_left _ _)
        have hfl : ((C e).flat us).take (Nat.min us.length len * 1) = (C e).flat (us.take len) := by
          rw [← hsz, ← (C e).flat_take]
          congr 1
          rw [← hm, List.length_take]
          by_cases h : len ≤ us.length
          · rw [Nat.min_eq_left h]
          · rw [Nat.min_eq_right (by omega), List.take_of_length_le (Nat.le_refl _), List.take_of_length_le (by omega)]
        rw [hfl] at hcells
        refine ⟨.int .i64 ((us.take len).length : Nat), w', ρ, ?_, Asg.le_refl _, rfl, Rel.shift R' (by omega)⟩
        generalize (if off = m then (⟨g, 0, none⟩ : Addr).add (Nat.min bs off * 1) else (⟨g, 0, none⟩ : Addr).add (off * 1)) = ad at *
        simp [Builtin.copy_, run_underlying ht, hsrc.len, run_sizeOf hk, hcells, hst2, hm, goInt]
      · simp [Tr.get] at h
    · exact pCopy_sound R h hd hx
  · exact pCopy_sound R h hd hx
def pClearX (P : Program) (look : Nat → Option (SO C)) (t : TypeId) (d : SV) : Tr (Res C) := match P.underlying t, d with
  | some (.slice e), .vs id sz _ off len _ => match look id with
    | some (.rw e' k tl full cs) => match szOf P e, zeroT P e with
      | some k', some z => match Nat.beq k' k && Nat.beq sz k, Nat.beq z.cells.size k, allOne (rawL (repL z.cells.toList len)) with
        | true, true, true => .br (decide (off + len ≤ tl)) (forceL (spliceS cs (off * k) (rawL (repL z.cells.toList len))) fun l => .leaf (.raw (.tuple #[]), [(id, .rw e' k tl full l)])) .fail
        | _, _, _ => .fail
      | _, _ => .fail
    | _ => pClear P look t d
  | some (.map _ _), .h id => match look id with
    | some (.mp k vt _) => .leaf (.raw (.tuple #[]), [(id, .mp k vt [])])
    | some (.mv k ag len _ _ _ ck) => .leaf (.raw (.tuple #[]), [(id, .mv k ag len [] [] [] ck)])
    | _ => .fail
  | _, _ => pClear P look t d
theorem pClearX_sound (R : Rel B X ρ hp n w) {t ty : TypeId} {d : SV} {vd : Value} {r : Res C} (h : (pClearX P (fun i => find i hp) t d).get = some r) (hd : den ρ d = some vd) :
    NewOk P B X ρ hp n w (Builtin.clear_ #[t] ty #[vd]) r := by
  unfold pClearX at h
  split at h
  · rename_i e id sz bs off len cap ht
    split at h
    · rename_i e' k tl full cs hid
      split at h
      · rename_i k' z hk hz
        split at h
        · rename_i hb1 hb2 hone
          simp only [Bool.and_eq_true] at hb1
          have hk1 := Nat.eq_of_beq_eq_true hb1.1
          have hk2 := Nat.eq_of_beq_eq_true hb1.2
          have hb2 := Nat.eq_of_beq_eq_true hb2
          subst hk1
          subst hk2
          obtain ⟨hfit, h⟩ := Tr.get_ask.1 h
          have hfit := of_decide_eq_true hfit
          rw [forceL_eq] at h
          simp only [Tr.get, Option.some.injEq] at h; subst h
          obtain ⟨v', hv', _⟩ := R.obj id _ hid
          obtain ⟨g, c, vs, rest, rfl, _, hden, hlen, hc, _⟩ := rw_obj R hid hv'
          have hlv := denL_length hden
          have hrl : (repL z.cells.toList len).length = len * sz := by rw [repL_length, Array.length_toList, hb2]
          have hmul : (off + len) * sz ≤ tl * sz := Nat.mul_le_mul_right _ hfit
          rw [Nat.add_mul] at hmul
          obtain ⟨g2, c2, he, w', hst, R'⟩ := R.setR (P := P) hid hv' (off := off * sz) (denL_rawL (ρ := ρ) (repL z.cells.toList len)) (allOne_mem R.one (denL_rawL _) hone) (by rw [rawL_length, hrl]; omega)
          cases he
          have := vs_gen hv' hd
          subst this
          have hst2 : (storeCells (if off = c then (⟨g, 0, none⟩ : Addr).add (Nat.min bs off * sz) else (⟨g, 0, none⟩ : Addr).add (off * sz)) (Builtin.zeroCells z.cells len).toList).run P w = .ok () w' := by
            have hze : (Builtin.zeroCells z.cells len).toList = repL z.cells.toList len := by unfold Builtin.zeroCells; rw [made_eq]
            rw [hze]
            by_cases hoc : off = c
            · have h0 : repL z.cells.toList len = [] := List.length_eq_zero_iff.1 (by rw [hrl, show len = 0 from by omega, Nat.zero_mul])
              rw [h0] at hst ⊢
              rw [store_nil] at hst ⊢
              exact hst
            · rw [if_neg hoc, Addr.add_at, Nat.zero_add]; exact hst
          refine ⟨.tuple #[], w', ρ, ?_, Asg.le_refl _, rfl, Rel.shift R' (by omega)⟩
          generalize (if off = c then (⟨g, 0, none⟩ : Addr).add (Nat.min bs off * sz) else (⟨g, 0, none⟩ : Addr).add (off * sz)) = ad at *
          cases len with
          | zero =>
            have h0 : (Builtin.zeroCells z.cells 0).toList = [] := by simp [Builtin.zeroCells]
            rw [h0, store_nil] at hst2
            cases hst2
            simp [Builtin.clear_, run_underlying ht]
          | succ q => simp [Builtin.clear_, run_underlying ht, run_zeroValue hz, hst2]
        · simp [Tr.get] at h
      · simp [Tr.get] at h
    · exact pClear_sound R h hd
  · rename_i kt et id ht
    have run : ∀ {g : Nat} {es : Array MapEntry} {clock : Nat}, w.heap[g]? = some (.map es clock) → (Builtin.clear_ #[t] ty #[.map (some g)]).run P w = .ok (.tuple #[]) { w with heap := w.heap.setIfInBounds g (.map #[] clock) } := fun {g es clock} hheap => by
      simp [Builtin.clear_, run_underlying ht, MapKept.run_getObj_map hheap, MapKept.run_setObj_map _ hheap, Result.andThen]
    split at h
    · rename_i k vt m hid
      simp only [Tr.get, Option.some.injEq] at h; subst h
      obtain ⟨v', hv', g, es, clock, rfl, hokb, hheap, _⟩ := R.obj id _ hid
      have hv2 := hv'
      simp only [den] at hd; rw [hd] at hv'; cases hv'
      refine ⟨_, _, ρ, run hheap, Asg.le_refl _, rfl, ?_⟩
      refine Rel.shift (n := n) ?_ (by omega)
      refine R.set (o' := .mp k vt []) hid hv2 rfl rfl rfl rfl rfl (by simp) (fun b hb => ?_) ⟨g, #[], clock, rfl, hokb, (MapKept.heap_set hheap).1, rfl, stOk_nil _⟩ (fun g' hg' => by simp [blk] at hg'; subst hg'; exact hokb)
      have : b ≠ g := fun eq => hb (by rw [eq]; rfl)
      exact (MapKept.heap_set hheap).2 b this
    · rename_i k ag len ks vs st ck hid
      simp only [Tr.get, Option.some.injEq] at h; subst h
      obtain ⟨v', hv', g, es, clock, us, rfl, hokb, _, hheap, _, _, _, hag, hmv⟩ := R.obj id _ hid
      have hv2 := hv'
      simp only [den] at hd; rw [hd] at hv'; cases hv'
      refine ⟨_, _, ρ, run hheap, Asg.le_refl _, rfl, ?_⟩
      refine Rel.shift (n := n) ?_ (by omega)
      refine R.set (o' := .mv k ag len [] [] [] ck) hid hv2 rfl rfl rfl rfl rfl (by simp) (fun b hb => ?_) ⟨g, #[], clock, [], rfl, hokb, rfl, (MapKept.heap_set hheap).1, rfl, List.nodup_nil, (fun l h => by cases h), hag, by rw [hmv.clock]; exact mvOk.nil _ _ _⟩ (fun g' hg' => by simp [blk] at hg'; subst hg'; exact hokb)
      have : b ≠ g := fun eq => hb (by rw [eq]; rfl)
      exact (MapKept.heap_set hheap).2 b this
    · simp [Tr.get] at h
  · exact pClear_sound R h hd
def isZ8 : List Value → Bool
  | [.int .u8 0] => true
  | _ => false
def pMakeX (P : Program) (look : Nat → Option (SO C)) (n : Nat) (t : TypeId) (l c : SV) : Tr (Res C) := match P.underlying t, l, c with
  | some (.slice e), .raw (.int kl lv), .raw (.int kc cv) => match szOf P e, zeroT P e, bytesT P e with
    | some k, some z, some by_ => match (C e).dec (rawL z.cells.toList) with
      | some _ => match isZ8 z.cells.toList && Nat.beq k 1 with
        | true => .br (decide (16384 ≤ lv) && (decide (lv = cv) && (decide ((by_ : Int) * cv ≤ 281474976710656) && decide (cv ≤ 9223372036854775807))))
            (.leaf (.h n, [(n, .mem e lv.toNat (fun _ => 0))])) (pMakeSlice P n t l c)
        | false => pMakeSlice P n t l c
      | none => match Nat.beq z.cells.size k, Nat.ble 1 k with
        | true, true => .br (decide (0 ≤ lv) && (decide (lv ≤ cv) && (decide ((by_ : Int) * cv ≤ 281474976710656) && decide (cv ≤ 9223372036854775807))))
            (forceL (rawL (repL z.cells.toList lv.toNat)) fun l => .br (decide (lv = cv)) (.leaf (.h n, [(n, .rw e k lv.toNat true l)])) (.leaf (.h n, [(n, .rw e k lv.toNat false l)]))) .fail
        | _, _ => .fail
    | _, _, _ => .fail
  | _, _, _ => .fail
theorem isZ8_spec {l : List Value} (h : isZ8 l = true) : l = [.int .u8 0] := by
  unfold isZ8 at h
  split at h
  · rfl
  · cases h
theorem pMakeX_sound (R : Rel B X ρ hp n w) {t : TypeId} {l c : SV} {r : Res C} {vl vc : Value} (h : (pMakeX P (fun i => find i hp) n t l c).get = some r) (hl : den ρ l = some vl) (hc : den ρ c = some vc) :
    NewOk P B X ρ hp n w (Instr.makeSlice t vl vc) r := by
  unfold pMakeX at h
  split at h
  · rename_i e kl lv kc cv ht
    split at h
    · rename_i k z by_ hk hz hby
      obtain ⟨i, hi⟩ : ∃ i, P.info? e = some i := by
        unfold szOf at hk; split at hk
        · rename_i i hi; exact ⟨i, hi⟩
        · cases hk
      have ek : i.size = k := by simpa [szOf, hi] using hk
      have ez : i.zero = some z := by simpa [zeroT, hi] using hz
      have eb : i.bytes = by_ := by simpa [bytesT, hi] using hby
      split at h
      · split at h
        · rename_i hz8
          rw [Bool.and_eq_true] at hz8
          have hk1 := Nat.eq_of_beq_eq_true hz8.2
          have hz8 := isZ8_spec hz8.1
          rcases Tr.get_br.1 h with ⟨hb, h⟩ | ⟨hb, h⟩
          · simp only [Tr.get, Option.some.injEq] at h; subst h
            simp only [Bool.and_eq_true, decide_eq_true_eq] at hb
            obtain ⟨h0, h1, h2, h3⟩ := hb
            subst h1
            simp [den] at hl hc; subst hl; subst hc
            have hrun := run_make (P := P) w t e i z ht hi ez kl kc lv lv (by omega) (Int.le_refl _) (by rw [eb]; exact h2) h3
            refine ⟨_, _, _, hrun, Asg.le_add ρ n _ (R.fresh n (Nat.le_refl _)), Asg.add_self ρ n _, Rel.shift (R.addNew _ (v := .slice (some ⟨w.heap.size, 0, none⟩) lv.toNat lv.toNat) (o := .mem e lv.toNat (fun _ => 0)) rfl (fun g hg => ?_) ?_) (by omega)⟩
            · simp [blk] at hg; subst hg; rfl
            · have hzs : z.cells.size = 1 := by rw [← Array.length_toList, hz8]; rfl
              have hmade : madeCells z.cells (lv.toNat * i.size) = (repL z.cells.toList lv.toNat).toArray := by
                unfold madeCells
                rw [ek, hk1, ← hzs]
                exact made_eq z.cells lv.toNat
              rw [hmade, hz8]
              refine ⟨w.heap.size, _, rfl, .inl R.size, heap_alloc_new w _, ?_, fun q hq => ?_⟩
              · rw [List.size_toArray, repL_length]; simp
              · rw [List.getElem?_toArray, repL_get _ _ _ (by simpa using hq)]
                simp [Nat.mod_one]
          · exact pMakeSlice_sound R h hl hc
        · exact pMakeSlice_sound R h hl hc
      · split at h
        · rename_i hb1 hb2
          have hb1 := Nat.eq_of_beq_eq_true hb1
          have hb2 := Nat.le_of_ble_eq_true hb2
          obtain ⟨hb, h⟩ := Tr.get_ask.1 h
          simp only [Bool.and_eq_true, decide_eq_true_eq] at hb
          obtain ⟨h0, h1, h2, h3⟩ := hb
          rw [forceL_eq] at h
          simp [den] at hl hc; subst hl; subst hc
          have hrun := run_make (P := P) w t e i z ht hi ez kl kc lv cv h0 h1 (by rw [eb]; exact h2) h3
          have hmade : madeCells z.cells (cv.toNat * i.size) = (repL z.cells.toList cv.toNat).toArray := by
            unfold madeCells
            rw [ek, ← hb1]
            exact made_eq z.cells cv.toNat
          rw [hmade] at hrun
          have hsz : z.cells.toList.length = k := by rw [Array.length_toList, hb1]
          have fin : ∀ full : Bool, (full = true → lv = cv) → NewOk P B X ρ hp n w (Instr.makeSlice t (.int kl lv) (.int kc cv)) (.h n, [(n, .rw e k lv.toNat full (rawL (repL z.cells.toList lv.toNat)))]) := fun full hf => by
            refine ⟨_, _, _, hrun, Asg.le_add ρ n _ (R.fresh n (Nat.le_refl _)), Asg.add_self ρ n _, Rel.shift (R.addNew _ (v := .slice (some ⟨w.heap.size, 0, none⟩) lv.toNat cv.toNat) (o := .rw e k lv.toNat full (rawL (repL z.cells.toList lv.toNat))) rfl (fun g hg => ?_) ?_) (by omega)⟩
            · simp [blk] at hg; subst hg; rfl
            · have htk : repL z.cells.toList lv.toNat ++ (repL z.cells.toList cv.toNat).drop (lv.toNat * k) = repL z.cells.toList cv.toNat := by
                have := repL_take z.cells.toList cv.toNat lv.toNat (by omega)
                rw [hsz] at this
                rw [← this]
                exact List.take_append_drop _ _
              refine ⟨_, denL_rawL _, w.heap.size, cv.toNat, (repL z.cells.toList cv.toNat).drop (lv.toNat * k), rfl, .inl R.size, by rw [repL_length, hsz], by omega, fun hh => by rw [hf hh], by rw [htk]; exact heap_alloc_new w _, ?_⟩
              rw [htk, repL_length, hsz]
              exact Nat.le_refl _
          rcases Tr.get_br.1 h with ⟨hb, h⟩ | ⟨hb, h⟩
          · simp only [Tr.get, Option.some.injEq] at h; subst h
            exact fin true fun _ => of_decide_eq_true hb
          · simp only [Tr.get, Option.some.injEq] at h; subst h
            exact fin false fun hh => by cases hh
        · simp [Tr.get] at h
    · simp [Tr.get] at h
  · simp [Tr.get] at h
end sound
end
end Go.Sx
/-
  The symbolic evaluator: an entry of a map taken out, its keys whole numbers. Own work; nothing here is trusted.
-/
namespace Go.Sx
noncomputable section
open Go.RowKit
variable {C : Tab} {P : Program}
def delT (a : List Int) (f : List (List Int) → List SV → List Nat → Res C) : List (List Int) → List SV → List Nat → Tr (Res C)
  | k :: ks, v :: vs, s :: st => .br (eqI a k) (.leaf (f ks vs st)) (delT a (fun ks' vs' st' => f (k :: ks') (v :: vs') (s :: st')) ks vs st)
  | _, _, _ => .leaf (f [] [] [])
def pDelete (P : Program) (look : Nat → Option (SO C)) (t : TypeId) (x i : SV) : Tr (Res C) := match x with
  | .h id => match look id with
    | some (.mv k false len ks vs st ck) => match mapK P t with
      | some (_, k2, false, len2, _) => match kindEq k2 k && Nat.beq len2 len, keyOf k false len i with
        | true, some a => delT a (fun ks vs st => (.raw (.tuple #[]), [(id, .mv k false len ks vs st ck)])) ks vs st
        | _, _ => .fail
      | _ => .fail
    | _ => .fail
  | _ => .fail
theorem delT_spec {a : List Int} {ρ : Asg} {r : Res C} : ∀ {ks : List (List Int)} {vs : List SV} {st : List Nat} {us : List Value} {f : List (List Int) → List SV → List Nat → Res C}, (delT a f ks vs st).get = some r → denL ρ vs = some us → ks.length = us.length → st.length = ks.length →
    (a ∉ ks ∧ r = f ks vs st) ∨ ∃ k1 k2 v1 v v2 u1 u u2 s1 s s2, ks = k1 ++ a :: k2 ∧ vs = v1 ++ v :: v2 ∧ us = u1 ++ u :: u2 ∧ st = s1 ++ s :: s2 ∧ k1.length = u1.length ∧ s1.length = k1.length ∧ denL ρ (v1 ++ v2) = some (u1 ++ u2) ∧ r = f (k1 ++ k2) (v1 ++ v2) (s1 ++ s2)
  | [], [], [], us, f, h, hd, hl, _ => by
    simp only [delT, Tr.get, Option.some.injEq] at h; subst h
    exact .inl ⟨by simp, rfl⟩
  | [], v :: vs, st, us, f, h, hd, hl, _ => by
    obtain ⟨u, l, h1, h2, rfl⟩ := denL_cons.1 hd
    simp at hl
  | [], [], s :: st, us, f, h, hd, hl, h2 => by simp at h2
  | k0 :: ks, [], st, us, f, h, hd, hl, _ => by
    rw [denL_nil.1 hd] at hl; simp at hl
  | k0 :: ks, v :: vs, [], us, f, h, hd, hl, h2 => by simp at h2
  | k0 :: ks, v :: vs, s :: st, us, f, h, hd, hl, hs => by
    obtain ⟨u, l, h1, h2, rfl⟩ := denL_cons.1 hd
    unfold delT at h
    rcases Tr.get_br.1 h with ⟨hb, h⟩ | ⟨hb, h⟩
    · simp only [Tr.get, Option.some.injEq] at h; subst h
      have := eqI_eq.1 hb
      subst this
      exact .inr ⟨[], ks, [], v, vs, [], u, l, [], s, st, rfl, rfl, rfl, rfl, rfl, rfl, h2, rfl⟩
    · rcases delT_spec h h2 (by simpa using hl) (by simpa using hs) with ⟨g1, g2⟩ | ⟨k1, k2, v1, v', v2, u1, u', u2, s1, s', s2, rfl, rfl, rfl, rfl, g4, g4', g5, g6⟩
      · refine .inl ⟨fun hm => ?_, g2⟩
        rcases List.mem_cons.1 hm with rfl | hm
        · rw [eqI_eq.2 rfl] at hb; cases hb
        · exact g1 hm
      · exact .inr ⟨k0 :: k1, k2, v :: v1, v', v2, u :: u1, u', u2, s :: s1, s', s2, rfl, rfl, rfl, rfl, by simp [g4], by simp [g4'], denL_cons.2 ⟨u, _, h1, g5, rfl⟩, g6⟩
theorem zip_fst {α β : Type} : ∀ {l : List α} {m : List β}, l.length = m.length → (l.zip m).map Prod.fst = l
  | [], [], _ => rfl
  | a :: l, b :: m, h => by simp only [List.zip_cons_cons, List.map_cons, zip_fst (l := l) (m := m) (by simpa using h)]
theorem mvOk.keys {k : IntKind} {ag : Bool} {ks : List (List Int)} {us : List Value} {st : List Nat} {ck : Nat} {es : Array MapEntry} {clock : Nat} (h : mvOk k ag ks us st ck es clock) (hl : ks.length = us.length) : es.toList.map (·.key) = ks.map (keyV k ag) := by
  have := congrArg (List.map Prod.fst) h.pairs
  rw [zip_fst (by simpa using hl), List.map_map] at this
  exact this
theorem mvOk.len {k : IntKind} {ag : Bool} {ks : List (List Int)} {us : List Value} {st : List Nat} {ck : Nat} {es : Array MapEntry} {clock : Nat} (h : mvOk k ag ks us st ck es clock) (hl : ks.length = us.length) : st.length = ks.length := by
  rw [← h.born, List.length_map, ← List.length_map (f := (·.key)), h.keys hl, List.length_map]
theorem mvOk.split {k : IntKind} {k1 k3 : List (List Int)} {u1 u2 : List Value} {u : Value} {s1 s2 : List Nat} {s : Nat} {ck : Nat} {es : Array MapEntry} {clock : Nat} {x0 : Int} (h : mvOk k false (k1 ++ [x0] :: k3) (u1 ++ u :: u2) (s1 ++ s :: s2) ck es clock) (h1 : k1.length = u1.length) (h2 : s1.length = k1.length) (hl : (k1 ++ [x0] :: k3).length = (u1 ++ u :: u2).length) (hnd : (k1 ++ [x0] :: k3).Nodup) (hkl : ∀ l ∈ k1 ++ [x0] :: k3, l.length = 1)
    {l1 l2 : List MapEntry} {e0 : MapEntry} (hes : es.toList = l1 ++ e0 :: l2) (hk : e0.key = .int k x0) : l1.length = k1.length ∧ e0.val = u ∧ e0.born = s ∧ (l1.map fun e => (e.key, e.val)) = (k1.map (keyV k false)).zip u1 ∧ (l2.map fun e => (e.key, e.val)) = (k3.map (keyV k false)).zip u2 ∧ l1.map (·.born) = s1 ∧ l2.map (·.born) = s2 := by
  have hkeys := h.keys hl
  have hpos : l1.length = k1.length := by
    rw [hes] at hkeys
    have a1 : ((k1 ++ [x0] :: k3).map (keyV k false))[l1.length]? = some (.int k x0) := by
      rw [← hkeys, List.map_append, List.getElem?_append_right (by simp)]; simp [hk]
    rw [List.getElem?_map, Option.map_eq_some_iff] at a1
    obtain ⟨b, hb, hbk⟩ := a1
    have hbx : b = [x0] := keyV_inj (a := b) (b := [x0]) (k := k) (ag := false) hbk (fun _ => hkl b (List.mem_of_getElem? hb)) (fun _ => rfl)
    subst hbx
    have a2 : (k1 ++ [x0] :: k3)[k1.length]? = some [x0] := by rw [List.getElem?_append_right (Nat.le_refl _)]; simp
    obtain ⟨q1, e1⟩ := List.getElem?_eq_some_iff.1 hb
    obtain ⟨q2, e2⟩ := List.getElem?_eq_some_iff.1 a2
    have hp := List.pairwise_iff_getElem.1 hnd
    rcases Nat.lt_trichotomy l1.length k1.length with hlt | he | hlt
    · exact absurd (e1.trans e2.symm) (hp _ _ q1 q2 hlt)
    · exact he
    · exact absurd (e2.trans e1.symm) (hp _ _ q2 q1 hlt)
  have hp := h.pairs
  rw [hes, List.map_append, List.map_cons, List.map_append, List.zip_append (by simpa using h1), List.map_cons, List.zip_cons_cons] at hp
  obtain ⟨p1, p2⟩ := List.append_inj hp (by rw [List.length_map, List.length_zip, List.length_map, ← h1, Nat.min_self, hpos])
  obtain ⟨p3, p4⟩ := List.cons.inj p2
  have hb := h.born
  rw [hes, List.map_append, List.map_cons] at hb
  obtain ⟨p5, p6⟩ := List.append_inj hb (by rw [List.length_map, hpos, h2])
  obtain ⟨p7, p8⟩ := List.cons.inj p6
  exact ⟨hpos, congrArg Prod.snd p3, p7, p1, p4, p5, p8⟩
theorem findNow_at {k : IntKind} (x : Int) : ∀ (l : List MapEntry) (j : Nat), (∀ e ∈ l, ∃ y, e.key = .int k y) →
    (Instr.findNow (.int k) (.int k x) l j = some none ∧ ∀ e ∈ l, e.key ≠ .int k x) ∨ ∃ l1 e l2, l = l1 ++ e :: l2 ∧ e.key = .int k x ∧ Instr.findNow (.int k) (.int k x) l j = some (some (j + l1.length, e.val))
  | [], j, _ => .inl ⟨rfl, by simp⟩
  | e :: l, j, h => by
    obtain ⟨y, he⟩ := h e List.mem_cons_self
    by_cases hxy : x = y
    · subst hxy
      exact .inr ⟨[], e, l, rfl, he, by simp [Instr.findNow, he, Instr.sameNow]⟩
    · have hstep : Instr.findNow (.int k) (.int k x) (e :: l) j = Instr.findNow (.int k) (.int k x) l (j + 1) := by simp [Instr.findNow, he, Instr.sameNow, beq_eq_false_iff_ne.2 hxy]
      rw [hstep]
      rcases findNow_at x l (j + 1) fun e he => h e (List.mem_cons_of_mem _ he) with ⟨r1, r2⟩ | ⟨l1, e', l2, rfl, r2, r3⟩
      · refine .inl ⟨r1, fun e' he' => ?_⟩
        rcases List.mem_cons.1 he' with rfl | he'
        · rw [he]; intro h; cases h; exact hxy rfl
        · exact r2 e' he'
      · exact .inr ⟨e :: l1, e', l2, rfl, r2, by rw [r3]; simp; omega⟩
section sound
variable {B : World} {X : Own} {ρ : Asg} {hp : Hp C} {n : Nat} {w : World}
theorem pDelete_sound (R : Rel B X ρ hp n w) {t ty : TypeId} {x i : SV} {r : Res C} {vx vi : Value} {ts : Array TypeId} (hts : ts[0]? = some t) (h : (pDelete P (fun i => find i hp) t x i).get = some r) (hx : den ρ x = some vx) (hi : den ρ i = some vi) :
    NewOk P B X ρ hp n w (Builtin.delete_ ts ty #[vx, vi]) r := by
  unfold pDelete at h
  split at h
  · rename_i id
    split at h
    · rename_i k len ks vs st ck hid
      split at h
      · rename_i key k2 len2 e hm
        obtain ⟨ht, hkt⟩ := mapK_spec hm
        split at h
        · rename_i a hke ha
          rw [Bool.and_eq_true] at hke
          cases kindEq_eq hke.1; cases Nat.eq_of_beq_eq_true hke.2
          obtain ⟨v', hv', g, es, clock, us, rfl, hokb, hus, hheap, hlen, hnd, hkl, hag1, hmv⟩ := R.obj id _ hid
          have hperm := hmv.perm
          have hsl := hmv.len hlen
          have hv2 := hv'
          simp only [den] at hx; rw [hx] at hv'; cases hv'
          obtain ⟨rfl, hal⟩ := keyOf_spec ha R.one hi hag1
          have hck := run_checkKey_mv (P := P) (w := w) hkt hal
          obtain ⟨hu, rfl⟩ := hkt.int rfl
          obtain ⟨x0, rfl⟩ : ∃ x0, a = [x0] := match a, hal with | [x0], _ => ⟨x0, rfl⟩
          have hks : ∀ e ∈ es.toList, ∃ y, e.key = .int k y := fun e he => by
            obtain ⟨b, hb, hk⟩ := mv_keys hlen hperm hkl e he
            match b, hb with
            | [y], _ => exact ⟨y, hk⟩
          have hkey : keyV k false [x0] = .int k x0 := rfl
          -- the run, for what is found
          have run : ∀ q, Instr.findNow (.int k) (.int k x0) es.toList 0 = some q → (Builtin.delete_ ts ty #[.map (some g), keyV k false [x0]]).run P w = .ok (.tuple #[]) { w with heap := w.heap.setIfInBounds g (.map (match q with | some (i, _) => es.eraseIdxIfInBounds i | none => es) clock) } := fun q hq => by
            have hfk := MapKept.run_findKey (P := P) (w := w) hu hq
            have hck' : ∀ b, (Instr.checkKey b 10000 key (keyV k false [x0])).run P w = .ok () w := fun b => by cases b <;> exact hck _
            cases q with
            | none => simp [Builtin.delete_, hts, run_underlying ht, MapKept.run_getObj_map hheap, hck', hkey ▸ hfk, MapKept.run_setObj_map _ hheap, Result.andThen]
            | some p => obtain ⟨i0, v0⟩ := p; simp [Builtin.delete_, hts, run_underlying ht, MapKept.run_getObj_map hheap, hck', hkey ▸ hfk, MapKept.run_setObj_map _ hheap, Result.andThen]
          have fin : ∀ (es' : Array MapEntry) (ks' : List (List Int)) (vs' : List SV) (us' : List Value) (st' : List Nat), denL ρ vs' = some us' → ks'.length = us'.length → ks'.Nodup → (∀ l ∈ ks', l.length = 1) → mvOk k false ks' us' st' ck es' clock →
              Rel B X ρ ((id, .mv k false 1 ks' vs' st' ck) :: hp) n { w with heap := w.heap.setIfInBounds g (.map es' clock) } := fun es' ks' vs' us' st' g1 g2 g3 g4 g5 => by
            refine R.set hid hv2 rfl rfl rfl rfl rfl (by simp) (fun b hb => ?_) ⟨g, _, _, us', rfl, hokb, g1, (MapKept.heap_set hheap).1, g2, g3, g4, hag1, g5⟩ (fun g' hg' => by simp [blk] at hg'; subst hg'; exact hokb)
            have : b ≠ g := fun eq => hb (by rw [eq]; rfl)
            exact (MapKept.heap_set hheap).2 b this
          rcases findNow_at (k := k) x0 es.toList 0 hks with ⟨q1, q2⟩ | ⟨l1, e0, l2, hes, q2, q3⟩
          · rcases delT_spec h hus hlen hsl with ⟨g1, g2⟩ | ⟨k1, k3, v1, v, v2, u1, u, u2, s1, s, s2, rfl, rfl, rfl, rfl, g4, g4', g5, g6⟩
            · subst g2
              exact ⟨_, _, ρ, run none q1, Asg.le_refl _, rfl, Rel.shift (n := n) (fin es ks vs us st hus hlen hnd hkl hmv) (by omega)⟩
            · have : (keyV k false [x0], u) ∈ ((k1 ++ [x0] :: k3).map (keyV k false)).zip (u1 ++ u :: u2) := by
                rw [List.map_append, List.zip_append (by simpa using g4)]
                exact List.mem_append_right _ List.mem_cons_self
              obtain ⟨e', m1, m2⟩ := List.mem_map.1 (hperm.mem_iff.2 this)
              exact absurd (congrArg Prod.fst m2) (q2 e' m1)
          · rcases delT_spec h hus hlen hsl with ⟨g1, g2⟩ | ⟨k1, k3, v1, v, v2, u1, u, u2, s1, s, s2, rfl, rfl, rfl, rfl, g4, g4', g5, g6⟩
            · have h1 : (e0.key, e0.val) ∈ (ks.map (keyV k false)).zip us := hperm.mem_iff.1 (List.mem_map.2 ⟨e0, by rw [hes]; simp, rfl⟩)
              obtain ⟨b2, hb2, hk2⟩ := List.mem_map.1 (List.of_mem_zip h1).1
              have := keyV_inj (hk2.trans (q2.trans hkey.symm)) (fun e => hkl b2 hb2) (fun e => rfl)
              subst this
              exact absurd hb2 g1
            · subst g6
              obtain ⟨p0, p1, p2, p3, p4, p5, p6⟩ := hmv.split g4 g4' hlen hnd hkl hes q2
              have herase : (es.eraseIdxIfInBounds (0 + l1.length)).toList = l1 ++ l2 := by
                have hlt : 0 + l1.length < es.size := by rw [← Array.length_toList, hes]; simp
                unfold Array.eraseIdxIfInBounds
                rw [dif_pos hlt, Array.toList_eraseIdx, hes, Nat.zero_add, List.eraseIdx_append_of_length_le (Nat.le_refl _), Nat.sub_self]
                rfl
              refine ⟨_, _, ρ, run _ q3, Asg.le_refl _, rfl, Rel.shift (n := n) (fin (es.eraseIdxIfInBounds (0 + l1.length)) (k1 ++ k3) (v1 ++ v2) (u1 ++ u2) (s1 ++ s2) g5 ?_ ?_ ?_ ⟨?_, ?_, hmv.clock, ?_, fun b hb => ?_⟩) (by omega)⟩
              · simp only [List.length_append, List.length_cons] at hlen ⊢; omega
              · have := hnd
                rw [List.nodup_append] at this ⊢
                obtain ⟨n1, n2, n3⟩ := this
                exact ⟨n1, (List.nodup_cons.1 n2).2, fun a ha b hb => n3 a ha b (List.mem_cons_of_mem _ hb)⟩
              · intro l hl
                rcases List.mem_append.1 hl with hl | hl
                · exact hkl l (List.mem_append_left _ hl)
                · exact hkl l (List.mem_append_right _ (List.mem_cons_of_mem _ hl))
              · rw [herase, List.map_append, p3, p4, List.map_append, List.zip_append (by simpa using g4)]
              · rw [herase, List.map_append, p5, p6]
              · have := hmv.apart
                rw [List.nodup_append] at this ⊢
                obtain ⟨n1, n2, n3⟩ := this
                exact ⟨n1, (List.nodup_cons.1 n2).2, fun a ha b hb => n3 a ha b (List.mem_cons_of_mem _ hb)⟩
              · rcases List.mem_append.1 hb with hb | hb
                · exact hmv.below b (List.mem_append_left _ hb)
                · exact hmv.below b (List.mem_append_right _ (List.mem_cons_of_mem _ hb))
        · simp [Tr.get] at h
      · simp [Tr.get] at h
    · simp [Tr.get] at h
  · simp [Tr.get] at h
end sound
end
end Go.Sx
/-
  The symbolic evaluator: an entry of a map opened and stored, its keys whole numbers. Own work; nothing here is trusted.
-/
namespace Go.Sx
noncomputable section
open Go.RowKit
variable {C : Tab} {P : Program}
def entT (a : List Int) (nw : Res C) : List (List Int) → List SV → List Nat → Tr (Res C)
  | k :: ks, v :: vs, s :: st => .br (eqI a k) (.leaf (.tup [v, .raw (goInt s)], [])) (entT a nw ks vs st)
  | _, _, _ => .leaf nw
def pEntOpen (P : Program) (look : Nat → Option (SO C)) (t : TypeId) (x i : SV) : Tr (Res C) := match x with
  | .h id => match look id with
    | some (.mv k false len ks vs st ck) => match mapK P t with
      | some (_, k2, false, len2, e) => match kindEq k2 k && Nat.beq len2 len, keyOf k false len i, zeroT P e with
        | true, some a, some z => entT a (.tup [.raw z, .raw (goInt ck)], [(id, .mv k false len (ks ++ [a]) (vs ++ [.raw z]) (st ++ [ck]) (ck + 1))]) ks vs st
        | _, _, _ => .fail
      | _ => .fail
    | _ => .fail
  | _ => .fail
def storeT (c : Int) (v : SV) (f : List SV → Res C) : List SV → List Nat → Tr (Res C)
  | v0 :: vs, s :: st => .br (decide ((s : Int) = c)) (.leaf (f (v :: vs))) (storeT c v (fun vs' => f (v0 :: vs')) vs st)
  | _, _ => .fail
def pEntStore (look : Nat → Option (SO C)) (x s v : SV) : Tr (Res C) := match x, s with
  | .h id, .raw (.int _ c) => match look id with
    | some (.mv k ag len ks vs st ck) => storeT c v (fun vs => (.raw undef, [(id, .mv k ag len ks vs st ck)])) vs st
    | _ => .fail
  | _, _ => .fail
theorem entT_spec {a : List Int} {nw : Res C} {ρ : Asg} {r : Res C} : ∀ {ks : List (List Int)} {vs : List SV} {st : List Nat} {us : List Value}, (entT a nw ks vs st).get = some r → denL ρ vs = some us → ks.length = us.length → st.length = ks.length →
    (a ∉ ks ∧ r = nw) ∨ ∃ (k1 k2 : List (List Int)) (v : SV) (u1 : List Value) (u : Value) (u2 : List Value) (s1 : List Nat) (s : Nat) (s2 : List Nat), ks = k1 ++ a :: k2 ∧ us = u1 ++ u :: u2 ∧ st = s1 ++ s :: s2 ∧ k1.length = u1.length ∧ s1.length = k1.length ∧ den ρ v = some u ∧ r = (.tup [v, .raw (goInt s)], [])
  | [], vs, st, us, h, hd, hl, _ => by
    simp only [entT, Tr.get, Option.some.injEq] at h; subst h
    exact .inl ⟨by simp, rfl⟩
  | k0 :: ks, [], st, us, h, hd, hl, _ => by rw [denL_nil.1 hd] at hl; simp at hl
  | k0 :: ks, v :: vs, [], us, h, hd, hl, h2 => by simp at h2
  | k0 :: ks, v :: vs, s :: st, us, h, hd, hl, hs => by
    obtain ⟨u, l, h1, h2, rfl⟩ := denL_cons.1 hd
    unfold entT at h
    rcases Tr.get_br.1 h with ⟨hb, h⟩ | ⟨hb, h⟩
    · simp only [Tr.get, Option.some.injEq] at h; subst h
      have := eqI_eq.1 hb
      subst this
      exact .inr ⟨[], ks, v, [], u, l, [], s, st, rfl, rfl, rfl, rfl, rfl, h1, rfl⟩
    · rcases entT_spec h h2 (by simpa using hl) (by simpa using hs) with ⟨g1, g2⟩ | ⟨k1, k2, v', u1, u', u2, s1, s', s2, rfl, rfl, rfl, g4, g4', g5, g6⟩
      · refine .inl ⟨fun hm => ?_, g2⟩
        rcases List.mem_cons.1 hm with rfl | hm
        · rw [eqI_eq.2 rfl] at hb; cases hb
        · exact g1 hm
      · exact .inr ⟨k0 :: k1, k2, v', u :: u1, u', u2, s :: s1, s', s2, rfl, rfl, rfl, by simp [g4], by simp [g4'], g5, g6⟩
theorem storeT_spec {c : Int} {v : SV} {ρ : Asg} {r : Res C} {x : Value} : ∀ {vs : List SV} {st : List Nat} {us : List Value} {f : List SV → Res C}, (storeT c v f vs st).get = some r → denL ρ vs = some us → den ρ v = some x →
    ∃ (v1 : List SV) (v0 : SV) (v2 : List SV) (u1 : List Value) (u : Value) (u2 : List Value) (s1 : List Nat) (s : Nat) (s2 : List Nat), vs = v1 ++ v0 :: v2 ∧ us = u1 ++ u :: u2 ∧ st = s1 ++ s :: s2 ∧ s1.length = u1.length ∧ c = (s : Int) ∧ denL ρ (v1 ++ v :: v2) = some (u1 ++ x :: u2) ∧ r = f (v1 ++ v :: v2)
  | [], st, us, f, h, hd, _ => by simp [storeT, Tr.get] at h
  | v0 :: vs, [], us, f, h, hd, _ => by simp [storeT, Tr.get] at h
  | v0 :: vs, s :: st, us, f, h, hd, hx => by
    obtain ⟨u, l, h1, h2, rfl⟩ := denL_cons.1 hd
    unfold storeT at h
    rcases Tr.get_br.1 h with ⟨hb, h⟩ | ⟨hb, h⟩
    · simp only [Tr.get, Option.some.injEq] at h; subst h
      exact ⟨[], v0, vs, [], u, l, [], s, st, rfl, rfl, rfl, rfl, (of_decide_eq_true hb).symm, denL_cons.2 ⟨_, _, hx, h2, rfl⟩, rfl⟩
    · obtain ⟨v1, v', v2, u1, u', u2, s1, s', s2, rfl, rfl, rfl, g4, g5, g6, g7⟩ := storeT_spec h h2 hx
      exact ⟨v0 :: v1, v', v2, u :: u1, u', u2, s :: s1, s', s2, rfl, rfl, rfl, by simp [g4], g5, denL_cons.2 ⟨_, _, h1, g6, rfl⟩, g7⟩
theorem zip_put {α β : Type} : ∀ (l : List α) (u1 : List β) (u v : β) (u2 : List β) (a : α), l[u1.length]? = some a → l.zip (u1 ++ v :: u2) = (l.zip (u1 ++ u :: u2)).set u1.length (a, v)
  | [], _, _, _, _, _, h => by simp at h
  | b :: l, [], u, v, u2, a, h => by simp at h; subst h; rfl
  | b :: l, x :: u1, u, v, u2, a, h => by simp [zip_put l u1 u v u2 a (by simpa using h)]
section sound
variable {B : World} {X : Own} {ρ : Asg} {hp : Hp C} {n : Nat} {w : World}
theorem pEntOpen_sound (R : Rel B X ρ hp n w) {t : TypeId} {x i : SV} {r : Res C} {vx vi : Value} (h : (pEntOpen P (fun i => find i hp) t x i).get = some r) (hx : den ρ x = some vx) (hi : den ρ i = some vi) :
    NewOk P B X ρ hp n w (Instr.mapEntry t vx vi) r := by
  unfold pEntOpen at h
  split at h
  · rename_i id
    split at h
    · rename_i k len ks vs st ck hid
      split at h
      · rename_i key k2 len2 e hm
        obtain ⟨ht, hkt⟩ := mapK_spec hm
        split at h
        · rename_i a z hke ha hz
          rw [Bool.and_eq_true] at hke
          cases kindEq_eq hke.1; cases Nat.eq_of_beq_eq_true hke.2
          obtain ⟨v', hv', g, es, clock, us, rfl, hokb, hus, hheap, hlen, hnd, hkl, hag1, hmv⟩ := R.obj id _ hid
          have hperm := hmv.perm
          have hsl := hmv.len hlen
          have hv2 := hv'
          simp only [den] at hx; rw [hx] at hv'; cases hv'
          obtain ⟨rfl, hal⟩ := keyOf_spec ha R.one hi hag1
          have hck := run_checkKey_mv (P := P) (w := w) hkt hal
          obtain ⟨hu, rfl⟩ := hkt.int rfl
          obtain ⟨x0, rfl⟩ : ∃ x0, a = [x0] := match a, hal with | [x0], _ => ⟨x0, rfl⟩
          have hks : ∀ e ∈ es.toList, ∃ y, e.key = .int k y := fun e he => by
            obtain ⟨b, hb, hk⟩ := mv_keys hlen hperm hkl e he
            match b, hb with
            | [y], _ => exact ⟨y, hk⟩
          have hkey : keyV k false [x0] = .int k x0 := rfl
          have hst : (Instr.keyThatStays (.int k x0) (keyV k false [x0])).run P w = .ok (.int k x0) w := MapKept.run_keyThatStays (d := .int k) (by simp [MapKept.IsKey])
          rcases findNow_at (k := k) x0 es.toList 0 hks with ⟨q1, q2⟩ | ⟨l1, e0, l2, hes, q2, q3⟩
          · have hfk := MapKept.run_findKey (P := P) (w := w) hu q1
            rcases entT_spec h hus hlen hsl with ⟨g1, g2⟩ | ⟨k1, k3, v, u1, u, u2, s1, s, s2, rfl, rfl, rfl, g4, g4', g5, g6⟩
            · subst g2
              refine ⟨.tuple #[z, goInt ck], { w with heap := w.heap.setIfInBounds g (.map (es.push { key := keyV k false [x0], val := z, born := clock }) (clock + 1)) }, ρ, ?_, Asg.le_refl _, ?_, ?_⟩
              · rw [← hmv.clock]
                simp [Instr.mapEntry, run_underlying ht, MapKept.run_getObj_map hheap, hck, hkey ▸ hfk, run_zeroValue hz, MapKept.run_setObj_map _ hheap, Result.andThen]
              · rfl
              · refine Rel.shift (n := n) (?_ : Rel B X ρ ((id, SO.mv k false 1 (ks ++ [[x0]]) (vs ++ [.raw z]) (st ++ [ck]) (ck + 1)) :: hp) n _) (by omega)
                refine R.set hid hv2 rfl rfl rfl rfl rfl (by simp) (fun b hb => ?_) ⟨g, _, _, us ++ [z], rfl, hokb, denL_append hus (denL_one rfl), (MapKept.heap_set hheap).1, by simp [hlen], ?_, ?_, hag1, ?_⟩ (fun g' hg' => by simp [blk] at hg'; subst hg'; exact hokb)
                · have : b ≠ g := fun eq => hb (by rw [eq]; rfl)
                  exact (MapKept.heap_set hheap).2 b this
                · rw [List.nodup_append]
                  exact ⟨hnd, by simp, fun x hx y hy => by simp at hy; subst hy; exact fun e => g1 (e ▸ hx)⟩
                · intro l hl
                  rcases List.mem_append.1 hl with hl | hl
                  · exact hkl l hl
                  · simp at hl; subst hl; exact hal
                · refine ⟨?_, ?_, by rw [hmv.clock], ?_, fun b hb => ?_⟩
                  · rw [zip_append_one hlen, Array.toList_push, List.map_append, hmv.pairs]; rfl
                  · rw [Array.toList_push, List.map_append, hmv.born, hmv.clock]; rfl
                  · rw [List.nodup_append]
                    exact ⟨hmv.apart, by simp, fun x hx y hy => by simp at hy; subst hy; exact Nat.ne_of_lt (hmv.below x hx)⟩
                  · rcases List.mem_append.1 hb with hb | hb
                    · exact Nat.lt_succ_of_lt (hmv.below b hb)
                    · simp at hb; subst hb; exact Nat.lt_succ_self _
            · have : (keyV k false [x0], u) ∈ ((k1 ++ [x0] :: k3).map (keyV k false)).zip (u1 ++ u :: u2) := by
                rw [List.map_append, List.zip_append (by simpa using g4)]
                exact List.mem_append_right _ List.mem_cons_self
              obtain ⟨e', m1, m2⟩ := List.mem_map.1 (hperm.mem_iff.2 this)
              exact absurd (congrArg Prod.fst m2) (q2 e' m1)
          · rcases entT_spec h hus hlen hsl with ⟨g1, g2⟩ | ⟨k1, k3, v, u1, u, u2, s1, s, s2, rfl, rfl, rfl, g4, g4', g5, g6⟩
            · have h1 : (e0.key, e0.val) ∈ (ks.map (keyV k false)).zip us := hperm.mem_iff.1 (List.mem_map.2 ⟨e0, by rw [hes]; simp, rfl⟩)
              obtain ⟨b2, hb2, hk2⟩ := List.mem_map.1 (List.of_mem_zip h1).1
              have := keyV_inj (hk2.trans (q2.trans hkey.symm)) (fun e => hkl b2 hb2) (fun e => rfl)
              subst this
              exact absurd hb2 g1
            · subst g6
              obtain ⟨p0, p1, p2, p3, p4, p5, p6⟩ := hmv.split g4 g4' hlen hnd hkl hes q2
              have hfk := MapKept.run_findKey (P := P) (w := w) hu q3
              have hl2 : es.toList[0 + l1.length]? = some e0 := by rw [hes, Nat.zero_add, List.getElem?_append_right (Nat.le_refl _), Nat.sub_self]; rfl
              have hj : es[0 + l1.length]? = some e0 := by simpa using hl2
              have hsame : es.modify (0 + l1.length) (fun e => { e with key := .int k x0 }) = es := by
                apply Array.ext'
                rw [Array.toList_modify, ChangeMaps.modify_eq_set _ _ _ _ hl2]
                have : ({ e0 with key := .int k x0 } : MapEntry) = e0 := by rw [← q2]
                rw [this]
                exact WideElems.set_self _ _ _ hl2
              have hself : ({ w with heap := w.heap.setIfInBounds g (.map es clock) } : World) = w := by
                have : w.heap.setIfInBounds g (.map es clock) = w.heap := by
                  apply Array.ext'
                  rw [Array.toList_setIfInBounds]
                  exact WideElems.set_self _ _ _ (by simpa using hheap)
                rw [this]
              have hset : (setObj g (.map es clock)).run P w = .ok () w := by rw [MapKept.run_setObj_map _ hheap, hself]
              refine ⟨.tuple #[u, goInt s], w, ρ, ?_, Asg.le_refl _, ?_, Rel.shift (n := n) R (by omega)⟩
              · simp only [Nat.zero_add] at hfk hj hsame
                have hj2 : (es[l1.length]?.map (·.key)).getD (keyV k false [x0]) = .int k x0 := by rw [hj]; exact q2
                have hb2 : (es[l1.length]?.map (fun x => ((x.born : Nat) : Int))).getD 0 = (s : Int) := by rw [hj]; exact congrArg _ p2
                simp only [Instr.mapEntry, Sem.run_bind, run_underlying ht, Result.andThen_ok, MapKept.run_getObj_map hheap, hck, hkey ▸ hfk, hj2, hst, hsame, hset, hb2, p1, Sem.run_pure]
              · show (denL ρ [v, .raw (goInt s)]).map (fun l => Value.tuple l.toArray) = _
                rw [denL_cons.2 ⟨_, _, g5, denL_one rfl, rfl⟩]; rfl
        · simp [Tr.get] at h
      · simp [Tr.get] at h
    · simp [Tr.get] at h
  · simp [Tr.get] at h
theorem pEntStore_sound (R : Rel B X ρ hp n w) {t : TypeId} {x i v : SV} {r : Res C} {vx vi vv : Value} (h : (pEntStore (fun i => find i hp) x i v).get = some r) (hx : den ρ x = some vx) (hi : den ρ i = some vi) (hv : den ρ v = some vv) :
    r.1 = .raw undef ∧ ∃ w', (Instr.entryStore t vx vi vv).run P w = .ok () w' ∧ Rel B X ρ (r.2 ++ hp) n w' := by
  unfold pEntStore at h
  split at h
  · rename_i id kc c
    split at h
    · rename_i k ag len ks vs st ck hid
      obtain ⟨v', hv', g, es, clock, us, rfl, hokb, hus, hheap, hlen, hnd, hkl, hag1, hmv⟩ := R.obj id _ hid
      have hv2 := hv'
      simp only [den] at hx; rw [hx] at hv'; cases hv'
      simp only [den, Option.some.injEq] at hi; subst hi
      obtain ⟨v1, v0, v2, u1, u, u2, s1, s, s2, rfl, rfl, rfl, g4, rfl, g6, rfl⟩ := storeT_spec h hus hv
      refine ⟨rfl, ?_⟩
      have hsz : es.toList.length = (u1 ++ u :: u2).length := by
        have := congrArg List.length hmv.pairs
        simpa [hlen] using this
      have hlt : s1.length < es.toList.length := by rw [hsz, g4]; simp
      have hl2 : es.toList[s1.length]? = some es.toList[s1.length] := List.getElem?_eq_getElem hlt
      have hb0 : es.toList[s1.length].born = s := by
        have := congrArg (·[s1.length]?) hmv.born
        simp only [List.getElem?_map, hl2, Option.map_some] at this
        rw [List.getElem?_append_right (Nat.le_refl _), Nat.sub_self] at this
        simpa using this
      have hn : (es.toList.map (·.born)).Nodup := by rw [hmv.born]; exact hmv.apart
      have hidx : es.findIdx? (fun e => ((e.born : Nat) : Int) == ((s : Nat) : Int)) = some s1.length := by
        rw [WideElems.findIdx_arr, ← hb0]
        exact WideElems.findIdx_born hn hl2
      refine ⟨{ w with heap := w.heap.setIfInBounds g (.map (es.modify s1.length fun e => { e with val := vv }) clock) }, ?_, ?_⟩
      · simp [Instr.entryStore, MapKept.run_getObj_map hheap, asInt, asIntOf, hidx, MapKept.run_setObj_map _ hheap, Result.andThen]
      · have hm : (es.modify s1.length fun e => { e with val := vv }).toList = es.toList.set s1.length { es.toList[s1.length] with val := vv } := by
          rw [Array.toList_modify, ChangeMaps.modify_eq_set _ _ _ _ hl2]
        refine R.set hid hv2 rfl rfl rfl rfl rfl (by simp) (fun b hb => ?_) ⟨g, _, _, u1 ++ vv :: u2, rfl, hokb, g6, (MapKept.heap_set hheap).1, by simpa using hlen, hnd, hkl, hag1, ?_⟩ (fun g' hg' => by simp [blk] at hg'; subst hg'; exact hokb)
        · have : b ≠ g := fun eq => hb (by rw [eq]; rfl)
          exact (MapKept.heap_set hheap).2 b this
        · refine ⟨?_, ?_, hmv.clock, hmv.apart, hmv.below⟩
          · have hkk : (ks.map (keyV k ag))[s1.length]? = some es.toList[s1.length].key := by
              rw [← hmv.keys hlen, List.getElem?_map, hl2]; rfl
            have hk2 : (ks.map (keyV k ag))[u1.length]? = some es.toList[s1.length].key := (congrArg (fun q => (ks.map (keyV k ag))[q]?) g4).symm.trans hkk
            rw [hm, List.map_set, hmv.pairs, zip_put _ u1 u vv u2 _ hk2, ← g4]
          · rw [hm, List.map_set, hmv.born, hb0]
            exact WideElems.set_self _ _ _ (by rw [List.getElem?_append_right (Nat.le_refl _), Nat.sub_self]; rfl)
    · simp [Tr.get] at h
  · simp [Tr.get] at h
end sound
end
end Go.Sx
/-
  The symbolic evaluator: the entries of a map of at most one that is to come, one after the other. Own work; nothing here is trusted.
-/
namespace Go.Sx
noncomputable section
open Go.RowKit
variable {C : Tab} {P : Program}
def pRange (P : Program) (look : Nat → Option (SO C)) (n : Nat) (t : TypeId) (x : SV) : Tr (Res C) := match P.underlying t with
  | some (.map _ _) => match x with
    | .h id => match look id with
      | some (.mv _ _ _ _ _ _ ck) => .leaf (.h n, [(n, .it [.h id] ck [] ck)])
      | _ => .fail
    | .raw (.map none) => .leaf (.h n, [(n, .it [x] 0 [] 0)])
    | _ => .fail
  | _ => .fail
def pOver : Res C := (.raw (.tuple #[.bool false]), [])
def memS (t : Nat) : List Nat → Bool
  | [] => false
  | a :: r => match Nat.beq a t with
    | true => true
    | false => memS t r
theorem memS_iff {t : Nat} : ∀ {l : List Nat}, memS t l = true ↔ t ∈ l
  | [] => by simp [memS]
  | a :: r => by
    unfold memS
    split
    · rename_i h
      simp [Nat.eq_of_beq_eq_true h]
    · rename_i h
      have : ¬ t = a := fun e => by rw [e, Nat.beq_refl] at h; cases h
      simp [memS_iff (l := r), this]
def leftS (seen : List Nat) : List Nat → List Nat
  | [] => []
  | s :: r => match memS s seen with
    | true => leftS seen r
    | false => s :: leftS seen r
def keySV (k : IntKind) : Bool → List Int → SV
  | true, a => .agg (a.map fun z => .raw (.int k z))
  | false, a => .raw (.int k (a.headD 0))
def atS (s : Nat) : List (List Int) → List SV → List Nat → Option (List Int × SV)
  | k :: ks, v :: vs, t :: st => match Nat.beq t s with
    | true => some (k, v)
    | false => atS s ks vs st
  | _, _, _ => none
def isNil {α : Type} : List α → Bool
  | [] => true
  | _ => false
def pNextAt (id : Nat) (cs : List SV) (since : Nat) (seen : List Nat) (last : Nat) (k : IntKind) (ag : Bool) (ks : List (List Int)) (vs : List SV) (st : List Nat) (ck : Nat) : Tr (Res C) :=
  match !isNil seen && !isNil st && st.all (fun b => Nat.ble last b) with
  | true => .fail
  | false => match leftS seen st with
    | [] => .leaf pOver
    | [s] => match Nat.blt s since, atS s ks vs st with
      | true, some (a, v) => .leaf (.tup [.raw (.bool true), keySV k ag a, v], [(id, .it cs since (seen ++ [s]) ck)])
      | _, _ => .fail
    | _ => .fail
def pNext (look : Nat → Option (SO C)) (x : SV) (isString : Bool) : Tr (Res C) := match isString, x with
  | false, .h id => match look id with
    | some (.it cs since seen last) => match cs with
      | [.raw (.map none)] => .leaf pOver
      | [.h m] => match look m with
        | some (.mv k ag _ ks vs st ck) => pNextAt id cs since seen last k ag ks vs st ck
        | _ => .fail
      | _ => .fail
    | _ => .fail
  | _, _ => .fail
def lastN : List Nat → Option Nat
  | [] => none
  | [s] => some s
  | _ :: r => lastN r
def pEntry (look : Nat → Option (SO C)) (x : SV) : Tr SV := match x with
  | .h id => match look id with
    | some (.it [.h m] _ seen last) => match look m with
      | some (.mv k ag _ ks vs st ck) => match Nat.beq ck last, lastN seen with
        | true, some s => match atS s ks vs st with
          | some (a, v) => .leaf (.tup [keySV k ag a, v])
          | none => .fail
        | _, _ => .fail
      | _ => .fail
    | _ => .fail
  | _ => .fail
theorem lastN_eq : ∀ l : List Nat, lastN l = l.getLast?
  | [] => rfl
  | [s] => rfl
  | _ :: b :: r => by rw [lastN, lastN_eq (b :: r), List.getLast?_cons_cons]; simp
theorem leftS_eq {seen : List Nat} : ∀ st : List Nat, leftS seen st = st.filter fun s => !decide (s ∈ seen)
  | [] => rfl
  | s :: r => by
    unfold leftS
    split
    · rename_i h
      rw [List.filter_cons, leftS_eq r]
      simp [memS_iff.1 h]
    · rename_i h
      have : s ∉ seen := fun hm => by rw [memS_iff.2 hm] at h; cases h
      rw [List.filter_cons, leftS_eq r]
      simp [this]
theorem keySV_den (k : IntKind) (ag : Bool) (a : List Int) (ρ : Asg) : den ρ (keySV k ag a) = some (keyV k ag a) := by
  cases ag with
  | false => rfl
  | true =>
    have : ∀ l : List Int, denL ρ (l.map fun z => SV.raw (.int k z)) = some (l.map (Value.int k)) := fun l => by
      induction l with
      | nil => rfl
      | cons z l ih => exact denL_cons.2 ⟨_, _, rfl, ih, rfl⟩
    show (denL ρ (a.map fun z => SV.raw (.int k z))).map (fun l => Value.agg l.toArray) = _
    rw [this]; rfl
theorem atS_spec {k : IntKind} {ag : Bool} {ρ : Asg} {s : Nat} {a : List Int} {v : SV} : ∀ {ks : List (List Int)} {vs : List SV} {st : List Nat} {us : List Value} {l : List MapEntry}, atS s ks vs st = some (a, v) → denL ρ vs = some us →
    (l.map fun e => (e.key, e.val)) = (ks.map (keyV k ag)).zip us → l.map (·.born) = st → ∃ e, l.find? (fun e => e.born == s) = some e ∧ e.key = keyV k ag a ∧ den ρ v = some e.val ∧ e.born = s
  | [], vs, st, us, l, h, _, _, _ => by simp [atS] at h
  | k0 :: ks, [], st, us, l, h, _, _, _ => by simp [atS] at h
  | k0 :: ks, v0 :: vs, [], us, l, h, _, _, _ => by simp [atS] at h
  | k0 :: ks, v0 :: vs, t :: st, us, [], h, hd, hp, hb => by simp at hb
  | k0 :: ks, v0 :: vs, t :: st, us, e :: l, h, hd, hp, hb => by
    obtain ⟨u, us', h1, h2, rfl⟩ := denL_cons.1 hd
    simp only [List.map_cons, List.zip_cons_cons, List.cons.injEq, Prod.mk.injEq] at hp hb
    unfold atS at h
    split at h
    · rename_i he
      cases h
      have := Nat.eq_of_beq_eq_true he
      subst this
      refine ⟨e, ?_, hp.1.1, by rw [hp.1.2]; exact h1, hb.1⟩
      rw [List.find?_cons]; simp [hb.1]
    · rename_i he
      obtain ⟨e', g1, g2⟩ := atS_spec h h2 hp.2 hb.2
      refine ⟨e', ?_, g2⟩
      have : (e.born == s) = false := by rw [hb.1]; exact beq_eq_false_iff_ne.2 fun q => by rw [q, Nat.beq_refl] at he; cases he
      rw [List.find?_cons, this]; exact g1
theorem filter_one {l : List MapEntry} {p : MapEntry → Bool} {s : Nat} {e : MapEntry} (h : (l.filter p).map (·.born) = [s]) (hf : l.find? (fun e => e.born == s) = some e) (hn : (l.map (·.born)).Nodup) : l.filter p = [e] := by
  match hl : l.filter p, h with
  | [e'], h =>
    simp only [List.map_cons, List.map_nil, List.cons.injEq, and_true] at h
    have hm : e' ∈ l := (List.mem_filter.1 (by rw [hl]; exact List.mem_singleton.2 rfl)).1
    have he : e ∈ l := List.mem_of_find?_eq_some hf
    have hs : e.born = s := by simpa using List.find?_some hf
    obtain ⟨i, hi, ei⟩ := List.getElem_of_mem hm
    obtain ⟨j, hj, ej⟩ := List.getElem_of_mem he
    have : i = j := (List.getElem_inj (i := i) (j := j) (h₀ := by simpa using hi) (h₁ := by simpa using hj) hn).1 (by simp [ei, ej, h, hs])
    subst this
    rw [← ei, ← ej]
section sound
variable {B : World} {X : Own} {ρ : Asg} {hp : Hp C} {n : Nat} {w : World}
theorem run_getObj_iter {r : Nat} {m : Option Nat} {a b : Nat} {s : Array Nat} (h : w.heap[r]? = some (.mapIter m a s b)) : (getObj r).run P w = .ok (.mapIter m a s b) w := by simp [getObj, Sem.run, h]
theorem run_setObj_iter {r : Nat} {m : Option Nat} {a b : Nat} {s : Array Nat} (o : Obj) (h : w.heap[r]? = some (.mapIter m a s b)) : (setObj r o).run P w = .ok () { w with heap := w.heap.setIfInBounds r o } := by simp [setObj, Sem.run, h]
theorem pRange_sound (R : Rel B X ρ hp n w) {t : TypeId} {x : SV} {r : Res C} {vx : Value} (h : (pRange P (fun i => find i hp) n t x).get = some r) (hx : den ρ x = some vx) : NewOk P B X ρ hp n w (Instr.range t vx) r := by
  unfold pRange at h
  split at h
  · rename_i key elem ht
    split at h
    · rename_i id
      split at h
      · rename_i k ag len ks vs st ck hid
        simp only [Tr.get, Option.some.injEq] at h; subst h
        obtain ⟨v', hv', g, es, clock, us, rfl, hokb, hus, hheap, hlen, hnd, hkl, hag1, hmv⟩ := R.obj id _ hid
        have hv2 := hv'
        simp only [den] at hx; rw [hx] at hv'; cases hv'
        refine ⟨.pointer (some ⟨w.heap.size, 0, none⟩), w.alloc (.mapIter (some g) clock #[] clock), ρ.add n (.pointer (some ⟨w.heap.size, 0, none⟩)), ?_, Asg.le_add ρ n _ (R.fresh n (Nat.le_refl _)), Asg.add_self ρ n _, ?_⟩
        · simp [Instr.range, run_underlying ht, MapKept.run_getObj_map hheap, newObj, Sem.run, Result.andThen]
        · refine Rel.shift (R.addNew (.mapIter (some g) clock #[] clock) (o := .it [.h id] ck [] ck) (v := .pointer (some ⟨w.heap.size, 0, none⟩)) rfl (fun g' hg => by simp [blk] at hg; exact hg.symm) ⟨w.heap.size, some g, rfl, .inl R.size, denL_one hv2, ?_⟩) (by omega)
          rw [heap_alloc_new, hmv.clock]
      · simp [Tr.get] at h
    · simp only [Tr.get, Option.some.injEq] at h; subst h
      simp only [den, Option.some.injEq] at hx; subst hx
      refine ⟨.pointer (some ⟨w.heap.size, 0, none⟩), w.alloc (.mapIter none 0 #[] 0), ρ.add n (.pointer (some ⟨w.heap.size, 0, none⟩)), ?_, Asg.le_add ρ n _ (R.fresh n (Nat.le_refl _)), Asg.add_self ρ n _, ?_⟩
      · simp [Instr.range, run_underlying ht, newObj, Sem.run, Result.andThen]
      · exact Rel.shift (R.addNew (.mapIter none 0 #[] 0) (o := .it [.raw (.map none)] 0 [] 0) (v := .pointer (some ⟨w.heap.size, 0, none⟩)) rfl (fun g' hg => by simp [blk] at hg; exact hg.symm) ⟨w.heap.size, none, rfl, .inl R.size, rfl, heap_alloc_new w _⟩) (by omega)
    · simp [Tr.get] at h
  · simp [Tr.get] at h
theorem filter_born {es : Array MapEntry} {seen st : List Nat} (hb : es.toList.map (·.born) = st) : ((es.filter fun e => !seen.toArray.contains e.born).toList.map (·.born)) = leftS seen st := by
  rw [leftS_eq, ← hb, Array.toList_filter, List.filter_map]
  congr 2
  funext e
  simp
theorem pNextAt_sound (R : Rel B X ρ hp n w) {id m g : Nat} {cs : List SV} {since last : Nat} {seen : List Nat} {k : IntKind} {ag : Bool} {len : Nat} {ks : List (List Int)} {vs : List SV} {st : List Nat} {ck : Nat} {ty : TypeId} {r : Res C}
    (h : (pNextAt id cs since seen last k ag ks vs st ck).get = some r) (hid : find id hp = some (.it cs since seen last)) (hm : find m hp = some (.mv k ag len ks vs st ck)) (hcs : cs = [.h m]) (hv : ρ id = some (.pointer (some ⟨g, 0, none⟩))) :
    NewOk P B X ρ hp n w (Instr.next (.pointer (some ⟨g, 0, none⟩)) false ty) r := by
  subst hcs
  obtain ⟨v', hv', g', mo, rfl, hokb, hcs, hheap⟩ := R.obj id _ hid
  rw [hv] at hv'; cases hv'
  obtain ⟨v2, hv2, g2, es, clock, us, rfl, hokb2, hus, hheap2, hlen, hnd, hkl, hag1, hmv⟩ := R.obj m _ hm
  have : mo = some g2 := by
    have := hcs.symm.trans (denL_one hv2)
    cases this; rfl
  subst this
  unfold pNextAt at h
  split at h
  · simp [Tr.get] at h
  · rename_i hno
    have hguard : (!seen.toArray.isEmpty && !es.isEmpty && es.all (·.born ≥ last)) = false := by
      have h1 : seen.toArray.isEmpty = isNil seen := by cases seen <;> rfl
      have h2 : es.isEmpty = isNil st := by
        rw [← hmv.born]
        cases es with
        | mk l => cases l <;> rfl
      have h3 : es.all (·.born ≥ last) = st.all (fun b => Nat.ble last b) := by
        rw [← hmv.born, ← Array.all_toList, List.all_map]
        congr 1
        funext e
        rw [Bool.eq_iff_iff]
        simp
      rw [h1, h2, h3]; exact hno
    have hleft := filter_born (seen := seen) hmv.born
    split at h
    · rename_i hl
      simp only [Tr.get, Option.some.injEq] at h; subst h
      have hl0 : (es.filter fun e => !seen.toArray.contains e.born) = #[] := by
        rw [hl] at hleft
        have := List.map_eq_nil_iff.1 hleft
        exact Array.toList_eq_nil_iff.1 this
      refine ⟨.tuple #[.bool false], w, ρ, ?_, Asg.le_refl _, rfl, Rel.shift R (by omega)⟩
      simp only [Instr.next, Sem.run_bind, run_getObj_iter hheap, Result.andThen_ok, MapKept.run_getObj_map hheap2, hguard, hl0]
      simp [choose, Sem.run, Question.forced, Result.andThen]
    · rename_i s hl
      split at h
      · rename_i a v hlt hat
        simp only [Tr.get, Option.some.injEq] at h; subst h
        rw [hl] at hleft
        obtain ⟨e, e1, e2, e3, e4⟩ := atS_spec hat hus hmv.pairs hmv.born
        have hf : (es.filter fun e => !seen.toArray.contains e.born) = #[e] := by
          apply Array.ext'
          rw [Array.toList_filter]
          rw [Array.toList_filter] at hleft
          exact filter_one hleft e1 (by rw [hmv.born]; exact hmv.apart)
        have hlt' : s < since := Nat.le_of_ble_eq_true hlt
        refine ⟨.tuple #[.bool true, e.key, e.val], { w with heap := w.heap.setIfInBounds g (.mapIter (some g2) since (seen.toArray.push e.born) clock) }, ρ, ?_, Asg.le_refl _, ?_, ?_⟩
        · have ho : (#[e].filter (·.born < since)) = #[e] := by simp [e4, hlt']
          have hn : (#[e].filter (·.born ≥ since)) = #[] := by simp [e4]; omega
          simp only [Instr.next, Sem.run_bind, run_getObj_iter hheap, Result.andThen_ok, MapKept.run_getObj_map hheap2, hguard, hf, ho, hn]
          simp [choose, Sem.run, Question.forced, run_setObj_iter _ hheap, Result.andThen]
        · show (denL ρ [.raw (.bool true), keySV k ag a, v]).map (fun l => Value.tuple l.toArray) = _
          rw [denL_cons.2 ⟨_, _, rfl, denL_cons.2 ⟨_, _, keySV_den k ag a ρ, denL_one e3, rfl⟩, rfl⟩, e2]; rfl
        · refine Rel.shift (n := n) (?_ : Rel B X ρ ((id, SO.it [.h m] since (seen ++ [s]) ck) :: hp) n _) (by omega)
          refine R.set hid hv rfl rfl rfl rfl rfl (by simp) (fun b hb => ?_) ⟨g, some g2, rfl, hokb, hcs, ?_⟩ (fun g' hg' => by simp [blk] at hg'; subst hg'; exact hokb)
          · have : b ≠ g := fun eq => hb (by rw [eq]; rfl)
            exact (MapKept.heap_set hheap).2 b this
          · have := (MapKept.heap_set (o' := .mapIter (some g2) since (seen.toArray.push e.born) clock) hheap).1
            rw [this, e4, hmv.clock]
            simp
      · simp [Tr.get] at h
    · simp [Tr.get] at h
theorem pNext_sound (R : Rel B X ρ hp n w) {x : SV} {b : Bool} {ty : TypeId} {r : Res C} {vx : Value} (h : (pNext (fun i => find i hp) x b).get = some r) (hx : den ρ x = some vx) : NewOk P B X ρ hp n w (Instr.next vx b ty) r := by
  unfold pNext at h
  split at h
  · rename_i id
    split at h
    · rename_i cs since seen last hid
      obtain ⟨v', hv', g, mo, rfl, hokb, hcs, hheap⟩ := R.obj id _ hid
      have hv2 := hv'
      simp only [den] at hx; rw [hx] at hv'; cases hv'
      split at h
      · simp only [Tr.get, Option.some.injEq] at h; subst h
        have : mo = none := by
          have := hcs.symm.trans (denL_one (ρ := ρ) (x := .raw (.map none)) rfl)
          cases this; rfl
        subst this
        refine ⟨.tuple #[.bool false], w, ρ, ?_, Asg.le_refl _, rfl, Rel.shift R (by omega)⟩
        simp [Instr.next, run_getObj_iter hheap, Result.andThen]
      · rename_i m
        split at h
        · rename_i hm
          exact pNextAt_sound R h hid hm rfl hv2
        · simp [Tr.get] at h
      · simp [Tr.get] at h
    · simp [Tr.get] at h
  · simp [Tr.get] at h
theorem pEntry_sound (R : Rel B X ρ hp n w) {x r : SV} {vx : Value} (h : (pEntry (fun i => find i hp) x).get = some r) (hx : den ρ x = some vx) : PureOk P ρ w (Instr.entry vx) r := by
  unfold pEntry at h
  split at h
  · rename_i id
    split at h
    · rename_i m since seen last hid
      obtain ⟨v', hv', g, mo, rfl, hokb, hcs, hheap⟩ := R.obj id _ hid
      simp only [den] at hx; rw [hx] at hv'; cases hv'
      split at h
      · rename_i k ag len ks vs st ck hm
        obtain ⟨v2, hv2, g2, es, clock, us, rfl, hokb2, hus, hheap2, hlen, hnd, hkl, hag1, hmv⟩ := R.obj m _ hm
        have : mo = some g2 := by
          have := hcs.symm.trans (denL_one hv2)
          cases this; rfl
        subst this
        split at h
        · rename_i s hck hls
          split at h
          · rename_i a v hat
            simp only [Tr.get, Option.some.injEq] at h; subst h
            obtain ⟨e, e1, e2, e3, e4⟩ := atS_spec hat hus hmv.pairs hmv.born
            have hcl : clock = last := hmv.clock.trans (Nat.eq_of_beq_eq_true hck)
            have hback : seen.toArray.back? = some s := by rw [← hls, lastN_eq]; simp
            have hfind : es.find? (·.born == s) = some e := by rw [← Array.find?_toList]; exact e1
            refine ⟨.tuple #[e.key, e.val], ?_, ?_⟩
            · simp [Instr.entry, run_getObj_iter hheap, Result.andThen, hback, MapKept.run_getObj_map hheap2, hcl, hfind]
            · show (denL ρ [keySV k ag a, v]).map (fun l => Value.tuple l.toArray) = _
              rw [denL_cons.2 ⟨_, _, keySV_den k ag a ρ, denL_one e3, rfl⟩, e2]; rfl
          · simp [Tr.get] at h
        · simp [Tr.get] at h
      · simp [Tr.get] at h
    · simp [Tr.get] at h
  · simp [Tr.get] at h
end sound
end
end Go.Sx
/-
  The symbolic evaluator: one operation, whichever it is. Own work; nothing here is trusted.
-/
namespace Go.Sx
noncomputable section
open Go.RowKit
variable {C : Tab} {P : Program}
abbrev Tm := List (Nat × SV)
def evT (tm : Tm) : Operand → Option SV
  | .tmp t => find t tm
  | .const v => some (.raw v)
  | .func f => some (.raw (.func (.func f) #[] #[]))
  | .global _ => none
def evTs (tm : Tm) : List Operand → Option (List SV)
  | [] => some []
  | o :: r => match evT tm o with
    | some v => match evTs tm r with
      | some l => some (v :: l)
      | none => none
    | none => none
def TmOk (ρ : Asg) (tm : Tm) (a : Act) : Prop := ∀ t sv, find t tm = some sv → ∃ v, den ρ sv = some v ∧ a.tmps[t]? = some v
theorem TmOk.mono {ρ ρ' : Asg} {tm : Tm} {a : Act} (h : TmOk ρ tm a) (hρ : ρ.le ρ') : TmOk ρ' tm a := fun t sv ht => by
  obtain ⟨v, h1, h2⟩ := h t sv ht
  exact ⟨v, den_mono hρ _ _ h1, h2⟩
theorem evT_spec {ρ : Asg} {tm : Tm} {a : Act} (h : TmOk ρ tm a) {o : Operand} {sv : SV} (he : evT tm o = some sv) : den ρ sv = some (a.eval o) := by
  cases o with
  | tmp t =>
    obtain ⟨v, h1, h2⟩ := h t sv he
    simp [Act.eval, h1, h2]
  | const v => simp [evT] at he; subst he; rfl
  | func f => simp [evT] at he; subst he; rfl
  | global g => simp [evT] at he
theorem evTs_spec {ρ : Asg} {tm : Tm} {a : Act} (h : TmOk ρ tm a) : ∀ {os : List Operand} {vs : List SV}, evTs tm os = some vs → denL ρ vs = some (os.map a.eval)
  | [], vs, he => by simp [evTs] at he; subst he; rfl
  | o :: r, vs, he => by
    unfold evTs at he
    split at he
    · rename_i v hv
      split at he
      · rename_i l hl
        cases he
        exact denL_cons.2 ⟨_, _, evT_spec h hv, evTs_spec h hl, rfl⟩
      · cases he
    · cases he
def argsOf : Op → List Operand
  | .move x | .assign x | .box _ x | .load _ x | .unOp _ _ x | .convert _ _ x | .sliceToArrayPointer _ x | .fieldAddr _ x _ | .field _ x _ | .extract x _ | .nilCheck x => [x]
  | .pick c a b => [c, a, b]
  | .build _ ps | .buildSlice _ _ ps => ps.toList.map (·.2)
  | .store _ a v | .binOp _ _ a v _ | .makeSlice _ a v | .indexAddr _ a v | .index _ a v => [a, v]
  | .makeFunc _ first cap => first.toList ++ cap.toList
  | .makeInterface _ x => [x]
  | .typeAssert x _ _ _ => [x]
  | .lookup _ x i _ => [x, i]
  | .mapUpdate _ m k v | .insert _ m k v | .entryStore _ m k v => [m, k, v]
  | .mapEntry _ m k => [m, k]
  | .range _ x | .next x _ | .entry x => [x]
  | .slice _ x l h m => x :: (l.toList ++ h.toList ++ m.toList)
  | .call c => c.args.toList
  | _ => []
def lift (t : Tr SV) : Tr (Res C) := t.bind fun v => .leaf (v, [])
theorem lift_get {t : Tr SV} {r : Res C} (h : (lift t).get = some r) : t.get = some r.1 ∧ r.2 = [] := by
  obtain ⟨v, h1, h2⟩ := Tr.get_bind h
  simp only [Tr.get, Option.some.injEq] at h2; subst h2
  exact ⟨h1, rfl⟩
def pNil (look : Nat → Option (SO C)) (x : SV) : Tr SV := match x with
  | .h id => match look id with
    | some (.box _ _) => .leaf x
    | some (.pt _ _) => .leaf x
    | _ => .fail
  | .ep _ _ => .leaf x
  | .el _ _ _ _ => .leaf x
  | .fn _ _ _ => .leaf x
  | .ifc _ _ => .leaf x
  | .raw (.func (.func _) a _) => match a.toList with
    | [] => .leaf x
    | _ => .fail
  | _ => .fail
def isConst : Operand → Bool
  | .const _ => true
  | _ => false
def nilNil (P : Program) (op : BinOp) (t : TypeId) (ox oy : Operand) : Tr SV := match isConst ox || isConst oy, P.underlying t with
  | true, some (.interface _) => match op with
    | .eql => .leaf (.raw (.bool true))
    | .neq => .leaf (.raw (.bool false))
    | _ => .fail
  | _, _ => .fail
theorem nilNil_sound {P : Program} {op : BinOp} {t : TypeId} {ox oy : Operand} {r : SV} (h : (nilNil P op t ox oy).get = some r) (w : World) :
    ∃ u, (do eqGuard op t ox oy .nilIface .nilIface; binOp op t .nilIface .nilIface : Sem Value).run P w = .ok u w ∧ r = .raw u := by
  unfold nilNil at h
  split at h
  · rename_i ms hc ht
    have hg : ∀ op : BinOp, (op = .eql ∨ op = .neq) → (eqGuard op t ox oy .nilIface .nilIface).run P w = .ok () w := fun op ho => by
      rcases ho with rfl | rfl <;> (cases ox <;> cases oy <;> simp only [isConst, Bool.or_false, Bool.or_true, Bool.or_self, Bool.false_eq_true] at hc <;> first | rfl | simp [eqGuard])
    have he : (Op.equal t .nilIface .nilIface).run P w = .ok true w := equal_run fun d => by simp [Op.equalIn, run_underlying ht]
    split at h
    · simp only [Tr.get, Option.some.injEq] at h; subst h
      refine ⟨.bool true, ?_, rfl⟩
      rw [Sem.run_bind, hg _ (.inl rfl), Result.andThen_ok]
      show ((do pure (.bool (← Op.equal t .nilIface .nilIface)) : Sem Value)).run P w = _
      rw [Sem.run_bind, he]; rfl
    · simp only [Tr.get, Option.some.injEq] at h; subst h
      refine ⟨.bool false, ?_, rfl⟩
      rw [Sem.run_bind, hg _ (.inr rfl), Result.andThen_ok]
      show ((do pure (.bool (!(← Op.equal t .nilIface .nilIface))) : Sem Value)).run P w = _
      rw [Sem.run_bind, he]; rfl
    · simp [Tr.get] at h
  · simp [Tr.get] at h
def pBuiltin (P : Program) (look : Nat → Option (SO C)) (n : Nat) (b : Builtin) (ts : List TypeId) (vs : List SV) : Tr (Res C) := match b with
  | .len => match ts, vs with
    | [t], [x] => lift (pLenW P look t x)
    | _, _ => .fail
  | .min => match vs with
    | [x, y] => lift (pMin x y)
    | _ => .fail
  | .max => match vs with
    | [x, y] => lift (pMax x y)
    | _ => .fail
  | .append => match ts, vs with
    | [t, t'], [s, x] => pAppendX P look n t t' s x
    | _, _ => .fail
  | .copy => match ts, vs with
    | [t, _], [d, x] => pCopyX P look t d x
    | _, _ => .fail
  | .clear => match ts, vs with
    | [t], [d] => pClearX P look t d
    | _, _ => .fail
  | .cap => match ts, vs with
    | [t], [x] => lift (pCap P look t x)
    | _, _ => .fail
  | .delete => match ts, vs with
    | [t, _], [x, i] => pDelete P look t x i
    | _, _ => .fail
  | _ => .fail
def prim (P : Program) (look : Nat → Option (SO C)) (n : Nat) (o : Op) (vs : List SV) : Tr (Res C) := match o with
  | .move _ | .assign _ => match vs with
    | [x] => .leaf (x, [])
    | _ => .fail
  | .pick _ _ _ => match vs with
    | [c, a, b] => lift (pPick c a b)
    | _ => .fail
  | .alloc t => pAlloc P n t
  | .box t _ => match vs with
    | [x] => pBox n t x
    | _ => .fail
  | .build t ps => lift (pBuild P t (ps.toList.map (·.1)) vs)
  | .buildSlice t len ps => pBuildSlice P n t len (ps.toList.map (·.1)) vs
  | .load t _ => match vs with
    | [a] => pLoadW P look n t a
    | _ => .fail
  | .store t _ _ => match vs with
    | [a, x] => pStoreW P look t a x
    | _ => .fail
  | .nilCheck _ => match vs with
    | [x] => lift (pNil look x)
    | _ => .fail
  | .binOp op t ox oy _ => match vs with
    | [.raw .nilIface, .raw .nilIface] => lift (nilNil P op t ox oy)
    | [x, y] => lift (pBin P look op t x y)
    | _ => .fail
  | .unOp op _ _ => match vs with
    | [x] => lift (pUn op x)
    | _ => .fail
  | .convert s t _ => match vs with
    | [x] => lift (pConvM P look s t x)
    | _ => .fail
  | .sliceToArrayPointer t _ => match vs with
    | [x] => lift (pArrAt P look t x)
    | _ => .fail
  | .makeFunc fn first _ => match fn with
    | .func f => .leaf (.fn f first.size vs, [])
    | _ => .fail
  | .makeInterface xt _ => match vs with
    | [x] => match P.underlying xt with
      | some (.interface _) => .fail
      | some _ => .leaf (.ifc xt [x], [])
      | none => .fail
    | _ => .fail
  | .typeAssert _ _ t ok => match vs with
    | [.ifc t' [x]] => match Nat.beq t' t, P.underlying t with
      | true, some (.interface _) => .fail
      | true, some _ => match ok with
        | true => .leaf (.tup [x, .raw (.bool true)], [])
        | false => .leaf (x, [])
      | _, _ => .fail
    | _ => .fail
  | .makeSlice t _ _ => match vs with
    | [l, c] => pMakeX P look n t l c
    | _ => .fail
  | .slice t _ lo hi mx => match vs with
    | x :: bs => pSliceW P look n t lo.isSome hi.isSome mx.isSome x bs
    | [] => .fail
  | .fieldAddr t _ f => match vs with
    | [x] => lift (pFieldAddr P look t x f)
    | _ => .fail
  | .field t _ f => match vs with
    | [x] => lift (pField P t x f)
    | _ => .fail
  | .indexAddr t _ _ => match vs with
    | [x, i] => lift (pIndexAddrW P look t x i)
    | _ => .fail
  | .index t _ _ => match vs with
    | [x, i] => lift (pIndex P t x i)
    | _ => .fail
  | .extract _ i => match vs with
    | [x] => lift (pExtract x i)
    | _ => .fail
  | .makeMap t rs => match rs with
    | none => pMake P n t
    | some _ => .fail
  | .lookup t _ _ ok => match vs with
    | [x, i] => pLook P look t x i ok
    | _ => .fail
  | .mapUpdate t _ _ _ => match vs with
    | [x, i, v] => pUpdate P look t x i v
    | _ => .fail
  | .insert t _ _ _ => match vs with
    | [x, i, v] => pUpdate P look t x i v
    | _ => .fail
  | .mapEntry t _ _ => match vs with
    | [x, i] => pEntOpen P look t x i
    | _ => .fail
  | .entryStore _ _ _ _ => match vs with
    | [x, i, v] => pEntStore look x i v
    | _ => .fail
  | .range t _ => match vs with
    | [x] => pRange P look n t x
    | _ => .fail
  | .next _ b => match vs with
    | [x] => pNext look x b
    | _ => .fail
  | .entry _ => match vs with
    | [x] => lift (pEntry look x)
    | _ => .fail
  | .call c => match c.callee with
    | .builtin b => pBuiltin P look n b c.argTypes.toList vs
    | _ => .fail
  | _ => .fail
section sound
variable {B : World} {X : Own} {ρ : Asg} {hp : Hp C} {n : Nat} {w : World} {a : Act} {tm : Tm}
def OpOk (P : Program) (B : World) (X : Own) (ρ : Asg) (hp : Hp C) (n : Nat) (w : World) (s : Sem Next) (r : Res C) : Prop :=
  ∃ nx v w' ρ', s.run P w = .ok nx w' ∧ (nx = .value v ∨ (nx = .skip ∧ v = undef)) ∧ ρ.le ρ' ∧ den ρ' r.1 = some v ∧ Rel B X ρ' (r.2 ++ hp) (n + 4) w'
theorem OpOk.ofPure (R : Rel B X ρ hp n w) {s : Sem Value} {r : Res C} (h : PureOk P ρ w s r.1) (hr : r.2 = []) : OpOk P B X ρ hp n w (do pure (.value (← s))) r := by
  obtain ⟨u, h1, h2⟩ := h
  exact ⟨.value u, u, w, ρ, by simp [h1], .inl rfl, Asg.le_refl _, h2, by rw [hr]; exact Rel.shift R (by omega)⟩
theorem OpOk.ofNew {s : Sem Value} {r : Res C} (h : NewOk P B X ρ hp n w s r) : OpOk P B X ρ hp n w (do pure (.value (← s))) r := by
  obtain ⟨v, w', ρ', h1, h2, h3, h4⟩ := h
  exact ⟨.value v, v, w', ρ', by simp [h1], .inl rfl, h2, h3, h4⟩
theorem pNil_sound (R : Rel B X ρ hp n w) {x r : SV} {v : Value} (h : (pNil (fun i => find i hp) x).get = some r) (hx : den ρ x = some v) : r = x ∧ ((∃ b, v = .pointer (some b)) ∨ (∃ f a c, v = .func (.func f) a c) ∨ ∃ t u, v = .iface t u) := by
  unfold pNil at h
  split at h
  · split at h
    · rename_i hid
      simp only [Tr.get, Option.some.injEq] at h; subst h
      obtain ⟨v', hv', g, vs, rfl, _⟩ := R.obj _ _ hid
      simp only [den] at hx; rw [hx] at hv'; cases hv'
      exact ⟨rfl, .inl ⟨_, rfl⟩⟩
    · rename_i hid
      simp only [Tr.get, Option.some.injEq] at h; subst h
      obtain ⟨v', hv', g, us, rfl, _⟩ := R.obj _ _ hid
      simp only [den] at hx; rw [hx] at hv'; cases hv'
      exact ⟨rfl, .inl ⟨_, rfl⟩⟩
    · simp [Tr.get] at h
  · simp only [Tr.get, Option.some.injEq] at h; subst h
    simp only [den, Option.bind_eq_some_iff, Option.map_eq_some_iff] at hx
    obtain ⟨_, _, b, _, rfl⟩ := hx
    exact ⟨rfl, .inl ⟨_, rfl⟩⟩
  · simp only [Tr.get, Option.some.injEq] at h; subst h
    simp only [den, Option.bind_eq_some_iff, Option.map_eq_some_iff] at hx
    obtain ⟨_, _, b, _, rfl⟩ := hx
    exact ⟨rfl, .inl ⟨_, rfl⟩⟩
  · simp only [Tr.get, Option.some.injEq] at h; subst h
    simp only [den, Option.map_eq_some_iff] at hx
    obtain ⟨_, _, rfl⟩ := hx
    exact ⟨rfl, .inr (.inl ⟨_, _, _, rfl⟩)⟩
  · simp only [Tr.get, Option.some.injEq] at h; subst h
    simp only [den, Option.bind_eq_some_iff] at hx
    obtain ⟨l, _, hx⟩ := hx
    obtain ⟨u, _, rfl⟩ := ifcV_some hx
    exact ⟨rfl, .inr (.inr ⟨_, _, rfl⟩)⟩
  · split at h
    · rename_i ha
      simp only [Tr.get, Option.some.injEq] at h; subst h
      simp [den] at hx; subst hx
      simp at ha
      subst ha
      exact ⟨rfl, .inr (.inl ⟨_, _, _, rfl⟩)⟩
    · simp [Tr.get] at h
  · simp [Tr.get] at h
theorem slice_bnds {ρ : Asg} {f : Operand → Value} {l h m : Option Operand} {bs : List SV} (hd : denL ρ bs = some ((l.toList ++ h.toList ++ m.toList).map f)) :
    ∀ a b c, bnds l.isSome h.isSome m.isSome bs = some (a, b, c) → bndV ρ a (l.map f) ∧ bndV ρ b (h.map f) ∧ bndV ρ c (m.map f) := by
  intro a b c hb
  cases l <;> cases h <;> cases m <;> simp only [Option.isSome_none, Option.isSome_some, Option.toList_none, Option.toList_some, List.nil_append, List.append_nil, List.cons_append, List.map_cons, List.map_nil] at hb hd
  all_goals
    rcases bs with _ | ⟨x, _ | ⟨y, _ | ⟨z, _ | ⟨q, bs⟩⟩⟩⟩ <;> simp only [bnds] at hb <;> first
      | (cases hb; done)
      | skip
  all_goals
    simp only [Option.some.injEq, Prod.mk.injEq] at hb
    obtain ⟨rfl, rfl, rfl⟩ := hb
    simp only [denL_cons, denL_nil] at hd
    first
      | exact ⟨trivial, trivial, trivial⟩
      | (obtain ⟨_, _, h1, rfl, e⟩ := hd; cases e; exact ⟨h1, trivial, trivial⟩)
      | (obtain ⟨_, _, h1, rfl, e⟩ := hd; cases e; exact ⟨trivial, h1, trivial⟩)
      | (obtain ⟨_, _, h1, ⟨_, _, h2, rfl, rfl⟩, e⟩ := hd; cases e; exact ⟨h1, h2, trivial⟩)
      | (obtain ⟨_, _, h1, ⟨_, _, h2, rfl, rfl⟩, e⟩ := hd; cases e; exact ⟨trivial, h1, h2⟩)
      | (obtain ⟨_, _, h1, ⟨_, _, h2, ⟨_, _, h3, rfl, rfl⟩, rfl⟩, e⟩ := hd; cases e; exact ⟨h1, h2, h3⟩)
theorem one_of {vs : List SV} {x : SV} {o : Operand} (hd : denL ρ vs = some ([o].map a.eval)) (e : vs = [x]) : den ρ x = some (a.eval o) := by
  subst e
  obtain ⟨_, _, h1, h2, h3⟩ := denL_cons.1 hd
  simp only [List.map_cons, List.map_nil, List.cons.injEq] at h3
  rw [h3.1]; exact h1
theorem two_of {vs : List SV} {x y : SV} {o p : Operand} (hd : denL ρ vs = some ([o, p].map a.eval)) (e : vs = [x, y]) : den ρ x = some (a.eval o) ∧ den ρ y = some (a.eval p) := by
  subst e
  obtain ⟨_, _, h1, h2, h3⟩ := denL_cons.1 hd
  obtain ⟨_, _, h4, h5, h6⟩ := denL_cons.1 h2
  subst h6
  simp only [List.map_cons, List.map_nil, List.cons.injEq] at h3
  rw [h3.1, h3.2.1]; exact ⟨h1, h4⟩
theorem three_of {vs : List SV} {x y z : SV} {o p q : Operand} (hd : denL ρ vs = some ([o, p, q].map a.eval)) (e : vs = [x, y, z]) : den ρ x = some (a.eval o) ∧ den ρ y = some (a.eval p) ∧ den ρ z = some (a.eval q) := by
  subst e
  obtain ⟨_, _, h1, h2, h3⟩ := denL_cons.1 hd
  obtain ⟨_, _, h4, h5, h6⟩ := denL_cons.1 h2
  obtain ⟨_, _, h7, h8, h9⟩ := denL_cons.1 h5
  subst h9; subst h6
  simp only [List.map_cons, List.map_nil, List.cons.injEq] at h3
  rw [h3.1, h3.2.1, h3.2.2.1]; exact ⟨h1, h4, h7⟩
theorem pBuiltin_sound (R : Rel B X ρ hp n w) {b : Builtin} {c : Call} {vs : List SV} {r : Res C} (hc : c.callee = .builtin b) (h : (pBuiltin P (fun i => find i hp) n b c.argTypes.toList vs).get = some r) (hd : denL ρ vs = some (c.args.toList.map a.eval)) (ty : TypeId) :
    OpOk P B X ρ hp n w (do let d ← resolve a.eval c ty; invoke d.target d.args) r := by
  have hargs : ∀ {l : List Value}, denL ρ vs = some l → c.args.map a.eval = l.toArray := fun {l} h => by
    rw [hd] at h; cases h
    apply Array.ext'; simp
  have hts : ∀ {l : List TypeId}, c.argTypes.toList = l → c.argTypes = l.toArray := fun h => by subst h; simp
  have fin : ∀ {s : Sem Value}, OpOk P B X ρ hp n w (do pure (.value (← s))) r → builtin b c.argTypes ty (c.args.map fun | .const _ => true | _ => false) (c.args.map a.eval) = (do pure (.value (← s))) → OpOk P B X ρ hp n w (do let d ← resolve a.eval c ty; invoke d.target d.args) r := fun {s} ho he => by
    have : (do let d ← resolve a.eval c ty; invoke d.target d.args : Sem Next) = (do pure (.value (← s))) := by
      rw [← he]
      simp only [resolve, hc, pure_bind, invoke]
      rfl
    rw [this]; exact ho
  unfold pBuiltin at h
  split at h
  · split at h
    · rename_i t x hts'
      obtain ⟨h1, h2⟩ := lift_get h
      obtain ⟨vx, l, hx, hl, e⟩ := denL_cons.1 hd
      rw [denL_nil.1 hl] at e
      refine fin (OpOk.ofPure R (pLenW_sound R (ty := ty) h1 hx) h2) ?_
      rw [hts hts', hargs (denL_one hx)]; rfl
    · simp [Tr.get] at h
  · split at h
    · rename_i x y
      obtain ⟨h1, h2⟩ := lift_get h
      obtain ⟨vx, l, hx, hl, e⟩ := denL_cons.1 hd
      obtain ⟨vy, l', hy, hl', e'⟩ := denL_cons.1 hl
      rw [denL_nil.1 hl'] at e'; subst e'
      refine fin (OpOk.ofPure R (pMin_sound h1 hx hy c.argTypes ty) h2) ?_
      rw [hargs (denL_cons.2 ⟨vx, _, hx, hl, rfl⟩)]; rfl
    · simp [Tr.get] at h
  · split at h
    · rename_i x y
      obtain ⟨h1, h2⟩ := lift_get h
      obtain ⟨vx, l, hx, hl, e⟩ := denL_cons.1 hd
      obtain ⟨vy, l', hy, hl', e'⟩ := denL_cons.1 hl
      rw [denL_nil.1 hl'] at e'; subst e'
      refine fin (OpOk.ofPure R (pMax_sound h1 hx hy c.argTypes ty) h2) ?_
      rw [hargs (denL_cons.2 ⟨vx, _, hx, hl, rfl⟩)]; rfl
    · simp [Tr.get] at h
  · split at h
    · rename_i t t' s x hts'
      obtain ⟨vx, l, hx, hl, e⟩ := denL_cons.1 hd
      obtain ⟨vy, l', hy, hl', e'⟩ := denL_cons.1 hl
      rw [denL_nil.1 hl'] at e'; subst e'
      refine fin (OpOk.ofNew (pAppendX_sound R (ty := ty) h hx hy)) ?_
      rw [hts hts', hargs (denL_cons.2 ⟨vx, _, hx, hl, rfl⟩)]; rfl
    · simp [Tr.get] at h
  · split at h
    · rename_i t t' s x hts'
      obtain ⟨vx, l, hx, hl, e⟩ := denL_cons.1 hd
      obtain ⟨vy, l', hy, hl', e'⟩ := denL_cons.1 hl
      rw [denL_nil.1 hl'] at e'; subst e'
      refine fin (OpOk.ofNew (pCopyX_sound R (t' := t') (ty := ty) h hx hy)) ?_
      rw [hts hts', hargs (denL_cons.2 ⟨vx, _, hx, hl, rfl⟩)]; rfl
    · simp [Tr.get] at h
  · split at h
    · rename_i t x hts'
      obtain ⟨vx, l, hx, hl, e⟩ := denL_cons.1 hd
      rw [denL_nil.1 hl] at e
      refine fin (OpOk.ofNew (pClearX_sound R (ty := ty) h hx)) ?_
      rw [hts hts', hargs (denL_one hx)]; rfl
    · simp [Tr.get] at h
  · split at h
    · rename_i t x hts'
      obtain ⟨h1, h2⟩ := lift_get h
      obtain ⟨vx, l, hx, hl, e⟩ := denL_cons.1 hd
      rw [denL_nil.1 hl] at e
      refine fin (OpOk.ofPure R (pCap_sound R (ty := ty) h1 hx) h2) ?_
      rw [hts hts', hargs (denL_one hx)]; rfl
    · simp [Tr.get] at h
  · split at h
    · rename_i t t' x i hts'
      obtain ⟨vx, l, hx, hl, e⟩ := denL_cons.1 hd
      obtain ⟨vy, l', hy, hl', e'⟩ := denL_cons.1 hl
      rw [denL_nil.1 hl'] at e'; subst e'
      refine fin (OpOk.ofNew (pDelete_sound R (ty := ty) (ts := c.argTypes) (by rw [hts hts']; rfl) h hx hy)) ?_
      rw [hargs (denL_cons.2 ⟨vx, _, hx, hl, rfl⟩)]; rfl
    · simp [Tr.get] at h
  · simp [Tr.get] at h
theorem prim_sound (R : Rel B X ρ hp n w) (T : TmOk ρ tm a) {o : Oper} {vs : List SV} {r : Res C} (hv : evTs tm (argsOf o.op) = some vs) (h : (prim P (fun i => find i hp) n o.op vs).get = some r) :
    OpOk P B X ρ hp n w (execOp a.eval o) r := by
  have hd := evTs_spec T hv
  have tac : ∀ {x : SV} {v : Value}, den ρ x = some v → r = (x, []) → ∀ s : Sem Next, s = pure (.value v) → OpOk P B X ρ hp n w s r := fun {x v} hx hr s hs => by
    subst hr; subst hs
    exact ⟨.value v, v, w, ρ, rfl, .inl rfl, Asg.le_refl _, hx, Rel.shift R (by omega)⟩
  unfold prim at h
  unfold execOp
  split at h <;> rename_i ho <;> simp only [ho, argsOf] at hd ⊢
  -- move, assign
  iterate 2
    · split at h
      · rename_i x
        simp only [Tr.get, Option.some.injEq] at h; subst h
        exact tac (one_of hd rfl) rfl _ rfl
      · simp [Tr.get] at h
  -- pick
  · split at h
    · rename_i c x y
      obtain ⟨h1, h2⟩ := lift_get h
      obtain ⟨d1, d2, d3⟩ := three_of hd rfl
      obtain ⟨q, e1, e2⟩ := pPick_sound h1 d1 d2 d3
      refine ⟨_, _, w, ρ, ?_, .inl rfl, Asg.le_refl _, e2, by rw [h2]; exact Rel.shift R (by omega)⟩
      simp [e1, asBool]
    · simp [Tr.get] at h
  -- alloc
  · exact OpOk.ofNew (pAlloc_sound R h)
  -- box
  · split at h
    · exact OpOk.ofNew (pBox_sound R h (one_of hd rfl))
    · simp [Tr.get] at h
  -- build
  · rename_i t ps
    obtain ⟨h1, h2⟩ := lift_get h
    refine OpOk.ofPure R ?_ h2
    have := pBuild_sound R (pv := ps.toList.map fun (x : Nat × Operand) => (x.1, a.eval x.2)) h1 (by simp) (by rw [hd]; simp)
    have e : (ps.map fun (x : Nat × Operand) => (x.1, a.eval x.2)) = (ps.toList.map fun (x : Nat × Operand) => (x.1, a.eval x.2)).toArray := by
      apply Array.ext'; simp
    rw [← e] at this
    exact this
  -- buildSlice
  · rename_i t len ps
    refine OpOk.ofNew ?_
    have := pBuildSlice_sound R (pv := ps.toList.map fun (x : Nat × Operand) => (x.1, a.eval x.2)) h (by simp) (by rw [hd]; simp)
    have e : (ps.map fun (x : Nat × Operand) => (x.1, a.eval x.2)) = (ps.toList.map fun (x : Nat × Operand) => (x.1, a.eval x.2)).toArray := by
      apply Array.ext'; simp
    rw [← e] at this
    exact this
  -- load
  · split at h
    · exact OpOk.ofNew (pLoadW_sound R h (one_of hd rfl))
    · simp [Tr.get] at h
  -- store
  · split at h
    · obtain ⟨d1, d2⟩ := two_of hd rfl
      obtain ⟨h1, w', h2, h3⟩ := pStoreW_sound R h d1 d2
      exact ⟨.skip, undef, w', ρ, by simp [h2], .inr ⟨rfl, rfl⟩, Asg.le_refl _, by rw [h1]; rfl, Rel.shift h3 (by omega)⟩
    · simp [Tr.get] at h
  -- nilCheck
  · split at h
    · rename_i x
      obtain ⟨h1, h2⟩ := lift_get h
      have hx := one_of hd rfl
      obtain ⟨e1, e2⟩ := pNil_sound R h1 hx
      refine ⟨.value _, _, w, ρ, ?_, .inl rfl, Asg.le_refl _, by rw [e1]; exact hx, by rw [h2]; exact Rel.shift R (by omega)⟩
      rcases e2 with ⟨b, e⟩ | ⟨f, _, c, e⟩ | ⟨t, u, e⟩ <;> rw [e] <;> rfl
    · simp [Tr.get] at h
  -- binOp
  · split at h
    · obtain ⟨h1, h2⟩ := lift_get h
      obtain ⟨d1, d2⟩ := two_of hd rfl
      simp only [den, Option.some.injEq] at d1 d2
      obtain ⟨u, e1, e2⟩ := nilNil_sound h1 w
      exact OpOk.ofPure R ⟨u, by rw [← d1, ← d2]; exact e1, by rw [e2]; rfl⟩ h2
    · obtain ⟨h1, h2⟩ := lift_get h
      obtain ⟨d1, d2⟩ := two_of hd rfl
      exact OpOk.ofPure R (pBin_sound R _ _ h1 d1 d2) h2
    · simp [Tr.get] at h
  -- unOp
  · split at h
    · obtain ⟨h1, h2⟩ := lift_get h
      exact OpOk.ofPure R (pUn_sound h1 (one_of hd rfl)) h2
    · simp [Tr.get] at h
  -- convert
  · split at h
    · obtain ⟨h1, h2⟩ := lift_get h
      exact OpOk.ofPure R (pConvM_sound R h1 (one_of hd rfl)) h2
    · simp [Tr.get] at h
  -- sliceToArrayPointer
  · split at h
    · obtain ⟨h1, h2⟩ := lift_get h
      exact OpOk.ofPure R (pArrAt_sound R h1 (one_of hd rfl)) h2
    · simp [Tr.get] at h
  -- makeFunc
  · split at h
    · rename_i f
      simp only [Tr.get, Option.some.injEq] at h; subst h
      refine ⟨.value _, _, w, ρ, rfl, .inl rfl, Asg.le_refl _, ?_, Rel.shift R (by omega)⟩
      simp only [den, hd, Option.map_some, List.map_append]
      rw [List.take_left' (by simp), List.drop_left' (by simp)]
      simp [← List.map_toArray]
    · simp [Tr.get] at h
  -- makeInterface
  · split at h
    · split at h
      · simp [Tr.get] at h
      · rename_i d hni hu
        simp only [Tr.get, Option.some.injEq] at h; subst h
        have hx := one_of hd rfl
        refine OpOk.ofPure R ⟨_, ?_, by simp only [den, denL_one hx, Option.bind_some, ifcV]; rfl⟩ rfl
        simp only [Instr.makeInterface, Sem.run_bind, run_underlying hu, Result.andThen_ok]
        cases hd' : d <;> first | rfl | (subst hd'; exact absurd rfl (hni _))
      · simp [Tr.get] at h
    · simp [Tr.get] at h
  -- typeAssert
  · split at h
    · rename_i t' x
      split at h
      · simp [Tr.get] at h
      · rename_i d hni hb hu
        have hx := one_of hd rfl
        simp only [den, Option.bind_eq_some_iff] at hx
        obtain ⟨l, hl, hx⟩ := hx
        obtain ⟨u, rfl, hx2⟩ := ifcV_some hx
        obtain ⟨u', l', h1, h2, h3⟩ := denL_cons.1 hl
        rw [denL_nil.1 h2] at h3; cases h3
        have ht := Nat.eq_of_beq_eq_true hb
        subst ht
        have hrun : ∀ (xt : TypeId) (ok : Bool), (Instr.typeAssert (.iface t' u) xt t' ok).run P w = .ok (if ok then .tuple #[u, .bool true] else u) w := fun xt ok => by
          simp only [Instr.typeAssert, Sem.run_bind, run_underlying hu, Result.andThen_ok]
          cases hd' : d <;> first | rfl | (subst hd'; exact absurd rfl (hni _)) | (cases ok <;> rfl) | simp
        rw [hx2]
        split at h <;> (simp only [Tr.get, Option.some.injEq] at h; subst h)
        · exact OpOk.ofPure R ⟨_, hrun _ _, by simp only [den, denL, h1, Option.bind_some, Option.map_some]; rfl⟩ rfl
        · exact OpOk.ofPure R ⟨_, hrun _ _, h1⟩ rfl
      · simp [Tr.get] at h
    · simp [Tr.get] at h
  -- makeSlice
  · split at h
    · obtain ⟨d1, d2⟩ := two_of hd rfl
      exact OpOk.ofNew (pMakeX_sound R h d1 d2)
    · simp [Tr.get] at h
  -- slice
  · split at h
    · rename_i x bs
      obtain ⟨vx, l, hx, hl, e⟩ := denL_cons.1 hd
      simp only [List.map_cons, List.cons.injEq] at e
      obtain ⟨e1, e2⟩ := e
      rw [← e1] at hx; rw [← e2] at hl
      exact OpOk.ofNew (pSliceW_sound R h hx (slice_bnds hl))
    · simp [Tr.get] at h
  -- fieldAddr
  · split at h
    · obtain ⟨h1, h2⟩ := lift_get h
      exact OpOk.ofPure R (pFieldAddr_sound R h1 (one_of hd rfl)) h2
    · simp [Tr.get] at h
  -- field
  · split at h
    · obtain ⟨h1, h2⟩ := lift_get h
      exact OpOk.ofPure R (pField_sound R h1 (one_of hd rfl)) h2
    · simp [Tr.get] at h
  -- indexAddr
  · split at h
    · obtain ⟨h1, h2⟩ := lift_get h
      obtain ⟨d1, d2⟩ := two_of hd rfl
      exact OpOk.ofPure R (pIndexAddrW_sound R h1 d1 d2) h2
    · simp [Tr.get] at h
  -- index
  · split at h
    · obtain ⟨h1, h2⟩ := lift_get h
      obtain ⟨d1, d2⟩ := two_of hd rfl
      exact OpOk.ofPure R (pIndex_sound R h1 d1 d2) h2
    · simp [Tr.get] at h
  -- extract
  · split at h
    · obtain ⟨h1, h2⟩ := lift_get h
      exact OpOk.ofPure R (pExtract_sound h1 (one_of hd rfl)) h2
    · simp [Tr.get] at h
  -- makeMap
  · split at h
    · exact OpOk.ofNew (pMake_sound R h)
    · simp [Tr.get] at h
  -- lookup
  · split at h
    · obtain ⟨d1, d2⟩ := two_of hd rfl
      obtain ⟨⟨u, h1, h2⟩, h3⟩ := pLook_sound R h d1 d2
      exact OpOk.ofPure R ⟨u, h1, h2⟩ h3
    · simp [Tr.get] at h
  -- mapUpdate
  · split at h
    · obtain ⟨d1, d2, d3⟩ := three_of hd rfl
      obtain ⟨h1, w', h2, h3⟩ := pUpdate_sound R h d1 d2 d3
      exact ⟨.skip, undef, w', ρ, by simp [h2], .inr ⟨rfl, rfl⟩, Asg.le_refl _, by rw [h1]; rfl, Rel.shift h3 (by omega)⟩
    · simp [Tr.get] at h
  -- insert
  · split at h
    · obtain ⟨d1, d2, d3⟩ := three_of hd rfl
      obtain ⟨h1, w', h2, h3⟩ := pUpdate_sound R h d1 d2 d3
      exact ⟨.skip, undef, w', ρ, by simp [h2], .inr ⟨rfl, rfl⟩, Asg.le_refl _, by rw [h1]; rfl, Rel.shift h3 (by omega)⟩
    · simp [Tr.get] at h
  -- mapEntry
  · split at h
    · obtain ⟨d1, d2⟩ := two_of hd rfl
      exact OpOk.ofNew (pEntOpen_sound R h d1 d2)
    · simp [Tr.get] at h
  -- entryStore
  · split at h
    · obtain ⟨d1, d2, d3⟩ := three_of hd rfl
      obtain ⟨h1, w', h2, h3⟩ := pEntStore_sound (P := P) (t := 0) R h d1 d2 d3
      exact ⟨.skip, undef, w', ρ, by simp [show ∀ t s, Instr.entryStore t s = Instr.entryStore 0 s from fun _ _ => rfl, h2], .inr ⟨rfl, rfl⟩, Asg.le_refl _, by rw [h1]; rfl, Rel.shift h3 (by omega)⟩
    · simp [Tr.get] at h
  -- range
  · split at h
    · exact OpOk.ofNew (pRange_sound R h (one_of hd rfl))
    · simp [Tr.get] at h
  -- next
  · split at h
    · exact OpOk.ofNew (pNext_sound R h (one_of hd rfl))
    · simp [Tr.get] at h
  -- entry
  · split at h
    · obtain ⟨h1, h2⟩ := lift_get h
      exact OpOk.ofPure R (pEntry_sound R h1 (one_of hd rfl)) h2
    · simp [Tr.get] at h
  -- call
  · split at h
    · rename_i c b hc
      exact pBuiltin_sound R hc h hd _
    · simp [Tr.get] at h
  · simp [Tr.get] at h
end sound
end
end Go.Sx
