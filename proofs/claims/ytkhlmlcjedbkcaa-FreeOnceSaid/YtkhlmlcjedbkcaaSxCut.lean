/-
  The symbolic evaluator: slicing. Own work; nothing here is trusted.
-/
import Derived.Test.YtkhlmlcjedbkcaaSxSlice
namespace Go.Sx
noncomputable section
open Go.RowKit

variable {C : Tab} {P : Program}

section sound
variable {B : World} {X : Own} {ρ : Asg} {hp : Hp C} {n : Nat} {w : World}

/-- The same value, read as another object. -/
theorem Rel.reobj (h : Rel B X ρ hp n w) {i : Nat} {o o' : SO C} {v : Value} (hi : find i hp = some o) (hv : ρ i = some v) (hok : okObj ρ w (okB B X) v o')
    (hown : o'.owns = true → o.owns = true) (hlive : o'.live = true → o.live = true) : Rel B X ρ ((i, o') :: hp) n w :=
  { h with
    obj := fun j oj hj => by
      rw [find_cons] at hj
      split at hj
      · rename_i e; subst e; simp at hj; subst hj; exact ⟨v, hv, hok⟩
      · exact h.obj j oj hj
    sep := fun a b oa ob va vb g hab ha hb ho hl hva hvb hg => by
      rw [find_cons] at ha hb
      split at ha
      · rename_i e; subst e; simp at ha; subst ha
        rw [if_neg (Ne.symm hab)] at hb
        exact h.sep a b o ob va vb g hab hi hb (hown ho) hl hva hvb hg
      · split at hb
        · rename_i e; subst e; simp at hb; subst hb
          exact h.sep a b oa o va vb g hab ha hi ho (hlive hl) hva hvb hg
        · exact h.sep a b oa ob va vb g hab ha hb ho hl hva hvb hg
    blkOk := fun j oj u g hj hl hu hg => by
      rw [find_cons] at hj
      split at hj
      · rename_i e; subst e; simp at hj; subst hj; exact h.blkOk j o u g hi (hlive hl) hu hg
      · exact h.blkOk j oj u g hj hl hu hg
    prov := fun j oj u g hj hl hu hg => by
      rw [find_cons] at hj
      split at hj
      · rename_i e; subst e; simp at hj; subst hj; exact h.prov j o u g hi (hlive hl) hu hg
      · exact h.prov j oj u g hj hl hu hg
    nn := fun j oj u hj hs hu => by
      rw [find_cons] at hj
      split at hj
      · rename_i e; subst e; simp at hj; subst hj
        obtain ⟨a, l, c, rfl⟩ := hok.sl hs
        rw [hv] at hu; cases hu
        exact h.slOf hi hv (hlive (by cases o' <;> simp [SO.isSl] at hs <;> rfl))
      · exact h.nn j oj u hj hs hu }

theorem Rel.demote (R : Rel B X ρ hp n w) {i : Nat} {own full : Bool} {e : TypeId} {ts : List (C e).α} {v : Value} (hi : find i hp = some (.sl own full e ts)) (hv : ρ i = some v) :
    Rel B X ρ ((i, .sl false full e ts) :: hp) n w := by
  obtain ⟨v', hv', a, cap, rfl, h1, h2, h3⟩ := R.obj i _ hi
  rw [hv] at hv'; cases hv'
  obtain ⟨a', cap', he, _, hcell⟩ := flat_cell R hi hv
  cases he
  exact R.reobj hi hv ⟨a, cap, rfl, h1, h2, hcell⟩ (fun h => by cases h) (fun _ => rfl)

/-- The entry that makes a view of what was owned. -/
def dem (own : Bool) (id : Nat) (full : Bool) (e : TypeId) (ts : List (C e).α) : Hp C := match own with
  | true => [(id, .sl false full e ts)]
  | false => []
theorem find_dem {own full : Bool} {id : Nat} {e : TypeId} {ts : List (C e).α} (hi : find id hp = some (.sl own full e ts)) : find id (dem own id full e ts ++ hp) = some (.sl false full e ts) := by
  cases own with
  | true => show find id ((id, _) :: hp) = _; rw [find_cons, if_pos rfl]
  | false => exact hi
theorem Rel.dem (R : Rel B X ρ hp n w) {i : Nat} {own full : Bool} {e : TypeId} {ts : List (C e).α} {v : Value} (hi : find i hp = some (.sl own full e ts)) (hv : ρ i = some v) :
    Rel B X ρ (dem own i full e ts ++ hp) n w := by
  cases own with
  | true => exact R.demote hi hv
  | false => exact R
end sound

def optN : Option SV → Option (Option Int)
  | none => some none
  | some x => match x with
    | .raw (.int _ i) => some (some i)
    | _ => none

def bnds (lo hi mx : Bool) (l : List SV) : Option (Option SV × Option SV × Option SV) :=
  match lo, hi, mx, l with
  | false, false, false, [] => some (none, none, none)
  | true, false, false, [a] => some (some a, none, none)
  | false, true, false, [a] => some (none, some a, none)
  | true, true, false, [a, b] => some (some a, some b, none)
  | false, true, true, [a, b] => some (none, some a, some b)
  | true, true, true, [a, b, c] => some (some a, some b, some c)
  | _, _, _, _ => none

/-- The values that the bounds denote. -/
def bndV (ρ : Asg) (s : Option SV) (v : Option Value) : Prop := match s, v with
  | none, none => True
  | some x, some u => den ρ x = some u
  | _, _ => False

def intO (d : Int) : Option Int → Int
  | some i => i
  | none => d

@[simp] theorem intO_none (d : Int) : intO d none = d := rfl
@[simp] theorem intO_some (d i : Int) : intO d (some i) = i := rfl

def bOk (l h len : Int) : Bool := decide (0 ≤ l) && (decide (l ≤ h) && decide (h ≤ len))
theorem bOk_spec {l h len : Int} (hb : bOk l h len = true) : 0 ≤ l ∧ l ≤ h ∧ h ≤ len := by
  unfold bOk at hb
  simpa using hb
theorem bOk_mk {l h len : Int} (hb : 0 ≤ l ∧ l ≤ h ∧ h ≤ len) : bOk l h len = true := by
  unfold bOk
  simpa using hb

theorem bounds_run (isSlice : Bool) {ρ : Asg} {len cap : Nat} {lo hi mx : Option SV} {vlo vhi vmx : Option Value} {l h : Option Int} {m : Option Int} (hl : optN lo = some l) (hh : optN hi = some h) (hm : optN mx = some m)
    (b1 : bndV ρ lo vlo) (b2 : bndV ρ hi vhi) (b3 : bndV ρ mx vmx) (hok : bOk (intO 0 l) (intO len h) (intO cap m) = true) (hmc : intO cap m ≤ cap) (hx : m.isSome = true → h.isSome = true) (w : World) :
    (Instr.sliceBounds isSlice len cap vlo vhi vmx).run P w = .ok ((intO 0 l).toNat, (intO len h).toNat, (intO cap m).toNat) w := by
  obtain ⟨h0, h1, h2⟩ := bOk_spec hok
  have get : ∀ {s : Option SV} {v : Option Value} {i : Option Int}, optN s = some i → bndV ρ s v → (s = none ∧ v = none ∧ i = none) ∨ ∃ k j, v = some (.int k j) ∧ i = some j := fun {s v i} e b => by
    cases s with
    | none => cases v <;> simp [bndV] at b; simp [optN] at e; exact .inl ⟨rfl, rfl, e.symm⟩
    | some x =>
      cases v with
      | none => simp [bndV] at b
      | some u =>
        simp only [bndV] at b
        simp only [optN] at e
        split at e
        · simp [den] at b; subst b; cases e; exact .inr ⟨_, _, rfl, rfl⟩
        · cases e
  rcases get hl b1 with ⟨rfl, rfl, rfl⟩ | ⟨kl, jl, rfl, rfl⟩ <;> rcases get hh b2 with ⟨rfl, rfl, rfl⟩ | ⟨kh, jh, rfl, rfl⟩ <;> rcases get hm b3 with ⟨rfl, rfl, rfl⟩ | ⟨km, jm, rfl, rfl⟩ <;>
    simp only [intO, Option.isSome_none, Option.isSome_some, Bool.false_eq_true, forall_const, imp_false] at h0 h1 h2 hmc hx ⊢
  · simp [Instr.sliceBounds]
  · have e1 := run_sliceBound (P := P) (w := w) kh jh cap (if isSlice then .sliceAcap else .sliceAlen) (by omega) h2
    simp [Instr.sliceBounds, e1]
  · have e1 := run_sliceBound (P := P) (w := w) km jm cap (if isSlice then .slice3Acap else .slice3Alen) (by omega) hmc
    have e2 := run_sliceBound (P := P) (w := w) kh jh jm.toNat .slice3B (by omega) (by omega)
    simp [Instr.sliceBounds, e1, e2]
  · have e1 := run_sliceBound (P := P) (w := w) kl jl len .sliceB h0 h1
    simp [Instr.sliceBounds, e1]
  · have e1 := run_sliceBound (P := P) (w := w) kh jh cap (if isSlice then .sliceAcap else .sliceAlen) (by omega) h2
    have e2 := run_sliceBound (P := P) (w := w) kl jl jh.toNat .sliceB h0 (by omega)
    simp [Instr.sliceBounds, e1, e2]
  · have e1 := run_sliceBound (P := P) (w := w) km jm cap (if isSlice then .slice3Acap else .slice3Alen) (by omega) hmc
    have e2 := run_sliceBound (P := P) (w := w) kh jh jm.toNat .slice3B (by omega) (by omega)
    have e3 := run_sliceBound (P := P) (w := w) kl jl jh.toNat .slice3C h0 (by omega)
    simp [Instr.sliceBounds, e1, e2, e3]

/-! ### of a slice -/
def cutSl (n id : Nat) (own full : Bool) (e : TypeId) (ts : List (C e).α) (l h m : Option Int) : Tr (Res C) :=
  match m with
  | none => .br (bOk (intO 0 l) (intO ts.length h) ts.length)
      (.leaf (.h n, (n, .sl false (match h with | none => full | some _ => false) e ((ts.take (intO ts.length h).toNat).drop (intO 0 l).toNat)) :: dem own id full e ts)) .fail
  | some m => match h with
    | none => .fail
    | some h => .br (bOk (intO 0 l) h m && decide (m ≤ ts.length)) (.br (decide (m = h))
      (.leaf (.h n, (n, .sl false true e ((ts.take h.toNat).drop (intO 0 l).toNat)) :: dem own id full e ts))
      (.leaf (.h n, (n, .sl false false e ((ts.take h.toNat).drop (intO 0 l).toNat)) :: dem own id full e ts))) .fail

/-! ### of a part of a slice that is owned -/
def roomV (off tl : Nat) : Option Nat → Int
  | some k => k
  | none => (tl : Int) - off
def atV (off tl : Nat) (L : Int) : Option Nat → Bool
  | some k => decide (off + L.toNat < tl) && decide (L < k)
  | none => true
def capS (cap : Option Nat) (L : Int) : Option Nat := match cap with
  | some k => some (k - L.toNat)
  | none => none
def baseN (bs off : Nat) (L : Int) : Nat := match Nat.beq L.toNat 0 with
  | true => bs
  | false => off
def cutVs (id sz bs off len : Nat) (cap : Option Nat) (tl : Nat) (l h m : Option Int) : Tr (Res C) := match m with
  | none => match l with
    | none => .br (bOk 0 (intO len h) (roomV off tl cap)) (.leaf (.vs id sz bs off (intO len h).toNat cap, [])) .fail
    | some L => .br (bOk L (intO len h) (roomV off tl cap) && atV off tl L cap) (.leaf (.vs id sz (baseN bs off L) (off + L.toNat) ((intO len h).toNat - L.toNat) (capS cap L), [])) .fail
  | some M => match h with
    | none => .fail
    | some H => match l with
      | none => .br (bOk 0 H M && decide (M ≤ roomV off tl cap)) (.leaf (.vs id sz bs off H.toNat (some M.toNat), [])) .fail
      | some L => .br (bOk L H M && (decide (M ≤ roomV off tl cap) && (decide (off + L.toNat < tl) && decide (L < M)))) (.leaf (.vs id sz (baseN bs off L) (off + L.toNat) (H.toNat - L.toNat) (some (M.toNat - L.toNat)), [])) .fail

/-! ### of an array behind an address -/
def cutArr (look : Nat → Option (SO C)) (x : SV) (sz len : Nat) (l h m : Option Int) : Tr (Res C) :=
  match m, (match x with | .h id => (match look id with | some (.box _ _) => some (id, 0) | _ => none) | .ep id off => some (id, off) | _ => none : Option (Nat × Nat)) with
  | none, some (id, off) => .br (bOk (intO 0 l) (intO len h) len && decide (intO 0 l < len)) (.leaf (.bs id (off + (intO 0 l).toNat * sz) ((intO len h).toNat - (intO 0 l).toNat) (len - (intO 0 l).toNat), [])) .fail
  | _, _ => .fail

def pSlice (P : Program) (look : Nat → Option (SO C)) (n : Nat) (t : TypeId) (lo hi mx : Bool) (x : SV) (bs : List SV) : Tr (Res C) :=
  match bnds lo hi mx bs with
  | some (lo, hi, mx) => match optN lo, optN hi, optN mx with
    | some l, some h, some m => match P.underlying t, x with
      | some (.slice e), .h id => match look id, szOf P e with
        | some (.sl own full e' ts), some k => match Nat.beq k (C e').sz with
          | true => match own with
            | true => cutVs id k 0 0 ts.length none ts.length l h m
            | false => cutSl n id false full e' ts l h m
          | false => .fail
        | _, _ => .fail
      | some (.slice e), .vs id sz bs off len cap => match look id, szOf P e with
        | some (.sl _ _ e' ts), some k => match Nat.beq k (C e').sz, Nat.beq sz k with
          | true, true => cutVs id k bs off len cap ts.length l h m
          | _, _ => .fail
        | _, _ => .fail
      | some (.slice e), .raw (.slice none 0 0) => match szOf P e with
        | some _ => .br (bOk (intO 0 l) (intO 0 h) (intO 0 m) && decide (intO 0 m ≤ 0)) (.leaf (.raw (.slice none 0 0), [])) .fail
        | none => .fail
      | some .string, .raw (.string s) => match m with
        | none => .br (bOk (intO 0 l) (intO s.size h) s.size) (.leaf (.raw (.string (s.extract (intO 0 l).toNat (intO s.size h).toNat)), [])) .fail
        | some _ => .fail
      | some (.array len e), x => match szOf P e with
        | some k => cutArr look x k len l h m
        | none => .fail
      | _, _ => .fail
    | _, _, _ => .fail
  | none => .fail

section sound
variable {B : World} {X : Own} {ρ : Asg} {hp : Hp C} {n : Nat} {w : World}

theorem viewOk (R : Rel B X ρ hp n w) {id : Nat} {own full : Bool} {e : TypeId} {ts : List (C e).α} {v : Value} (hi : find id hp = some (.sl own full e ts)) (hv : ρ id = some v) {l h : Nat} {f : Bool}
    (hlh : l ≤ h) (hh : h ≤ ts.length) : ∃ a cap, v = .slice a ts.length cap ∧ ts.length ≤ cap ∧ (full = true → cap = ts.length) ∧
      ∀ m : Nat, h ≤ m → (f = true → m = h) → Rel B X (ρ.add n (.slice (if m = l then a else a.map (·.add (l * (C e).sz))) (h - l) (m - l))) ((n, .sl false f e ((ts.take h).drop l)) :: (dem own id full e ts ++ hp)) (n + 4) w := by
  obtain ⟨a, cap, rfl, h1, hcell⟩ := flat_cell R hi hv
  obtain ⟨v', hv', a', cap', he, _, hf, _⟩ := R.obj id _ hi
  rw [hv] at hv'; cases hv'; cases he
  refine ⟨a, cap, rfl, h1, hf, fun m hm hfm => ?_⟩
  have R1 := R.dem hi hv
  have hfd := find_dem hi
  have hidn : id ≠ n := fun e => by subst e; rw [R.fresh _ (Nat.le_refl _)] at hv; cases hv
  have hnn := R.nn id _ _ hi rfl hv
  refine Rel.shift (R1.add rfl ?_ ?_ ?_ ?_ (fun _ => by cases a with | none => simp [nnV] at hnn | some b => split <;> rfl)) (by omega)
  · have hlen : ((ts.take h).drop l).length = h - l := by simp; omega
    refine ⟨_, m - l, by rw [hlen], by rw [hlen]; omega, fun hfull => by rw [hlen, hfm hfull], ?_⟩
    intro j x hx
    have hjl : j < (h - l) * (C e).sz := by
      have := (List.getElem?_eq_some_iff.1 hx).1
      rwa [(C e).flat_length, hlen] at this
    have hml : m ≠ l := fun e => by subst e; have : h - m = 0 := by omega
                                    rw [this] at hjl; omega
    rw [if_neg hml]
    have hx' : ((C e).flat ts)[l * (C e).sz + j]? = some x := by
      rw [(C e).flat_drop, (C e).flat_take, List.getElem?_drop, List.getElem?_take] at hx
      split at hx
      · exact hx
      · cases hx
    obtain ⟨b, rfl, hc⟩ := hcell _ x hx'
    exact ⟨_, rfl, by rw [Addr.add_add]; exact hc⟩
  · intro g hg
    have : ∃ b, a = some b ∧ b.block = g := by
      cases a with
      | none => simp [blk] at hg
      | some b =>
        refine ⟨b, rfl, ?_⟩
        split at hg
        · simpa [blk] using hg
        · simpa [blk, Addr.add_block] using hg
    obtain ⟨b, rfl, rfl⟩ := this
    exact R.blkOk id _ _ _ hi rfl hv rfl
  · intro j oj vj g hj hl hvj hgj hg
    have hb : ∃ b, a = some b ∧ b.block = g := by
      cases a with
      | none => simp [blk] at hg
      | some b =>
        refine ⟨b, rfl, ?_⟩
        split at hg
        · simpa [blk] using hg
        · simpa [blk, Addr.add_block] using hg
    obtain ⟨b, rfl, rfl⟩ := hb
    refine ⟨rfl, ?_⟩
    by_cases hji : j = id
    · subst hji
      rw [hfd] at hj
      cases hj; rfl
    · cases ho : oj.owns with
      | false => rfl
      | true => exact absurd rfl (R1.sep j id oj _ vj _ b.block hji hj hfd ho rfl hvj hv hgj)
  · intro g hg
    have : ∃ b, a = some b ∧ b.block = g := by
      cases a with
      | none => simp [blk] at hg
      | some b =>
        refine ⟨b, rfl, ?_⟩
        split at hg
        · simpa [blk] using hg
        · simpa [blk, Addr.add_block] using hg
    obtain ⟨b, rfl, rfl⟩ := this
    exact R.prov id _ _ _ hi rfl hv rfl

theorem cutSl_sound (R : Rel B X ρ hp n w) {t e : TypeId} {id : Nat} {own full : Bool} {e' : TypeId} {ts : List (C e').α} {v : Value} (hi : find id hp = some (.sl own full e' ts)) (hv : ρ id = some v) (ht : P.underlying t = some (.slice e)) (hk : szOf P e = some (C e').sz)
    {lo hi_ mx : Option SV} {vlo vhi vmx : Option Value} {l h m : Option Int} (hl : optN lo = some l) (hh : optN hi_ = some h) (hm : optN mx = some m) (b1 : bndV ρ lo vlo) (b2 : bndV ρ hi_ vhi) (b3 : bndV ρ mx vmx) {r : Res C}
    (hr : (cutSl n id own full e' ts l h m).get = some r) : NewOk P B X ρ hp n w (Instr.sliceAt t v vlo vhi vmx) r := by
  have run : ∀ {a : Option Addr} {cap : Nat}, v = .slice a ts.length cap → bOk (intO 0 l) (intO ts.length h) (intO cap m) = true → intO cap m ≤ cap → (m.isSome = true → h.isSome = true) →
      (Instr.sliceAt t v vlo vhi vmx).run P w = .ok (.slice (if (intO cap m).toNat = (intO 0 l).toNat then a else a.map (·.add ((intO 0 l).toNat * (C e').sz))) ((intO ts.length h).toNat - (intO 0 l).toNat) ((intO cap m).toNat - (intO 0 l).toNat)) w := fun {a cap} e1 e3 e4 e5 => by
    subst e1
    simp only [Instr.sliceAt, Sem.run_bind, run_underlying ht, Result.andThen_ok, Instr.slice, bounds_run (P := P) true hl hh hm b1 b2 b3 e3 e4 e5 w, run_sizeOf hk, Sem.run_pure]
  have hle : ∀ u, ρ.le (ρ.add n u) := fun u => Asg.le_add ρ n u (R.fresh n (Nat.le_refl _))
  unfold cutSl at hr
  split at hr
  · obtain ⟨hb, hr⟩ := Tr.get_ask.1 hr
    simp only [Tr.get, Option.some.injEq] at hr; subst hr
    obtain ⟨h0, h1, h2⟩ := bOk_spec hb
    obtain ⟨a, cap, e1, e2, e3, hview⟩ := viewOk R hi hv (l := (intO 0 l).toNat) (h := (intO ts.length h).toNat) (f := match h with | none => full | some _ => false) (by omega) (by omega)
    have hrun := run e1 (bOk_mk ⟨h0, h1, by rw [intO_none]; omega⟩) (by rw [intO_none]; omega) (fun h => by cases h)
    rw [intO_none, Int.toNat_natCast] at hrun
    have hv2 := hview cap (by omega) (fun hf => by
      cases h with
      | none => simp only at hf; rw [e3 hf, intO_none, Int.toNat_natCast]
      | some h => cases hf)
    exact ⟨_, w, _, hrun, hle _, Asg.add_self ρ n _, hv2⟩
  · rename_i m
    split at hr
    · simp [Tr.get] at hr
    · rename_i h
      obtain ⟨hb, hr⟩ := Tr.get_ask.1 hr
      simp only [Bool.and_eq_true, decide_eq_true_eq] at hb
      obtain ⟨hb, hm2⟩ := hb
      obtain ⟨h0, h1, h2⟩ := bOk_spec hb
      have fin : ∀ f : Bool, (f = true → m = h) → NewOk P B X ρ hp n w (Instr.sliceAt t v vlo vhi vmx) (.h n, (n, .sl false f e' ((ts.take h.toNat).drop (intO 0 l).toNat)) :: dem own id full e' ts) := fun f hf => by
        obtain ⟨a, cap, e1, e2, e3, hview⟩ := viewOk R hi hv (l := (intO 0 l).toNat) (h := h.toNat) (f := f) (by omega) (by omega)
        have hrun := run e1 (bOk_mk ⟨h0, by rw [intO_some]; exact h1, by rw [intO_some, intO_some]; exact h2⟩) (by rw [intO_some]; omega) (fun _ => rfl)
        rw [intO_some, intO_some] at hrun
        have hv2 := hview m.toNat (by omega) (fun hf' => by rw [hf hf'])
        exact ⟨_, w, _, hrun, hle _, Asg.add_self ρ n _, hv2⟩
      rcases Tr.get_br.1 hr with ⟨hb, hr⟩ | ⟨hb, hr⟩
      · simp only [Tr.get, Option.some.injEq] at hr; subst hr
        exact fin true fun _ => of_decide_eq_true hb
      · simp only [Tr.get, Option.some.injEq] at hr; subst hr
        exact fin false fun hf => by cases hf

/-- A handle's slice as a part of itself. -/
theorem h_vs (R : Rel B X ρ hp n w) {id sz : Nat} {own full : Bool} {e : TypeId} {ts : List (C e).α} {v : Value} (hid : find id hp = some (.sl own full e ts)) (hx : den ρ (.h id) = some v) : den ρ (.vs id sz 0 0 ts.length none) = some v := by
  simp only [den] at hx ⊢
  obtain ⟨v', hv', a, c, rfl, h1, h2, h3⟩ := R.obj id _ hid
  rw [hx] at hv'; cases hv'
  have hnn := R.nn id _ _ hid rfl hx
  cases a with
  | none => simp [nnV] at hnn
  | some a =>
    rw [hx]
    simp only [Option.bind_some, vsV, capO, Nat.zero_mul, Nat.sub_zero, Addr.add_zero, ite_self, Nat.zero_min]

theorem cutVs_sound (R : Rel B X ρ hp n w) {t e : TypeId} {id bs off len : Nat} {cap : Option Nat} {own full : Bool} {e' : TypeId} {ts : List (C e').α} {v : Value} (hi : find id hp = some (.sl own full e' ts)) (hv : den ρ (.vs id (C e').sz bs off len cap) = some v) (ht : P.underlying t = some (.slice e)) (hk : szOf P e = some (C e').sz)
    {lo hi_ mx : Option SV} {vlo vhi vmx : Option Value} {l h m : Option Int} (hl : optN lo = some l) (hh : optN hi_ = some h) (hm : optN mx = some m) (b1 : bndV ρ lo vlo) (b2 : bndV ρ hi_ vhi) (b3 : bndV ρ mx vmx) {r : Res C}
    (hr : (cutVs (C := C) id (C e').sz bs off len cap ts.length l h m).get = some r) : NewOk P B X ρ hp n w (Instr.sliceAt t v vlo vhi vmx) r := by
  obtain ⟨a, c, hid, hc, _, rfl, _⟩ := vs_den R hi hv
  have hroom : roomV off ts.length cap ≤ ((capO cap (c - off) : Nat) : Int) := by
    cases cap <;> simp only [roomV, capO]
    · omega
    · exact Int.le_refl _
  generalize hb : (if off = c then a.add (Nat.min bs off * (C e').sz) else a.add (off * (C e').sz)) = b at *
  have run : bOk (intO 0 l) (intO len h) (intO (capO cap (c - off)) m) = true → intO (capO cap (c - off)) m ≤ (capO cap (c - off) : Nat) → (m.isSome = true → h.isSome = true) →
      (Instr.sliceAt t (.slice (some b) len (capO cap (c - off))) vlo vhi vmx).run P w = .ok (.slice (if (intO (capO cap (c - off)) m).toNat = (intO 0 l).toNat then some b else (some b).map (·.add ((intO 0 l).toNat * (C e').sz))) ((intO len h).toNat - (intO 0 l).toNat) ((intO (capO cap (c - off)) m).toNat - (intO 0 l).toNat)) w := fun e3 e4 e5 => by
    simp only [Instr.sliceAt, Sem.run_bind, run_underlying ht, Result.andThen_ok, Instr.slice, bounds_run (P := P) true hl hh hm b1 b2 b3 e3 e4 e5 w, run_sizeOf hk, Sem.run_pure]
  have fin : ∀ {sv : SV} {u : Value}, (Instr.sliceAt t (.slice (some b) len (capO cap (c - off))) vlo vhi vmx).run P w = .ok u w → den ρ sv = some u → NewOk P B X ρ hp n w (Instr.sliceAt t (.slice (some b) len (capO cap (c - off))) vlo vhi vmx) (sv, []) := fun h1 h2 => ⟨_, w, ρ, h1, Asg.le_refl _, h2, Rel.shift R (by omega)⟩
  have head : ∀ (H : Nat) (k : Option Nat), den ρ (.vs id (C e').sz bs off H k) = some (.slice (some b) H (capO k (c - off))) := fun H k => by
    simp only [den, hid, Option.bind_some, vsV, hb]
  have rest : ∀ (L : Int) (H : Nat) (k : Option Nat), off + L.toNat ≤ c → den ρ (.vs id (C e').sz (baseN bs off L) (off + L.toNat) H k) = some (.slice (if c - off = L.toNat then some b else some (b.add (L.toNat * (C e').sz))) H (capO k (c - (off + L.toNat)))) := fun L H k hlk => by
    simp only [den, hid, Option.bind_some, vsV]
    congr 2
    unfold baseN
    by_cases hL : off + L.toNat = c
    · rw [if_pos hL, if_pos (by omega)]
      cases h0 : Nat.beq L.toNat 0 with
      | true =>
        have h0 := Nat.eq_of_beq_eq_true h0
        rw [← hb, if_pos (by omega), h0, Nat.add_zero]
      | false =>
        have h0 := Nat.ne_of_beq_eq_false h0
        rw [← hb, if_neg (by omega)]
        simp only
        rw [show Nat.min off (off + L.toNat) = off from Nat.min_eq_left (by omega)]
    · rw [if_neg hL, if_neg (by omega), ← hb, if_neg (by omega), Addr.add_add, Nat.add_mul]
  unfold cutVs at hr
  split at hr
  · split at hr
    · obtain ⟨hb1, hr⟩ := Tr.get_ask.1 hr
      simp only [Tr.get, Option.some.injEq] at hr; subst hr
      obtain ⟨h0, h1, h2⟩ := bOk_spec hb1
      have hrun := run (bOk_mk ⟨by simp, by simp only [intO_none]; omega, by simp only [intO_none]; omega⟩) (by simp) (fun h => by cases h)
      refine fin hrun ((head _ _).trans ?_)
      simp only [intO_none, Int.toNat_zero, Nat.sub_zero, Nat.zero_mul, Option.map_some, Addr.add_zero, ite_self, Int.toNat_natCast]
    · rename_i L
      obtain ⟨hb1, hr⟩ := Tr.get_ask.1 hr
      simp only [Tr.get, Option.some.injEq] at hr; subst hr
      rw [Bool.and_eq_true] at hb1
      obtain ⟨hb1, hat⟩ := hb1
      obtain ⟨h0, h1, h2⟩ := bOk_spec hb1
      have hrun := run (bOk_mk ⟨by simpa using h0, by simp only [intO_some]; omega, by simp only [intO_none]; omega⟩) (by simp) (fun h => by cases h)
      have hlk : off + L.toNat ≤ c ∧ (capO cap (c - off) = L.toNat → c - off = L.toNat) ∧ (c - off = L.toNat → capO cap (c - off) = L.toNat) ∧ capO (capS cap L) (c - (off + L.toNat)) = capO cap (c - off) - L.toNat := by
        cases cap with
        | none =>
          simp only [roomV] at h1 h2
          exact ⟨by omega, fun h => h, fun h => h, by simp only [capS, capO]; omega⟩
        | some k =>
          simp only [atV, Bool.and_eq_true, decide_eq_true_eq] at hat
          exact ⟨by omega, by simp only [capO]; omega, by omega, rfl⟩
      obtain ⟨k1, k2, k3, k4⟩ := hlk
      refine fin hrun ((rest _ _ _ k1).trans ?_)
      rw [k4]
      simp only [intO_some, intO_none, Int.toNat_natCast, Option.map_some]
      congr 2
      by_cases hL : c - off = L.toNat
      · rw [if_pos hL]; exact (if_pos (k3 hL)).symm
      · rw [if_neg hL]; exact (if_neg (fun e => hL (k2 e))).symm
  · rename_i M
    split at hr
    · simp [Tr.get] at hr
    · rename_i H
      split at hr
      · obtain ⟨hb1, hr⟩ := Tr.get_ask.1 hr
        simp only [Tr.get, Option.some.injEq] at hr; subst hr
        simp only [Bool.and_eq_true, decide_eq_true_eq] at hb1
        obtain ⟨hb1, hM⟩ := hb1
        obtain ⟨h0, h1, h2⟩ := bOk_spec hb1
        have hrun := run (bOk_mk ⟨by simp, by simp only [intO_some, intO_none]; omega, by simp only [intO_some]; omega⟩) (by simp only [intO_some]; omega) (fun _ => rfl)
        refine fin hrun ((head _ _).trans ?_)
        simp only [intO_none, intO_some, Int.toNat_zero, Nat.sub_zero, Nat.zero_mul, Option.map_some, Addr.add_zero, ite_self, capO]
      · rename_i L
        obtain ⟨hb1, hr⟩ := Tr.get_ask.1 hr
        simp only [Tr.get, Option.some.injEq] at hr; subst hr
        simp only [Bool.and_eq_true, decide_eq_true_eq] at hb1
        obtain ⟨hb1, hM, hLt, hLM⟩ := hb1
        obtain ⟨h0, h1, h2⟩ := bOk_spec hb1
        have hrun := run (bOk_mk ⟨by simpa using h0, by simp only [intO_some]; omega, by simp only [intO_some]; omega⟩) (by simp only [intO_some]; omega) (fun _ => rfl)
        refine fin hrun ((rest _ _ _ (by omega)).trans ?_)
        simp only [intO_some, Option.map_some, capO]
        congr 2
        rw [if_neg (show ¬ c - off = L.toNat by omega)]
        exact (if_neg (show ¬ M.toNat = L.toNat by omega)).symm

theorem cutArr_sound (R : Rel B X ρ hp n w) {t e : TypeId} {len k : Nat} {x : SV} {v : Value} (hx : den ρ x = some v) (ht : P.underlying t = some (.array len e)) (hk : szOf P e = some k)
    {lo hi_ mx : Option SV} {vlo vhi vmx : Option Value} {l h m : Option Int} (hl : optN lo = some l) (hh : optN hi_ = some h) (hm : optN mx = some m) (b1 : bndV ρ lo vlo) (b2 : bndV ρ hi_ vhi) (b3 : bndV ρ mx vmx) {r : Res C}
    (hr : (cutArr (fun i => find i hp) x k len l h m).get = some r) : NewOk P B X ρ hp n w (Instr.sliceAt t v vlo vhi vmx) r := by
  unfold cutArr at hr
  split at hr
  · rename_i id off hid
    obtain ⟨hb, hr⟩ := Tr.get_ask.1 hr
    simp only [Bool.and_eq_true, decide_eq_true_eq] at hb
    obtain ⟨hb, hlt⟩ := hb
    simp only [Tr.get, Option.some.injEq] at hr; subst hr
    obtain ⟨h0, h1, h2⟩ := bOk_spec hb
    have hbase : ∃ u a, ρ id = some u ∧ baseOf u = some a ∧ v = .pointer (some (a.add off)) := by
      split at hid
      · rename_i id'
        split at hid
        · rename_i hf
          cases hid
          obtain ⟨v', hv', g, vs, rfl, _⟩ := R.obj _ _ hf
          simp only [den] at hx; rw [hx] at hv'; cases hv'
          exact ⟨_, _, hx, rfl, by rw [Addr.add_zero]⟩
        · cases hid
      · cases hid
        simp only [den, Option.bind_eq_some_iff, Option.map_eq_some_iff] at hx
        obtain ⟨u, hu, a, ha, rfl⟩ := hx
        exact ⟨u, a, hu, ha, rfl⟩
      · cases hid
    obtain ⟨u, a, hu, ha, rfl⟩ := hbase
    have hne : ¬ (len = (intO 0 l).toNat) := by omega
    refine ⟨.slice (some ((a.add off).add ((intO 0 l).toNat * k))) ((intO len h).toNat - (intO 0 l).toNat) (len - (intO 0 l).toNat), w, ρ, ?_, Asg.le_refl _, ?_, Rel.shift R (by omega)⟩
    · have hbr := bounds_run (P := P) false hl hh hm b1 b2 b3 (len := len) (cap := len) (by rw [intO_none]; exact hb) (by rw [intO_none]; omega) (fun h => by cases h) w
      rw [intO_none, Int.toNat_natCast] at hbr
      simp only [Instr.sliceAt, Sem.run_bind, run_underlying ht, Result.andThen_ok, Instr.sureAddr, Sem.run_pure, hbr, run_sizeOf hk, hne, if_false]
    · simp [den, hu, ha, Addr.add_add]
  · simp [Tr.get] at hr

theorem pSlice_sound (R : Rel B X ρ hp n w) {t : TypeId} {lo hi mx : Bool} {x : SV} {bs : List SV} {v : Value} {r : Res C} (h : (pSlice P (fun i => find i hp) n t lo hi mx x bs).get = some r) (hx : den ρ x = some v)
    {vlo vhi vmx : Option Value} (hb : ∀ a b c, bnds lo hi mx bs = some (a, b, c) → bndV ρ a vlo ∧ bndV ρ b vhi ∧ bndV ρ c vmx) : NewOk P B X ρ hp n w (Instr.sliceAt t v vlo vhi vmx) r := by
  unfold pSlice at h
  split at h
  · rename_i slo shi smx hbn
    obtain ⟨b1, b2, b3⟩ := hb _ _ _ hbn
    split at h
    · rename_i l hh m hl hhh hm
      split at h
      · rename_i e id ht
        split at h
        · rename_i own full e' ts k hid hk
          split at h
          · rename_i hb
            have hb := Nat.eq_of_beq_eq_true hb
            subst hb
            cases own with
            | true => exact cutVs_sound R hid (h_vs R hid hx) ht hk hl hhh hm b1 b2 b3 h
            | false => exact cutSl_sound R hid hx ht hk hl hhh hm b1 b2 b3 h
          · simp [Tr.get] at h
        · simp [Tr.get] at h
      · rename_i e id sz off len cap ht
        split at h
        · rename_i own full e' ts k hid hk
          split at h
          · rename_i hb1 hb2
            have hb1 := Nat.eq_of_beq_eq_true hb1
            have hb2 := Nat.eq_of_beq_eq_true hb2
            subst hb1
            subst hb2
            exact cutVs_sound R hid hx ht hk hl hhh hm b1 b2 b3 h
          · simp [Tr.get] at h
        · simp [Tr.get] at h
      · rename_i e ht
        split at h
        · rename_i k hk
          obtain ⟨hb, h⟩ := Tr.get_ask.1 h
          simp only [Bool.and_eq_true, decide_eq_true_eq] at hb
          obtain ⟨hb, hm0⟩ := hb
          simp only [Tr.get, Option.some.injEq] at h; subst h
          simp [den] at hx; subst hx
          obtain ⟨h0, h1, h2⟩ := bOk_spec hb
          have hmx : m.isSome = true → hh.isSome = true := fun hms => by
            unfold bnds at hbn
            split at hbn <;> first
              | (cases hbn; done)
              | (simp only [Option.some.injEq, Prod.mk.injEq] at hbn; obtain ⟨rfl, rfl, rfl⟩ := hbn; first
                  | (simp [optN] at hm; subst hm; cases hms; done)
                  | (simp only [optN] at hhh; split at hhh <;> first | (cases hhh; rfl) | cases hhh))
          have hbr := bounds_run (P := P) true hl hhh hm b1 b2 b3 (len := 0) (cap := 0) hb hm0 hmx w
          have e1 : (intO 0 l).toNat = 0 := by omega
          have e2 : (intO 0 hh).toNat = 0 := by omega
          have e3 : (intO 0 m).toNat = 0 := by omega
          refine ⟨.slice none 0 0, w, ρ, ?_, Asg.le_refl _, rfl, Rel.shift R (by omega)⟩
          simp only [Int.cast_ofNat_Int] at hbr
          simp only [Instr.sliceAt, Sem.run_bind, run_underlying ht, Result.andThen_ok, Instr.slice, hbr, run_sizeOf hk, Sem.run_pure, e1, e2, e3]
          rfl
        · simp [Tr.get] at h
      · rename_i s ht
        split at h
        · obtain ⟨hbk, h⟩ := Tr.get_ask.1 h
          simp only [Tr.get, Option.some.injEq] at h; subst h
          simp [den] at hx; subst hx
          have hmx : vmx = none := by
            cases smx with
            | none => cases vmx with
              | none => rfl
              | some _ => simp [bndV] at b3
            | some y => simp only [optN] at hm; split at hm <;> cases hm
          subst hmx
          have hbr := bounds_run (P := P) false hl hhh (show optN none = some none from rfl) b1 b2 (show bndV ρ none none from trivial) (len := s.size) (cap := s.size) (by rw [intO_none]; exact hbk) (by rw [intO_none]; omega) (fun h => by cases h) w
          rw [intO_none, Int.toNat_natCast] at hbr
          refine ⟨.string (s.extract (intO 0 l).toNat (intO s.size hh).toNat), w, ρ, ?_, Asg.le_refl _, rfl, Rel.shift R (by omega)⟩
          simp only [Instr.sliceAt, Sem.run_bind, run_underlying ht, Result.andThen_ok, Instr.slice, Option.isSome_none, Bool.false_eq_true, if_false, hbr, Sem.run_pure]
        · simp [Tr.get] at h
      · rename_i len e x' ht
        split at h
        · rename_i k hk
          exact cutArr_sound R hx ht hk hl hhh hm b1 b2 b3 h
        · simp [Tr.get] at h
      · simp [Tr.get] at h
    · simp [Tr.get] at h
  · simp [Tr.get] at h
end sound
end
end Go.Sx
