/-
  The symbolic evaluator: places, parts and small builtins. Own work; nothing here is trusted.
-/
import Derived.Test.YtkhlmlcjedbkcaaSxOps
namespace Go.Sx
noncomputable section
open Go.RowKit

variable {C : Tab} {P : Program}

def pUn (op : UnOp) (x : SV) : Tr SV := match op, x with
  | .not, .raw (.bool b) => .leaf (.raw (.bool (!b)))
  | .neg, .raw (.int k n) => arith k (0 - n)
  | .xor, .raw (.int k n) => .leaf (.raw (.int k (bitsV k .xor (if k.signed then -1 else k.max) n)))
  | _, _ => .fail

def pConv (P : Program) (s t : TypeId) (x : SV) : Tr SV := match P.underlying s, P.underlying t, x with
  | some _, some (.int k), .raw (.int _ n) => arith k n
  | some _, some .string, .raw (.string b) => .leaf (.raw (.string b))
  | _, _, _ => .fail

def addOff (look : Nat → Option (SO C)) (x : SV) (o : Nat) : Tr SV := match x with
  | .h id => match look id with
    | some (.box _ _) => .leaf (.ep id o)
    | _ => .fail
  | .ep id off => .leaf (.ep id (off + o))
  | .el id i sz j => .leaf (.el id i sz (j + o))
  | _ => .fail

def pFieldAddr (P : Program) (look : Nat → Option (SO C)) (t : TypeId) (x : SV) (f : Nat) : Tr SV := match P.underlying t with
  | some (.struct fs) => match fs[f]? with
    | some fd => match szOf P fd.type with
      | some (_ + 1) => addOff look x fd.offset
      | _ => .fail
    | none => .fail
  | _ => .fail

/-- Cells of an aggregate. -/
def partV (P : Program) (t : TypeId) (x : SV) (off : Nat) : Tr SV := match isAggS x with
  | true => match partS P t (cellsS x) off with
    | some l => mkV P t l
    | none => .fail
  | false => .fail

def pField (P : Program) (t : TypeId) (x : SV) (f : Nat) : Tr SV := match P.underlying t with
  | some (.struct fs) => match fs[f]? with
    | some fd => partV P fd.type x fd.offset
    | none => .fail
  | _ => .fail

def inB (i : Int) (n : Nat) : Bool := decide (0 ≤ i) && decide (i < n)
theorem inB_spec {i : Int} {n : Nat} (h : inB i n = true) : 0 ≤ i ∧ i < n := by
  unfold inB at h
  simpa using h
theorem inB_mk {i : Int} {n : Nat} (h : 0 ≤ i ∧ i < n) : inB i n = true := by
  unfold inB
  rw [decide_eq_true h.1, decide_eq_true h.2]; rfl

def pIndex (P : Program) (t : TypeId) (x i : SV) : Tr SV := match P.underlying t, x, i with
  | some .string, .raw (.string s), .raw (.int _ i) => .br (inB i s.size) (.leaf (.raw (.int .u8 (s.data.toList.getD i.toNat 0).toNat))) .fail
  | some (.array len e), x, .raw (.int _ i) => match szOf P e with
    | some k => .br (inB i len) (partV P e x (i.toNat * k)) .fail
    | none => .fail
  | _, _, _ => .fail

def pIndexAddr (P : Program) (look : Nat → Option (SO C)) (t : TypeId) (x i : SV) : Tr SV := match P.underlying t, x, i with
  | some (.array len e), x, .raw (.int _ i) => match szOf P e with
    | some k => .br (inB i len) (addOff look x (i.toNat * k)) .fail
    | none => .fail
  | some (.slice e), .h id, .raw (.int _ i) => match look id, szOf P e with
    | some (.sl _ _ e' ts), some k => match Nat.beq k (C e').sz with
      | true => .br (inB i ts.length) (.leaf (.el id i.toNat k 0)) .fail
      | false => .fail
    | _, _ => .fail
  | some (.slice e), .bs id off len _, .raw (.int _ i) => match szOf P e with
    | some k => .br (inB i len) (.leaf (.ep id (off + i.toNat * k))) .fail
    | none => .fail
  | some (.slice e), .vs id sz bs off len _, .raw (.int _ i) => match look id, szOf P e with
    | some (.sl _ _ e' ts), some k => match Nat.beq k (C e').sz, Nat.beq sz k with
      | true, true => .br (inB i len) (.br (decide (off + i.toNat < ts.length)) (.leaf (.el id (off + i.toNat) k 0)) .fail) .fail
      | _, _ => .fail
    | _, _ => .fail
  | _, _, _ => .fail

def pExtract (x : SV) (i : Nat) : Tr SV := match x with
  | .tup vs => Tr.ofOpt vs[i]?
  | .raw (.tuple a) => match a[i]? with
    | some v => .leaf (.raw v)
    | none => .fail
  | _ => .fail

def pPick (c a b : SV) : Tr SV := match c with
  | .raw (.bool c) => match a, b with
    | .raw (.bool x), .raw (.bool y) => .leaf (.raw (.bool (match c with | true => x | false => y)))
    | a, b => .br c (.leaf a) (.leaf b)
  | _ => .fail

def pLen (P : Program) (look : Nat → Option (SO C)) (t : TypeId) (x : SV) : Tr SV := match P.underlying t, x with
  | some .string, .raw (.string s) => .leaf (.raw (.int .i64 s.size))
  | some (.array n _), _ => .leaf (.raw (.int .i64 n))
  | some (.slice _), .raw (.slice _ n _) => .leaf (.raw (.int .i64 n))
  | some (.slice _), .bs _ _ n _ => .leaf (.raw (.int .i64 n))
  | some (.slice _), .vs _ _ _ _ n _ => .leaf (.raw (.int .i64 n))
  | some (.slice _), .h id => match look id with
    | some (.sl _ _ _ ts) => .leaf (.raw (.int .i64 ts.length))
    | _ => .fail
  | _, _ => .fail

def pMin (x y : SV) : Tr SV := match x, y with
  | .raw (.int k a), .raw (.int _ b) => .br (decide (b < a)) (.leaf (.raw (.int k b))) (.leaf (.raw (.int k a)))
  | _, _ => .fail
def pMax (x y : SV) : Tr SV := match x, y with
  | .raw (.int k a), .raw (.int _ b) => .br (decide (b > a)) (.leaf (.raw (.int k b))) (.leaf (.raw (.int k a)))
  | _, _ => .fail

section sound
variable {B : World} {X : Own} {ρ : Asg} {hp : Hp C} {n : Nat} {w : World}

theorem pUn_sound {op : UnOp} {x r : SV} {v : Value} (h : (pUn op x).get = some r) (hx : den ρ x = some v) : PureOk P ρ w (Op.unary op v) r := by
  unfold pUn at h
  split at h
  · simp [Tr.get] at h; simp [den] at hx; subst h; subst hx
    exact ⟨_, by simp [Op.unary], rfl⟩
  · simp [den] at hx; subst hx
    rw [arith_get h]
    exact ⟨_, by simp [Op.unary, Op.intArith], rfl⟩
  · simp [Tr.get] at h; simp [den] at hx; subst h; subst hx
    exact ⟨_, by simp only [Op.unary, Op.intBits, bitsV]; rfl, rfl⟩
  · simp [Tr.get] at h

theorem pConv_sound {s t : TypeId} {x r : SV} {v : Value} (h : (pConv P s t x).get = some r) (hx : den ρ x = some v) : PureOk P ρ w (convert s t v) r := by
  unfold pConv at h
  split at h
  · rename_i hs ht
    simp [den] at hx; subst hx
    rw [arith_get h]
    exact ⟨_, by simp [convert, run_underlying hs, run_underlying ht, Conv.intToInt], rfl⟩
  · rename_i hs ht
    simp [Tr.get] at h; simp [den] at hx; subst h; subst hx
    exact ⟨_, by simp [convert, run_underlying hs, run_underlying ht], rfl⟩
  · simp [Tr.get] at h

theorem addOff_sound (R : Rel B X ρ hp n w) {x r : SV} {o : Nat} {v : Value} (h : (addOff (fun i => find i hp) x o).get = some r) (hx : den ρ x = some v) :
    ∃ a, v = .pointer (some a) ∧ den ρ r = some (.pointer (some (a.add o))) := by
  unfold addOff at h
  split at h
  · rename_i id
    split at h
    · rename_i hid
      simp [Tr.get] at h; subst h
      obtain ⟨v', hv', g, vs, rfl, _⟩ := R.obj id _ hid
      simp only [den] at hx; rw [hx] at hv'; cases hv'
      exact ⟨_, rfl, by simp [den, hx, baseOf]⟩
    · simp [Tr.get] at h
  · simp [Tr.get] at h; subst h
    simp only [den, Option.bind_eq_some_iff, Option.map_eq_some_iff] at hx
    obtain ⟨u, hu, a, ha, rfl⟩ := hx
    exact ⟨_, rfl, by simp [den, hu, ha, Addr.add_add]⟩
  · simp [Tr.get] at h; subst h
    simp only [den, Option.bind_eq_some_iff, Option.map_eq_some_iff] at hx
    obtain ⟨u, hu, a, ha, rfl⟩ := hx
    exact ⟨_, rfl, by simp [den, hu, ha, Addr.add_add, Nat.add_assoc]⟩
  · simp [Tr.get] at h

theorem pFieldAddr_sound (R : Rel B X ρ hp n w) {t : TypeId} {x r : SV} {f : Nat} {v : Value} (h : (pFieldAddr P (fun i => find i hp) t x f).get = some r) (hx : den ρ x = some v) :
    PureOk P ρ w (Instr.fieldAt t v f) r := by
  unfold pFieldAddr at h
  split at h
  · rename_i fs ht
    split at h
    · rename_i fd hf
      split at h
      · rename_i k hk
        obtain ⟨a, rfl, hd⟩ := addOff_sound R h hx
        refine ⟨_, ?_, hd⟩
        simp [Instr.fieldAt, run_underlying ht, hf, Instr.sureAddr, fieldPlace, run_sizeOf hk]
      · simp [Tr.get] at h
    · simp [Tr.get] at h
  · simp [Tr.get] at h

theorem partV_sound (R : Rel B X ρ hp n w) {t : TypeId} {x r : SV} {off : Nat} {v : Value} (h : (partV P t x off).get = some r) (hx : den ρ x = some v) :
    ∃ a, v = .agg a ∧ PureOk P ρ w (part t a off) r := by
  unfold partV at h
  split at h
  · rename_i hs
    obtain ⟨a, rfl⟩ := is_agg hx hs
    refine ⟨a, rfl, ?_⟩
    have hc := den_cells hx R.one
    split at h
    · rename_i l hl
      obtain ⟨ls, h1, h2, h3⟩ := part_run hl hc w
      simp only [Value.cells, Array.toArray_toList] at h2 h3
      unfold mkV at h
      split at h
      · rename_i hag
        simp [Tr.get] at h; subst h
        exact ⟨_, h2 hag, by simp [den, h1]⟩
      · rename_i hag
        split at h
        · simp [Tr.get] at h; subst h
          obtain ⟨u, l', h4, h5, rfl⟩ := denL_cons.1 h1
          rw [denL_nil.1 h5] at h3
          exact ⟨_, h3 u hag rfl, h4⟩
        · simp [Tr.get] at h
      · simp [Tr.get] at h
    · simp [Tr.get] at h
  · simp [Tr.get] at h

theorem pField_sound (R : Rel B X ρ hp n w) {t : TypeId} {x r : SV} {f : Nat} {v : Value} (h : (pField P t x f).get = some r) (hx : den ρ x = some v) :
    PureOk P ρ w (Instr.field t v f) r := by
  unfold pField at h
  split at h
  · rename_i fs ht
    split at h
    · rename_i fd hf
      obtain ⟨a, rfl, u, h1, h2⟩ := partV_sound R h hx
      exact ⟨u, by simp [Instr.field, run_underlying ht, hf, asAgg, h1], h2⟩
    · simp [Tr.get] at h
  · simp [Tr.get] at h

theorem pIndex_sound (R : Rel B X ρ hp n w) {t : TypeId} {x i r : SV} {v vi : Value} (h : (pIndex P t x i).get = some r) (hx : den ρ x = some v) (hi : den ρ i = some vi) :
    PureOk P ρ w (Instr.index t v vi) r := by
  unfold pIndex at h
  split at h
  · rename_i s k i ht
    obtain ⟨hb, h⟩ := Tr.get_ask.1 h
    obtain ⟨h0, h1⟩ := inB_spec hb
    simp only [Tr.get, Option.some.injEq] at h; subst h
    simp [den] at hx hi; subst hx; subst hi
    have hlt : i.toNat < s.size := by omega
    have e : s[i.toNat]? = some s[i.toNat] := by simp [hlt]
    refine ⟨.int .u8 (s[i.toNat]).toNat, ?_, ?_⟩
    · simp [Instr.index, asIntOf, run_underlying ht, h0, e]
    · have h2 : i.toNat < s.data.toList.length := by simpa using hlt
      have : s.data.toList.getD i.toNat 0 = s[i.toNat] := by
        simp only [List.getD, List.getElem?_eq_getElem h2]; rfl
      rw [this]; rfl
  · rename_i len e k i ht
    split at h
    · rename_i sz hsz
      obtain ⟨hb, h⟩ := Tr.get_ask.1 h
      obtain ⟨h0, h1⟩ := inB_spec hb
      simp [den] at hi; subst hi
      obtain ⟨a, rfl, u, h2, h3⟩ := partV_sound R h hx
      exact ⟨u, by simp [Instr.index, asIntOf, run_underlying ht, h0, h1, run_sizeOf hsz, h2], h3⟩
    · simp [Tr.get] at h
  · simp [Tr.get] at h

theorem pIndexAddr_sound (R : Rel B X ρ hp n w) {t : TypeId} {x i r : SV} {v vi : Value} (h : (pIndexAddr P (fun i => find i hp) t x i).get = some r) (hx : den ρ x = some v) (hi : den ρ i = some vi) :
    PureOk P ρ w (Instr.indexAt t v vi) r := by
  unfold pIndexAddr at h
  split at h
  · rename_i len e k i ht
    split at h
    · rename_i sz hsz
      obtain ⟨hb, h⟩ := Tr.get_ask.1 h
      obtain ⟨h0, h1⟩ := inB_spec hb
      simp [den] at hi; subst hi
      obtain ⟨a, rfl, hd⟩ := addOff_sound R h hx
      exact ⟨_, by simp [Instr.indexAt, asIntOf, run_underlying ht, Instr.sureAddr, h0, h1, run_sizeOf hsz], hd⟩
    · simp [Tr.get] at h
  · rename_i e id k i ht
    split at h
    · rename_i own full e' ts sz hid hsz
      split at h
      · rename_i hbe
        have hbe := Nat.eq_of_beq_eq_true hbe
        subst hbe
        obtain ⟨hb, h⟩ := Tr.get_ask.1 h
        obtain ⟨h0, h1⟩ := inB_spec hb
        simp [Tr.get] at h; subst h
        simp [den] at hi hx; subst hi
        obtain ⟨a, cap, rfl, hc, hcell⟩ := flat_cell R hid hx
        have hlt : i.toNat < ts.length := by omega
        obtain ⟨x0, hx0⟩ : ∃ x, ((C e').enc (ts.getD i.toNat (C e').d))[0]? = some x := ⟨_, List.getElem?_eq_getElem (by rw [(C e').len]; exact (C e').pos)⟩
        obtain ⟨a', rfl, _⟩ := hcell _ x0 (((C e').flat_get ts i.toNat 0 hlt (C e').pos).trans hx0)
        exact ⟨_, by simp [Instr.indexAt, asIntOf, run_underlying ht, h0, h1, run_sizeOf hsz]; rfl, by simp [den, hx, baseOf]⟩
      · simp [Tr.get] at h
    · simp [Tr.get] at h
  · rename_i e id off len cap k i ht
    split at h
    · rename_i sz hsz
      obtain ⟨hb, h⟩ := Tr.get_ask.1 h
      obtain ⟨h0, h1⟩ := inB_spec hb
      simp [Tr.get] at h; subst h
      simp [den] at hi; subst hi
      simp only [den, Option.bind_eq_some_iff, Option.map_eq_some_iff] at hx
      obtain ⟨u, hu, a, ha, rfl⟩ := hx
      exact ⟨_, by simp [Instr.indexAt, asIntOf, run_underlying ht, h0, h1, run_sizeOf hsz]; rfl, by simp [den, hu, ha, Addr.add_add]⟩
    · simp [Tr.get] at h
  · rename_i e id sz0 bs off len cap k i ht
    split at h
    · rename_i own full e' ts sz hid hsz
      split at h
      · rename_i hb1 hb2
        have hb1 := Nat.eq_of_beq_eq_true hb1
        have hb2 := Nat.eq_of_beq_eq_true hb2
        subst hb2
        obtain ⟨hb, h⟩ := Tr.get_ask.1 h
        obtain ⟨h0, h1⟩ := inB_spec hb
        obtain ⟨hlt, h⟩ := Tr.get_ask.1 h
        have hlt := of_decide_eq_true hlt
        simp [Tr.get] at h; subst h
        simp [den] at hi; subst hi
        obtain ⟨a, c, hv, hc, _, rfl, hcell⟩ := vs_den R hid hx
        have hne : ¬ off = c := by omega
        rw [if_neg hne]
        exact ⟨_, by simp [Instr.indexAt, asIntOf, run_underlying ht, h0, h1, run_sizeOf hsz]; rfl, by simp [den, hv, baseOf, Addr.add_add, Nat.add_mul]⟩
      · simp [Tr.get] at h
    · simp [Tr.get] at h
  · simp [Tr.get] at h

theorem pExtract_sound {x r : SV} {i : Nat} {v : Value} (h : (pExtract x i).get = some r) (hx : den ρ x = some v) : PureOk P ρ w (Instr.extract v i) r := by
  unfold pExtract at h
  split at h
  · rw [Tr.get_ofOpt] at h
    simp only [den, Option.map_eq_some_iff] at hx
    obtain ⟨l, hl, rfl⟩ := hx
    obtain ⟨u, h1, h2⟩ := denL_get i hl h
    exact ⟨u, by simp [Instr.extract, h2], h1⟩
  · split at h
    · rename_i v0 hv0
      simp [Tr.get] at h; simp [den] at hx; subst h; subst hx
      exact ⟨v0, by simp [Instr.extract, hv0], rfl⟩
    · simp [Tr.get] at h
  · simp [Tr.get] at h

theorem pPick_sound {c a b r : SV} {vc va vb : Value} (h : (pPick c a b).get = some r) (hc : den ρ c = some vc) (ha : den ρ a = some va) (hb : den ρ b = some vb) :
    ∃ q, vc = .bool q ∧ den ρ r = some (if q then va else vb) := by
  unfold pPick at h
  split at h
  · rename_i q
    simp [den] at hc; subst hc
    refine ⟨q, rfl, ?_⟩
    split at h
    · simp [Tr.get] at h; simp [den] at ha hb; subst h; subst ha; subst hb
      cases q <;> rfl
    · rcases Tr.get_br.1 h with ⟨rfl, h⟩ | ⟨rfl, h⟩ <;> (simp [Tr.get] at h; subst h)
      · simpa using ha
      · simpa using hb
  · simp [Tr.get] at h

theorem pLen_sound (R : Rel B X ρ hp n w) {t ty : TypeId} {x r : SV} {v : Value} (h : (pLen P (fun i => find i hp) t x).get = some r) (hx : den ρ x = some v) : PureOk P ρ w (Builtin.len_ #[t] ty #[v]) r := by
  unfold pLen at h
  split at h
  · rename_i ht
    simp [Tr.get] at h; simp [den] at hx; subst h; subst hx
    exact ⟨_, by simp [Builtin.len_, run_underlying ht, goInt], rfl⟩
  · rename_i ht
    simp [Tr.get] at h; subst h
    exact ⟨_, by simp [Builtin.len_, run_underlying ht, goInt], rfl⟩
  · rename_i ht
    simp [Tr.get] at h; simp [den] at hx; subst h; subst hx
    exact ⟨_, by simp [Builtin.len_, run_underlying ht, goInt], rfl⟩
  · rename_i ht
    simp [Tr.get] at h; subst h
    simp only [den, Option.bind_eq_some_iff, Option.map_eq_some_iff] at hx
    obtain ⟨u, hu, a, ha, rfl⟩ := hx
    exact ⟨_, by simp [Builtin.len_, run_underlying ht, goInt], rfl⟩
  · rename_i ht
    simp [Tr.get] at h; subst h
    simp only [den, Option.bind_eq_some_iff] at hx
    obtain ⟨u, hu, hx⟩ := hx
    unfold vsV at hx
    split at hx
    · cases hx
      exact ⟨_, by simp [Builtin.len_, run_underlying ht, goInt], rfl⟩
    · cases hx
  · rename_i ht
    split at h
    · rename_i hid
      simp [Tr.get] at h; subst h
      obtain ⟨a, cap, rfl, _, _⟩ := flat_cell R hid hx
      exact ⟨_, by simp [Builtin.len_, run_underlying ht, goInt], rfl⟩
    · simp [Tr.get] at h
  · simp [Tr.get] at h

theorem pMin_sound {x y r : SV} {a b : Value} (h : (pMin x y).get = some r) (hx : den ρ x = some a) (hy : den ρ y = some b) (ts : Array TypeId) (ty : TypeId) : PureOk P ρ w (Builtin.min_ ts ty #[a, b]) r := by
  unfold pMin at h
  split at h
  · simp [den] at hx hy; subst hx; subst hy
    rcases Tr.get_br.1 h with ⟨hb, h⟩ | ⟨hb, h⟩ <;> (simp [Tr.get] at h; subst h)
    · have hb := of_decide_eq_true hb
      exact ⟨_, by simp [Builtin.min_, Builtin.min2, hb], rfl⟩
    · have hb := of_decide_eq_false hb
      exact ⟨_, by simp [Builtin.min_, Builtin.min2, hb], rfl⟩
  · simp [Tr.get] at h

theorem pMax_sound {x y r : SV} {a b : Value} (h : (pMax x y).get = some r) (hx : den ρ x = some a) (hy : den ρ y = some b) (ts : Array TypeId) (ty : TypeId) : PureOk P ρ w (Builtin.max_ ts ty #[a, b]) r := by
  unfold pMax at h
  split at h
  · simp [den] at hx hy; subst hx; subst hy
    rcases Tr.get_br.1 h with ⟨hb, h⟩ | ⟨hb, h⟩ <;> (simp [Tr.get] at h; subst h)
    · have hb := of_decide_eq_true hb
      exact ⟨_, by simp [Builtin.max_, Builtin.max2, hb], rfl⟩
    · have hb := of_decide_eq_false hb
      exact ⟨_, by simp [Builtin.max_, Builtin.max2, hb], rfl⟩
  · simp [Tr.get] at h
end sound
end
end Go.Sx
