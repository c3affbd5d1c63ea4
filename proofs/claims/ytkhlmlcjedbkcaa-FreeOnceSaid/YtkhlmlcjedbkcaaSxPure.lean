/-
  The symbolic evaluator: operations that leave the world alone. Own work; nothing here is trusted.
-/
import Derived.Test.YtkhlmlcjedbkcaaSxStore
namespace Go.Sx
noncomputable section
open Go.RowKit

variable {C : Tab} {P : Program}

/-! ### numbers -/
def kindEq : IntKind → IntKind → Bool
  | .i8, .i8 | .i16, .i16 | .i32, .i32 | .i64, .i64 | .u8, .u8 | .u16, .u16 | .u32, .u32 | .u64, .u64 => true
  | _, _ => false
theorem kindEq_eq {a b : IntKind} (h : kindEq a b = true) : a = b := by cases a <;> cases b <;> first | rfl | cases h

def inR64 (r : Int) : Bool := decide (-9223372036854775808 ≤ r) && decide (r ≤ 9223372036854775807)
theorem inR64_mk {r : Int} (h : -9223372036854775808 ≤ r ∧ r ≤ 9223372036854775807) : inR64 r = true := by
  unfold inR64
  rw [decide_eq_true h.1, decide_eq_true h.2]; rfl
theorem inR64_wrap {r : Int} (h : inR64 r = true) : IntKind.i64.wrap r = r := by
  unfold inR64 at h
  simp only [Bool.and_eq_true, decide_eq_true_eq] at h
  exact IntWalk.i64_in r h

/-- A number brought into its kind. -/
def arith : IntKind → Int → Tr SV
  | .i64, r => .br (inR64 r) (.leaf (.raw (.int .i64 r))) (.leaf (.raw (.int .i64 (IntKind.i64.wrap r))))
  | .u8, r => .leaf (.raw (.int .u8 (r % 256)))
  | .u16, r => .leaf (.raw (.int .u16 (r % 65536)))
  | .u32, r => .leaf (.raw (.int .u32 (r % 4294967296)))
  | .u64, r => .leaf (.raw (.int .u64 (r % 18446744073709551616)))
  | k, r => .leaf (.raw (.int k (k.wrap r)))

theorem arith_get {k : IntKind} {r : Int} {x : SV} (h : (arith k r).get = some x) : x = .raw (.int k (k.wrap r)) := by
  cases k <;> simp only [arith] at h
  case i64 =>
    rcases Tr.get_br.1 h with ⟨hb, h⟩ | ⟨_, h⟩
    · simp [Tr.get] at h; subst h; rw [inR64_wrap hb]
    · simp [Tr.get] at h; subst h; rfl
  all_goals (simp only [Tr.get, Option.some.injEq] at h; subst h; first | rfl | simp [IntKind.wrap, IntKind.bits, IntKind.signed])

def bitsV (k : IntKind) (op : BinOp) (x y : Int) : Int :=
  match op with
  | .and => k.wrap (BitVec.ofInt k.bits x &&& BitVec.ofInt k.bits y).toNat
  | .or => k.wrap (BitVec.ofInt k.bits x ||| BitVec.ofInt k.bits y).toNat
  | .xor => k.wrap (BitVec.ofInt k.bits x ^^^ BitVec.ofInt k.bits y).toNat
  | _ => k.wrap (BitVec.ofInt k.bits x &&& ~~~(BitVec.ofInt k.bits y)).toNat

def shlV (k : IntKind) (x y : Int) : Int := k.wrap (x * 2 ^ (min y.toNat k.bits))
def shrV (k : IntKind) (x y : Int) : Int := x.fdiv (2 ^ (min y.toNat k.bits))

def binInt (op : BinOp) (k k' : IntKind) (a b : Int) : Tr SV :=
  match op with
  | .shl => .br (decide (b < 0)) .fail (.leaf (.raw (.int k (shlV k a b))))
  | .shr => .br (decide (b < 0)) .fail (.leaf (.raw (.int k (shrV k a b))))
  | op => match kindEq k k' with
    | false => .fail
    | true => match op with
      | .add => arith k (a + b)
      | .sub => arith k (a - b)
      | .mul => arith k (a * b)
      | .quo => .br (b == 0) .fail (arith k (a.tdiv b))
      | .rem => .br (b == 0) .fail (.leaf (.raw (.int k (a.tmod b))))
      | .and => .leaf (.raw (.int k (bitsV k .and a b)))
      | .or => .leaf (.raw (.int k (bitsV k .or a b)))
      | .xor => .leaf (.raw (.int k (bitsV k .xor a b)))
      | .andNot => .leaf (.raw (.int k (bitsV k .andNot a b)))
      | .eql => .leaf (.raw (.bool (a == b)))
      | .neq => .leaf (.raw (.bool (a != b)))
      | .lss => .leaf (.raw (.bool (decide (a < b))))
      | .leq => .leaf (.raw (.bool (decide (a ≤ b))))
      | .gtr => .leaf (.raw (.bool (decide (b < a))))
      | .geq => .leaf (.raw (.bool (decide (b ≤ a))))
      | _ => .fail

theorem binInt_sound {op : BinOp} {k k' : IntKind} {a b : Int} {x : SV} (h : (binInt op k k' a b).get = some x) (t : TypeId) (w : World) :
    ∃ u, (binOp op t (.int k a) (.int k' b)).run P w = .ok u w ∧ x = .raw u := by
  by_cases hs : op = .shl ∨ op = .shr
  · rcases hs with rfl | rfl
    all_goals
      simp only [binInt] at h
      rcases Tr.get_br.1 h with ⟨_, h⟩ | ⟨hb, h⟩
      · simp [Tr.get] at h
      · simp [Tr.get] at h
        subst h
        have hb' : ¬ b < 0 := by simpa using hb
        exact ⟨_, by simp only [binOp, Op.shift, hb', if_false, Sem.run_pure]; rfl, rfl⟩
  · have h' : kindEq k k' = true := by
      unfold binInt at h
      split at h
      · exact absurd (.inl rfl) hs
      · exact absurd (.inr rfl) hs
      · split at h
        · simp [Tr.get] at h
        · assumption
    have hk := kindEq_eq h'
    subst hk
    unfold binInt at h
    split at h
    · exact absurd (.inl rfl) hs
    · exact absurd (.inr rfl) hs
    · rw [h'] at h
      simp only at h
      split at h
      · rw [arith_get h]; exact ⟨_, by simp [binOp, Op.intArith], rfl⟩
      · rw [arith_get h]; exact ⟨_, by simp [binOp, Op.intArith], rfl⟩
      · rw [arith_get h]; exact ⟨_, by simp [binOp, Op.intArith], rfl⟩
      · rcases Tr.get_br.1 h with ⟨_, h⟩ | ⟨hb, h⟩
        · simp [Tr.get] at h
        · rw [arith_get h]
          have hb' : ¬ b = 0 := by simpa using hb
          exact ⟨_, by simp [binOp, Op.intDiv, hb'], rfl⟩
      · rcases Tr.get_br.1 h with ⟨_, h⟩ | ⟨hb, h⟩
        · simp [Tr.get] at h
        · simp [Tr.get] at h; subst h
          have hb' : ¬ b = 0 := by simpa using hb
          exact ⟨_, by simp [binOp, Op.intDiv, hb'], rfl⟩
      all_goals (first
        | (simp [Tr.get] at h; done)
        | (simp [Tr.get] at h; subst h; exact ⟨_, by simp [binOp, Op.intBits, Op.intCmp, bitsV], rfl⟩))

/-! ### equality of values that are no numbers -/
def partS (P : Program) (t : TypeId) (cs : List SV) (off : Nat) : Option (List SV) := match szOf P t with
  | some k => segS cs off k
  | none => none

/-- No stood-in type holds it (a form that computes). -/
def nameDiff : List Field → List Field → Bool
  | [], [] => false
  | f :: fs, g :: gs => match decide (f.name = g.name) with
    | true => nameDiff fs gs
    | false => true
  | _, _ => true
def unlike (P : Program) (a b : TypeId) : Bool := match Nat.beq a b with
  | true => false
  | false => match P.info? a, P.info? b with
    | some i, some j => match i.desc, j.desc with
      | .struct fs, .struct gs => nameDiff fs.toList gs.toList
      | .struct _, _ => true
      | _, .struct _ => true
      | _, _ => false
    | _, _ => false
theorem nameDiff_not : ∀ (fs gs : List Field), nameDiff fs gs = true → (fs.length == gs.length && (fs.zip gs).all fun x => x.1.name == x.2.name) = false
  | [], [], h => by simp [nameDiff] at h
  | f :: fs, g :: gs, h => by
    unfold nameDiff at h
    split at h
    · have := nameDiff_not fs gs h
      simp only [List.length_cons, List.zip_cons_cons, List.all_cons]
      cases hl : (fs.length == gs.length)
      · have : ¬ fs.length = gs.length := by simpa using hl
        have h2 : (fs.length + 1 == gs.length + 1) = false := by simpa using this
        simp [h2]
      · rw [hl, Bool.true_and] at this
        simp [this]
    · rename_i hne
      have : ¬ f.name = g.name := of_decide_eq_false hne
      simp [this]
  | [], g :: gs, _ => by simp
  | f :: fs, [], _ => by simp
theorem unlike_eq {P : Program} {a b : TypeId} {n : Nat} (h : unlike P a b = true) : P.alikeButTags (n + 1) a b = false := by
  unfold unlike at h
  split at h
  · cases h
  · rename_i hab
    have hab : ¬ a = b := Nat.ne_of_beq_eq_false hab
    split at h
    · rename_i i j hi hj
      unfold Program.alikeButTags
      simp only [hi, hj, Option.map_some, beq_eq_false_iff_ne.2 hab, Bool.false_or]
      split at h
      · rename_i fs gs hd hd'
        rw [hd, hd']
        have hn := nameDiff_not _ _ h
        simp only [Array.length_toList] at hn
        cases hs : (fs.size == gs.size)
        · exact Bool.and_eq_false_iff.2 (.inl hs)
        · rw [hs, Bool.true_and] at hn
          rw [← Bool.not_eq_true] at hn ⊢
          intro hall
          have hall := (Bool.and_eq_true_iff.1 hall).2
          apply hn
          rw [List.all_eq_true]
          rw [Array.all_eq_true_iff_forall_mem] at hall
          rintro ⟨f, g⟩ hm
          have := hall (f, g) (by simpa [← Array.toList_zip] using hm)
          simp only [Bool.and_eq_true] at this
          exact this.1.1.1
      · rename_i fs hd hne
        rw [hd]
        cases hj2 : j.desc <;> first | rfl | exact (hne _ hj2).elim
      · rename_i gs hd hne
        rw [hd]
        cases hi2 : i.desc <;> first | rfl | exact (hne _ hi2).elim
      · cases h
    · cases h
def likeNo (P : Program) (b : TypeId) : List (String × TypeId) → Bool
  | [] => true
  | c :: r => match unlike P (P.underlyingId c.2) b with
    | true => likeNo P b r
    | false => false
theorem likeNo_all {P : Program} {b : TypeId} : ∀ {l : List (String × TypeId)}, likeNo P b l = true → ∀ c ∈ l, unlike P (P.underlyingId c.2) b = true
  | [], _, c, hc => by cases hc
  | x :: r, h, c, hc => by
    unfold likeNo at h
    split at h
    · rename_i hx
      rcases List.mem_cons.1 hc with rfl | hc
      · exact hx
      · exact likeNo_all h c hc
    · cases h
def stoodB (P : Program) (t : TypeId) : Bool := match P.depth with
  | 0 => P.stoodInHeld t
  | _ + 1 => match likeNo P (P.underlyingId t) P.cutTypes.toList with
    | true => false
    | false => P.stoodInHeld t
theorem stoodB_eq {P : Program} {t : TypeId} (h : stoodB P t = false) : P.stoodInHeld t = false := by
  unfold stoodB at h
  split at h
  · exact h
  · rename_i d hd
    split at h
    · rename_i hl
      have : P.stoodInAs t = [] := by
        unfold Program.stoodInAs
        split
        · rw [if_pos rfl, List.map_eq_nil_iff, List.filter_eq_nil_iff]
          intro c hc
          have := unlike_eq (n := d) (likeNo_all hl c hc)
          rw [hd]
          simp only [Bool.not_eq_true]
          exact this
        · rfl
      simp [Program.stoodInHeld, this]
    · exact h
def noGs (f : TypeId → Bool) : List Field → Bool
  | [] => true
  | x :: r => match f x.type with
    | true => noGs f r
    | false => false
def noG (P : Program) : Nat → TypeId → Bool
  | 0, _ => false
  | d + 1, t => match P.underlying t with
    | some (.interface _) => false
    | some (.struct fs) => noGs (noG P d) fs.toList
    | some (.array _ e) => noG P d e
    | _ => true
theorem noGs_all {f : TypeId → Bool} : ∀ {l : List Field}, noGs f l = true → ∀ x ∈ l, f x.type = true
  | [], _, x, hx => by cases hx
  | y :: r, h, x, hx => by
    unfold noGs at h
    split at h
    · rename_i hy
      rcases List.mem_cons.1 hx with rfl | hx
      · exact hy
      · exact noGs_all h x hx
    · cases h
theorem noG_eq {P : Program} : ∀ {d : Nat} {t : TypeId}, noG P d t = true → P.eqGuardType d t = false
  | 0, t, h => by simp [noG] at h
  | d + 1, t, h => by
    unfold noG at h
    unfold Program.eqGuardType
    split at h
    · cases h
    · rename_i fs hf
      rw [hf]
      simp only [Array.any_eq_false', Bool.and_eq_true, not_and, Bool.not_eq_true]
      intro x hx _
      exact noG_eq (noGs_all h x (by simpa using hx))
    · rename_i e he
      rw [he]; exact noG_eq h
    · rename_i h1 h2 h3
      split
      · rename_i h; exact absurd h (h1 _)
      · rename_i h; exact absurd h (h2 _)
      · rename_i h; exact absurd h (h3 _ _)
      · rfl

/-- Are the cells of two values of a type equal? -/
def eqFs (P : Program) (eq : TypeId → List SV → List SV → Option Bool) : List Field → List SV → List SV → Option Bool
  | [], _, _ => some true
  | f :: fs, xs, ys => match decide (f.name ≠ "_") with
    | true => match partS P f.type xs f.offset, partS P f.type ys f.offset with
      | some a, some b => match eq f.type a b with
        | some r => match eqFs P eq fs xs ys with
          | some r' => some (r && r')
          | none => none
        | none => none
      | _, _ => none
    | false => eqFs P eq fs xs ys
def eqAs (eq : List SV → List SV → Option Bool) (k : Nat) : Nat → Nat → List SV → List SV → Option Bool
  | 0, _, _, _ => some true
  | m + 1, i, xs, ys => match segS xs (i * k) k, segS ys (i * k) k with
    | some a, some b => match eq a b with
      | some r => match eqAs eq k m (i + 1) xs ys with
        | some r' => some (r && r')
        | none => none
      | none => none
    | _, _ => none
def eqT (P : Program) : Nat → TypeId → List SV → List SV → Option Bool
  | 0, _, _, _ => none
  | d + 1, t, xs, ys => match P.underlying t with
    | some .bool => match xs, ys with
      | [.raw (.bool a)], [.raw (.bool b)] => some (a == b)
      | _, _ => none
    | some (.int _) => match xs, ys with
      | [.raw (.int k a)], [.raw (.int k' b)] => match kindEq k k' with
        | true => some (a == b)
        | false => none
      | _, _ => none
    | some .string => match xs, ys with
      | [.raw (.string a)], [.raw (.string b)] => some (a.toList == b.toList)
      | _, _ => none
    | some (.struct fs) => match stoodB P t with
      | true => none
      | false => eqFs P (eqT P d) fs.toList xs ys
    | some (.array len e) => match szOf P e with
      | some k => eqAs (eqT P d e) k len 0 xs ys
      | none => none
    | _ => none

theorem part_run {t : TypeId} {cs : List SV} {off : Nat} {l : List SV} {ρ : Asg} {vs : List Value} (h : partS P t cs off = some l) (hd : denL ρ cs = some vs) (w : World) :
    ∃ ls, denL ρ l = some ls ∧ ((aggT P t = some true → (part t vs.toArray off).run P w = .ok (.agg ls.toArray) w) ∧ (∀ x, aggT P t = some false → ls = [x] → (part t vs.toArray off).run P w = .ok x w)) := by
  unfold partS at h
  split at h
  · rename_i k hk
    obtain ⟨e1, e2, e3⟩ := segS_spec h hd
    refine ⟨_, e2, fun hag => ?_, fun x hag hx => ?_⟩
    · unfold part
      rw [Sem.run_bind, run_isAgg hag]
      simp only [Result.andThen_ok, if_true, Sem.run_bind, run_sizeOf hk, Sem.run_pure]
      congr 2
      simp [List.extract_eq_take_drop]
    · unfold part
      rw [Sem.run_bind, run_isAgg hag]
      have : vs[off]? = some x := by
        have h0 : ((vs.drop off).take k)[0]? = some x := by rw [hx]; rfl
        rw [List.getElem?_take] at h0
        split at h0
        · simpa using h0
        · cases h0
      simp [this]
  · cases h

theorem aggT_of_struct {t : TypeId} {fs : Array Field} (h : P.underlying t = some (.struct fs)) : aggT P t = some true := by simp [aggT, h]
theorem aggT_of_array {t : TypeId} {n : Nat} {e : TypeId} (h : P.underlying t = some (.array n e)) : aggT P t = some true := by simp [aggT, h]

/-- The value that a type makes of cells. -/
def valOf (P : Program) (t : TypeId) (ls : List Value) (v : Value) : Prop := (aggT P t = some true ∧ v = .agg ls.toArray) ∨ (aggT P t = some false ∧ ls = [v])

theorem part_valOf {t : TypeId} {cs : List SV} {off : Nat} {l : List SV} {ρ : Asg} {vs : List Value} (h : partS P t cs off = some l) (hd : denL ρ cs = some vs) (w : World) {ls : List Value} (hl : denL ρ l = some ls) {v : Value}
    (hv : valOf P t ls v) : (part t vs.toArray off).run P w = .ok v w := by
  obtain ⟨ls', h1, h2, h3⟩ := part_run h hd w
  rw [hl] at h1; cases h1
  rcases hv with ⟨ha, rfl⟩ | ⟨ha, rfl⟩
  · exact h2 ha
  · exact h3 v ha rfl

def EqOk (P : Program) (d : Nat) (t : TypeId) (xs ys : List SV) (r : Bool) : Prop :=
  ∀ (ρ : Asg) (vx vy : List Value) (w : World), denL ρ xs = some vx → denL ρ ys = some vy → ∃ a b, valOf P t vx a ∧ valOf P t vy b ∧ (Op.equalIn d t a b).run P w = .ok r w

theorem eqFs_sound {d : Nat} {eq : TypeId → List SV → List SV → Option Bool} (ih : ∀ t xs ys r, eq t xs ys = some r → EqOk P d t xs ys r) {xs ys : List SV} {ρ : Asg} {vx vy : List Value}
    (hx : denL ρ xs = some vx) (hy : denL ρ ys = some vy) (w : World) : ∀ (fs : List Field) (r : Bool), eqFs P eq fs xs ys = some r → (Op.eqFields d vx.toArray vy.toArray fs).run P w = .ok r w
  | [], r, h => by simp [eqFs] at h; subst h; simp [Op.eqFields]
  | f :: fs, r, h => by
    unfold eqFs at h
    split at h
    · rename_i hn
      split at h
      · rename_i a b ha hb
        split at h
        · rename_i r1 h1
          split at h
          · rename_i r2 h2
            cases h
            obtain ⟨la, hla, _⟩ := part_run ha hx w
            obtain ⟨lb, hlb, _⟩ := part_run hb hy w
            obtain ⟨va, vb, hva, hvb, hrun⟩ := ih _ _ _ _ h1 ρ la lb w hla hlb
            have pa := part_valOf ha hx w hla hva
            have pb := part_valOf hb hy w hlb hvb
            have hn' : f.name ≠ "_" := of_decide_eq_true hn
            unfold Op.eqFields
            rw [if_pos hn']
            simp only [Sem.run_bind, pa, pb, hrun, Result.andThen_ok]
            cases r1
            · simp
            · simp only [Bool.not_true, Bool.false_eq_true, if_false, Bool.true_and]
              exact eqFs_sound ih hx hy w fs r2 h2
          · cases h
        · cases h
      · cases h
    · rename_i hn
      have hn' : ¬ f.name ≠ "_" := of_decide_eq_false hn
      unfold Op.eqFields
      rw [if_neg hn']
      exact eqFs_sound ih hx hy w fs r h

theorem eqAs_sound {d : Nat} {e : TypeId} {k : Nat} {eq : List SV → List SV → Option Bool} (ih : ∀ xs ys r, eq xs ys = some r → EqOk P d e xs ys r) (hk : szOf P e = some k) {xs ys : List SV} {ρ : Asg} {vx vy : List Value}
    (hx : denL ρ xs = some vx) (hy : denL ρ ys = some vy) (w : World) : ∀ (m i : Nat) (r : Bool), eqAs eq k m i xs ys = some r →
    ∃ b : Option Bool × Unit, (forIn (m := Sem) (List.range' i m) ((none, ()) : Option Bool × Unit) fun i _ => do
      let a ← part e vx.toArray (i * k)
      let b ← part e vy.toArray (i * k)
      let q ← Op.equalIn d e a b
      if (!q) = true then pure (ForInStep.done (some false, ())) else pure (ForInStep.yield (none, ()))).run P w = .ok b w ∧ b.1.getD true = r
  | 0, i, r, h => by simp [eqAs] at h; subst h; exact ⟨(none, ()), by simp, rfl⟩
  | m + 1, i, r, h => by
    unfold eqAs at h
    split at h
    · rename_i a b ha hb
      split at h
      · rename_i r1 h1
        split at h
        · rename_i r2 h2
          cases h
          have ha' : partS P e xs (i * k) = some a := by simp [partS, hk, ha]
          have hb' : partS P e ys (i * k) = some b := by simp [partS, hk, hb]
          obtain ⟨la, hla, _⟩ := part_run ha' hx w
          obtain ⟨lb, hlb, _⟩ := part_run hb' hy w
          obtain ⟨va, vb, hva, hvb, hrun⟩ := ih _ _ _ h1 ρ la lb w hla hlb
          have pa := part_valOf ha' hx w hla hva
          have pb := part_valOf hb' hy w hlb hvb
          rw [List.range'_succ]
          simp only [List.forIn_cons, Sem.run_bind, pa, pb, hrun, Result.andThen_ok]
          cases r1
          · exact ⟨(some false, ()), by simp, by simp⟩
          · obtain ⟨q, h3, h4⟩ := eqAs_sound ih hk hx hy w m (i + 1) r2 h2
            refine ⟨q, ?_, by simpa using h4⟩
            simp only [Bool.not_true, Bool.false_eq_true, if_false, Sem.run_pure, Result.andThen_ok]
            exact h3
        · cases h
      · cases h
    · cases h

theorem run_equalIn_array {d : Nat} {t e : TypeId} {len k : Nat} {eq : List SV → List SV → Option Bool} (ih : ∀ xs ys r, eq xs ys = some r → EqOk P d e xs ys r) {xs ys : List SV} {ρ : Asg} {vx vy : List Value}
    (hx : denL ρ xs = some vx) (hy : denL ρ ys = some vy) (w : World) (ht : P.underlying t = some (.array len e)) (hk : szOf P e = some k) {r : Bool} (h : eqAs eq k len 0 xs ys = some r) :
    (Op.equalIn (d + 1) t (.agg vx.toArray) (.agg vy.toArray)).run P w = .ok r w := by
  obtain ⟨b, h1, h2⟩ := eqAs_sound ih hk hx hy w len 0 r h
  simp only [Op.equalIn, Sem.run_bind, run_underlying ht, Result.andThen_ok, run_sizeOf hk]
  rw [Std.Legacy.Range.forIn_eq_forIn_range']
  simp only [Std.Legacy.Range.size, Nat.sub_zero, Nat.add_one_sub_one, Nat.div_one]
  rw [h1]
  obtain ⟨b1, b2⟩ := b
  cases b1 <;> simp at h2 ⊢ <;> exact h2

theorem valOf_basic {t : TypeId} {d : TypeDesc} (h : P.underlying t = some d) (hd : (match d with | .struct _ | .array _ _ => false | _ => true) = true) (v : Value) : valOf P t [v] v := by
  right
  refine ⟨?_, rfl⟩
  unfold aggT
  rw [h]
  cases d <;> first | rfl | simp at hd

theorem eqT_sound : ∀ (d : Nat) (t : TypeId) (xs ys : List SV) (r : Bool), eqT P d t xs ys = some r → EqOk P d t xs ys r
  | 0, _, _, _, _, h => by simp [eqT] at h
  | d + 1, t, xs, ys, r, h => by
    intro ρ vx vy w hx hy
    unfold eqT at h
    split at h
    · rename_i ht
      split at h
      · cases h
        obtain ⟨_, _, h1, h2, rfl⟩ := denL_cons.1 hx
        obtain ⟨_, _, h3, h4, rfl⟩ := denL_cons.1 hy
        rw [denL_nil.1 h2, denL_nil.1 h4]
        simp [den] at h1 h3; subst h1; subst h3
        exact ⟨_, _, valOf_basic ht rfl _, valOf_basic ht rfl _, by simp [Op.equalIn, run_underlying ht]⟩
      · cases h
    · rename_i ht
      split at h
      · split at h
        · rename_i hke
          cases h
          have hke := kindEq_eq hke
          obtain ⟨_, _, h1, h2, rfl⟩ := denL_cons.1 hx
          obtain ⟨_, _, h3, h4, rfl⟩ := denL_cons.1 hy
          rw [denL_nil.1 h2, denL_nil.1 h4]
          simp [den] at h1 h3; subst h1; subst h3
          exact ⟨_, _, valOf_basic ht rfl _, valOf_basic ht rfl _, by simp [Op.equalIn, run_underlying ht, hke]⟩
        · cases h
      · cases h
    · rename_i ht
      split at h
      · cases h
        obtain ⟨_, _, h1, h2, rfl⟩ := denL_cons.1 hx
        obtain ⟨_, _, h3, h4, rfl⟩ := denL_cons.1 hy
        rw [denL_nil.1 h2, denL_nil.1 h4]
        simp [den] at h1 h3; subst h1; subst h3
        exact ⟨_, _, valOf_basic ht rfl _, valOf_basic ht rfl _, by simp [Op.equalIn, run_underlying ht, beq_toListBytes]⟩
      · cases h
    · rename_i fs ht
      split at h
      · cases h
      · rename_i hst
        have hf : P.fieldsOf t = fs := by simp [Program.fieldsOf, ht]
        refine ⟨_, _, .inl ⟨aggT_of_struct ht, rfl⟩, .inl ⟨aggT_of_struct ht, rfl⟩, ?_⟩
        rw [run_equalIn_struct w d t _ _ (by rw [hf]; exact ht) (stoodB_eq hst), hf]
        exact eqFs_sound (fun t xs ys r h => eqT_sound d t xs ys r h) hx hy w _ r h
    · rename_i len e ht
      split at h
      · rename_i k hk
        exact ⟨_, _, .inl ⟨aggT_of_array ht, rfl⟩, .inl ⟨aggT_of_array ht, rfl⟩, run_equalIn_array (fun xs ys r h => eqT_sound d e xs ys r h) hx hy w ht hk h⟩
      · cases h
    · cases h
end
end Go.Sx
