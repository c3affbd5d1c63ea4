/-
  The symbolic evaluator: stores. Own work; nothing here is trusted.
-/
import Derived.Test.YtkhlmlcjedbkcaaSxPrim
namespace Go.Sx
noncomputable section
open Go.RowKit

variable {C : Tab} {P : Program}

/-- The list's spine is laid open before what follows. -/
def forceL {α β : Type} : List α → (List α → Tr β) → Tr β
  | [], g => g []
  | x :: r, g => forceL r fun r' => g (x :: r')
theorem forceL_eq {α β : Type} : ∀ (l : List α) (g : List α → Tr β), forceL l g = g l
  | [], _ => rfl
  | x :: r, g => by simp only [forceL]; exact forceL_eq r _

def spliceS (cs : List SV) (off : Nat) (new : List SV) : List SV := cs.take off ++ new ++ cs.drop (off + new.length)

def storeBox (P : Program) (look : Nat → Option (SO C)) (t : TypeId) (id off : Nat) (x : SV) : Tr (Res C) :=
  match look id, szOf P t with
  | some (.box cs ty), some k => match Nat.beq (cellsS x).length k with
    | true => match allOne (cellsS x) with
      | true => match Nat.ble (off + k) cs.length with
        | true => forceL (spliceS cs off (cellsS x)) fun l => .leaf (.raw undef, [(id, .box l ty)])
        | false => .fail
      | false => .fail
    | false => .fail
  | _, _ => .fail

def storeEl (P : Program) (look : Nat → Option (SO C)) (t : TypeId) (id i sz j : Nat) (x : SV) : Tr (Res C) :=
  match look id, szOf P t with
  | some (.sl true full e ts), some k => match Nat.beq sz (C e).sz with
    | true => match Nat.beq (cellsS x).length k with
      | true => match allOne (cellsS x) with
        | true => match Nat.ble (j + k) (C e).sz with
          | true => match (C e).dec (spliceS (rawL ((C e).enc (ts.getD i (C e).d))) j (cellsS x)) with
            | some a => .br (decide (i < ts.length)) (.leaf (.raw undef, [(id, .sl true full e (ts.set i a))])) .fail
            | none => .fail
          | false => .fail
        | false => .fail
      | false => .fail
    | false => .fail
  | _, _ => .fail

def pStore (P : Program) (look : Nat → Option (SO C)) (t : TypeId) (ad x : SV) : Tr (Res C) := match ad with
  | .h id => storeBox P look t id 0 x
  | .ep id off => storeBox P look t id off x
  | .el id i sz j => storeEl P look t id i sz j x
  | _ => .fail

section sound
variable {B : World} {X : Own} {ρ : Asg} {hp : Hp C} {n : Nat} {w : World}

theorem storeAt_run {t : TypeId} {g o : Nat} {v : Value} {cur : Array Value} {ty : TypeId} (hsz : szOf P t = some v.cells.size) (hg : w.heap[g]? = some (.cells cur ty (0, 0)))
    (hfit : o + v.cells.toList.length ≤ cur.size) (h1 : ∀ x ∈ v.cells.toList, x.oneCell' = true) :
    (Instr.storeAt t (.pointer (some ⟨g, o, none⟩)) v).run P w = .ok () (w.setRow g (cur.toList.take o ++ v.cells.toList ++ cur.toList.drop (o + v.cells.toList.length)).toArray) := by
  have hst := run_storeCells_at P g o ty v.cells.toList 0 cur w hg (by simpa using hfit) h1
  simp only [Nat.add_zero] at hst
  simp only [Instr.storeAt, Instr.sureAddr, Sem.run_bind, Sem.run_pure, Result.andThen_ok, storeVar, run_sizeOf hsz, ne_eq, not_true, if_false]
  exact hst

theorem denL_splice {cs new : List SV} {vs us : List Value} {off : Nat} (h : denL ρ cs = some vs) (h' : denL ρ new = some us) :
    denL ρ (spliceS cs off new) = some (vs.take off ++ us ++ vs.drop (off + us.length)) := by
  unfold spliceS
  rw [denL_length h']
  exact denL_append (denL_append (denL_take off h) h') (denL_drop _ h)

theorem splice_length {α : Type} {vs us : List α} {off : Nat} (h : off + us.length ≤ vs.length) : (vs.take off ++ us ++ vs.drop (off + us.length)).length = vs.length := by
  simp; omega

/-- What a store leaves. -/
def Stored (P : Program) (B : World) (X : Own) (ρ : Asg) (hp : Hp C) (n : Nat) (w : World) (t : TypeId) (va vx : Value) (r : Res C) : Prop :=
  r.1 = .raw undef ∧ ∃ w', (Instr.storeAt t va vx).run P w = .ok () w' ∧ Rel B X ρ (r.2 ++ hp) n w'

theorem storeBox_sound (R : Rel B X ρ hp n w) {t : TypeId} {id off : Nat} {x : SV} {r : Res C} (h : (storeBox P (fun i => find i hp) t id off x).get = some r) {v vx : Value} (hv : ρ id = some v) (hx : den ρ x = some vx) :
    ∃ a, v = .pointer (some a) ∧ Stored P B X ρ hp n w t (.pointer (some (a.add off))) vx r := by
  unfold storeBox at h
  split at h
  · rename_i cs ty k hid hk
    split at h
    · rename_i hb1
      split at h
      · rename_i hone
        split at h
        · rename_i hb2
          rw [forceL_eq] at h
          simp [Tr.get] at h; subst h
          have e1 := Nat.eq_of_beq_eq_true hb1
          have e2 := Nat.le_of_ble_eq_true hb2
          obtain ⟨v', hv', g, vs, rfl, hok, hden, hheap⟩ := R.obj id _ hid
          rw [hv] at hv'; cases hv'
          have hcx := den_cells hx R.one
          have hl := denL_length hcx
          have hlv := denL_length hden
          have hfit : off + vx.cells.toList.length ≤ vs.toArray.size := by simp only [List.size_toArray]; omega
          have hrun := storeAt_run (P := P) (w := w) (t := t) (g := g) (o := off) (v := vx) (by rw [hk]; congr 1; rw [← e1, ← hl]; simp) hheap hfit (allOne_mem R.one hcx hone)
          refine ⟨_, rfl, rfl, _, by rw [Addr.add_at, Nat.zero_add]; exact hrun, ?_⟩
          refine R.set hid hv rfl rfl (by simp) (by simp) (by simp) (by simp) (fun k' hk' => ?_) ⟨g, _, rfl, hok, denL_splice hden hcx, ?_⟩ (fun g' hg' => ?_)
          · exact setRow_other w g k' _ (fun e => hk' (by simp [blk, e]))
          · exact setRow_heap w g _ _ ty _ hheap
          · simp [blk] at hg'; subst hg'; exact hok
        · simp [Tr.get] at h
      · simp [Tr.get] at h
    · simp [Tr.get] at h
  · simp [Tr.get] at h

theorem take_splice {α : Type} {cur F us : List α} {L o : Nat} (h : cur.take L = F) (hL : F.length = L) (ho : o + us.length ≤ L) :
    (cur.take o ++ us ++ cur.drop (o + us.length)).take L = F.take o ++ us ++ F.drop (o + us.length) := by
  have hcur : L ≤ cur.length := by
    have := congrArg List.length h
    simp [hL] at this; omega
  subst h
  rw [List.take_append, List.take_append, List.take_take, List.take_take, Nat.min_eq_right (by omega), Nat.min_eq_left (by omega)]
  congr 1
  · congr 1
    exact List.take_of_length_le (by simp; omega)
  · rw [List.drop_take]
    congr 1
    simp; omega

theorem set_splice (c : Codec) (ts : List c.α) (i j : Nat) (a : c.α) (us : List Value) (hi : i < ts.length) (hj : j + us.length ≤ c.sz)
    (ha : c.enc a = (c.enc (ts.getD i c.d)).take j ++ us ++ (c.enc (ts.getD i c.d)).drop (j + us.length)) :
    c.flat (ts.set i a) = (c.flat ts).take (i * c.sz + j) ++ us ++ (c.flat ts).drop (i * c.sz + j + us.length) := by
  rw [c.flat_set ts i a hi, ha]
  have hE : (c.enc (ts.getD i c.d)).length = c.sz := c.len _
  have hd : (c.flat ts).drop (i * c.sz) = c.enc (ts.getD i c.d) ++ c.flat (ts.drop (i + 1)) := c.flat_at ts i hi
  have hd2 : (c.flat ts).drop (i * c.sz + c.sz) = c.flat (ts.drop (i + 1)) := by
    rw [c.flat_drop, Nat.add_mul, Nat.one_mul]
  have h3 : (c.flat ts).drop (i * c.sz + j + us.length) = (c.enc (ts.getD i c.d)).drop (j + us.length) ++ c.flat (ts.drop (i + 1)) := by
    rw [Nat.add_assoc, ← List.drop_drop, hd, List.drop_append, hE, show j + us.length - c.sz = 0 from by omega]
    rfl
  have h4 : (c.flat ts).take (i * c.sz + j) = (c.flat ts).take (i * c.sz) ++ (c.enc (ts.getD i c.d)).take j := by
    rw [List.take_add, hd, List.take_append, hE, show j - c.sz = 0 from by omega]
    simp
  rw [hd2, h3, h4]
  simp

theorem denL_inj {l : List SV} {vs us : List Value} (h : denL ρ l = some vs) (h' : denL ρ l = some us) : vs = us := by
  rw [h] at h'; cases h'; rfl

theorem storeEl_sound (R : Rel B X ρ hp n w) {t : TypeId} {id i sz j : Nat} {x : SV} {r : Res C} (h : (storeEl P (fun i => find i hp) t id i sz j x).get = some r) {v vx : Value} (hv : ρ id = some v) (hx : den ρ x = some vx) :
    ∃ a, baseOf v = some a ∧ Stored P B X ρ hp n w t (.pointer (some (a.add (i * sz + j)))) vx r := by
  unfold storeEl at h
  split at h
  · rename_i full e ts k hid hk
    split at h
    · rename_i hb0
      have e0 := Nat.eq_of_beq_eq_true hb0
      subst e0
      split at h
      · rename_i hb1
        split at h
        · rename_i hone
          split at h
          · rename_i hb2
            split at h
            · rename_i a' hdec
              obtain ⟨hbi, h⟩ := Tr.get_ask.1 h
              have hi : i < ts.length := by simpa using hbi
              simp [Tr.get] at h; subst h
              have e1 := Nat.eq_of_beq_eq_true hb1
              have e2 := Nat.le_of_ble_eq_true hb2
              have hcx := den_cells hx R.one
              have hl := denL_length hcx
              obtain ⟨v', hv', ao, cap, rfl, hc1, hc2, hc3⟩ := R.obj id _ hid
              rw [hv] at hv'; cases hv'
              obtain ⟨g, tot, rfl, hok, hheap, hcapt, htake⟩ := hc3
              refine ⟨_, rfl, rfl, ?_⟩
              have hflat := (C e).flat_length tot
              have htl : ts.length ≤ tot.length := Nat.le_trans hc1 hcapt
              have hit : i < tot.length := by omega
              have hgd : tot.getD i (C e).d = ts.getD i (C e).d := by
                rw [← htake]
                simp only [List.getD_eq_getElem?_getD, List.getElem?_take, if_pos hi]
              have hisz : i * (C e).sz + (C e).sz ≤ tot.length * (C e).sz := by
                have := Nat.mul_le_mul_right (C e).sz (show i + 1 ≤ tot.length from hit)
                rw [Nat.add_mul] at this; omega
              have hfit : i * (C e).sz + j + vx.cells.toList.length ≤ ((C e).flat tot).toArray.size := by
                simp only [List.size_toArray]; omega
              have hrun := storeAt_run (P := P) (w := w) (t := t) (g := g) (o := i * (C e).sz + j) (v := vx) (by rw [hk]; congr 1; rw [← e1, ← hl]; simp) hheap hfit (allOne_mem R.one hcx hone)
              refine ⟨_, by rw [Addr.add_at, Nat.zero_add]; exact hrun, ?_⟩
              have henc : (C e).enc a' = ((C e).enc (tot.getD i (C e).d)).take j ++ vx.cells.toList ++ ((C e).enc (tot.getD i (C e).d)).drop (j + vx.cells.toList.length) := by
                rw [hgd]
                have := (C e).law _ _ hdec
                have h1 : denL ρ (spliceS (rawL ((C e).enc (ts.getD i (C e).d))) j (cellsS x)) = some ((C e).enc a') := by rw [this]; exact denL_rawL _
                exact denL_inj h1 (denL_splice (denL_rawL _) hcx)
              have hset := set_splice (C e) tot i j a' vx.cells.toList hit (by omega) henc
              refine R.set hid hv rfl rfl (by simp) (by simp) (by simp) (by simp) (fun k' hk' => ?_) ⟨_, cap, by simp, by simpa using hc1, by simpa using hc2, g, tot.set i a', rfl, hok, ?_, by simpa using hcapt, ?_⟩ (fun g' hg' => ?_)
              · exact setRow_other w g k' _ (fun e => hk' (by simp [blk, e]))
              · rw [hset]; exact setRow_heap w g _ _ e _ hheap
              · rw [List.length_set, List.take_set, htake]
              · simp [blk] at hg'; subst hg'; exact hok
            · simp [Tr.get] at h
          · simp [Tr.get] at h
        · simp [Tr.get] at h
      · simp [Tr.get] at h
    · simp [Tr.get] at h
  · simp [Tr.get] at h

theorem pStore_sound (R : Rel B X ρ hp n w) {t : TypeId} {ad x : SV} {r : Res C} (h : (pStore P (fun i => find i hp) t ad x).get = some r) {va vx : Value} (ha : den ρ ad = some va) (hx : den ρ x = some vx) :
    Stored P B X ρ hp n w t va vx r := by
  unfold pStore at h
  split at h
  · rename_i id
    obtain ⟨a, rfl, h1⟩ := storeBox_sound R h ha hx
    rwa [Addr.add_zero] at h1
  · rename_i id off
    simp only [den, Option.bind_eq_some_iff, Option.map_eq_some_iff] at ha
    obtain ⟨v0, hv0, a, ha, rfl⟩ := ha
    obtain ⟨a', rfl, h1⟩ := storeBox_sound R h hv0 hx
    simp [baseOf] at ha; subst ha
    exact h1
  · rename_i id i sz j
    simp only [den, Option.bind_eq_some_iff, Option.map_eq_some_iff] at ha
    obtain ⟨v0, hv0, a, ha, rfl⟩ := ha
    obtain ⟨a', ha', h1⟩ := storeEl_sound R h hv0 hx
    rw [ha] at ha'; cases ha'
    exact h1
  · simp [Tr.get] at h
end sound
end
end Go.Sx
