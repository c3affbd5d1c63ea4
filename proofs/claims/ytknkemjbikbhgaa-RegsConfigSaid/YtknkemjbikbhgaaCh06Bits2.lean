/-
  Chapter 6: FeatBits, its loops reckoned. Own work; nothing here is trusted.
-/
import Derived.Test.YtknkemjbikbhgaaCh06Bits
import Derived.Test.YtknkemjbikbhgaaCh07RefLaw
namespace Go.Proofs.Ytknkemjbikbhgaa
open Go Go.Sx Go.RowKit
set_option maxRecDepth 1000000
set_option maxHeartbeats 8000000
set_option linter.unusedVariables false
set_option linter.unusedSimpArgs false
noncomputable section
/-! ### Pick -/
theorem pk6_form (n m : Int) : (f0 17 [.raw (.int .i64 n), .raw (.int .i64 m)] []).get =
  bro (decide (m < 1)) (some (.raw (.int .i64 0), [])) (bro (m == 0) none (bro (decide (n.tmod m < 0)) (bro (inR64 (n.tmod m + m)) (some (.raw (.int .i64 (n.tmod m + m)), [])) (some (.raw (.int .i64 (IntKind.i64.wrap (n.tmod m + m))), []))) (some (.raw (.int .i64 (n.tmod m)), [])))) := by kernel_rfl
theorem pk6T_ok : ∀ args os r, (pk6T args os).get = some r → Fn0 Try.prog 17 args os r := fun args os r h => by
  unfold pk6T at h
  split at h
  · rename_i n m
    obtain ⟨h1, h2⟩ := Tr.get_ask.1 h
    have h1 := of_decide_eq_true h1
    refine fnC_ok (sp := noSp) (ls := noLs) (unr := fun _ _ => 20) (d := 10) plain mixed noSp_ok noLs_ok ?_
    rw [pk6_form, ← h2, decide_eq_false (show ¬ m < 1 by omega), beq_eq_false_iff_ne.2 (show m ≠ 0 by omega)]
    have t1 := Int.emod_nonneg n (show m ≠ 0 by omega)
    have t2 := Int.emod_lt_of_pos n (show 0 < m by omega)
    have t3 := Int.tmod_lt_of_pos n (show 0 < m by omega)
    have t4 : -m < n.tmod m := by
      have := Int.tmod_lt_of_pos (-n) (show 0 < m by omega)
      rw [Int.neg_tmod] at this; omega
    have t0 : n.tmod m = n % m ∨ n.tmod m = n % m - m := by
      have h := Int.tmod_eq_emod (a := n) (b := m)
      by_cases hc : 0 ≤ n ∨ m ∣ n
      · rw [if_pos hc] at h; left; simpa using h
      · rw [if_neg hc] at h; right; rw [h]; omega
    have t5 : n.tmod m < 0 → n.tmod m + m = n % m := fun h => by omega
    have t6 : ¬ n.tmod m < 0 → n.tmod m = n % m := fun h => by omega
    by_cases hn : n.tmod m < 0
    · rw [decide_eq_true hn, inR64_mk (by omega), ← t5 hn]; rfl
    · rw [decide_eq_false hn, ← t6 hn]; rfl
  · cases h
/-! ### With -/
def inAll (ts : List Int) : Bool := decide (ts.length ≤ 100) && ts.all fun x => decide (0 ≤ x ∧ x ≤ 63)
theorem inAll_len {ts : List Int} (h : inAll ts = true) : ts.length ≤ 100 := by
  unfold inAll at h
  rw [Bool.and_eq_true] at h
  exact of_decide_eq_true h.1
theorem inAll_at {ts : List Int} (h : inAll ts = true) {i : Nat} (hi : i < ts.length) : 0 ≤ ts.getD i 0 ∧ ts.getD i 0 ≤ 63 := by
  unfold inAll at h
  rw [Bool.and_eq_true, List.all_eq_true] at h
  have := of_decide_eq_true (h.2 (ts.getD i 0) (by rw [List.getD_eq_getElem?_getD, List.getElem?_eq_getElem hi]; exact List.getElem_mem hi))
  exact this
theorem getD_drop {ts : List Int} {i : Nat} (hi : i < ts.length) : ts.drop i = ts.getD i 0 :: ts.drop (i + 1) := by
  rw [List.drop_eq_getElem_cons hi, List.getD_eq_getElem?_getD, List.getElem?_eq_getElem hi]; rfl
theorem h_path (own full : Bool) (ts : List Int) (i s : Int) : Tr.follow [true, true, true, false, false, false, false, true] (hRound own full ts i s) = some ([decide (i < (ts.length : Int)), Sx.inB i ts.length, decide (i.toNat < ts.length), decide (ts.getD i.toNat 0 < 0), false, decide (63 < ts.getD i.toNat 0), decide (ts.getD i.toNat 0 < 0), inR64 (i + 1)],
  (.normal, hSt own full ts (i + 1) (orB s (ts.getD i.toNat 0)))) := by kernel_rfl
theorem h_end (own full : Bool) (ts : List Int) (i s : Int) : Tr.follow [false] (hRound own full ts i s) = some ([decide (i < (ts.length : Int))], (.exit 0, hSt own full ts i s)) := by kernel_rfl
def hLoop : LoopFn C6 := fun li => match li with
  | ⟨[.h 0, .raw (.int .i64 n), .raw (.int .i64 (.ofNat 0)), .raw (.int .u64 s), .raw (.int .u64 (.ofNat 0)), .raw (.int .i64 (.ofNat 0))], 1, [.sl own full 3 ts]⟩ => .br (n == (ts.length : Int)) (.br (inAll ts) (.leaf (.exit 0, hSt own full ts (ts.length : Int) (orF ts s))) .fail) .fail
  | _ => .fail
theorem h_loop : loopOf Try.prog 25 0 = some (26, (loopOf Try.prog 25 0).get!.2) := by kernel_rfl
theorem hLoop_ok : ∀ tm hp n x, (loopS [8, 9, 10, 0, 4, 5] [] hLoop tm hp n).get = some x → InLoop Try.prog 26 (loopOf Try.prog 25 0).get!.2 tm hp n fun e tm hp n => (e, tm, hp, n) = x := loopS_of fun li r h => by
  unfold hLoop at h
  split at h
  · rename_i n s own full ts
    obtain ⟨hn, h⟩ := Tr.get_ask.1 h
    obtain ⟨hs, h2⟩ := Tr.get_ask.1 h
    simp only [Tr.get, Option.some.injEq] at h2
    subst h2
    have hn := eq_of_beq hn
    subst hn
    change List Int at ts
    refine ⟨Keeps.of (Nat.le_refl 1) rfl (fun o ho => by cases ho), ?_⟩
    generalize hS : orF ts s = S
    refine loop_li (σ := Nat × Int) (st := fun x => hSt own full ts (x.1 : Int) x.2) (Inv := fun x => x.1 ≤ ts.length ∧ orF (ts.drop x.1) x.2 = S) (μ := fun x => ts.length - x.1) (d := 10) (unr := fun _ _ => 20) (sp := noSp) (ls := noLs) plain mixed noSp_ok noLs_ok h_loop (fun x hx => ?_) (0, s) ⟨Nat.zero_le _, hS⟩
    obtain ⟨b, s'⟩ := x
    obtain ⟨hi, hf⟩ := hx
    simp only at hi hf
    by_cases h5 : b < ts.length
    · have hr := inAll_at hs h5
      have hl := inAll_len hs
      have hp := h_path own full ts (b : Int) s'
      rw [show ((b : Int)).toNat = b from rfl] at hp
      rw [decide_eq_true (show (b : Int) < (ts.length : Int) by omega), inB_mk ⟨by omega, by omega⟩, decide_eq_true h5, decide_eq_false (show ¬ (ts.getD b 0 < 0) by omega), decide_eq_false (show ¬ (63 < ts.getD b 0) by omega), inR64_mk (by omega)] at hp
      refine ⟨_, Tr.follow_get hp rfl, fun _ => ⟨(b + 1, orB s' (ts.getD b 0)), ⟨by omega, ?_⟩, by simp only; omega, rfl⟩, nofun⟩
      rw [getD_drop h5] at hf
      exact hf
    · have : b = ts.length := by omega
      subst this
      have hs' : s' = S := by rw [List.drop_length] at hf; exact hf
      subst hs'
      exact ⟨_, Tr.follow_get (h_end own full ts _ s') (by rw [decide_eq_false (by omega)]), nofun, fun _ => ⟨rfl, rfl⟩⟩
  · cases h
def l25 : LoopT C6 := addL 25 0 (loopS [8, 9, 10, 0, 4, 5] [] hLoop) noLs
theorem l25_ok : LoopTOk Try.prog l25 := addL_ok h_loop hLoop_ok noLs_ok
def wiT : FnF C6 := fun args os => match args, os with
  | [.raw (.int .u64 s), .h 0], [.sl own full 3 ts] => .br (inAll ts) (.leaf (.tup [.raw (.int .u64 (orF ts s)), .raw (.int .i64 0)], [])) .fail
  | [.raw (.int .u64 s), .raw (.slice none 0 0)], [] => .leaf (.tup [.raw (.int .u64 s), .raw (.int .i64 0)], [])
  | _, _ => .fail
abbrev fW := fnC C6 Try.prog noSp l25 (fun g b => match g, b with | 25, 0 => 0 | _, _ => 20) 10
theorem wi_form (own full : Bool) (ts : List Int) (s : Int) : Tr.follow [true, true] (fW 25 [.raw (.int .u64 s), .h 0] [.sl own full 3 ts]) = some ([(ts.length : Int) == (ts.length : Int), inAll ts], (.tup [.raw (.int .u64 (orF ts s)), .raw (.int .i64 0)], [])) := by kernel_rfl
theorem wi_nil (s : Int) : (f0 25 [.raw (.int .u64 s), .raw (.slice none 0 0)] []).get = some (.tup [.raw (.int .u64 s), .raw (.int .i64 0)], []) := by kernel_rfl
theorem wiT_ok : ∀ args os r, (wiT args os).get = some r → Fn0 Try.prog 25 args os r := fun args os r h => by
  unfold wiT at h
  split at h
  · rename_i s own full ts
    obtain ⟨hs, h2⟩ := Tr.get_ask.1 h
    simp only [Tr.get, Option.some.injEq] at h2
    subst h2
    refine fnC_ok (sp := noSp) (ls := l25) (unr := fun g b => match g, b with | 25, 0 => 0 | _, _ => 20) (d := 10) plain mixed noSp_ok l25_ok ?_
    exact Tr.follow_get (wi_form own full ts s) (by rw [hs, beq_self_eq_true])
  · rename_i s
    simp only [Tr.get, Option.some.injEq] at h
    subst h
    exact fnC_ok (sp := noSp) (ls := noLs) (unr := fun _ _ => 20) (d := 10) plain mixed noSp_ok noLs_ok (wi_nil s)
  · cases h
/-! ### Has -/
theorem hasT2_ok {rg : Int → Bool} (hrg : rg = rng64) : ∀ args os r, (hasT2 rg args os).get = some r → Fn0 Try.prog 27 args os r := fun args os r h => by
  subst hrg
  unfold hasT2 at h
  split at h
  · rename_i x b
    obtain ⟨h1, h⟩ := Tr.get_ask.1 h
    obtain ⟨h2, h3⟩ := Tr.get_ask.1 h
    simp only [Tr.get, Option.some.injEq] at h3
    subst h3
    have h2 := of_decide_eq_true h2
    obtain ⟨b, rfl⟩ := Int.eq_ofNat_of_zero_le h2.1
    refine hasT_ok _ _ _ ?_
    show (Tr.br (rng64 x && Nat.ble b 63) _ _).get = _
    rw [h1, Nat.ble_eq_true_of_le (show b ≤ 63 by omega)]; rfl
  · cases h
/-! ### the first loop -/
def mI : List Int → List (Int × Bool) → List (Int × Bool)
  | [], m => m
  | x :: r, m => mI r (insM m (x % 64) true)
def emL (ts : List Int) : Bool := ts.isEmpty
def modL (ts : List Int) : List Int := ts.map fun x => x % 64
theorem i_p0 (own full : Bool) (ts : List Int) (set a b i : Int) (m : List (Int × Bool)) : Tr.follow [true, true, true, true, true, false, true] (iRound0 own full ts set a b i m) = some ([decide (i < (ts.length : Int)), Sx.inB i ts.length, decide (i.toNat < ts.length), true, true, false, inR64 (i + 1)],
  (.normal, iSt1 own full ts set a b (i + 1) (insM m (ts.getD i.toNat 0 % 64) true) false [ts.getD i.toNat 0 % 64])) := by kernel_rfl
theorem i_p1 (own full : Bool) (ts : List Int) (set a b i : Int) (m : List (Int × Bool)) (us : List Int) : Tr.follow [true, true, true, true, true, true] (iRound1 own full ts set a b i m false us) = some ([decide (i < (ts.length : Int)), Sx.inB i ts.length, decide (i.toNat < ts.length), true, roomB (us.length + [ts.getD i.toNat 0 % 64].length) Try.prog.types[(3 : Nat)].bytes, inR64 (i + 1)],
  (.normal, iSt1 own full ts set a b (i + 1) (insM m (ts.getD i.toNat 0 % 64) true) false (us ++ [ts.getD i.toNat 0 % 64]))) := by kernel_rfl
theorem i_e0 (own full : Bool) (ts : List Int) (set a b i : Int) (m : List (Int × Bool)) : Tr.follow [false] (iRound0 own full ts set a b i m) = some ([decide (i < (ts.length : Int))], (.exit 0, iSt0 own full ts set a b i m)) := by kernel_rfl
theorem i_e1 (own full : Bool) (ts : List Int) (set a b i : Int) (m : List (Int × Bool)) (us : List Int) : Tr.follow [false] (iRound1 own full ts set a b i m false us) = some ([decide (i < (ts.length : Int))], (.exit 0, iSt1 own full ts set a b i m false us)) := by kernel_rfl
theorem sf11_ok : SpecTOk Try.prog sf11 := addS_ok (viewS_ok pk6T_ok) noSp_ok
def iLoop : LoopFn C6 := fun li => match li with
  | ⟨[.h 0, .raw (.int .u64 set), .raw (.int .i64 a), .raw (.int .i64 b), .raw (.bool false), .h 1, .raw (.int .i64 (.ofNat 0)), .raw (.slice none 0 0)], 2, [.sl own full 3 ts, .mp .i64 4 []]⟩ =>
    .br (emL ts) (.leaf (.exit 0, iSt0 own full ts set a b 0 [])) (.br (decide (ts.length ≤ 100)) (.leaf (.exit 0, iSt1 own full ts set a b (ts.length : Int) (mI ts []) false (modL ts))) .fail)
  | _ => .fail
theorem i_loop : loopOf Try.prog 6 0 = some (108, (loopOf Try.prog 6 0).get!.2) := by kernel_rfl
theorem mod_take {ts : List Int} {n : Nat} (h : n < ts.length) : modL (ts.take n) ++ [ts.getD n 0 % 64] = modL (ts.take (n + 1)) := by
  unfold modL
  rw [List.take_add_one, List.map_append, List.getD_eq_getElem?_getD, List.getElem?_eq_getElem h]; rfl
@[reducible] noncomputable def iAt (own full : Bool) (ts : List Int) (set a b : Int) : Nat × List (Int × Bool) → List SV × List (SO C6)
  | (0, m) => iSt0 own full ts set a b 0 m
  | (n + 1, m) => iSt1 own full ts set a b ((n + 1 : Nat) : Int) m false (modL (ts.take (n + 1)))
theorem iLoop_ok : ∀ tm hp n x, (loopS [1, 0, 2, 3, 8, 10, 11] [9] iLoop tm hp n).get = some x → InLoop Try.prog 108 (loopOf Try.prog 6 0).get!.2 tm hp n fun e tm hp n => (e, tm, hp, n) = x := loopS_of fun li r h => by
  unfold iLoop at h
  split at h
  · rename_i set a b own full ts
    change List Int at ts
    have key : ∀ R : List SV × List (SO C6), (ts = [] → R = iSt0 own full ts set a b 0 []) → (ts ≠ [] → R = iSt1 own full ts set a b (ts.length : Int) (mI ts []) false (modL ts)) → ts.length ≤ 100 →
        LoopRun Try.prog 108 (loopOf Try.prog 6 0).get!.2 2 (LI.st iSlots ⟨(iSt0 own full ts set a b 0 []).1, 2, (iSt0 own full ts set a b 0 []).2⟩) fun x T => ∃ vs os, (x = .exit 0 ∧ (vs, os) = R) ∧ T = ⟨zipT iSlots vs, numH 0 os, os.length⟩ := fun R h0 h1 hl => by
      refine loop_li (σ := Nat × List (Int × Bool)) (st := iAt own full ts set a b) (Inv := fun x => x.1 ≤ ts.length ∧ mI (ts.drop x.1) x.2 = mI ts [] ∧ (x.1 = 0 → x.2 = [])) (μ := fun x => ts.length - x.1) (d := 10) (unr := fun _ _ => 20) (sp := sf11) (ls := noLs) plain mixed sf11_ok noLs_ok i_loop (fun x hx => ?_) (0, []) ⟨Nat.zero_le _, rfl, fun _ => rfl⟩
      obtain ⟨n, m⟩ := x
      obtain ⟨hi, hm, hz⟩ := hx
      simp only at hi hm hz
      by_cases h5 : n < ts.length
      · have e2 : mI (ts.drop (n + 1)) (insM m (ts.getD n 0 % 64) true) = mI ts [] := by
          rw [getD_drop h5] at hm; exact hm
        match n with
        | 0 =>
          have hp := i_p0 own full ts set a b 0 m
          rw [decide_eq_true (show (0 : Int) < (ts.length : Int) by omega), inB_mk ⟨by omega, by omega⟩, decide_eq_true (show (0 : Int).toNat < ts.length by exact h5)] at hp
          have e3 : [ts.getD 0 0 % 64] = modL (ts.take 1) := by rw [← mod_take h5]; rfl
          refine ⟨_, Tr.follow_get hp rfl, fun _ => ⟨(1, insM m (ts.getD 0 0 % 64) true), ⟨by omega, e2, nofun⟩, by simp only; omega, ?_⟩, nofun⟩
          show iSt1 own full ts set a b 1 _ false [ts.getD 0 0 % 64] = iSt1 own full ts set a b 1 _ false (modL (ts.take 1))
          rw [e3]; rfl
        | n + 1 =>
          have hp := i_p1 own full ts set a b ((n + 1 : Nat) : Int) m (modL (ts.take (n + 1)))
          have ht : (modL (ts.take (n + 1))).length = n + 1 := by unfold modL; rw [List.length_map, List.length_take]; omega
          rw [show (((n + 1 : Nat) : Int)).toNat = n + 1 from rfl, mod_take h5, ht, decide_eq_true (show ((n + 1 : Nat) : Int) < (ts.length : Int) by omega), inB_mk ⟨by omega, by omega⟩, decide_eq_true h5, inR64_mk (by omega),
            show roomB (n + 1 + [ts.getD (n + 1) 0 % 64].length) Try.prog.types[(3 : Nat)].bytes = true from decide_eq_true (by
              show (n + 1 + 1) * 8 ≤ 140737488355328
              omega)] at hp
          exact ⟨_, Tr.follow_get hp rfl, fun _ => ⟨(n + 1 + 1, insM m (ts.getD (n + 1) 0 % 64) true), ⟨by omega, e2, nofun⟩, by simp only; omega, rfl⟩, nofun⟩
      · have hn : n = ts.length := by omega
        have hm' : m = mI ts [] := by rw [hn, List.drop_length] at hm; exact hm
        match n with
        | 0 =>
          have ht : ts = [] := List.eq_nil_of_length_eq_zero hn.symm
          have : m = [] := hz rfl
          subst this
          refine ⟨_, Tr.follow_get (i_e0 own full ts set a b 0 []) (by rw [← hn]; rfl), nofun, fun _ => ⟨rfl, (h0 ht).symm⟩⟩
        | n + 1 =>
          refine ⟨_, Tr.follow_get (i_e1 own full ts set a b ((n + 1 : Nat) : Int) m (modL (ts.take (n + 1)))) (by rw [← hn, decide_eq_false (by omega)]), nofun, fun _ => ⟨rfl, ?_⟩⟩
          rw [h1 (fun e => by rw [e] at hn; cases hn), hm', hn, List.take_length]
    cases hE : emL ts with
    | true =>
      rw [hE] at h
      simp only [Tr.get, Option.some.injEq] at h
      subst h
      have ht : ts = [] := List.isEmpty_iff.1 hE
      refine ⟨Keeps.of (Nat.le_refl 2) rfl (fun o ho => by cases ho), ?_⟩
      exact key _ (fun _ => rfl) (fun h => absurd ht h) (by rw [ht]; exact Nat.zero_le _)
    | false =>
      rw [hE] at h
      obtain ⟨hl, h2⟩ := Tr.get_ask.1 h
      simp only [Tr.get, Option.some.injEq] at h2
      subst h2
      have ht : ts ≠ [] := fun e => by rw [e] at hE; cases hE
      refine ⟨Keeps.of (show 2 ≤ 3 by decide) rfl (fun o ho => ?_), ?_⟩
      · simp at ho; subst ho; rfl
      · exact key _ (fun h => absurd h ht) (fun _ => rfl) (of_decide_eq_true hl)
  · cases h
end
end Go.Proofs.Ytknkemjbikbhgaa
