/-
  Chapter 24: FilterVlans, the loop over what is left. Own work; nothing here is trusted.
-/
import Derived.Test.YtgepgnjjhgmfnaaCh24Vln0
namespace Go.Proofs.Ytgepgnjjhgmfnaa
open Go Go.Sx Go.RowKit
set_option maxRecDepth 1000000
set_option maxHeartbeats 8000000
set_option linter.unusedVariables false
set_option linter.unusedSimpArgs false
noncomputable section
theorem vA_a (m : Mac) (p q : Bool) (o g : Lo Mac) (c d : Bool) (ts : List Int) (xd xs : Mac) (xv xt : Int) (y : Lo Int) (P R : Fp) (a b K : Int) : Tr.follow [true, true, true, false, false, false, false, false, false, false, false, false, true] (vRA (m, p, q, o, g, some (c, d, ts)) (xd, xs, xv, xt, y) P R a b K) =
  some ([decide (K < (↑ts.length : Int)),
  inB K ts.length,
  decide (K.toNat < ts.length),
  elI ts K != a,
  false,
  false,
  false,
  false,
  false,
  false,
  false,
  false,
  inR64 (K + (1 : Int))],
  (.normal, vA (m, p, q, o, g, some (c, d, ts)) (xd, xs, xv, xt, y) P R a b (K + 1))) := by cases o <;> cases g <;> cases y <;> kernel_rfl
theorem vA_b (m : Mac) (p q : Bool) (o g : Lo Mac) (c d : Bool) (ts : List Int) (xd xs : Mac) (xv xt : Int) (y : Lo Int) (P R : Fp) (a b K : Int) : Tr.follow [true, true, true, true, true, true, true, true, true, true, true, true, false, true] (vRA (m, p, q, o, g, some (c, d, ts)) (xd, xs, xv, xt, y) P R a b K) =
  some ([decide (K < (↑ts.length : Int)),
  inB K ts.length,
  decide (K.toNat < ts.length),
  elI ts K != a,
  true,
  true,
  true,
  inB K ts.length,
  true,
  decide (K.toNat < ts.length),
  true,
  true,
  elI ts K != b,
  inR64 (K + (1 : Int))],
  (.normal, vA (m, p, q, o, g, some (c, d, ts)) (xd, xs, xv, xt, y) P R a b (K + 1))) := by cases o <;> cases g <;> cases y <;> kernel_rfl
theorem vA_n (m : Mac) (p q : Bool) (o g : Lo Mac) (c d : Bool) (ts : List Int) (xd xs : Mac) (xv xt : Int) (y : Lo Int) (P R : Fp) (a b K : Int) : Tr.follow [true, true, true, true, true, true, true, true, true, true, true, true, true, true, true, true, false, true] (vRA (m, p, q, o, g, some (c, d, ts)) (xd, xs, xv, xt, y) P R a b K) =
  some ([decide (K < (↑ts.length : Int)),
  inB K ts.length,
  decide (K.toNat < ts.length),
  elI ts K != a,
  true,
  true,
  true,
  inB K ts.length,
  true,
  decide (K.toNat < ts.length),
  true,
  true,
  elI ts K != b,
  inB K ts.length,
  decide (K.toNat < ts.length),
  true,
  false,
  inR64 (K + (1 : Int))],
  (.normal, vB2 (m, p, q, o, g, some (c, d, ts)) (xd, xs, xv, xt, y) P R a b (K + 1) [elI ts K])) := by cases o <;> cases g <;> cases y <;> kernel_rfl
theorem vA_end (m : Mac) (p q : Bool) (o g : Lo Mac) (c d : Bool) (ts : List Int) (xd xs : Mac) (xv xt : Int) (y : Lo Int) (P R : Fp) (a b K : Int) : Tr.follow [false] (vRA (m, p, q, o, g, some (c, d, ts)) (xd, xs, xv, xt, y) P R a b K) =
  some ([decide (K < (↑ts.length : Int))],
  (.exit 0, vA (m, p, q, o, g, some (c, d, ts)) (xd, xs, xv, xt, y) P R a b K)) := by cases o <;> cases g <;> cases y <;> kernel_rfl
theorem vB_a (m : Mac) (p q : Bool) (o g : Lo Mac) (c d : Bool) (ts : List Int) (xd xs : Mac) (xv xt : Int) (y : Lo Int) (P R : Fp) (a b K : Int) (ls : List Int) : Tr.follow [true, true, true, false, false, false, false, false, false, false, false, false, true] (vRB (m, p, q, o, g, some (c, d, ts)) (xd, xs, xv, xt, y) P R a b K ls) =
  some ([decide (K < (↑ts.length : Int)),
  inB K ts.length,
  decide (K.toNat < ts.length),
  elI ts K != a,
  false,
  false,
  false,
  false,
  false,
  false,
  false,
  false,
  inR64 (K + (1 : Int))],
  (.normal, vB2 (m, p, q, o, g, some (c, d, ts)) (xd, xs, xv, xt, y) P R a b (K + 1) ls)) := by cases o <;> cases g <;> cases y <;> kernel_rfl
theorem vB_b (m : Mac) (p q : Bool) (o g : Lo Mac) (c d : Bool) (ts : List Int) (xd xs : Mac) (xv xt : Int) (y : Lo Int) (P R : Fp) (a b K : Int) (ls : List Int) : Tr.follow [true, true, true, true, true, true, true, true, true, true, true, true, false, true] (vRB (m, p, q, o, g, some (c, d, ts)) (xd, xs, xv, xt, y) P R a b K ls) =
  some ([decide (K < (↑ts.length : Int)),
  inB K ts.length,
  decide (K.toNat < ts.length),
  elI ts K != a,
  true,
  true,
  true,
  inB K ts.length,
  true,
  decide (K.toNat < ts.length),
  true,
  true,
  elI ts K != b,
  inR64 (K + (1 : Int))],
  (.normal, vB2 (m, p, q, o, g, some (c, d, ts)) (xd, xs, xv, xt, y) P R a b (K + 1) ls)) := by cases o <;> cases g <;> cases y <;> kernel_rfl
theorem vB_n (m : Mac) (p q : Bool) (o g : Lo Mac) (c d : Bool) (ts : List Int) (xd xs : Mac) (xv xt : Int) (y : Lo Int) (P R : Fp) (a b K : Int) (ls : List Int) : Tr.follow [true, true, true, true, true, true, true, true, true, true, true, true, true, true, true, true, true] (vRB (m, p, q, o, g, some (c, d, ts)) (xd, xs, xv, xt, y) P R a b K ls) =
  some ([decide (K < (↑ts.length : Int)),
  inB K ts.length,
  decide (K.toNat < ts.length),
  elI ts K != a,
  true,
  true,
  true,
  inB K ts.length,
  true,
  decide (K.toNat < ts.length),
  true,
  true,
  elI ts K != b,
  inB K ts.length,
  decide (K.toNat < ts.length),
  roomB (ls.length + [elI ts K].length) Try.prog.types[(3 : Nat)].bytes,
  inR64 (K + (1 : Int))],
  (.normal, vB2 (m, p, q, o, g, some (c, d, ts)) (xd, xs, xv, xt, y) P R a b (K + 1) (ls ++ [elI ts K]))) := by cases o <;> cases g <;> cases y <;> kernel_rfl
theorem vB_end (m : Mac) (p q : Bool) (o g : Lo Mac) (c d : Bool) (ts : List Int) (xd xs : Mac) (xv xt : Int) (y : Lo Int) (P R : Fp) (a b K : Int) (ls : List Int) : Tr.follow [false] (vRB (m, p, q, o, g, some (c, d, ts)) (xd, xs, xv, xt, y) P R a b K ls) =
  some ([decide (K < (↑ts.length : Int))],
  (.exit 0, vB2 (m, p, q, o, g, some (c, d, ts)) (xd, xs, xv, xt, y) P R a b K ls)) := by cases o <;> cases g <;> cases y <;> kernel_rfl
theorem v_endN (m : Mac) (p q : Bool) (o g : Lo Mac) (xd xs : Mac) (xv xt : Int) (y : Lo Int) (P R : Fp) (a b K : Int) : Tr.follow [false] (vRA (m, p, q, o, g, none) (xd, xs, xv, xt, y) P R a b K) = some ([decide (K < (0 : Int))], (.exit 0, vA (m, p, q, o, g, none) (xd, xs, xv, xt, y) P R a b K)) := by cases o <;> cases g <;> cases y <;> kernel_rfl
/-- What is left of numbers. -/
def leftV (a b : Int) (l : List Int) : List Int := l.filter fun x => (x != a) && (x != b)
@[reducible] def vSt (F : Fv) (X : Rv) (P R : Fp) (a b : Int) (x : Nat × List Int) : List SV × List (SO C24) := match x.2 with
  | [] => vA F X P R a b (x.1 : Int)
  | y :: r => vB2 F X P R a b (x.1 : Int) (y :: r)
theorem v_loop : loopOf Try.prog 7 0 = some (((loopOf Try.prog 7 0).get!).1, (loopOf Try.prog 7 0).get!.2) := by kernel_rfl
theorem take_snoc {ts : List Int} {k : Nat} (h : k < ts.length) : ts.take (k + 1) = ts.take k ++ [elI ts (k : Int)] := by
  rw [List.take_add_one, List.getElem?_eq_getElem h]
  congr 1
  show [ts[k]] = [ts.getD k 0]
  rw [List.getD_eq_getElem?_getD, List.getElem?_eq_getElem h]; rfl
theorem v_run {m : Mac} {p q : Bool} {o g : Lo Mac} {v : Lo Int} {xd xs : Mac} {xv xt : Int} {y : Lo Int} {P R : Fp} {a b : Int} (hl : (lo v).length ≤ 100000) :
    LoopRun Try.prog ((loopOf Try.prog 7 0).get!).1 (loopOf Try.prog 7 0).get!.2 (vNb (m, p, q, o, g, v) (xd, xs, xv, xt, y) P R) (LI.st vSl ⟨(vA (m, p, q, o, g, v) (xd, xs, xv, xt, y) P R a b 0).1, vNb (m, p, q, o, g, v) (xd, xs, xv, xt, y) P R, (vA (m, p, q, o, g, v) (xd, xs, xv, xt, y) P R a b 0).2⟩) fun x T => ∃ vs os, (x = .exit 0 ∧ (vs, os) = vSt (m, p, q, o, g, v) (xd, xs, xv, xt, y) P R a b ((lo v).length, leftV a b (lo v))) ∧ T = ⟨zipT vSl vs, numH 0 os, os.length⟩ := by
  refine loop_li (σ := Nat × List Int) (st := vSt (m, p, q, o, g, v) (xd, xs, xv, xt, y) P R a b) (Inv := fun x => x.1 ≤ (lo v).length ∧ x.2 = leftV a b ((lo v).take x.1)) (μ := fun x => (lo v).length - x.1) (d := 10) (unr := fun _ _ => 20) (sp := noSp) (ls := noLs) plain mixed noSp_ok noLs_ok v_loop (fun x hx => ?_) (0, []) ⟨Nat.zero_le _, rfl⟩
  obtain ⟨k, ls⟩ := x
  obtain ⟨hk, hls⟩ := hx
  simp only at hk hls
  cases v with
  | none =>
    have hk0 : k = 0 := Nat.le_zero.1 hk
    subst hk0
    have : ls = [] := hls
    subst this
    exact ⟨_, Tr.follow_get (v_endN m p q o g xd xs xv xt y P R a b _) (by decide), nofun, fun _ => ⟨rfl, rfl⟩⟩
  | some z =>
    obtain ⟨c, d, ts⟩ := z
    change k ≤ ts.length at hk
    change ls = leftV a b (ts.take k) at hls
    change ts.length ≤ 100000 at hl
    by_cases hlt : k < ts.length
    · have k1 := decide_eq_true (show (k : Int) < (ts.length : Int) by omega)
      have k2 : Sx.inB (k : Int) ts.length = true := inB_mk ⟨by omega, by omega⟩
      have k3 := decide_eq_true (show ((k : Nat) : Int).toNat < ts.length by omega)
      have k4 : inR64 ((k : Int) + 1) = true := inR64_mk (by omega)
      have hlen : ls.length ≤ 100000 := by rw [hls]; exact Nat.le_trans (List.length_filter_le _ _) (by rw [List.length_take]; omega)
      have k5 : roomB (ls.length + [elI ts (k : Int)].length) Try.prog.types[(3 : Nat)].bytes = true := roomI (by simp only [List.length_cons, List.length_nil]; omega)
      have hm : ts.length - (k + 1) < ts.length - k := by omega
      have ht := take_snoc hlt
      cases ha : (elI ts (k : Int) != a) with
      | false =>
        have hi : ls = leftV a b (ts.take (k + 1)) := by
          rw [ht, leftV, List.filter_append, ← leftV, ← hls, List.filter_cons, List.filter_nil, ha]; exact (List.append_nil _).symm
        cases ls with
        | nil => exact ⟨_, Tr.follow_get (vA_a m p q o g c d ts xd xs xv xt y P R a b k) (by simp only [k1, k2, k3, k4, ha]), fun _ => ⟨(k + 1, []), ⟨hlt, hi⟩, hm, rfl⟩, nofun⟩
        | cons x r => exact ⟨_, Tr.follow_get (vB_a m p q o g c d ts xd xs xv xt y P R a b k (x :: r)) (by simp only [k1, k2, k3, k4, ha]), fun _ => ⟨(k + 1, x :: r), ⟨hlt, hi⟩, hm, rfl⟩, nofun⟩
      | true =>
        cases hb : (elI ts (k : Int) != b) with
        | false =>
          have hi : ls = leftV a b (ts.take (k + 1)) := by
            rw [ht, leftV, List.filter_append, ← leftV, ← hls, List.filter_cons, List.filter_nil, ha, hb]; exact (List.append_nil _).symm
          cases ls with
          | nil => exact ⟨_, Tr.follow_get (vA_b m p q o g c d ts xd xs xv xt y P R a b k) (by simp only [k1, k2, k3, k4, ha, hb]), fun _ => ⟨(k + 1, []), ⟨hlt, hi⟩, hm, rfl⟩, nofun⟩
          | cons x r => exact ⟨_, Tr.follow_get (vB_b m p q o g c d ts xd xs xv xt y P R a b k (x :: r)) (by simp only [k1, k2, k3, k4, ha, hb]), fun _ => ⟨(k + 1, x :: r), ⟨hlt, hi⟩, hm, rfl⟩, nofun⟩
        | true =>
          have hi : ls ++ [elI ts (k : Int)] = leftV a b (ts.take (k + 1)) := by
            rw [ht, leftV, List.filter_append, ← leftV, ← hls, List.filter_cons, List.filter_nil, ha, hb]; rfl
          cases ls with
          | nil => exact ⟨_, Tr.follow_get (vA_n m p q o g c d ts xd xs xv xt y P R a b k) (by simp only [k1, k2, k3, k4, ha, hb]), fun _ => ⟨(k + 1, [elI ts (k : Int)]), ⟨hlt, hi⟩, hm, rfl⟩, nofun⟩
          | cons x r => exact ⟨_, Tr.follow_get (vB_n m p q o g c d ts xd xs xv xt y P R a b k (x :: r)) (by simp only [k1, k2, k3, k4, k5, ha, hb]), fun _ => ⟨(k + 1, x :: r ++ [elI ts (k : Int)]), ⟨hlt, hi⟩, hm, rfl⟩, nofun⟩
    · have hke : k = ts.length := by omega
      subst hke
      have k1 : decide ((ts.length : Int) < (ts.length : Int)) = false := decide_eq_false (Int.lt_irrefl _)
      rw [List.take_length] at hls
      subst hls
      show ∃ r, _ ∧ _ ∧ _
      generalize hg : leftV a b ts = ls
      cases ls with
      | nil => exact ⟨_, Tr.follow_get (vA_end m p q o g c d ts xd xs xv xt y P R a b _) (by rw [k1]), nofun, fun _ => ⟨rfl, rfl⟩⟩
      | cons x r => exact ⟨_, Tr.follow_get (vB_end m p q o g c d ts xd xs xv xt y P R a b _ (x :: r)) (by rw [k1]), nofun, fun _ => ⟨rfl, rfl⟩⟩
def nilB {α : Type} (l : List α) : Bool := match l with
  | [] => true
  | _ => false
def vLoop : LoopFn C24 := fun li => match li with
  | ⟨[.h 0, .h 1, .h 2, .h 3, .raw (.int .i64 a), .raw (.int .i64 b), .raw (.int .i64 (.ofNat 0)), .raw (.slice none 0 0)], nb, .box cs 26 :: .box ds 43 :: .box es 26 :: .box fs 26 :: os⟩ => match decF cs 4 os with
    | some (((x0, x1, x2, x3, x4, x5), p, q, o, g, v), os1) => match decR ds (fltN ((x0, x1, x2, x3, x4, x5), p, q, o, g, v) 4) os1 with
      | some ((xd, xs, xv, xt, y), os2) => match decF es (nx y (fltN ((x0, x1, x2, x3, x4, x5), p, q, o, g, v) 4)) os2 with
        | some (((y0, y1, y2, y3, y4, y5), p2, q2, some (true, false, po), some (true, false, pg), some (true, false, pv)), os3) => match decF fs (fltN (pS ((y0, y1, y2, y3, y4, y5), p2, q2, po, pg, pv)) (nx y (fltN ((x0, x1, x2, x3, x4, x5), p, q, o, g, v) 4))) os3 with
          | some (((z0, z1, z2, z3, z4, z5), p3, q3, some (true, false, ro), some (true, false, rg), some (true, false, rv)), []) => match Nat.beq nb (vNb ((x0, x1, x2, x3, x4, x5), p, q, o, g, v) (xd, xs, xv, xt, y) ((y0, y1, y2, y3, y4, y5), p2, q2, po, pg, pv) ((z0, z1, z2, z3, z4, z5), p3, q3, ro, rg, rv)) with
            | true => withL v fun vl => .br (decide (vl.length ≤ 100000)) (.br (nilB (leftV a b vl))
                (.leaf (.exit 0, vA ((x0, x1, x2, x3, x4, x5), p, q, o, g, v) (xd, xs, xv, xt, y) ((y0, y1, y2, y3, y4, y5), p2, q2, po, pg, pv) ((z0, z1, z2, z3, z4, z5), p3, q3, ro, rg, rv) a b (vl.length : Int)))
                (.leaf (.exit 0, vB2 ((x0, x1, x2, x3, x4, x5), p, q, o, g, v) (xd, xs, xv, xt, y) ((y0, y1, y2, y3, y4, y5), p2, q2, po, pg, pv) ((z0, z1, z2, z3, z4, z5), p3, q3, ro, rg, rv) a b (vl.length : Int) (leftV a b vl)))) .fail
            | false => .fail
          | _ => .fail
        | _ => .fail
      | _ => .fail
    | _ => .fail
  | _ => .fail
theorem vLoop_ok : ∀ tm hp n x, (loopS vSl [] vLoop tm hp n).get = some x → InLoop Try.prog ((loopOf Try.prog 7 0).get!).1 (loopOf Try.prog 7 0).get!.2 tm hp n fun e tm hp n => (e, tm, hp, n) = x := loopS_of fun li r h => by
  unfold vLoop at h
  split at h
  · rename_i a b nb cs ds es fs os
    split at h
    · rename_i x0 x1 x2 x3 x4 x5 p q o g v os1 hF
      split at h
      · rename_i xd xs xv xt y os2 hX
        split at h
        · rename_i y0 y1 y2 y3 y4 y5 p2 q2 po pg pv os3 hP
          split at h
          · rename_i z0 z1 z2 z3 z4 z5 p3 q3 ro rg rv hR
            split at h
            · rename_i hnb
              obtain ⟨rfl, rfl⟩ := decF_eq hF
              obtain ⟨rfl, rfl⟩ := decR_eq hX
              obtain ⟨rfl, rfl⟩ := decF_eq hP
              obtain ⟨rfl, rfl⟩ := decF_eq hR
              have hnb := Nat.eq_of_beq_eq_true hnb
              subst hnb
              rw [withL_eq] at h
              clear hF hX hP hR
              obtain ⟨hl, hC⟩ := Tr.get_ask.1 h
              clear h
              have hl : (lo v).length ≤ 100000 := of_decide_eq_true hl
              rw [List.append_nil]
              have hrun := v_run (m := (x0, x1, x2, x3, x4, x5)) (p := p) (q := q) (o := o) (g := g) (v := v) (xd := xd) (xs := xs) (xv := xv) (xt := xt) (y := y) (P := ((y0, y1, y2, y3, y4, y5), p2, q2, po, pg, pv)) (R := ((z0, z1, z2, z3, z4, z5), p3, q3, ro, rg, rv)) (a := a) (b := b) hl
              have hr : r = (.exit 0, vSt ((x0, x1, x2, x3, x4, x5), p, q, o, g, v) (xd, xs, xv, xt, y) ((y0, y1, y2, y3, y4, y5), p2, q2, po, pg, pv) ((z0, z1, z2, z3, z4, z5), p3, q3, ro, rg, rv) a b ((lo v).length, leftV a b (lo v))) := by
                generalize leftV a b (lo v) = ls at hC
                cases ls with
                | nil => exact (Option.some.inj hC).symm
                | cons x l => exact (Option.some.inj hC).symm
              subst hr
              refine ⟨?_, hrun⟩
              generalize leftV a b (lo v) = ls
              cases ls with
              | nil => exact keeps_same (by cases o <;> cases g <;> cases v <;> cases y <;> rfl)
              | cons x l => cases o <;> cases g <;> cases v <;> cases y <;> exact Keeps.of3 (Nat.le_succ _) rfl
            · cases h
          · cases h
        · cases h
      · cases h
    · cases h
  · cases h
end
end Go.Proofs.Ytgepgnjjhgmfnaa
