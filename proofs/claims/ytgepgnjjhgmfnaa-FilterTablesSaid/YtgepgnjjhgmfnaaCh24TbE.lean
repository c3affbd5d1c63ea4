/-
  Chapter 24: FilterTables, its piece told to the evaluator. Own work; nothing here is trusted.
-/
import Derived.Test.YtgepgnjjhgmfnaaCh24TbD
namespace Go.Proofs.Ytgepgnjjhgmfnaa
open Go Go.Sx Go.RowKit
set_option maxRecDepth 1000000
set_option maxHeartbeats 8000000
set_option linter.unusedVariables false
set_option linter.unusedSimpArgs false
noncomputable section
def tbG (m : Mac) (p q : Bool) (ol gl : List Mac) (vl : List Int) (gm : Mac) (gp gq : Bool) (b0 b1 b2 b3 : List Int) : Bool :=
  decide (gm = mac0 ∧ gp = false ∧ gq = false ∧ b0 = tabW ol gl ∧ b1 = [0, 0, bzN p] ∧ b2 = [0, 1, bzN q] ∧ b3 = 1 :: 1 :: mcB m ∧ ol.length ≤ 60 ∧ gl.length ≤ 60 ∧ vl.length ≤ 60) && (byB (tabW ol gl) && byB (1 :: 1 :: mcB m))
theorem tbG_spec {m : Mac} {p q : Bool} {ol gl : List Mac} {vl : List Int} {gm : Mac} {gp gq : Bool} {b0 b1 b2 b3 : List Int} (h : tbG m p q ol gl vl gm gp gq b0 b1 b2 b3 = true) :
    gm = mac0 ∧ gp = false ∧ gq = false ∧ b0 = tabW ol gl ∧ b1 = [0, 0, bzN p] ∧ b2 = [0, 1, bzN q] ∧ b3 = 1 :: 1 :: mcB m ∧ ol.length ≤ 60 ∧ gl.length ≤ 60 ∧ vl.length ≤ 60 ∧ byB (tabW ol gl) = true ∧ byB (1 :: 1 :: mcB m) = true := by
  unfold tbG at h
  rw [Bool.and_eq_true, Bool.and_eq_true, decide_eq_true_eq] at h
  obtain ⟨⟨e0, e1, e2, e3, e4, e5, e6, lo1, lg1, lv1⟩, by1, by2⟩ := h
  exact ⟨e0, e1, e2, e3, e4, e5, e6, lo1, lg1, lv1, by1, by2⟩
theorem tbG_mk {m : Mac} {p q : Bool} {ol gl : List Mac} {vl : List Int} (h1 : ol.length ≤ 60) (h2 : gl.length ≤ 60) (h3 : vl.length ≤ 60) (h4 : byB (tabW ol gl) = true) (h5 : byB (1 :: 1 :: mcB m) = true) :
    tbG m p q ol gl vl mac0 false false (tabW ol gl) [0, 0, bzN p] [0, 1, bzN q] (1 :: 1 :: mcB m) = true := by
  unfold tbG
  rw [h4, h5, decide_eq_true ⟨rfl, rfl, rfl, rfl, rfl, rfl, rfl, h1, h2, h3⟩]; rfl
def tblF : Tm → Hp C24 → Nat → LT C24 := fun tm hp n => match find 1 tm, find 2 tm, find 5 tm, find 6 tm with
  | some s1, some (.h fh), some (.h gh), some (.bs ch 0 4 4) => match find fh hp, find gh hp, find ch hp with
    | some (.box fcs 26), some (.box gcs 26), some (.box [.h c0, .h c1, .h c2, .h c3] 33) => match fltD fcs, fltD gcs, Nat.beq fh gh with
      | some (m, p, q, so, sg, sv), some (gm, gp, gq, .raw (.slice none 0 0), .raw (.slice none 0 0), .raw (.slice none 0 0)), false => match seeM so hp, seeM sg hp, seeI sv hp, seeI s1 hp with
        | some o, some g, some v', some v => match find c0 hp, find c1 hp, find c2 hp, find c3 hp with
          | some (.sl _ _ 5 b0), some (.sl _ _ 5 b1), some (.sl _ _ 5 b2), some (.sl _ _ 5 b3) =>
            .br (tbG m p q (lo o) (lo g) (lo v) gm gp gq b0 b1 b2 b3) (.leaf (.ret, [(4, .raw (.bool true))], (gh, .gone) :: (fh, .gone) :: (ch, .gone) :: hp, n)) .fail
          | _, _, _, _ => .fail
        | _, _, _, _ => .fail
      | _, _, _ => .fail
    | _, _, _ => .fail
  | _, _, _, _ => .fail
theorem den_flt {ρ : Asg} {m : Mac} {p q : Bool} {so sg sv : SV} {x y z : Value} (h1 : den ρ so = some x) (h2 : den ρ sg = some y) (h3 : den ρ sv = some z) : denL ρ (fltL m p q so sg sv) = some (flC m p q x y z) := by
  simp only [fltL, denL, h1, h2, h3]; rfl
theorem tblF_ok : PieceOk Try.prog 167 tbl tblF := fun tm hp n r hr B X ρ w a hN hD R T => by
  unfold tblF at hr
  split at hr
  · rename_i s1 fh gh ch h1 h2 h5 h6
    split at hr
    · rename_i fcs gcs c0 c1 c2 c3 hf hg hc
      split at hr
      · rename_i m p q so sg sv gm gp gq hfd hgd hfg
        split at hr
        · rename_i o g v' v ho hgg hv' hv
          split at hr
          · rename_i x0 y0 b0 x1 y1 b1 x2 y2 b2 x3 y3 b3 hc0 hc1 hc2 hc3
            obtain ⟨hgo, hr2⟩ := Tr.get_ask.1 hr
            simp only [Tr.get, Option.some.injEq] at hr2
            subst hr2
            obtain ⟨e0, e1, e2, e3, e4, e5, e6, lo1, lg1, lv1, by1, by2⟩ := tbG_spec hgo
            subst e0 e1 e2
            have e3 : b0 = tabW (lo o) (lo g) := e3
            have e4 : b1 = ([0, 0, bzN p] : List Int) := e4
            have e5 : b2 = ([0, 1, bzN q] : List Int) := e5
            have e6 : b3 = ((1 : Int) :: 1 :: mcB m) := e6
            subst e3 e4 e5 e6
            have hne : fh ≠ gh := fun e => by
              subst e
              have : Nat.beq fh fh = true := Nat.beq_refl fh
              rw [this] at hfg; cases hfg
            obtain rfl := fltD_eq hfd
            obtain rfl := fltD_eq hgd
            obtain ⟨vf, hvf, fb, fvs, rfl, okf, hfden, hfh⟩ := R.obj fh _ hf
            obtain ⟨vg, hvg, gb, gvs, rfl, okg, hgden, hgh⟩ := R.obj gh _ hg
            obtain ⟨vc, hvc, cb, cvs, rfl, okc, hcden, hch⟩ := R.obj ch _ hc
            have nfc : fh ≠ ch := fun e => by subst e; rw [hf] at hc; cases hc
            have ngc : gh ≠ ch := fun e => by subst e; rw [hg] at hc; cases hc
            have ne1 : fb ≠ gb := fun e => R.sep fh gh _ _ _ _ fb hne hf hg rfl rfl hvf hvg rfl (by rw [e]; rfl)
            have ne2 : fb ≠ cb := fun e => R.sep fh ch _ _ _ _ fb nfc hf hc rfl rfl hvf hvc rfl (by rw [e]; rfl)
            have ne3 : gb ≠ cb := fun e => R.sep gh ch _ _ _ _ gb ngc hg hc rfl rfl hvg hvc rfl (by rw [e]; rfl)
            have hDm : ∀ i own fl e' ts u b, find i hp = some (.sl own fl e' ts) → ρ i = some u → blk u = some b → b ≠ fb ∧ b ≠ gb ∧ b ≠ cb := fun i own fl e' ts u b hi hu hb => by
              have n1 : fh ≠ i := fun e => by subst e; rw [hf] at hi; cases hi
              have n2 : gh ≠ i := fun e => by subst e; rw [hg] at hi; cases hi
              have n3 : ch ≠ i := fun e => by subst e; rw [hc] at hi; cases hi
              refine ⟨fun e => ?_, fun e => ?_, fun e => ?_⟩
              · subst e; exact R.sep fh i _ _ _ _ b n1 hf hi rfl rfl hvf hu rfl hb
              · subst e; exact R.sep gh i _ _ _ _ b n2 hg hi rfl rfl hvg hu rfl hb
              · subst e; exact R.sep ch i _ _ _ _ b n3 hc hi rfl rfl hvc hu rfl hb
            obtain ⟨t1, d1, vo⟩ := seeM_spec R hDm ho
            obtain ⟨t2, d2, vgg⟩ := seeM_spec R hDm hgg
            obtain ⟨t3, d3, _⟩ := seeI_spec R hDm hv'
            obtain ⟨tl, d4, vl⟩ := seeI_spec R hDm hv
            rw [den_flt d1 d2 d3] at hfden
            cases hfden
            rw [den_flt (x := nilV) (y := nilV) (z := nilV) rfl rfl rfl] at hgden
            cases hgden
            obtain ⟨a0, k0, e0, l0, z0, f0⟩ := rel_sl R hc0
            obtain ⟨a1, k1, e1, l1, z1, f1⟩ := rel_sl R hc1
            obtain ⟨a2, k2, e2, l2, z2, f2⟩ := rel_sl R hc2
            obtain ⟨a3, k3, e3, l3, z3, f3⟩ := rel_sl R hc3
            have g0 := hDm c0 _ _ _ _ _ _ hc0 e0 rfl
            have g1 := hDm c1 _ _ _ _ _ _ hc1 e1 rfl
            have g2 := hDm c2 _ _ _ _ _ _ hc2 e2 rfl
            have g3 := hDm c3 _ _ _ _ _ _ hc3 e3 rfl
            simp only [denL, den, e0, e1, e2, e3] at hcden
            cases hcden
            obtain ⟨u2, x2', y2'⟩ := T 2 _ h2
            obtain ⟨u5, x5', y5'⟩ := T 5 _ h5
            obtain ⟨u6, x6', y6'⟩ := T 6 _ h6
            obtain ⟨u1, x1', y1'⟩ := T 1 _ h1
            have x2' : ρ fh = some u2 := x2'
            have x5' : ρ gh = some u5 := x5'
            rw [hvf] at x2'; cases x2'
            rw [hvg] at x5'; cases x5'
            rw [d4] at x1'; cases x1'
            simp only [den, hvc, Option.bind_some, baseOf, Option.map_some, Addr.add_zero] at x6'
            cases x6'
            have hE : Ent w a fb gb cb m p q o g v t1 t2 t3 tl [(some a0, (tabW (lo o) (lo g)).length, k0), (some a1, ([0, 0, bzN p] : List Int).length, k1), (some a2, ([0, 1, bzN q] : List Int).length, k2), (some a3, ((1 : Int) :: 1 :: mcB m).length, k3)] := by
              refine ⟨hN, hD, y2', y5', y6', y1', hfh, hgh, hch, ne1, ne2, ne3, vo, vgg, vl, rfl, fun j t b ht hb => ?_⟩
              match j, ht, hb with
              | 0, ht, hb => cases ht; cases hb; exact ⟨⟨a0, k0, rfl, l0, z0, f0⟩, fun ad e => by cases e; exact g0⟩
              | 1, ht, hb => cases ht; cases hb; exact ⟨⟨a1, k1, rfl, l1, z1, f1⟩, fun ad e => by cases e; exact g1⟩
              | 2, ht, hb => cases ht; cases hb; exact ⟨⟨a2, k2, rfl, l2, z2, f2⟩, fun ad e => by cases e; exact g2⟩
              | 3, ht, hb => cases ht; cases hb; exact ⟨⟨a3, k3, rfl, l3, z3, f3⟩, fun ad e => by cases e; exact g3⟩
            refine piece_whole hE lo1 lg1 lv1 by1 by2 fun a4 w4 q1 q2 q3 q4 => ?_
            have R3 := ((R.gone ch hvc).gone fh hvf).gone gh hvg
            have R4 := R3.world (w' := w4) q4.sys q4.tape q4.out q4.size (fun b hb hx => by
              refine q4.old b (Nat.lt_of_lt_of_le hb R.size) (fun e => ?_) (fun e => ?_) fun e => ?_
              · subst e; exact okf.elim (fun h => by omega) hx
              · subst e; exact okg.elim (fun h => by omega) hx
              · subst e; exact okc.elim (fun h => by omega) hx) fun i O u b hi hl hu hb => by
              rw [find_cons] at hi
              split at hi
              · cases hi; cases hl
              · rename_i n2
                rw [find_cons] at hi
                split at hi
                · cases hi; cases hl
                · rename_i n1
                  rw [find_cons] at hi
                  split at hi
                  · cases hi; cases hl
                  · rename_i n3
                    refine q4.old b (R.blkOk i O u b hi hl hu hb) (fun e => ?_) (fun e => ?_) fun e => ?_
                    · subst e; exact R.sep fh i _ _ _ _ b (fun e => n1 e.symm) hf hi rfl hl hvf hu rfl hb
                    · subst e; exact R.sep gh i _ _ _ _ b (fun e => n2 e.symm) hg hi rfl hl hvg hu rfl hb
                    · subst e; exact R.sep ch i _ _ _ _ b (fun e => n3 e.symm) hc hi rfl hl hvc hu rfl hb
            refine ⟨.ret, ρ, _, _, n, rfl, Asg.le_refl _, ⟨Nat.le_refl _, [(gh, .gone), (fh, .gone), (ch, .gone)], rfl⟩, q1, q2, R4, fun t s hs => ?_, rfl⟩
            rw [find_cons] at hs
            split at hs
            · rename_i e; subst e; cases hs; exact ⟨_, rfl, q3⟩
            · cases hs
          · cases hr
        · cases hr
      · cases hr
    · cases hr
  · cases hr
def hkT : HookT C24 := fun id => match Nat.beq id 7 with
  | true => some tblF
  | false => none
theorem hkT_ok : HookOk Try.prog 6 hkT := fun fn c hfn hc id s hm f hf => by
  unfold hkT at hf
  split at hf
  · rename_i hid
    cases hf
    have hid := Nat.eq_of_beq_eq_true hid
    subst hid
    obtain ⟨fn', c', q1, q2, q3, q4⟩ := f6_ex
    rw [hfn] at q1
    cases q1
    rw [hc] at q2
    cases q2
    have hp := pickL_mem hm
    rw [q4] at hp
    obtain rfl := List.mem_singleton.1 hp
    rw [q3]
    exact tblF_ok
  · cases hf
end
end Go.Proofs.Ytgepgnjjhgmfnaa
