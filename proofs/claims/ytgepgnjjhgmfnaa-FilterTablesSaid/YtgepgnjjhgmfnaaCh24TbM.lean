/-
  Chapter 24: FilterTables, laws: the filter after all commands. Own work; nothing here is trusted.
-/
import Derived.Test.YtgepgnjjhgmfnaaCh24TbL
namespace Go.Proofs.Ytgepgnjjhgmfnaa
open Go Go.Sx Go.RowKit
set_option maxRecDepth 1000000
set_option maxHeartbeats 8000000
set_option linter.unusedVariables false
set_option linter.unusedSimpArgs false
def base4 (ol gl : List Mac) (p q : Bool) (mc : Mac) : List (List Int) := [tabW ol gl, [0, 0, bzN p], [0, 1, bzN q], 1 :: 1 :: mcB mc]
/-- A row of commands as it is told. -/
structure Tells (l : Bs) (bs : List (List Int)) : Prop where
  len : l.length = bs.length
  cmd : ∀ (k : Nat) (b : List Int), bs[k]? = some b → eB l (k : Int) = b ∧ eN l (k : Int) = false
theorem opsK_at (ls : List Int) : ∀ (n j : Nat), j < n → (opsK ls n)[j]? = some (vlB (nuK ls j) (onK j))
  | n + 1, j, h => by
    unfold opsK
    rw [List.getElem?_append]
    by_cases h1 : j < n
    · rw [if_pos (by rw [opsK_len]; exact h1)]
      exact opsK_at ls n j h1
    · obtain rfl : j = n := by omega
      rw [if_neg (by rw [opsK_len]; omega), opsK_len, Nat.sub_self]
      rfl
theorem nu_in (ls : List Int) (k : Nat) : 0 ≤ nuK ls k ∧ nuK ls k < 4096 := pkN_in _
theorem vl_is {n : Int} {on : Bool} (h : 0 ≤ n ∧ n < 4096) : isV (vlB n on) = true := by
  cases on with
  | true => exact isV_add h.1 h.2
  | false => exact isV_rem h.1 h.2
theorem vl_w {vl : List Int} {n : Int} {on : Bool} (h : 0 ≤ n ∧ n < 4096) : wV vl (vlB n on) = bif on then addV vl n else remV vl n := by
  cases on with
  | true => exact wV_add h.1 h.2
  | false => exact wV_rem h.1 h.2
theorem vl_by {n : Int} {on : Bool} (h : 0 ≤ n ∧ n < 4096) : byB (vlB n on) = true := by
  cases on with
  | true => exact vB_by h.1 h.2
  | false => exact vR_by h.1 h.2
section
variable {l : Bs} {ol gl : List Mac} {p q : Bool} {mc : Mac} {ls : List Int}
theorem pw_op {m : Mac} {x y : Bool} {c : Option (List Int)} : pw (m, x, y, opM ol, opM gl, c) = (m, x, y, ol, gl, c.getD []) := by
  show (m, x, y, (opM ol).getD [], (opM gl).getD [], c.getD []) = _
  rw [opM_get, opM_get]
theorem ok_op {m : Mac} {x y : Bool} {c : Option (List Int)} (h1 : ol.length ≤ 32) (h2 : gl.length ≤ 32) (hs : srtV (c.getD [])) : okF (pw (m, x, y, opM ol, opM gl, c)) = true := by
  rw [pw_op]; exact okF_iff.2 ⟨h1, h2, hs⟩
theorem srt_nil : srtV [] := ⟨List.Pairwise.nil, fun x h => by cases h⟩
theorem x_of {G : Gw} {k : Int} (hok : okF (pw G) = true) : xG G l k = doC (pw G) (cmO fts (eB l k)) := ctO_do hok
theorem tell_at (ht : Tells l (base4 ol gl p q mc ++ opsK ls ls.length)) : eB l 0 = tabW ol gl ∧ eB l 1 = [0, 0, bzN p] ∧ eB l 2 = [0, 1, bzN q] ∧ eB l 3 = 1 :: 1 :: mcB mc ∧ ∀ j, j < ls.length → eB l ((4 + j : Nat) : Int) = vlB (nuK ls j) (onK j) := by
  refine ⟨(ht.cmd 0 _ rfl).1, (ht.cmd 1 _ rfl).1, (ht.cmd 2 _ rfl).1, (ht.cmd 3 _ rfl).1, fun j hj => (ht.cmd (4 + j) _ ?_).1⟩
  rw [List.getElem?_append_right (by show 4 ≤ 4 + j; omega)]
  show (opsK ls ls.length)[4 + j - 4]? = _
  rw [Nat.add_sub_cancel_left]
  exact opsK_at ls _ j hj
theorem ok_gw0 : okF (pw gw0) = true := okF_iff.2 ⟨by decide, by decide, srt_nil⟩
theorem x_0 (ht : Tells l (base4 ol gl p q mc ++ opsK ls ls.length)) (ho : ol.length ≤ 100) (hg : gl.length ≤ 100) : xG gw0 l 0 = bif decide (ol.length ≤ 32 ∧ gl.length ≤ 32) then .tab (opM ol) (opM gl) else .err := by
  rw [x_of ok_gw0, (tell_at ht).1, cm_tab ho hg]
  cases decide (ol.length ≤ 32 ∧ gl.length ≤ 32) <;> rfl
section
variable (ht : Tells l (base4 ol gl p q mc ++ opsK ls ls.length)) (ho : ol.length ≤ 32) (hg : gl.length ≤ 32)
include ht ho hg
theorem x_0' : xG gw0 l 0 = .tab (opM ol) (opM gl) := by
  rw [x_0 ht (by omega) (by omega), decide_eq_true ⟨ho, hg⟩]; rfl
theorem run_1 : runG l 1 = (mac0, false, false, opM ol, opM gl, none) := by
  show stG gw0 (xG gw0 l 0) = _
  rw [x_0' ht ho hg]; rfl
theorem x_1 : xG (runG l 1) l 1 = .keep mac0 p false := by
  rw [run_1 ht ho hg, x_of (ok_op (c := none) ho hg srt_nil), (tell_at ht).2.1, cm_pr, pw_op]; rfl
theorem run_2 : runG l 2 = (mac0, p, false, opM ol, opM gl, none) := by
  show stG (runG l 1) (xG (runG l 1) l 1) = _
  rw [x_1 ht ho hg, run_1 ht ho hg]; rfl
theorem x_2 : xG (runG l 2) l 2 = .keep mac0 p q := by
  rw [run_2 ht ho hg, x_of (ok_op (c := none) ho hg srt_nil), (tell_at ht).2.2.1, cm_mn, pw_op]; rfl
theorem run_3 : runG l 3 = (mac0, p, q, opM ol, opM gl, none) := by
  show stG (runG l 2) (xG (runG l 2) l 2) = _
  rw [x_2 ht ho hg, run_2 ht ho hg]; rfl
theorem x_3 : xG (runG l 3) l 3 = .keep mc p q := by
  rw [run_3 ht ho hg, x_of (ok_op (c := none) ho hg srt_nil), (tell_at ht).2.2.2.1, cm_mc, pw_op]; rfl
theorem run_4 : runG l 4 = (mc, p, q, opM ol, opM gl, none) := by
  show stG (runG l 3) (xG (runG l 3) l 3) = _
  rw [x_3 ht ho hg, run_3 ht ho hg]; rfl
/-- One number more. -/
theorem run_next {c : Option (List Int)} {j : Nat} (hj : j < ls.length) (hr : runG l (4 + j) = (mc, p, q, opM ol, opM gl, c)) (hs : srtV (c.getD [])) :
    ((∃ x y z, xG (runG l (4 + j)) l ((4 + j : Nat) : Int) = .keep x y z) ∨ ∃ x, xG (runG l (4 + j)) l ((4 + j : Nat) : Int) = .vl x) ∧ ∃ c', runG l (4 + j + 1) = (mc, p, q, opM ol, opM gl, c') ∧ c'.getD [] = wV (c.getD []) (vlB (nuK ls j) (onK j)) := by
  have hok := ok_op (m := mc) (x := p) (y := q) ho hg hs
  have hx : xG (runG l (4 + j)) l ((4 + j : Nat) : Int) = ctO fts (mc, p, q, ol, gl, c.getD []) (vlB (nuK ls j) (onK j)) := by
    rw [hr]
    show ctO fts (pw _) (eB l _) = _
    rw [pw_op, (tell_at ht).2.2.2.2 j hj]
  rw [pw_op] at hok
  show _ ∧ ∃ c', stG (runG l (4 + j)) (xG (runG l (4 + j)) l ((4 + j : Nat) : Int)) = _ ∧ _
  rcases ctO_w hok hB17 hB19 (vl_is (on := onK j) (nu_in ls j)) with ⟨h1, h2⟩ | h1
  · rw [hx, h1, hr]
    exact ⟨.inl ⟨_, _, _, rfl⟩, c, rfl, h2.symm⟩
  · rw [hx, h1, hr]
    exact ⟨.inr ⟨_, rfl⟩, some _, rfl, rfl⟩
theorem run_all : ∀ j, j ≤ ls.length → ∃ c, runG l (4 + j) = (mc, p, q, opM ol, opM gl, c) ∧ srtV (c.getD []) ∧ (c.getD []).length ≤ j ∧ ∀ x : Int, hasK (mpK ls j) x = true ↔ x ∈ c.getD []
  | 0, _ => ⟨none, run_4 ht ho hg, srt_nil, Nat.le_refl _, fun x => iff_of_false (fun h => Bool.noConfusion (show false = true from h)) List.not_mem_nil⟩
  | j + 1, h => by
    obtain ⟨c, h1, h2, h3, h4⟩ := run_all j (by omega)
    obtain ⟨_, c', h5, h6⟩ := run_next ht ho hg (by omega) h1 h2
    refine ⟨c', h5, ?_, ?_, fun x => ?_⟩
    · rw [h6, vl_w (nu_in ls j)]
      cases onK j with
      | true => exact srt_addV h2 (nu_in ls j).1 (nu_in ls j).2
      | false => exact srt_remV h2
    · rw [h6, vl_w (nu_in ls j)]
      cases onK j with
      | true => have := len_addV (ts := c.getD []) (x := nuK ls j); show (addV _ _).length ≤ _; omega
      | false => have := len_remV (ts := c.getD []) (x := nuK ls j); show (remV _ _).length ≤ _; omega
    · rw [h6, vl_w (nu_in ls j)]
      show hasK (insM (mpK ls j) (nuK ls j) (onK j)) x = true ↔ _
      rw [has_ins]
      cases onK j with
      | true =>
        show _ ↔ x ∈ addV _ _
        rw [mem_addV h2.1, ← h4]
        by_cases hx : x = nuK ls j
        · simp [hx]
        · simp [hx]
      | false =>
        show _ ↔ x ∈ remV _ _
        rw [mem_remV h2.1, ← h4]
        by_cases hx : x = nuK ls j
        · simp [hx]
        · simp [hx]
end
theorem by_base {b : List Int} (hg : byB (tabW ol gl) = true) (hm : byB (1 :: 1 :: mcB mc) = true) (hb : b ∈ base4 ol gl p q mc) : byB b = true := by
  have hz : ∀ b : Bool, 0 ≤ bzN b ∧ bzN b < 256 := fun b => by cases b <;> decide
  unfold base4 at hb
  simp only [List.mem_cons, List.not_mem_nil, or_false] at hb
  rcases hb with rfl | rfl | rfl | rfl
  · exact hg
  · exact byB_cons (by decide) (byB_cons (by decide) (byB_cons (hz p) byB_nil))
  · exact byB_cons (by decide) (byB_cons (by decide) (byB_cons (hz q) byB_nil))
  · exact hm
theorem tell_by (ht : Tells l (base4 ol gl p q mc ++ opsK ls ls.length)) (hg : byB (tabW ol gl) = true) (hm : byB (1 :: 1 :: mcB mc) = true) {k : Nat} (hk : k < l.length) : byB (eB l (k : Int)) = true ∧ eN l (k : Int) = false := by
  have hlt : k < (base4 ol gl p q mc ++ opsK ls ls.length).length := by rw [← ht.len]; exact hk
  obtain ⟨h1, h2⟩ := ht.cmd k _ (List.getElem?_eq_getElem hlt)
  refine ⟨?_, h2⟩
  rw [h1]
  rcases List.mem_append.1 (List.getElem_mem hlt) with h | h
  · exact by_base hg hm h
  · generalize (base4 ol gl p q mc ++ opsK ls ls.length)[k] = b at h
    obtain ⟨j, hj, rfl⟩ := List.getElem_of_mem h
    have hj' : j < ls.length := by rw [opsK_len] at hj; exact hj
    have := opsK_at ls ls.length j hj'
    rw [List.getElem?_eq_getElem hj] at this
    rw [Option.some.inj this]
    exact vl_by (nu_in ls j)
theorem good_of {F : Fr} (ht : Tells l (base4 ol gl p q mc ++ opsK ls ls.length)) (hg : byB (tabW ol gl) = true) (hm : byB (1 :: 1 :: mcB mc) = true) (h1 : ol.length ≤ 32) (h2 : gl.length ≤ 32) (hls : ls.length ≤ 60) (hf1 : F.2.2.2.1.2.1 = ol.length) (hf2 : F.2.2.2.2.1.2.1 = gl.length) : Good F l := by
  have hlen : l.length = 4 + ls.length := by rw [ht.len, List.length_append, opsK_len]; rfl
  have sm : ∀ {m : Mac} {x y : Bool} {c : Option (List Int)}, (c.getD []).length ≤ 60 → smX (pw (m, x, y, opM ol, opM gl, c)).2.2.2.1 (pw (m, x, y, opM ol, opM gl, c)).2.2.2.2.1 (pw (m, x, y, opM ol, opM gl, c)).2.2.2.2.2 = true := fun h => by
    rw [pw_op]; exact smX_mk ⟨by show ol.length ≤ _; omega, by show gl.length ≤ _; omega, by show (Option.getD _ []).length ≤ _; omega⟩
  refine ⟨by omega, by omega, fun k hk => (tell_by ht hg hm hk).2, fun k hk => (tell_by ht hg hm hk).1, by omega, by omega, ⟨_, _, x_0' ht h1 h2⟩, fun k hk => ?_, fun k h0 hk => ?_⟩
  · match k, hk with
    | 0, _ => exact smX_mk (ol := []) (gl := []) (vl := []) (by decide)
    | 1, _ => rw [run_1 ht h1 h2]; exact sm (by decide)
    | 2, _ => rw [run_2 ht h1 h2]; exact sm (by decide)
    | 3, _ => rw [run_3 ht h1 h2]; exact sm (by decide)
    | j + 4, hk =>
      obtain ⟨c, g1, g2, g3, g4⟩ := run_all ht h1 h2 j (by omega)
      rw [Nat.add_comm j 4, g1]; exact sm (by omega)
  · match k, h0, hk with
    | 1, _, _ => exact .inl ⟨_, _, _, x_1 ht h1 h2⟩
    | 2, _, _ => exact .inl ⟨_, _, _, x_2 ht h1 h2⟩
    | 3, _, _ => exact .inl ⟨_, _, _, x_3 ht h1 h2⟩
    | j + 4, _, hk =>
      obtain ⟨c, g1, g2, g3, g4⟩ := run_all ht h1 h2 j (by omega)
      rw [Nat.add_comm j 4]
      exact (run_next ht h1 h2 (by omega) g1 g2).1
end
end Go.Proofs.Ytgepgnjjhgmfnaa
