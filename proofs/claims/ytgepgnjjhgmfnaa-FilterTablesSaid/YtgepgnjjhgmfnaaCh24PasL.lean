/-
  Chapter 24: laws of Pass, and of a number that is added. Own work; nothing here is trusted.
-/
import Derived.Test.YtgepgnjjhgmfnaaCh24Ctrl
namespace Go.Proofs.Ytgepgnjjhgmfnaa
open Go Go.Sx Go.RowKit
set_option maxRecDepth 1000000
set_option maxHeartbeats 8000000
set_option linter.unusedVariables false
set_option linter.unusedSimpArgs false
theorem noneP_ex {p : Nat → Bool} {n : Nat} : noneP p n = false ↔ ∃ k, k < n ∧ p k = true :=
  ⟨fun h => ⟨_, (fstP_spec h).1, (fstP_spec h).2.1⟩, fun ⟨k, h1, h2⟩ => noneP_off h1 h2⟩
theorem anyA {ts : List Mac} {x : Mac} : noneP (eqA ts x) ts.length = false ↔ ∃ y ∈ ts, eqM x y = true := by
  rw [noneP_ex]
  constructor
  · rintro ⟨k, hk, h⟩
    refine ⟨_, List.getElem_mem hk, ?_⟩
    have e : eqA ts x k = eqM x (ts.getD k mac0) := rfl
    rw [e, List.getD_eq_getElem?_getD, List.getElem?_eq_getElem hk] at h
    exact h
  · rintro ⟨y, hy, h⟩
    obtain ⟨k, hk, rfl⟩ := List.getElem_of_mem hy
    refine ⟨k, hk, ?_⟩
    show eqM x (ts.getD k mac0) = true
    rw [List.getD_eq_getElem?_getD, List.getElem?_eq_getElem hk]
    exact h
theorem anyI {ts : List Int} {x : Int} : noneP (eqI ts x) ts.length = false ↔ x ∈ ts := by
  rw [noneP_ex]
  constructor
  · rintro ⟨k, hk, h⟩
    have e : eqI ts x k = (x == ts.getD k 0) := rfl
    rw [e, List.getD_eq_getElem?_getD, List.getElem?_eq_getElem hk, Option.getD_some, beq_iff_eq] at h
    rw [h]
    exact List.getElem_mem hk
  · intro hy
    obtain ⟨k, hk, rfl⟩ := List.getElem_of_mem hy
    refine ⟨k, hk, ?_⟩
    show (ts[k] == ts.getD k 0) = true
    rw [List.getD_eq_getElem?_getD, List.getElem?_eq_getElem hk]
    exact beq_self_eq_true _
theorem tailP_iff {F : Fp} {d : Mac} : tailP F d = true ↔ F.2.1 = true ∨ (grpM d = true ∧ (F.2.2.1 = true ∨ allM d = true ∨ ∃ y ∈ F.2.2.2.2.1, eqM d y = true)) ∨ (grpM d = false ∧ (eqM F.1 d = true ∨ ∃ y ∈ F.2.2.2.1, eqM d y = true)) := by
  rw [← anyA, ← anyA]
  unfold tailP
  generalize F.2.1 = p
  generalize grpM d = gr
  generalize F.2.2.1 = q
  generalize allM d = al
  generalize noneP (eqA F.2.2.2.2.1 d) F.2.2.2.2.1.length = n1
  generalize eqM F.1 d = em
  generalize noneP (eqA F.2.2.2.1 d) F.2.2.2.1.length = n2
  cases p <;> cases gr <;> cases q <;> cases al <;> cases n1 <;> cases em <;> cases n2 <;> decide
theorem passP_iff {feats : Int} {F : Fp} {x : Rp} : passP feats F x = true ↔ okF F = true ∧ (x.2.2.1 < -1) = False ∧ ((4095 : Int) < x.2.2.1) = False ∧ (x.2.2.2.1 == 33024) = false ∧ ((1500 : Int) < (x.2.2.2.2.length : Int)) = False ∧ (hasB feats 19 = true → 0 ≤ x.2.2.1 → x.2.2.1 ∈ F.2.2.2.2.2) ∧ tailP F x.1 = true := by
  rw [← anyI]
  unfold passP
  generalize okF F = o
  generalize (x.2.2.2.1 == 33024) = t
  generalize hasB feats 19 = hb
  generalize tailP F x.1 = tl
  generalize noneP (eqI F.2.2.2.2.2 x.2.2.1) F.2.2.2.2.2.length = n1
  by_cases h1 : x.2.2.1 < -1 <;> by_cases h2 : (4095 : Int) < x.2.2.1 <;> by_cases h3 : (1500 : Int) < (x.2.2.2.2.length : Int) <;> by_cases h4 : 0 ≤ x.2.2.1 <;> simp only [h1, h2, h3, h4, decide_true, decide_false, sel_true, sel_false] <;>
    cases o <;> cases t <;> cases hb <;> cases tl <;> cases n1 <;> simp
/-- What passes still passes where there is more. -/
theorem passP_mono {feats : Int} {F G : Fp} {x : Rp} (hG : okF G = true) (hm : G.1 = F.1) (hp : F.2.1 = true → G.2.1 = true) (hq : F.2.2.1 = true → G.2.2.1 = true) (ho : ∀ y, y ∈ F.2.2.2.1 → y ∈ G.2.2.2.1) (hg : ∀ y, y ∈ F.2.2.2.2.1 → y ∈ G.2.2.2.2.1) (hv : ∀ y, y ∈ F.2.2.2.2.2 → y ∈ G.2.2.2.2.2)
    (h : passP feats F x = true) : passP feats G x = true := by
  rw [passP_iff] at h ⊢
  obtain ⟨_, h1, h2, h3, h4, h5, h6⟩ := h
  refine ⟨hG, h1, h2, h3, h4, fun a b => hv _ (h5 a b), ?_⟩
  rw [tailP_iff] at h6 ⊢
  rw [hm]
  rcases h6 with h | ⟨a, h⟩ | ⟨a, h⟩
  · exact .inl (hp h)
  · refine .inr (.inl ⟨a, ?_⟩)
    rcases h with h | h | ⟨y, h, e⟩
    · exact .inl (hq h)
    · exact .inr (.inl h)
    · exact .inr (.inr ⟨y, hg y h, e⟩)
  · refine .inr (.inr ⟨a, ?_⟩)
    rcases h with h | ⟨y, h, e⟩
    · exact .inl h
    · exact .inr ⟨y, ho y h, e⟩
/-- A number that is added, or was there. -/
abbrev vB (n : Int) : List Int := [(2 : Int), ((1 : Int) - (1 : Int)) % (256 : Int), n % (256 : Int), shrV IntKind.i64 n (8 : Int) % (256 : Int)]
abbrev cFt : Int := 4304273440
theorem two_bytes : ∀ i : Fin 16, ∀ j : Fin 256, bitsV IntKind.i64 BinOp.or (j.val : Int) (shlV IntKind.i64 (i.val : Int) 8) = ((i.val * 256 + j.val : Nat) : Int) := by decide +kernel
theorem nV_eq {n : Int} (h0 : 0 ≤ n) (h1 : n < 4096) : nV [n % (256 : Int), shrV IntKind.i64 n (8 : Int) % (256 : Int)] = n := by
  obtain ⟨k, rfl⟩ := Int.eq_ofNat_of_zero_le h0
  have hk : k < 4096 := by omega
  have e1 : ((k : Int) % 256) = ((k % 256 : Nat) : Int) := by omega
  have e2 : shrV IntKind.i64 (k : Int) 8 % 256 = ((k / 256 : Nat) : Int) := by
    show Int.fdiv (k : Int) (2 ^ 8) % 256 = _
    rw [Int.fdiv_eq_ediv_of_nonneg _ (by decide)]
    omega
  show bitsV IntKind.i64 BinOp.or ((k : Int) % 256) (shlV IntKind.i64 (shrV IntKind.i64 (k : Int) 8 % 256) 8) = _
  rw [e1, e2]
  have h := two_bytes ⟨k / 256, by omega⟩ ⟨k % 256, by omega⟩
  simp only at h
  rw [h]
  omega
theorem vB_by {n : Int} (h0 : 0 ≤ n) (h1 : n < 4096) : byB (vB n) = true := by
  have a1 : 0 ≤ n % 256 ∧ n % 256 < 256 := by omega
  have a2 : 0 ≤ shrV IntKind.i64 n (8 : Int) % (256 : Int) ∧ shrV IntKind.i64 n (8 : Int) % (256 : Int) < 256 := by omega
  unfold byB
  simp only [List.all_cons, List.all_nil, Bool.and_true, decide_eq_true a1.1, decide_eq_true a1.2, decide_eq_true a2.1, decide_eq_true a2.2]
  rfl
theorem ctO_v (m : Mac) (p q : Bool) (ol gl : List Mac) (vl : List Int) (a b : Int) : ctO cFt (m, p, q, ol, gl, vl) [2, (1 - 1) % 256, a, b] =
    bif okF (m, p, q, ol, gl, vl) then (bif decide ((4095 : Int) < nV [a, b]) then Oc.err else bif bsF vl (nV [a, b]) then Oc.keep m p q else Oc.vl (insL vl (bsZ vl (nV [a, b])).toNat [nV [a, b]])) else Oc.err := by kernel_rfl
theorem ctO_add {m : Mac} {p q : Bool} {ol gl : List Mac} {vl : List Int} {n : Int} (h0 : 0 ≤ n) (h1 : n < 4096) (hok : okF (m, p, q, ol, gl, vl) = true) :
    ctO cFt (m, p, q, ol, gl, vl) (vB n) = sel (bsF vl n) (Oc.keep m p q) (Oc.vl (insL vl (bsZ vl n).toNat [n])) := by
  unfold vB
  rw [ctO_v, hok, nV_eq h0 h1, decide_eq_false (by omega), cond_true, cond_false]
  cases bsF vl n <;> rfl
theorem ins_sub {vl : List Int} {k : Nat} {n y : Int} (h : y ∈ vl) : y ∈ insL vl k [n] := by
  unfold insL
  rw [List.mem_append, List.mem_append]
  rw [← List.take_append_drop k vl, List.mem_append] at h
  rcases h with h | h
  · exact .inl (.inl h)
  · exact .inr h
theorem and_mod : ∀ k : Fin 256, (bitsV IntKind.u8 BinOp.and (k.val : Int) 1 == 1) = !((k.val : Int).tmod 2 == 0) := by decide +kernel
theorem eqM_self (m : Mac) : eqM m m = true := by unfold eqM; simp
theorem bare (feats : Int) (m : Mac) (t : Int) (ht : (t == 33024) = false) (x : Mac) : passP feats (m, false, false, [], [], []) (m, x, -1, t, []) = sel (grpM m) (allM m) true := by
  unfold passP tailP
  have e0 : okF (m, false, false, [], [], []) = true := by kernel_rfl
  simp only [e0, ht, sel_true, sel_false, eqM_self]
  have e1 : noneP (eqA [] m) ([] : List Mac).length = true := by kernel_rfl
  simp only [e1, sel_true]
  cases hasB feats 19 <;> cases grpM m <;> cases allM m <;> rfl
theorem any_v (feats gs : Int) (F : Fp) (a b : Mac) (t : Int) (l : List Int) : passP feats F (a, b, -1, t, l) = passP gs F (a, b, -1, t, l) := by
  unfold passP
  simp only [show decide ((0 : Int) ≤ -1) = false from rfl, sel_false]
  cases hasB feats 19 <;> cases hasB gs 19 <;> rfl
end Go.Proofs.Ytgepgnjjhgmfnaa
