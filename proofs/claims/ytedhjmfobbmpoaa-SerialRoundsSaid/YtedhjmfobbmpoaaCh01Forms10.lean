/-
  Chapter 1: the closed forms by their shapes. Own work; nothing here is trusted.
-/
import Derived.Test.YtedhjmfobbmpoaaCh01Forms9
namespace Go.Proofs.Ytedhjmfobbmpoaa
open Go Go.Sx Go.RowKit
set_option maxRecDepth 100000
noncomputable section
def cI : SV → Int
  | .raw (.int _ n) => n
  | _ => 0
def cB : SV → Bool
  | .raw (.bool b) => b
  | _ => false
def cAt (i : Nat) : SV → SV
  | .tup l => l.getD i (.raw undef)
  | .agg l => l.getD i (.raw undef)
  | v => v
/-- A position and an error, as the value holds them. -/
def shPE (v : SV) : SV := .tup [.agg [.raw (.int .i64 (cI (cAt 0 (cAt 0 v)))), .raw (.bool (cB (cAt 1 (cAt 0 v))))], .raw (.int .i64 (cI (cAt 1 v)))]
def shIE (v : SV) : SV := .tup [.raw (.int .i64 (cI (cAt 0 v))), .raw (.int .i64 (cI (cAt 1 v)))]
def shBE (v : SV) : SV := .tup [.raw (.bool (cB (cAt 0 v))), .raw (.int .i64 (cI (cAt 1 v)))]
def shUE (v : SV) : SV := .tup [.raw (.int .u64 (cI (cAt 0 v))), .raw (.int .i64 (cI (cAt 1 v)))]
def shW (v : SV) : SV := .raw (.int .u16 (cI v))
theorem sh_go (a y s : Int) (b : Bool) : goV a y s b = shPE (goV a y s b) := by unfold goV; split <;> rfl
theorem sh_read (w s : Int) : readV w s = shPE (readV w s) := by unfold readV; split <;> rfl
theorem sh_bet (a c s : Int) (b d : Bool) : betV a b c d s = shIE (betV a b c d s) := by unfold betV; split <;> rfl
theorem sh_na (a c y s : Int) (b d : Bool) : naV a b c d y s = shBE (naV a b c d y s) := by unfold naV; split <;> rfl
theorem sh_al (n t : Int) : alV n t = shUE (alV n t) := by unfold alV; split <;> rfl
theorem sh_word (a : Int) (b : Bool) : wordV a b = shW (wordV a b) := by unfold wordV; split <;> rfl
def goH : List SV → Option SV := fun vs => match vs with
  | [.agg [.raw (.int .i64 a), .raw (.bool b)], .raw (.int .i64 y), .raw (.int .i64 s)] => some (shPE (goV a y s b))
  | _ => none
theorem goH_eq (vs : List SV) (v : SV) (h : goH vs = some v) : goF vs = some v := by
  unfold goH at h
  split at h
  · rw [← sh_go] at h; exact h
  · cases h
def betH : List SV → Option SV := fun vs => match vs with
  | [.agg [.raw (.int .i64 a), .raw (.bool b)], .agg [.raw (.int .i64 c), .raw (.bool d)], .raw (.int .i64 s)] => some (shIE (betV a b c d s))
  | _ => none
theorem betH_eq (vs : List SV) (v : SV) (h : betH vs = some v) : betF vs = some v := by
  unfold betH at h
  split at h
  · rw [← sh_bet] at h; exact h
  · cases h
def naH : List SV → Option SV := fun vs => match vs with
  | [.agg [.raw (.int .i64 a), .raw (.bool b)], .agg [.raw (.int .i64 c), .raw (.bool d)], .raw (.int .i64 y), .raw (.int .i64 s)] => some (shBE (naV a b c d y s))
  | _ => none
theorem naH_eq (vs : List SV) (v : SV) (h : naH vs = some v) : naF vs = some v := by
  unfold naH at h
  split at h
  · rw [← sh_na] at h; exact h
  · cases h
def wordH : List SV → Option SV := fun vs => match vs with
  | [.agg [.raw (.int .i64 a), .raw (.bool b)]] => some (shW (wordV a b))
  | _ => none
theorem wordH_eq (vs : List SV) (v : SV) (h : wordH vs = some v) : wordG vs = some v := by
  unfold wordH at h
  split at h
  · rw [← sh_word] at h; exact h
  · cases h
def readH : List SV → (SV → Prop) → Prop := fun vs K => match vs with
  | [.raw (.int .u16 w), .raw (.int .i64 s)] => 0 ≤ w ∧ w < 65536 ∧ K (shPE (readV w s))
  | _ => False
theorem readH_eq (vs : List SV) (K : SV → Prop) (h : readH vs K) : readG vs K := by
  unfold readH at h
  split at h
  · rw [← sh_read] at h; exact h
  · exact h.elim
def alH : List SV → (SV → Prop) → Prop := fun vs K => match vs with
  | [.raw (.int .u64 n), .raw (.int .u64 t)] => 0 ≤ n ∧ n < 18446744073709551616 ∧ 0 ≤ t ∧ t < 18446744073709551616 ∧ K (shUE (alV n t))
  | _ => False
theorem alH_eq (vs : List SV) (K : SV → Prop) (h : alH vs K) : alS vs K := by
  unfold alH at h
  split at h
  · rw [← sh_al] at h; exact h
  · exact h.elim
theorem fnBy {g : Nat} {F G : List SV → Option SV} (h : FnOk Try.prog g F) (e : ∀ vs v, G vs = some v → F vs = some v) : FnOk Try.prog g G := fun vs v hv => h vs v (e vs v hv)
theorem cBy {g : Nat} {F G : List SV → (SV → Prop) → Prop} (h : CallOk1 (C := C0) Try.prog g (flatF F)) (e : ∀ vs K, G vs K → F vs K) : CallOk1 (C := C0) Try.prog g (flatF G) := fun vs hp n k B X ρ w args hk => h vs hp n k B X ρ w args (e _ _ hk)
def soH : SpecF C0 (OT C0) := specG 24 (byF .fail chkF) (specG 25 (byF .fail chkF) (specG 20 (byF .fail wordH) (specG 26 (byF .fail wordH) (specG 17 (byF .fail powG) (specG 27 (byF .fail powG) noSpecO)))))
theorem soH_ok : SpecO Try.prog soH := specO_ok (chk_ok 24 (.inl rfl)) (specO_ok (chk_ok 25 (.inr rfl)) (specO_ok (fnBy wordP_ok wordH_eq) (specO_ok (fnBy wordR_ok wordH_eq) (specO_ok powP_ok (specO_ok powR_ok noSpecO_ok)))))
def spH : SpecF C0 Prop := spec1 14 (byF False goH) (spec1 28 (byF False goH) (spec1 21 (flatF readH) (spec1 29 (flatF readH) (spec1 15 (byF False naH) (spec1 30 (byF False naH) (spec1 19 (byF False betH) (spec1 31 (byF False betH) (spec1 16 (flatF alH) (spec1 32 (flatF alH) sp1)))))))))
theorem spH_ok : SpecOk Try.prog spH := spec1_ok (byF_ok (fnBy (go_ok 14 (.inl rfl)) goH_eq)) (spec1_ok (byF_ok (fnBy (go_ok 28 (.inr rfl)) goH_eq)) (spec1_ok (cBy readP_ok readH_eq) (spec1_ok (cBy readR_ok readH_eq) (spec1_ok (byF_ok (fnBy (na_ok 15 (.inl rfl)) naH_eq)) (spec1_ok (byF_ok (fnBy (na_ok 30 (.inr rfl)) naH_eq)) (spec1_ok (byF_ok (fnBy (bet_ok 19 (.inl rfl)) betH_eq)) (spec1_ok (byF_ok (fnBy (bet_ok 31 (.inr rfl)) betH_eq)) (spec1_ok (cBy alP_ok alH_eq) (spec1_ok (cBy alR_ok alH_eq) sp1_ok)))))))))
abbrev cH := evalSS (C := C0) Try.prog spH soH (fun _ _ => 20)
theorem cH_ok (d : Nat) : CallP Try.prog (cH d) := evalSS_ok plain mixed spH_ok soH_ok d
end
end Go.Proofs.Ytedhjmfobbmpoaa
