/-
  The symbolic walk of SerialCalls. Own work; nothing here is trusted.
-/
import Derived.Test.YtedhjmfobbmpoaaCh01Forms10
namespace Go.Proofs.Ytedhjmfobbmpoaa
open Go Go.Sx Go.RowKit
set_option maxRecDepth 100000
set_option maxHeartbeats 8000000
set_option linter.unusedVariables false
set_option linter.unusedSimpArgs false
theorem calls_form (a b c : Int) (pa : Int) (pw' : Bool) (qa : Int) (qw : Bool) (y s n t : Int) :
    cH 10 9 (rawL [.int .u16 a, .int .u16 b, .int .u16 c, .agg #[.int .i64 pa, .bool pw'], .agg #[.int .i64 qa, .bool qw], .int .i64 y, .int .i64 s, .int .u64 n, .int .u64 t]) [] 0 isT =

  brc ((a - b) % (65536 : Int) != (a - b) % (65536 : Int)) (false = true)
    (brc
      (!decide (((b - a) % (65536 : Int) - (1 : Int)) % (65536 : Int) < (b - c) % (65536 : Int)) ==
          decide (((b - a) % (65536 : Int) - (1 : Int)) % (65536 : Int) < (b - c) % (65536 : Int)))
      (false = true)
      (brc (ck pa s != ck pa s) (false = true)
        (brc (cI (wordV pa pw') != cI (wordV pa pw')) (false = true)
          (brc (!pw s == pw s) (false = true)
            ((0 : Int) ≤ a ∧
              a < (65536 : Int) ∧
                (0 : Int) ≤ a ∧
                  a < (65536 : Int) ∧
                    brc
                      (!(cI (cAt (0 : Nat) (cAt (0 : Nat) (goV pa y s pw'))) ==
                            cI (cAt (0 : Nat) (cAt (0 : Nat) (goV pa y s pw'))) &&
                          (cB (cAt (1 : Nat) (cAt (0 : Nat) (goV pa y s pw'))) ==
                              cB (cAt (1 : Nat) (cAt (0 : Nat) (goV pa y s pw'))) &&
                            true)))
                      (false = true)
                      (brc (cI (cAt (1 : Nat) (goV pa y s pw')) != cI (cAt (1 : Nat) (goV pa y s pw'))) (false = true)
                        (brc
                          (!(cI (cAt (0 : Nat) (cAt (0 : Nat) (readV a s))) ==
                                cI (cAt (0 : Nat) (cAt (0 : Nat) (readV a s))) &&
                              (cB (cAt (1 : Nat) (cAt (0 : Nat) (readV a s))) ==
                                  cB (cAt (1 : Nat) (cAt (0 : Nat) (readV a s))) &&
                                true)))
                          (false = true)
                          (brc (cI (cAt (1 : Nat) (readV a s)) != cI (cAt (1 : Nat) (readV a s))) (false = true)
                            ((0 : Int) ≤ n ∧
                              n < (18446744073709551616 : Int) ∧
                                (0 : Int) ≤ t ∧
                                  t < (18446744073709551616 : Int) ∧
                                    (0 : Int) ≤ n ∧
                                      n < (18446744073709551616 : Int) ∧
                                        (0 : Int) ≤ t ∧
                                          t < (18446744073709551616 : Int) ∧
                                            brc
                                              (cB (cAt (0 : Nat) (naV pa pw' qa qw y s)) ==
                                                cB (cAt (0 : Nat) (naV pa pw' qa qw y s)))
                                              (brc
                                                (cI (cAt (1 : Nat) (naV pa pw' qa qw y s)) ==
                                                  cI (cAt (1 : Nat) (naV pa pw' qa qw y s)))
                                                (brc
                                                  (cI (cAt (0 : Nat) (betV pa pw' qa qw s)) ==
                                                    cI (cAt (0 : Nat) (betV pa pw' qa qw s)))
                                                  (brc
                                                    (cI (cAt (1 : Nat) (betV pa pw' qa qw s)) ==
                                                      cI (cAt (1 : Nat) (betV pa pw' qa qw s)))
                                                    (brc (cI (cAt (0 : Nat) (alV n t)) == cI (cAt (0 : Nat) (alV n t)))
                                                      ((cI (cAt (1 : Nat) (alV n t)) == cI (cAt (1 : Nat) (alV n t))) =
                                                        true)
                                                      (false = true))
                                                    (false = true))
                                                  (false = true))
                                                (false = true))
                                              (false = true)))))))))) := by kernel_rfl
theorem calls_run (a b c : Int) (pa : Int) (pw' : Bool) (qa : Int) (qw : Bool) (y s n t : Int) (ha : 0 ≤ a ∧ a < 65536) (hn : 0 ≤ n ∧ n < 18446744073709551616) (ht : 0 ≤ t ∧ t < 18446744073709551616) :
    cH 10 9 (rawL [.int .u16 a, .int .u16 b, .int .u16 c, .agg #[.int .i64 pa, .bool pw'], .agg #[.int .i64 qa, .bool qw], .int .i64 y, .int .i64 s, .int .u64 n, .int .u64 t]) [] 0 isT := by
  rw [calls_form]
  simp only [bne_self_eq_false, beq_self_eq_true, brc_true, brc_false, Bool.not_true, Bool.and_self, ha, hn, ht, and_true, true_and]
theorem SerialCalls_walk (a b c : Int) (pa : Int) (pw' : Bool) (qa : Int) (qw : Bool) (y s n t : Int) (ha : (Lit.int .u16 a).wf = true) (_ : (Lit.int .u16 b).wf = true) (_ : (Lit.int .u16 c).wf = true) (_ : (Lit.int .i64 pa).wf = true) (_ : (Lit.int .i64 qa).wf = true) (_ : (Lit.int .i64 y).wf = true) (_ : (Lit.int .i64 s).wf = true) (hn : (Lit.int .u64 n).wf = true) (ht : (Lit.int .u64 t).wf = true) (w : World) :
    Calls Try.prog 9 #[.int .u16 a, .int .u16 b, .int .u16 c, .agg #[.int .i64 pa, .bool pw'], .agg #[.int .i64 qa, .bool qw], .int .i64 y, .int .i64 s, .int .u64 n, .int .u64 t] w fun e w' => e = .returned (.bool true) ∧ Below w.heap.size w w' :=
  run_true (cH_ok 10) (args := [.int .u16 a, .int .u16 b, .int .u16 c, .agg #[.int .i64 pa, .bool pw'], .agg #[.int .i64 qa, .bool qw], .int .i64 y, .int .i64 s, .int .u64 n, .int .u64 t])
    (calls_run a b c pa pw' qa qw y s n t (by have := wf_u16 ha; omega) (by have := wf_u64 hn; omega) (by have := wf_u64 ht; omega)) w
end Go.Proofs.Ytedhjmfobbmpoaa
