/-
  No cell of these rows narrows 'for every input' (looked for: loops, veiled, ifaces, maps, wideKeys, modest, calm, conditions, laid).
  DERIVED. THE GIVEN ROWS OF THIS SEAT. 13 by the template 'for every input the law returns true; each argument reads behind the call as it read before'; 0 by the template 'total and deterministic' (their statements: YtknkemjbikbhgaaTotals.lean).
  GIVEN WITH THE SEED: the statements are not yours to turn. If you find one false, say at which input.
  Laid BY PROGRAM, IN A SANDBOX (cutbox-rows.mjs): the forced cells as the released guide's own fill.sh prints them over the translation 45036604d6ea927c… (all of the seat's roots in one cut). By AI agents, Wed Nov 11 2026. No macro, syntax, notation, axiom, sorry.
-/
import Derived.Test.YtknkemjbikbhgaaChecked
import GoSem.Claim
import GoSem.ClaimJoined
import GoSem.ClaimMapViews
import Derived.JoinedTies
import Derived.KernelRfl
namespace Go.Proofs.Ytknkemjbikbhgaa
/- THE CELL 'sum', in the pinned program and in every row, IS THE sha256 OF THE DUMP (.gsa) THAT YtknkemjbikbhgaaProg.lean LOADS. Nothing in Lean hashes anything: it is a label: what it is worth is what the hold of that sum in a sandbox is worth. -/
noncomputable def Try.pinned : Pinned := { name := "ytknkemjbikbhgaa", sum := "45036604d6ea927c10503b02586450ee9ee526da75898a904f0a7bff2e013678", checked := Try.checked }
namespace Rows
def none {H : Type} : Left H := { results := [], args := [] }

/-- 'dumbwaiterlaw06.FeatSets': WHATEVER THE INPUT: true; the input reads as it did. -/
def featSetsSpec : ChangeSpec := { name := "featSets", fn := fun _ => fun
  | [d1, d2, d3] => { results := [.lit (.bool true)], args := [d1, d2, d3] }
  | _ => none }
def featSetsRow : OpenClaim := { program := "ytknkemjbikbhgaa", sum := "45036604d6ea927c10503b02586450ee9ee526da75898a904f0a7bff2e013678", func := "dumbwaiter/dumbwaiterlaw06.FeatSets", spec := "featSets", apart := false }
def FeatSetsSaid : Prop := featSetsRow.holds Try.pinned (OpenSpec.ofChange featSetsSpec)

/-- ITS FALSE NEIGHBOUR: 'it returns false'. Refute it at one input. -/
def featSetsWrong : ChangeSpec := { name := "featSets", fn := fun _ => fun
  | [d1, d2, d3] => { results := [.lit (.bool false)], args := [d1, d2, d3] }
  | _ => none }
def FeatSetsWrongFalsely : Prop := featSetsRow.holds Try.pinned (OpenSpec.ofChange featSetsWrong)

/-- 'dumbwaiterlaw06.FeatBest': WHATEVER THE INPUT: true; the input reads as it did. -/
def featBestSpec : ChangeSpec := { name := "featBest", fn := fun _ => fun
  | [d1, d2, d3, d4] => { results := [.lit (.bool true)], args := [d1, d2, d3, d4] }
  | _ => none }
def featBestRow : OpenClaim := { program := "ytknkemjbikbhgaa", sum := "45036604d6ea927c10503b02586450ee9ee526da75898a904f0a7bff2e013678", func := "dumbwaiter/dumbwaiterlaw06.FeatBest", spec := "featBest", apart := false }
def FeatBestSaid : Prop := featBestRow.holds Try.pinned (OpenSpec.ofChange featBestSpec)

/-- ITS FALSE NEIGHBOUR: 'it returns false'. Refute it at one input. -/
def featBestWrong : ChangeSpec := { name := "featBest", fn := fun _ => fun
  | [d1, d2, d3, d4] => { results := [.lit (.bool false)], args := [d1, d2, d3, d4] }
  | _ => none }
def FeatBestWrongFalsely : Prop := featBestRow.holds Try.pinned (OpenSpec.ofChange featBestWrong)

/-- 'dumbwaiterlaw06.FeatNames': WHATEVER THE INPUT: true; the input reads as it did. -/
def featNamesSpec : ChangeSpec := { name := "featNames", fn := fun _ => fun
  | [] => { results := [.lit (.bool true)], args := [] }
  | _ => none }
def featNamesRow : OpenClaim := { program := "ytknkemjbikbhgaa", sum := "45036604d6ea927c10503b02586450ee9ee526da75898a904f0a7bff2e013678", func := "dumbwaiter/dumbwaiterlaw06.FeatNames", spec := "featNames", apart := false }
def FeatNamesSaid : Prop := featNamesRow.holds Try.pinned (OpenSpec.ofChange featNamesSpec)

/-- ITS FALSE NEIGHBOUR: 'it returns false'. Refute it at one input. -/
def featNamesWrong : ChangeSpec := { name := "featNames", fn := fun _ => fun
  | [] => { results := [.lit (.bool false)], args := [] }
  | _ => none }
def FeatNamesWrongFalsely : Prop := featNamesRow.holds Try.pinned (OpenSpec.ofChange featNamesWrong)

/-- 'dumbwaiterlaw06.FeatBits': WHATEVER THE INPUT: true; the input reads as it did. -/
def featBitsSpec : ChangeSpec := { name := "featBits", fn := fun _ => fun
  | [d1, d2, d3, d4] => { results := [.lit (.bool true)], args := [d1, d2, d3, d4] }
  | _ => none }
def featBitsRow : OpenClaim := { program := "ytknkemjbikbhgaa", sum := "45036604d6ea927c10503b02586450ee9ee526da75898a904f0a7bff2e013678", func := "dumbwaiter/dumbwaiterlaw06.FeatBits", spec := "featBits", apart := false }
def FeatBitsSaid : Prop := featBitsRow.holds Try.pinned (OpenSpec.ofChange featBitsSpec)

/-- ITS FALSE NEIGHBOUR: 'it returns false'. Refute it at one input. -/
def featBitsWrong : ChangeSpec := { name := "featBits", fn := fun _ => fun
  | [d1, d2, d3, d4] => { results := [.lit (.bool false)], args := [d1, d2, d3, d4] }
  | _ => none }
def FeatBitsWrongFalsely : Prop := featBitsRow.holds Try.pinned (OpenSpec.ofChange featBitsWrong)

/-- 'dumbwaiterlaw07.StatusSteps': WHATEVER THE INPUT: true; the input reads as it did. -/
def statusStepsSpec : ChangeSpec := { name := "statusSteps", fn := fun _ => fun
  | [d1, d2] => { results := [.lit (.bool true)], args := [d1, d2] }
  | _ => none }
def statusStepsRow : OpenClaim := { program := "ytknkemjbikbhgaa", sum := "45036604d6ea927c10503b02586450ee9ee526da75898a904f0a7bff2e013678", func := "dumbwaiter/dumbwaiterlaw07.StatusSteps", spec := "statusSteps", unfollowed := true, recurses := true, apart := false }
def StatusStepsSaid : Prop := statusStepsRow.holds Try.pinned (OpenSpec.ofChange statusStepsSpec)

/-- ITS FALSE NEIGHBOUR: 'it returns false'. Refute it at one input. -/
def statusStepsWrong : ChangeSpec := { name := "statusSteps", fn := fun _ => fun
  | [d1, d2] => { results := [.lit (.bool false)], args := [d1, d2] }
  | _ => none }
def StatusStepsWrongFalsely : Prop := statusStepsRow.holds Try.pinned (OpenSpec.ofChange statusStepsWrong)

/-- 'dumbwaiterlaw07.StatusInits': WHATEVER THE INPUT: true; the input reads as it did. -/
def statusInitsSpec : ChangeSpec := { name := "statusInits", fn := fun _ => fun
  | [d1, d2] => { results := [.lit (.bool true)], args := [d1, d2] }
  | _ => none }
def statusInitsRow : OpenClaim := { program := "ytknkemjbikbhgaa", sum := "45036604d6ea927c10503b02586450ee9ee526da75898a904f0a7bff2e013678", func := "dumbwaiter/dumbwaiterlaw07.StatusInits", spec := "statusInits", unfollowed := true, recurses := true, apart := false }
def StatusInitsSaid : Prop := statusInitsRow.holds Try.pinned (OpenSpec.ofChange statusInitsSpec)

/-- ITS FALSE NEIGHBOUR: 'it returns false'. Refute it at one input. -/
def statusInitsWrong : ChangeSpec := { name := "statusInits", fn := fun _ => fun
  | [d1, d2] => { results := [.lit (.bool false)], args := [d1, d2] }
  | _ => none }
def StatusInitsWrongFalsely : Prop := statusInitsRow.holds Try.pinned (OpenSpec.ofChange statusInitsWrong)

/-- 'dumbwaiterlaw07.StatusNames': WHATEVER THE INPUT: true; the input reads as it did. -/
def statusNamesSpec : ChangeSpec := { name := "statusNames", fn := fun _ => fun
  | [] => { results := [.lit (.bool true)], args := [] }
  | _ => none }
def statusNamesRow : OpenClaim := { program := "ytknkemjbikbhgaa", sum := "45036604d6ea927c10503b02586450ee9ee526da75898a904f0a7bff2e013678", func := "dumbwaiter/dumbwaiterlaw07.StatusNames", spec := "statusNames", unfollowed := true, recurses := true, apart := false }
def StatusNamesSaid : Prop := statusNamesRow.holds Try.pinned (OpenSpec.ofChange statusNamesSpec)

/-- ITS FALSE NEIGHBOUR: 'it returns false'. Refute it at one input. -/
def statusNamesWrong : ChangeSpec := { name := "statusNames", fn := fun _ => fun
  | [] => { results := [.lit (.bool false)], args := [] }
  | _ => none }
def StatusNamesWrongFalsely : Prop := statusNamesRow.holds Try.pinned (OpenSpec.ofChange statusNamesWrong)

/-- 'dumbwaiterlaw07.StatusGoes': WHATEVER THE INPUT: true; the input reads as it did. -/
def statusGoesSpec : ChangeSpec := { name := "statusGoes", fn := fun _ => fun
  | [d1, d2, d3] => { results := [.lit (.bool true)], args := [d1, d2, d3] }
  | _ => none }
def statusGoesRow : OpenClaim := { program := "ytknkemjbikbhgaa", sum := "45036604d6ea927c10503b02586450ee9ee526da75898a904f0a7bff2e013678", func := "dumbwaiter/dumbwaiterlaw07.StatusGoes", spec := "statusGoes", unfollowed := true, recurses := true, apart := false }
def StatusGoesSaid : Prop := statusGoesRow.holds Try.pinned (OpenSpec.ofChange statusGoesSpec)

/-- ITS FALSE NEIGHBOUR: 'it returns false'. Refute it at one input. -/
def statusGoesWrong : ChangeSpec := { name := "statusGoes", fn := fun _ => fun
  | [d1, d2, d3] => { results := [.lit (.bool false)], args := [d1, d2, d3] }
  | _ => none }
def StatusGoesWrongFalsely : Prop := statusGoesRow.holds Try.pinned (OpenSpec.ofChange statusGoesWrong)

/-- 'dumbwaiterlaw18.RegsConfig': WHATEVER THE INPUT: true; the input reads as it did. -/
def regsConfigSpec : ChangeSpec := { name := "regsConfig", fn := fun _ => fun
  | [d1, d2, d3] => { results := [.lit (.bool true)], args := [d1, d2, d3] }
  | _ => none }
def regsConfigRow : OpenClaim := { program := "ytknkemjbikbhgaa", sum := "45036604d6ea927c10503b02586450ee9ee526da75898a904f0a7bff2e013678", func := "dumbwaiter/dumbwaiterlaw18.RegsConfig", spec := "regsConfig", unfollowed := true, recurses := true, apart := false }
def RegsConfigSaid : Prop := regsConfigRow.holds Try.pinned (OpenSpec.ofChange regsConfigSpec)

/-- ITS FALSE NEIGHBOUR: 'it returns false'. Refute it at one input. -/
def regsConfigWrong : ChangeSpec := { name := "regsConfig", fn := fun _ => fun
  | [d1, d2, d3] => { results := [.lit (.bool false)], args := [d1, d2, d3] }
  | _ => none }
def RegsConfigWrongFalsely : Prop := regsConfigRow.holds Try.pinned (OpenSpec.ofChange regsConfigWrong)

/-- 'dumbwaiterlaw18.RegsApart': WHATEVER THE INPUT: true; the input reads as it did. -/
def regsApartSpec : ChangeSpec := { name := "regsApart", fn := fun _ => fun
  | [d1, d2, d3, d4] => { results := [.lit (.bool true)], args := [d1, d2, d3, d4] }
  | _ => none }
def regsApartRow : OpenClaim := { program := "ytknkemjbikbhgaa", sum := "45036604d6ea927c10503b02586450ee9ee526da75898a904f0a7bff2e013678", func := "dumbwaiter/dumbwaiterlaw18.RegsApart", spec := "regsApart", unfollowed := true, recurses := true, apart := false }
def RegsApartSaid : Prop := regsApartRow.holds Try.pinned (OpenSpec.ofChange regsApartSpec)

/-- ITS FALSE NEIGHBOUR: 'it returns false'. Refute it at one input. -/
def regsApartWrong : ChangeSpec := { name := "regsApart", fn := fun _ => fun
  | [d1, d2, d3, d4] => { results := [.lit (.bool false)], args := [d1, d2, d3, d4] }
  | _ => none }
def RegsApartWrongFalsely : Prop := regsApartRow.holds Try.pinned (OpenSpec.ofChange regsApartWrong)

/-- 'dumbwaiterlaw18.RegsStay': WHATEVER THE INPUT: true; the input reads as it did. -/
def regsStaySpec : ChangeSpec := { name := "regsStay", fn := fun _ => fun
  | [d1, d2, d3, d4] => { results := [.lit (.bool true)], args := [d1, d2, d3, d4] }
  | _ => none }
def regsStayRow : OpenClaim := { program := "ytknkemjbikbhgaa", sum := "45036604d6ea927c10503b02586450ee9ee526da75898a904f0a7bff2e013678", func := "dumbwaiter/dumbwaiterlaw18.RegsStay", spec := "regsStay", unfollowed := true, recurses := true, apart := false }
def RegsStaySaid : Prop := regsStayRow.holds Try.pinned (OpenSpec.ofChange regsStaySpec)

/-- ITS FALSE NEIGHBOUR: 'it returns false'. Refute it at one input. -/
def regsStayWrong : ChangeSpec := { name := "regsStay", fn := fun _ => fun
  | [d1, d2, d3, d4] => { results := [.lit (.bool false)], args := [d1, d2, d3, d4] }
  | _ => none }
def RegsStayWrongFalsely : Prop := regsStayRow.holds Try.pinned (OpenSpec.ofChange regsStayWrong)

/-- 'dumbwaiterlaw18.RegsNames': WHATEVER THE INPUT: true; the input reads as it did. -/
def regsNamesSpec : ChangeSpec := { name := "regsNames", fn := fun _ => fun
  | [] => { results := [.lit (.bool true)], args := [] }
  | _ => none }
def regsNamesRow : OpenClaim := { program := "ytknkemjbikbhgaa", sum := "45036604d6ea927c10503b02586450ee9ee526da75898a904f0a7bff2e013678", func := "dumbwaiter/dumbwaiterlaw18.RegsNames", spec := "regsNames", unfollowed := true, recurses := true, apart := false }
def RegsNamesSaid : Prop := regsNamesRow.holds Try.pinned (OpenSpec.ofChange regsNamesSpec)

/-- ITS FALSE NEIGHBOUR: 'it returns false'. Refute it at one input. -/
def regsNamesWrong : ChangeSpec := { name := "regsNames", fn := fun _ => fun
  | [] => { results := [.lit (.bool false)], args := [] }
  | _ => none }
def RegsNamesWrongFalsely : Prop := regsNamesRow.holds Try.pinned (OpenSpec.ofChange regsNamesWrong)

/-- 'dumbwaiterlaw18.RegsReset': WHATEVER THE INPUT: true; the input reads as it did. -/
def regsResetSpec : ChangeSpec := { name := "regsReset", fn := fun _ => fun
  | [d1, d2, d3, d4, d5] => { results := [.lit (.bool true)], args := [d1, d2, d3, d4, d5] }
  | _ => none }
def regsResetRow : OpenClaim := { program := "ytknkemjbikbhgaa", sum := "45036604d6ea927c10503b02586450ee9ee526da75898a904f0a7bff2e013678", func := "dumbwaiter/dumbwaiterlaw18.RegsReset", spec := "regsReset", unfollowed := true, recurses := true, apart := false }
def RegsResetSaid : Prop := regsResetRow.holds Try.pinned (OpenSpec.ofChange regsResetSpec)

/-- ITS FALSE NEIGHBOUR: 'it returns false'. Refute it at one input. -/
def regsResetWrong : ChangeSpec := { name := "regsReset", fn := fun _ => fun
  | [d1, d2, d3, d4, d5] => { results := [.lit (.bool false)], args := [d1, d2, d3, d4, d5] }
  | _ => none }
def RegsResetWrongFalsely : Prop := regsResetRow.holds Try.pinned (OpenSpec.ofChange regsResetWrong)

/- THE SECOND FORM. 'bulk': how many values and letters a reading holds, each counted each time it is reached (what is shared counts as often as it is met; a slice's spare places count too). A statement '..UptoSaid' is the law's where the arguments, and the package variables that the reading takes, are together of bulk at most 1048576: NARROWER than '..Said'. Prove '..Said' where nothing that the law and all that it calls make is longer than what came in: it says more and counts as full. Else prove '..UptoSaid'. A law counts once. -/
mutual
def uptoBulk {H : Type} : DataW H → Nat
  | .lit (.string bytes) => bytes.length + 1
  | .lit _ => 1
  | .nil => 1
  | .ptr d => uptoBulk d + 1
  | .slice elems spare => uptoBulkAll elems + uptoBulkAll spare + 1
  | .agg parts => uptoBulkAll parts + 1
  | .iface _ d => uptoBulk d + 1
  | .map entries => uptoBulkEntries entries + 1
  | .held _ => 1
def uptoBulkAll {H : Type} : List (DataW H) → Nat
  | [] => 0
  | d :: r => uptoBulk d + uptoBulkAll r
def uptoBulkEntries {H : Type} : List (Lit × DataW H) → Nat
  | [] => 0
  | x :: r => uptoBulkEntry x + uptoBulkEntries r
def uptoBulkEntry {H : Type} : Lit × DataW H → Nat
  | (.string bytes, d) => bytes.length + uptoBulk d + 1
  | (_, d) => uptoBulk d + 1
 end
def uptoSmall : (H : Type) → List (DataW H) → Bool := fun _ ds => decide (uptoBulkAll ds ≤ 1048576)
def OpenSpec.upto (s : _root_.Go.ChangeSpec) : _root_.Go.OpenSpec := { _root_.Go.OpenSpec.ofChange s with cond := some uptoSmall }

/-- 'dumbwaiterlaw06.FeatSets', WHERE WHAT IT READS IS OF BULK AT MOST 1048576: true; the input reads as it did. -/
def featSetsUptoRow : OpenClaim := { program := "ytknkemjbikbhgaa", sum := "45036604d6ea927c10503b02586450ee9ee526da75898a904f0a7bff2e013678", func := "dumbwaiter/dumbwaiterlaw06.FeatSets", spec := "featSets", apart := false, narrowed := true }
def FeatSetsUptoSaid : Prop := featSetsUptoRow.holds Try.pinned (OpenSpec.upto featSetsSpec)

/-- 'dumbwaiterlaw06.FeatBest', WHERE WHAT IT READS IS OF BULK AT MOST 1048576: true; the input reads as it did. -/
def featBestUptoRow : OpenClaim := { program := "ytknkemjbikbhgaa", sum := "45036604d6ea927c10503b02586450ee9ee526da75898a904f0a7bff2e013678", func := "dumbwaiter/dumbwaiterlaw06.FeatBest", spec := "featBest", apart := false, narrowed := true }
def FeatBestUptoSaid : Prop := featBestUptoRow.holds Try.pinned (OpenSpec.upto featBestSpec)

/-- 'dumbwaiterlaw06.FeatNames', WHERE WHAT IT READS IS OF BULK AT MOST 1048576: true; the input reads as it did. -/
def featNamesUptoRow : OpenClaim := { program := "ytknkemjbikbhgaa", sum := "45036604d6ea927c10503b02586450ee9ee526da75898a904f0a7bff2e013678", func := "dumbwaiter/dumbwaiterlaw06.FeatNames", spec := "featNames", apart := false, narrowed := true }
def FeatNamesUptoSaid : Prop := featNamesUptoRow.holds Try.pinned (OpenSpec.upto featNamesSpec)

/-- 'dumbwaiterlaw06.FeatBits', WHERE WHAT IT READS IS OF BULK AT MOST 1048576: true; the input reads as it did. -/
def featBitsUptoRow : OpenClaim := { program := "ytknkemjbikbhgaa", sum := "45036604d6ea927c10503b02586450ee9ee526da75898a904f0a7bff2e013678", func := "dumbwaiter/dumbwaiterlaw06.FeatBits", spec := "featBits", apart := false, narrowed := true }
def FeatBitsUptoSaid : Prop := featBitsUptoRow.holds Try.pinned (OpenSpec.upto featBitsSpec)

/-- 'dumbwaiterlaw07.StatusSteps', WHERE WHAT IT READS IS OF BULK AT MOST 1048576: true; the input reads as it did. -/
def statusStepsUptoRow : OpenClaim := { program := "ytknkemjbikbhgaa", sum := "45036604d6ea927c10503b02586450ee9ee526da75898a904f0a7bff2e013678", func := "dumbwaiter/dumbwaiterlaw07.StatusSteps", spec := "statusSteps", unfollowed := true, recurses := true, apart := false, narrowed := true }
def StatusStepsUptoSaid : Prop := statusStepsUptoRow.holds Try.pinned (OpenSpec.upto statusStepsSpec)

/-- 'dumbwaiterlaw07.StatusInits', WHERE WHAT IT READS IS OF BULK AT MOST 1048576: true; the input reads as it did. -/
def statusInitsUptoRow : OpenClaim := { program := "ytknkemjbikbhgaa", sum := "45036604d6ea927c10503b02586450ee9ee526da75898a904f0a7bff2e013678", func := "dumbwaiter/dumbwaiterlaw07.StatusInits", spec := "statusInits", unfollowed := true, recurses := true, apart := false, narrowed := true }
def StatusInitsUptoSaid : Prop := statusInitsUptoRow.holds Try.pinned (OpenSpec.upto statusInitsSpec)

/-- 'dumbwaiterlaw07.StatusNames', WHERE WHAT IT READS IS OF BULK AT MOST 1048576: true; the input reads as it did. -/
def statusNamesUptoRow : OpenClaim := { program := "ytknkemjbikbhgaa", sum := "45036604d6ea927c10503b02586450ee9ee526da75898a904f0a7bff2e013678", func := "dumbwaiter/dumbwaiterlaw07.StatusNames", spec := "statusNames", unfollowed := true, recurses := true, apart := false, narrowed := true }
def StatusNamesUptoSaid : Prop := statusNamesUptoRow.holds Try.pinned (OpenSpec.upto statusNamesSpec)

/-- 'dumbwaiterlaw07.StatusGoes', WHERE WHAT IT READS IS OF BULK AT MOST 1048576: true; the input reads as it did. -/
def statusGoesUptoRow : OpenClaim := { program := "ytknkemjbikbhgaa", sum := "45036604d6ea927c10503b02586450ee9ee526da75898a904f0a7bff2e013678", func := "dumbwaiter/dumbwaiterlaw07.StatusGoes", spec := "statusGoes", unfollowed := true, recurses := true, apart := false, narrowed := true }
def StatusGoesUptoSaid : Prop := statusGoesUptoRow.holds Try.pinned (OpenSpec.upto statusGoesSpec)

/-- 'dumbwaiterlaw18.RegsConfig', WHERE WHAT IT READS IS OF BULK AT MOST 1048576: true; the input reads as it did. -/
def regsConfigUptoRow : OpenClaim := { program := "ytknkemjbikbhgaa", sum := "45036604d6ea927c10503b02586450ee9ee526da75898a904f0a7bff2e013678", func := "dumbwaiter/dumbwaiterlaw18.RegsConfig", spec := "regsConfig", unfollowed := true, recurses := true, apart := false, narrowed := true }
def RegsConfigUptoSaid : Prop := regsConfigUptoRow.holds Try.pinned (OpenSpec.upto regsConfigSpec)

/-- 'dumbwaiterlaw18.RegsApart', WHERE WHAT IT READS IS OF BULK AT MOST 1048576: true; the input reads as it did. -/
def regsApartUptoRow : OpenClaim := { program := "ytknkemjbikbhgaa", sum := "45036604d6ea927c10503b02586450ee9ee526da75898a904f0a7bff2e013678", func := "dumbwaiter/dumbwaiterlaw18.RegsApart", spec := "regsApart", unfollowed := true, recurses := true, apart := false, narrowed := true }
def RegsApartUptoSaid : Prop := regsApartUptoRow.holds Try.pinned (OpenSpec.upto regsApartSpec)

/-- 'dumbwaiterlaw18.RegsStay', WHERE WHAT IT READS IS OF BULK AT MOST 1048576: true; the input reads as it did. -/
def regsStayUptoRow : OpenClaim := { program := "ytknkemjbikbhgaa", sum := "45036604d6ea927c10503b02586450ee9ee526da75898a904f0a7bff2e013678", func := "dumbwaiter/dumbwaiterlaw18.RegsStay", spec := "regsStay", unfollowed := true, recurses := true, apart := false, narrowed := true }
def RegsStayUptoSaid : Prop := regsStayUptoRow.holds Try.pinned (OpenSpec.upto regsStaySpec)

/-- 'dumbwaiterlaw18.RegsNames', WHERE WHAT IT READS IS OF BULK AT MOST 1048576: true; the input reads as it did. -/
def regsNamesUptoRow : OpenClaim := { program := "ytknkemjbikbhgaa", sum := "45036604d6ea927c10503b02586450ee9ee526da75898a904f0a7bff2e013678", func := "dumbwaiter/dumbwaiterlaw18.RegsNames", spec := "regsNames", unfollowed := true, recurses := true, apart := false, narrowed := true }
def RegsNamesUptoSaid : Prop := regsNamesUptoRow.holds Try.pinned (OpenSpec.upto regsNamesSpec)

/-- 'dumbwaiterlaw18.RegsReset', WHERE WHAT IT READS IS OF BULK AT MOST 1048576: true; the input reads as it did. -/
def regsResetUptoRow : OpenClaim := { program := "ytknkemjbikbhgaa", sum := "45036604d6ea927c10503b02586450ee9ee526da75898a904f0a7bff2e013678", func := "dumbwaiter/dumbwaiterlaw18.RegsReset", spec := "regsReset", unfollowed := true, recurses := true, apart := false, narrowed := true }
def RegsResetUptoSaid : Prop := regsResetUptoRow.holds Try.pinned (OpenSpec.upto regsResetSpec)

end Rows
end Go.Proofs.Ytknkemjbikbhgaa
