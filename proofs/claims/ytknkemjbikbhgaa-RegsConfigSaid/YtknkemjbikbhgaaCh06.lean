/-
  Chapter 6: what is common to its statements: the examples hold.
-/
import Derived.Test.YtknkemjbikbhgaaSxC
import Derived.Test.YtknkemjbikbhgaaProg
namespace Go.Proofs.Ytknkemjbikbhgaa
open Go Go.Sx Go.RowKit
set_option maxRecDepth 100000
set_option maxHeartbeats 2000000
set_option linter.unusedVariables false

/-- Elements that are pairs of numbers. -/
def cPair : Codec where
  α := Int × Int
  ag := true
  sz := 2
  enc x := [.int .i64 x.1, .int .i64 x.2]
  dec l := match l with
    | [.raw (.int .i64 x), .raw (.int .i64 y)] => some (x, y)
    | _ => none
  d := (0, 0)
  pos := by decide
  len := fun _ => rfl
  one := fun _ v h => by simp at h; rcases h with h | h <;> (subst h; rfl)
  law := fun cs a h => by
    split at h
    · cases h; rfl
    · cases h
  sg := fun h => by cases h
/-- Elements that are a bit and a function without captures. -/
def cRule : Codec where
  α := Int × Nat
  ag := true
  sz := 2
  enc x := [.int .u8 x.1, .func (.func x.2) #[] #[]]
  dec l := match l with
    | [.raw (.int .u8 x), .raw (.func (.func g) a c)] => match a.toList, c.toList with
      | [], [] => some (x, g)
      | _, _ => none
    | _ => none
  d := (0, 0)
  pos := by decide
  len := fun _ => rfl
  one := fun _ v h => by simp at h; rcases h with h | h <;> (subst h; rfl)
  law := fun cs a h => by
    split at h
    · split at h
      · rename_i x g a c ha hc
        cases h
        simp at ha hc; subst ha; subst hc
        rfl
      · cases h
    · cases h
  sg := fun h => by cases h
/-- Acts of a driver: kind, word, set, and whether the device breaks ahead. -/
def cAct : Codec where
  α := Int × Int × Int × Bool
  ag := true
  sz := 4
  enc x := [.int .i64 x.1, .int .u8 x.2.1, .int .u64 x.2.2.1, .bool x.2.2.2]
  dec l := match l with
    | [.raw (.int .i64 a), .raw (.int .u8 b), .raw (.int .u64 c), .raw (.bool d)] => some (a, b, c, d)
    | _ => none
  d := (0, 0, 0, false)
  pos := by decide
  len := fun _ => rfl
  one := fun _ v h => by simp at h; rcases h with h | h | h | h <;> (subst h; rfl)
  law := fun cs a h => by
    split at h
    · cases h; rfl
    · cases h
  sg := fun h => by cases h
/-- Queues: Max, Size, Ready, and three places. -/
def cQueue : Codec where
  α := Int × Int × Bool × Int × Int × Int
  ag := true
  sz := 6
  enc x := [.int .i64 x.1, .int .i64 x.2.1, .bool x.2.2.1, .int .u64 x.2.2.2.1, .int .u64 x.2.2.2.2.1, .int .u64 x.2.2.2.2.2]
  dec l := match l with
    | [.raw (.int .i64 a), .raw (.int .i64 b), .raw (.bool c), .raw (.int .u64 d), .raw (.int .u64 e), .raw (.int .u64 f)] => some (a, b, c, d, e, f)
    | _ => none
  d := (0, 0, false, 0, 0, 0)
  pos := by decide
  len := fun _ => rfl
  one := fun _ v h => by simp at h; rcases h with h | h | h | h | h | h <;> (subst h; rfl)
  law := fun cs a h => by
    split at h
    · cases h; rfl
    · cases h
  sg := fun h => by cases h
/-- Acts, with no bytes. -/
def cAct18 : Codec where
  α := Int × Int × Int × Int
  ag := true
  sz := 5
  enc x := [.int .i64 x.1, .int .i64 x.2.1, .int .u64 x.2.2.1, .int .i64 x.2.2.2, .slice none 0 0]
  dec l := match l with
    | [.raw (.int .i64 a0), .raw (.int .i64 a1), .raw (.int .u64 a2), .raw (.int .i64 a3), .raw (.slice none 0 0)] => some (a0, a1, a2, a3)
    | _ => none
  d := (0, 0, 0, 0)
  pos := by decide
  len := fun _ => rfl
  one := fun _ v h => by simp at h; rcases h with h | h | h | h | h <;> (subst h; rfl)
  law := fun cs a h => by
    split at h
    · cases h; rfl
    · cases h
  sg := fun h => by cases h
/-- Bytes. -/
def cByte : Codec := { cInt .u8 with byt := some ⟨fun x => x, fun x => x, fun _ => rfl, fun _ => rfl⟩ }
def C6 : Tab := fun t => match t with
  | 4 => cBool
  | 5 => cByte
  | 71 => cAct18
  | 58 => cAct
  | 77 => cQueue
  | 89 => cPair
  | 94 => cRule
  | _ => cInt .i64
theorem plain : Plain Try.prog := plain_of (by kernel_rfl)
abbrev cS := callS (C := C6) Try.prog noSpec noDraw (fun _ _ => 0)
theorem cS_ok (d : Nat) : CallP Try.prog (cS d) := callS_sound plain noSpec_ok noDraw_ok d
abbrev cU := callS (C := C6) Try.prog noSpec noDraw (fun _ _ => 20)
theorem cU_ok (d : Nat) : CallP Try.prog (cU d) := callS_sound plain noSpec_ok noDraw_ok d
theorem mixed : Try.prog.follows .mixedOrders = true := by kernel_rfl
theorem lives06_run : cU 10 16 [] [] 0 isT = (true = true) := by kernel_rfl
set_option maxRecDepth 100000 in
theorem lives06_walk (w : World) : Calls Try.prog 16 #[] w fun e w' => e = .returned (.bool true) ∧ Below w.heap.size w w' :=
  run_true (cU_ok 10) (args := []) (cast lives06_run.symm rfl) w
end Go.Proofs.Ytknkemjbikbhgaa
