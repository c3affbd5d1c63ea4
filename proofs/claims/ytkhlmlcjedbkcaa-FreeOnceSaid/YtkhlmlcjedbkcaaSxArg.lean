/-
  The frame of a statement: a slice that was handed over. Own work; nothing here is trusted.
-/
import Derived.Test.YtkhlmlcjedbkcaaSxOpen
namespace Go.Sx
open Go.RowKit Go.ChangeShapes Go.WideShapes Go.ChangeAt

variable {P : Program}
/-- What a slice argument is: nil, or elements that stand somewhere. -/
def SArg (c : Codec) (p : c.α → Prop) (W : World) (v : Value) : Prop :=
  v = .slice none 0 0 ∨ ∃ (a : Addr) (cap : Nat) (ts : List c.α), v = .slice (some a) ts.length cap ∧ ts.length ≤ cap ∧ (∀ j y, (c.flat ts)[j]? = some y → W.cell? (a.add j) = some y) ∧ (∀ t ∈ ts, p t) ∧ a.block < W.heap.size
theorem open_sl {H : Type} {enc : TypeId × Value → H} {w : World} {base : Nat} {spare : Nat → Bool} {held : Bool} {r : Reach} {b0 : Nat} {t e : TypeId} {d : Nat} {ks : List FK} {v : Value} {y : DataW H} {ps : List MemPlace}
    (c : Codec) (ht : P.underlying t = some (.slice e)) (hk : kindsOf P d e = some ks) (hc : P.cellsOf e = c.sz) (henc : ∀ l, matchK ks l → ∃ a, c.enc a = l)
    (hval : Value.okWide P w r b0 t v) (hd : DataW.Trod enc P w base spare held t v y ps) : SArg c (fun q => matchK ks (c.enc q)) w v := by
  obtain ⟨a, len, cap, rfl⟩ := Go.WideShapes.okWide_slice ht hval
  obtain ⟨fuel, hf⟩ := hd
  rcases open_view ht hk hc henc hf with h | ⟨a', cap', ts, h, h1, h2, h3⟩
  · left
    have h : [Value.slice a len cap] = [Value.slice none 0 0] := h
    exact List.cons.inj h |>.1
  · right
    have h : [Value.slice a len cap] = [Value.slice (some a') ts.length cap'] := h
    have h := (List.cons.inj h).1
    refine ⟨a', cap', ts, h, h1, h2, h3, ?_⟩
    rw [h] at hval
    exact slice_block ht hval
variable {C : Tab} {W : World}
theorem Rel.base {ρ ba : Asg} {nb n : Nat} {hp : Hp C} {w : World} (h : Rel W ⟨fun _ => False, fun _ => True, ba, nb⟩ ρ hp n w) : Rel W ⟨fun _ => False, fun _ => True, ρ, n⟩ ρ hp n w :=
  ⟨h.os, h.tape, h.out, h.size, h.old, Nat.le_refl _, fun _ _ => rfl, h.fresh, h.one, h.obj, h.sep, h.blkOk, h.prov, h.nn⟩
/-- A call with one slice that was handed over. -/
theorem run_one {g : Nat} {args : List SV} {vals : List Value} {e : TypeId} {a : Addr} {cap : Nat} {ts : List (C e).α} (h : Fn0 P g args [.sl false false e ts] (.raw (.bool true), [])) (hl : ts.length ≤ cap)
    (hc : ∀ j y, ((C e).flat ts)[j]? = some y → W.cell? (a.add j) = some y) (hb : a.block < W.heap.size) (hd : denL (Asg.add (fun _ => none) 0 (.slice (some a) ts.length cap)) args = some vals) :
    Calls P g vals.toArray W fun e w' => e = .returned (.bool true) ∧ Below W.heap.size W w' :=
  run_fn0 h (Rel.base (Rel.see (X := ⟨fun _ => False, fun _ => True, fun _ => none, 0⟩) rel_none (fun i o hi => by simp [numH, find] at hi) hl hc hb)) hd
end Go.Sx
