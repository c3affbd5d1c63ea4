/-
  Chapter 18: RegsReset, ways through its rounds. Own work; nothing here is trusted.
-/
import Derived.Test.YtknkemjbikbhgaaCh18Rst0
namespace Go.Proofs.Ytknkemjbikbhgaa
open Go Go.Sx Go.RowKit
set_option maxRecDepth 1000000
set_option maxHeartbeats 8000000
set_option linter.unusedVariables false
noncomputable section

theorem ra_end (l : List Wt) (mb : MB) (r : Rg) (i : Int) : Tr.follow [false] (a8R mb (a8A l mb r i)) =
  some ([decide (i < (↑l.length : Int))],
  (.exit 0, a8A l mb r i)) := by cases mb <;> kernel_rfl
theorem ra_h (l : List Wt) (mb : MB) (r : Rg) (i : Int) : Tr.follow [true, true, true, true, true, false, true, true, true, true] (a8R mb (a8A l mb r i)) =
  some ([decide (i < (↑l.length : Int)),
  decide (r.qs.length ≤ (1000 : Nat)),
  decide (r.cf.length ≤ (1000 : Nat)),
  Sx.inB i l.length,
  decide (i.toNat < l.length),
  isNo (elW l i).snd.fst,
  rV r,
  rng64 (elW l i).fst.snd.snd.fst && inR64 (elW l i).fst.snd.snd.snd,
  decide ((elW l i).snd.snd.length ≤ (1000 : Nat)),
  inR64 (i + (1 : Int))],
  (.normal, a8B l mb r (dnO (elW l i).1.1 (elW l i).1.2.1 (elW l i).1.2.2.1 (elW l i).1.2.2.2 (elW l i).2.2 r) (i + 1))) := by cases mb <;> kernel_rfl
theorem ra_r (l : List Wt) (mb : MB) (r : Rg) (i : Int) : Tr.follow [true, true, true, true, true, true, true, true, true] (a8R mb (a8A l mb r i)) =
  some ([decide (i < (↑l.length : Int)),
  decide (r.qs.length ≤ (1000 : Nat)),
  decide (r.cf.length ≤ (1000 : Nat)),
  Sx.inB i l.length,
  decide (i.toNat < l.length),
  isNo (elW l i).snd.fst,
  rV r,
  rng64 (elW l i).fst.snd.snd.fst && inR64 (elW l i).fst.snd.snd.snd,
  inR64 (i + (1 : Int))],
  (.normal, a8B l mb r (dnO (elW l i).1.1 (elW l i).1.2.1 (elW l i).1.2.2.1 (elW l i).1.2.2.2 [] r) (i + 1))) := by cases mb <;> kernel_rfl
theorem rb_end (l : List Wt) (mb : MB) (r n : Rg) (i : Int) : Tr.follow [false] (a8R mb (a8B l mb r n i)) =
  some ([decide (i < (↑l.length : Int))],
  (.exit 0, a8B l mb r n i)) := by cases mb <;> kernel_rfl
theorem rb_h (l : List Wt) (mb : MB) (r n : Rg) (i : Int) : Tr.follow [true, true, true, true, true, false, true, true, true, true] (a8R mb (a8B l mb r n i)) =
  some ([decide (i < (↑l.length : Int)),
  decide (n.qs.length ≤ (1000 : Nat)),
  decide (n.cf.length ≤ (1000 : Nat)),
  Sx.inB i l.length,
  decide (i.toNat < l.length),
  isNo (elW l i).snd.fst,
  rV n,
  rng64 (elW l i).fst.snd.snd.fst && inR64 (elW l i).fst.snd.snd.snd,
  decide ((elW l i).snd.snd.length ≤ (1000 : Nat)),
  inR64 (i + (1 : Int))],
  (.normal, a8B l mb r (dnO (elW l i).1.1 (elW l i).1.2.1 (elW l i).1.2.2.1 (elW l i).1.2.2.2 (elW l i).2.2 n) (i + 1))) := by cases mb <;> kernel_rfl
theorem rb_r (l : List Wt) (mb : MB) (r n : Rg) (i : Int) : Tr.follow [true, true, true, true, true, true, true, true, true] (a8R mb (a8B l mb r n i)) =
  some ([decide (i < (↑l.length : Int)),
  decide (n.qs.length ≤ (1000 : Nat)),
  decide (n.cf.length ≤ (1000 : Nat)),
  Sx.inB i l.length,
  decide (i.toNat < l.length),
  isNo (elW l i).snd.fst,
  rV n,
  rng64 (elW l i).fst.snd.snd.fst && inR64 (elW l i).fst.snd.snd.snd,
  inR64 (i + (1 : Int))],
  (.normal, a8B l mb r (dnO (elW l i).1.1 (elW l i).1.2.1 (elW l i).1.2.2.1 (elW l i).1.2.2.2 [] n) (i + 1))) := by cases mb <;> kernel_rfl
theorem rc_end (m : List Wt) (r : Rg) (i : Int) : Tr.follow [false] (b8R (b8A m r i)) =
  some ([decide (i < (↑m.length : Int))],
  (.exit 2, b8A m r i)) := by kernel_rfl
theorem rc_h (m : List Wt) (r : Rg) (i : Int) : Tr.follow [true, true, true, true, true, false, true, true, true, true, true, true, true, false, true, true, true, true] (b8R (b8A m r i)) =
  some ([decide (i < (↑m.length : Int)),
  decide (r.qs.length ≤ (1000 : Nat)),
  decide (r.cf.length ≤ (1000 : Nat)),
  Sx.inB i m.length,
  decide (i.toNat < m.length),
  isNo (elW m i).snd.fst,
  rV r,
  rng64 (elW m i).fst.snd.snd.fst && inR64 (elW m i).fst.snd.snd.snd,
  decide ((elW m i).snd.snd.length ≤ (1000 : Nat)),
  decide (r.qs.length ≤ (1000 : Nat)),
  decide (r.cf.length ≤ (1000 : Nat)),
  Sx.inB i m.length,
  decide (i.toNat < m.length),
  isNo (elW m i).snd.fst,
  rV r,
  rng64 (elW m i).fst.snd.snd.fst && inR64 (elW m i).fst.snd.snd.snd,
  decide ((elW m i).snd.snd.length ≤ (1000 : Nat)),
  inR64 (i + (1 : Int))],
  (.normal, b8B m r (dnO (elW m i).1.1 (elW m i).1.2.1 (elW m i).1.2.2.1 (elW m i).1.2.2.2 (elW m i).2.2 r) (i + 1))) := by kernel_rfl
theorem rc_r (m : List Wt) (r : Rg) (i : Int) : Tr.follow [true, true, true, true, true, true, true, true, true, true, true, true, true, true, true, true] (b8R (b8A m r i)) =
  some ([decide (i < (↑m.length : Int)),
  decide (r.qs.length ≤ (1000 : Nat)),
  decide (r.cf.length ≤ (1000 : Nat)),
  Sx.inB i m.length,
  decide (i.toNat < m.length),
  isNo (elW m i).snd.fst,
  rV r,
  rng64 (elW m i).fst.snd.snd.fst && inR64 (elW m i).fst.snd.snd.snd,
  decide (r.qs.length ≤ (1000 : Nat)),
  decide (r.cf.length ≤ (1000 : Nat)),
  Sx.inB i m.length,
  decide (i.toNat < m.length),
  isNo (elW m i).snd.fst,
  rV r,
  rng64 (elW m i).fst.snd.snd.fst && inR64 (elW m i).fst.snd.snd.snd,
  inR64 (i + (1 : Int))],
  (.normal, b8B m r (dnO (elW m i).1.1 (elW m i).1.2.1 (elW m i).1.2.2.1 (elW m i).1.2.2.2 [] r) (i + 1))) := by kernel_rfl
theorem rd_end (m : List Wt) (r n : Rg) (i : Int) : Tr.follow [false] (b8R (b8B m r n i)) =
  some ([decide (i < (↑m.length : Int))],
  (.exit 2, b8B m r n i)) := by kernel_rfl
theorem rd_h (m : List Wt) (r n : Rg) (i : Int) : Tr.follow [true, true, true, true, true, false, true, true, true, true, true, true, true, false, true, true, true, true] (b8R (b8B m r n i)) =
  some ([decide (i < (↑m.length : Int)),
  decide (n.qs.length ≤ (1000 : Nat)),
  decide (n.cf.length ≤ (1000 : Nat)),
  Sx.inB i m.length,
  decide (i.toNat < m.length),
  isNo (elW m i).snd.fst,
  rV n,
  rng64 (elW m i).fst.snd.snd.fst && inR64 (elW m i).fst.snd.snd.snd,
  decide ((elW m i).snd.snd.length ≤ (1000 : Nat)),
  decide (n.qs.length ≤ (1000 : Nat)),
  decide (n.cf.length ≤ (1000 : Nat)),
  Sx.inB i m.length,
  decide (i.toNat < m.length),
  isNo (elW m i).snd.fst,
  rV n,
  rng64 (elW m i).fst.snd.snd.fst && inR64 (elW m i).fst.snd.snd.snd,
  decide ((elW m i).snd.snd.length ≤ (1000 : Nat)),
  inR64 (i + (1 : Int))],
  (.normal, b8B m r (dnO (elW m i).1.1 (elW m i).1.2.1 (elW m i).1.2.2.1 (elW m i).1.2.2.2 (elW m i).2.2 n) (i + 1))) := by kernel_rfl
theorem rd_r (m : List Wt) (r n : Rg) (i : Int) : Tr.follow [true, true, true, true, true, true, true, true, true, true, true, true, true, true, true, true] (b8R (b8B m r n i)) =
  some ([decide (i < (↑m.length : Int)),
  decide (n.qs.length ≤ (1000 : Nat)),
  decide (n.cf.length ≤ (1000 : Nat)),
  Sx.inB i m.length,
  decide (i.toNat < m.length),
  isNo (elW m i).snd.fst,
  rV n,
  rng64 (elW m i).fst.snd.snd.fst && inR64 (elW m i).fst.snd.snd.snd,
  decide (n.qs.length ≤ (1000 : Nat)),
  decide (n.cf.length ≤ (1000 : Nat)),
  Sx.inB i m.length,
  decide (i.toNat < m.length),
  isNo (elW m i).snd.fst,
  rV n,
  rng64 (elW m i).fst.snd.snd.fst && inR64 (elW m i).fst.snd.snd.snd,
  inR64 (i + (1 : Int))],
  (.normal, b8B m r (dnO (elW m i).1.1 (elW m i).1.2.1 (elW m i).1.2.2.1 (elW m i).1.2.2.2 [] n) (i + 1))) := by kernel_rfl

end
end Go.Proofs.Ytknkemjbikbhgaa
