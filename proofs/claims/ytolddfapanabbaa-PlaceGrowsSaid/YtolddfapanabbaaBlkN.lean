/-
  A new block at an address that is known by an equation.
-/
import Derived.Test.YtolddfapanabbaaRec
namespace Go.Proofs.Ytolddfapanabbaa
open Go.RowKit
theorem Blk.newAt {w : World} {t : TypeId} {cs : Array Value} {g : Nat} (h : w.heap.size = g) : Blk (w.alloc (.cells cs t)) g t cs := by subst h; exact Blk.new w t cs
theorem Blk.at2 {w : World} {o : Obj} {t : TypeId} {cs : Array Value} : Blk ((w.alloc o).alloc (.cells cs t)) (w.heap.size + 1) t cs := Blk.newAt (by simp)
theorem Blk.at3 {w : World} {o o' : Obj} {t : TypeId} {cs : Array Value} : Blk (((w.alloc o).alloc o').alloc (.cells cs t)) (w.heap.size + 1 + 1) t cs := Blk.newAt (by simp)
end Go.Proofs.Ytolddfapanabbaa
