/-
  garmentlaw38.laid in its two cases, and the bounds of the parts of a lay.
-/
import Derived.Test.YtehfpjlcbhimkaaZAwk8
import Derived.Test.YtehfpjlcbhimkaaZSprR
namespace Go.Proofs.Ytehfpjlcbhimkaa
open Go.RowKit
set_option linter.unusedSimpArgs false
set_option linter.unusedVariables false

/-- Bounds of a part. -/
def QdB (q : Qd) : Prop := 0 ≤ q.a ∧ 0 ≤ q.b ∧ q.b < q.c ∧ q.c ≤ 1048576 ∧ 0 ≤ q.d ∧ q.d ≤ 1048576
/-- The lay of a case. -/
theorem laid_ok {c : C8} (h : (spR c).2.2 = 0) : LaidOk c.len c.wd c.ps c.rs c.lots c.plies (spR c).1 ∧ lotsGo c.len c.wd c.ps c.rs c.lots c.plies 0 = some (spR c).1 ∧ (spR c).2.1 = restsFrom (allQ (spR c).1) c.rs c.lots 0 := by
  obtain ⟨_, _, ys0, h0, hLk, hSp⟩ := spread_ok h
  have e : spR c = (ys0, restsFrom (allQ ys0) c.rs c.lots 0, 0) := hSp
  rw [e]
  exact ⟨hLk, h0, rfl⟩
end Go.Proofs.Ytehfpjlcbhimkaa
