/-
  The reference of layer 13: the neighbours of a vertex, free corners, the triangles of a polygon.
-/
import Derived.Test.YtdhakoecjmaebaaRefN
import Derived.Test.YtdhakoecjmaebaaMeetP
import Derived.Test.YtdhakoecjmaebaaSimEq
namespace Go.Proofs.Ytdhakoecjmaebaa
open Go.RowKit
set_option linter.unusedSimpArgs false
set_option linter.unusedVariables false

/-- A new triangle. -/
def RetTri (p q r : Pt) (w : World) (e : Ending) (w' : World) : Prop := ∃ g, e = .returned (.slice (some ⟨g, 0, none⟩) 3 3) ∧ PtsAt w' g 0 [p, q, r] ∧ w.heap.size ≤ g ∧ Later w w'
theorem tri_cells {w : World} {g : Nat} {p q r : Pt} (h : PtsAt w g 0 [p, q, r]) : w.cell? ⟨g, 0, none⟩ = some (.int .i64 p.x) ∧ w.cell? ⟨g, 1, none⟩ = some (.int .i64 p.y) ∧ w.cell? ⟨g, 2, none⟩ = some (.int .i64 q.x) ∧ w.cell? ⟨g, 3, none⟩ = some (.int .i64 q.y) ∧ w.cell? ⟨g, 4, none⟩ = some (.int .i64 r.x) ∧ w.cell? ⟨g, 5, none⟩ = some (.int .i64 r.y) :=
  ⟨(h 0 _ rfl).1, (h 0 _ rfl).2, (h 1 _ rfl).1, (h 1 _ rfl).2, (h 2 _ rfl).1, (h 2 _ rfl).2⟩

/-- The least sign so far. -/
def plk (a b c q : Pt) : Nat → Int
  | 0 => 1
  | 1 => min 1 (sgn (crossP a b q))
  | 2 => min (min 1 (sgn (crossP a b q))) (sgn (crossP b c q))
  | _ => min (min (min 1 (sgn (crossP a b q))) (sgn (crossP b c q))) (sgn (crossP c a q))
theorem plk_holds (a b c q : Pt) : plk a b c q 3 = holdsI a b c q := by
  show min (min (min 1 (sgn (crossP a b q))) (sgn (crossP b c q))) (sgn (crossP c a q)) = holdsI a b c q
  unfold holdsI sgn
  omega
attribute [local go_sem] ite_min ite_max

end Go.Proofs.Ytdhakoecjmaebaa
