/-
  PlaceGrows, walked.
-/
import Derived.Test.YtinjdlnikhcbfaaOpen30
import Derived.Test.YtinjdlnikhcbfaaPartP
import Derived.Test.YtinjdlnikhcbfaaAppR
namespace Go.Proofs.Ytinjdlnikhcbfaa
open Go.RowKit
set_option linter.unusedSimpArgs false
set_option linter.unusedVariables false

attribute [local go_sem] ite_min ite_max

theorem pu_cells (p : Pu) : p.cells.length = 5 := rfl
theorem pu_one (p : Pu) : ∀ u ∈ p.cells, u.oneCell' = true := by
  intro u hu
  simp only [Pu.cells, List.mem_cons, List.not_mem_nil, or_false] at hu
  rcases hu with rfl | rfl | rfl | rfl | rfl <;> rfl

end Go.Proofs.Ytinjdlnikhcbfaa
