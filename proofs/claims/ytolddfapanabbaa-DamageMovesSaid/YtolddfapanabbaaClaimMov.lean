/-
  DamageMoves holds: for every part, roll, polygon and length, moving the cloth of the part and all flaws of its roll by the same length changes nothing; the call returns true and the arguments read as before. No condition.
-/
import Derived.Test.YtolddfapanabbaaRowMov
import Derived.Test.YtolddfapanabbaaEx39
namespace Go.Proofs.Ytolddfapanabbaa

theorem damageMoves_holds : Rows.DamageMovesSaid := damageMoves_holds_of law39_example
#print axioms damageMoves_holds

end Go.Proofs.Ytolddfapanabbaa
