/-
  SpreadEnough holds: the rolls of a lot suffice for as many plies as each of them would give; the call returns true and the arguments read as before. No condition.
-/
import Derived.Test.YtinjdlnikhcbfaaRowEno
import Derived.Test.YtinjdlnikhcbfaaAwk8
namespace Go.Proofs.Ytinjdlnikhcbfaa

theorem spreadEnough_holds : Rows.SpreadEnoughSaid := spreadEnough_holds_of law38_awake
#print axioms spreadEnough_holds

end Go.Proofs.Ytinjdlnikhcbfaa
