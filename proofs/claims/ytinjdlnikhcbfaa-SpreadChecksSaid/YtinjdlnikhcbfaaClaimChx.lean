/-
  SpreadChecks holds: Check and Rests return the specified results for any lay; the call returns true and the arguments read as before. No condition.
-/
import Derived.Test.YtinjdlnikhcbfaaRowChx
import Derived.Test.YtinjdlnikhcbfaaAwk8
namespace Go.Proofs.Ytinjdlnikhcbfaa

theorem spreadChecks_holds : Rows.SpreadChecksSaid := spreadChecks_holds_of law38_awake
#print axioms spreadChecks_holds

end Go.Proofs.Ytinjdlnikhcbfaa
