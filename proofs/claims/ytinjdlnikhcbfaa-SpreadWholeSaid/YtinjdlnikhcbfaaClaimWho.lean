/-
  SpreadWhole holds: in a lay, every polygon lies along X wholly within one part of every ply; the call returns true and the arguments read as before. No condition.
-/
import Derived.Test.YtinjdlnikhcbfaaRowWho
import Derived.Test.YtinjdlnikhcbfaaAwk8
namespace Go.Proofs.Ytinjdlnikhcbfaa

theorem spreadWhole_holds : Rows.SpreadWholeSaid := spreadWhole_holds_of law38_awake
#print axioms spreadWhole_holds

end Go.Proofs.Ytinjdlnikhcbfaa
