/-
  SpreadSplices holds: the cloth that a lay uses is the marker's length for each ply and the overlap of each joint; the call returns true and the arguments read as before. No condition.
-/
import Derived.Test.YtinjdlnikhcbfaaRowSpl
import Derived.Test.YtinjdlnikhcbfaaAwk8
namespace Go.Proofs.Ytinjdlnikhcbfaa

theorem spreadSplices_holds : Rows.SpreadSplicesSaid := spreadSplices_holds_of law38_awake
#print axioms spreadSplices_holds

end Go.Proofs.Ytinjdlnikhcbfaa
