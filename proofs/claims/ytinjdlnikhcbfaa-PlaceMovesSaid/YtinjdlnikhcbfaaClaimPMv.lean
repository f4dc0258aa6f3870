/-
  PlaceMoves holds: for every case and two numbers, a valid placement that is moved by multiples of the repeat is valid on a bed that is larger by as much; the call returns true and the arguments read as before. No condition.
-/
import Derived.Test.YtinjdlnikhcbfaaRowPMv
import Derived.Test.YtinjdlnikhcbfaaEx30
namespace Go.Proofs.Ytinjdlnikhcbfaa

theorem placeMoves_holds : Rows.PlaceMovesSaid := placeMoves_holds_of law30_awake
#print axioms placeMoves_holds

end Go.Proofs.Ytinjdlnikhcbfaa
