/-
  PlaceTurnsRound holds: for every case, a valid placement without stripes, of shapes that may be turned by half a turn, is valid when it is turned by half a turn about the middle of the bed; the call returns true and the arguments read as before. No condition.
-/
import Derived.Test.YtinjdlnikhcbfaaRowTur
import Derived.Test.YtinjdlnikhcbfaaEx30
namespace Go.Proofs.Ytinjdlnikhcbfaa

theorem placeTurnsRound_holds : Rows.PlaceTurnsRoundSaid := placeTurnsRound_holds_of law30_awake
#print axioms placeTurnsRound_holds

end Go.Proofs.Ytinjdlnikhcbfaa
