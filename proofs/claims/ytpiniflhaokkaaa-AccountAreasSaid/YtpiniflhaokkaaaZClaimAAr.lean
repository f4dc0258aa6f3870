/-
  AccountAreas holds: pieces and damaged pieces together are the areas of the polygons, once for each ply; without flaws nothing is damaged; a further flaw never increases the pieces; the call returns true and the arguments read as before. No condition.
-/
import Derived.Test.YtpiniflhaokkaaaZRowAAr
import Derived.Test.YtpiniflhaokkaaaZAwk9
namespace Go.Proofs.Ytpiniflhaokkaaa

theorem accountAreas_holds : Rows.AccountAreasSaid := accountAreas_holds_of law40_awake
#print axioms accountAreas_holds

end Go.Proofs.Ytpiniflhaokkaaa
