/-
  PlaceLimits holds: for every bed and number of puts, more than MaxPlaces puts are too long and no puts are valid on any bed; the call returns true and the arguments read as before. No condition.
-/
import Derived.Test.YtolddfapanabbaaRowLim
import Derived.Test.YtolddfapanabbaaEx30
namespace Go.Proofs.Ytolddfapanabbaa

theorem placeLimits_holds : Rows.PlaceLimitsSaid := placeLimits_holds_of law30_awake
#print axioms placeLimits_holds

end Go.Proofs.Ytolddfapanabbaa
