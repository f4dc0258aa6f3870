/-
  PlacePolys holds: for every case, Poly and Extent return what is specified; the call returns true and the arguments read as before. No condition.
-/
import Derived.Test.YtolddfapanabbaaRowPol
import Derived.Test.YtolddfapanabbaaEx30
namespace Go.Proofs.Ytolddfapanabbaa

theorem placePolys_holds : Rows.PlacePolysSaid := placePolys_holds_of law30_awake
#print axioms placePolys_holds

end Go.Proofs.Ytolddfapanabbaa
