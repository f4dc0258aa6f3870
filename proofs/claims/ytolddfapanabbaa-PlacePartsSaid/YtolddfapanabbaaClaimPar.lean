/-
  PlaceParts holds: for every case and number, a placement is valid exactly if it is in the opposite order, and a valid one stays valid without one of its puts; the call returns true and the arguments read as before. No condition.
-/
import Derived.Test.YtolddfapanabbaaRowPar
import Derived.Test.YtolddfapanabbaaEx30
namespace Go.Proofs.Ytolddfapanabbaa

theorem placeParts_holds : Rows.PlacePartsSaid := placeParts_holds_of law30_awake
#print axioms placeParts_holds

end Go.Proofs.Ytolddfapanabbaa
