/-
  PlaceFits holds: for every case and further put, Fits returns the specified error; the call returns true and the arguments read as before. No condition.
-/
import Derived.Test.YtolddfapanabbaaRowFit
import Derived.Test.YtolddfapanabbaaEx30
namespace Go.Proofs.Ytolddfapanabbaa

theorem placeFits_holds : Rows.PlaceFitsSaid := placeFits_holds_of law30_awake
#print axioms placeFits_holds

end Go.Proofs.Ytolddfapanabbaa
