/-
  PlaceChecks holds: for every case, Check returns the specified error; the call returns true and the arguments read as before. No condition.
-/
import Derived.Test.YtolddfapanabbaaGreatRowChk
import Derived.Test.YtolddfapanabbaaGreatEx30
namespace Go.Proofs.YtolddfapanabbaaGreat

theorem placeChecks_holds : Rows.PlaceChecksSaid := placeChecks_holds_of law30_awake
#print axioms placeChecks_holds

end Go.Proofs.YtolddfapanabbaaGreat
