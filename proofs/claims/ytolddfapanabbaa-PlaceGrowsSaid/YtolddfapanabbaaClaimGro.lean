/-
  PlaceGrows holds: for every case and put, the puts and one more are valid exactly if the puts are and the further one fits, and a valid placement is valid on a longer and wider bed; the call returns true and the arguments read as before. No condition.
-/
import Derived.Test.YtolddfapanabbaaRowGro
import Derived.Test.YtolddfapanabbaaEx30
namespace Go.Proofs.Ytolddfapanabbaa

theorem placeGrows_holds : Rows.PlaceGrowsSaid := placeGrows_holds_of law30_awake
#print axioms placeGrows_holds

end Go.Proofs.Ytolddfapanabbaa
