/-
  PlaceArea holds: for every case, the polygons of a valid placement lie on the bed, do not overlap, keep their grain and their stripes, end before the bed's length, and have together at most the area of the bed; the call returns true and the arguments read as before. No condition.
-/
import Derived.Test.YtinjdlnikhcbfaaRowAre
import Derived.Test.YtinjdlnikhcbfaaEx30
namespace Go.Proofs.Ytinjdlnikhcbfaa

theorem placeArea_holds : Rows.PlaceAreaSaid := placeArea_holds_of law30_awake
#print axioms placeArea_holds

end Go.Proofs.Ytinjdlnikhcbfaa
