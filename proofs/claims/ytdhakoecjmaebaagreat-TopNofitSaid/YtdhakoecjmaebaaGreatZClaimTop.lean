/-
  TopNofit holds: for every bed and every list of shapes (W7's guard: at most 4 shapes of at most 6 vertices, else the example alone is asked) the placement of the best order is apart by polygons and by no-fit polygons, on the cloth, on the grain and on the stripes, and its area fits into its length; the call returns true and the arguments read as before. No condition.
-/
import Derived.Test.YtdhakoecjmaebaaGreatZRowTop
import Derived.Test.YtdhakoecjmaebaaGreatZTopA
namespace Go.Proofs.YtdhakoecjmaebaaGreat

theorem topNofit_holds : Rows.TopNofitSaid := topNofit_holds_of top_TopNofit
#print axioms topNofit_holds

end Go.Proofs.YtdhakoecjmaebaaGreat
