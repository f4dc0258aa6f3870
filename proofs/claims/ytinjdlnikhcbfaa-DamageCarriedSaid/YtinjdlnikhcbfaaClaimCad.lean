/-
  DamageCarried holds: for every lay, rolls, lots and polygons, in a lay that spread.Check accepts each polygon has a carrier of the ply's lot in each ply and the table has no error; the call returns true and the arguments read as before. No condition.
-/
import Derived.Test.YtinjdlnikhcbfaaRowCad
import Derived.Test.YtinjdlnikhcbfaaEx39
namespace Go.Proofs.Ytinjdlnikhcbfaa

theorem damageCarried_holds : Rows.DamageCarriedSaid := damageCarried_holds_of law39_example
#print axioms damageCarried_holds

end Go.Proofs.Ytinjdlnikhcbfaa
