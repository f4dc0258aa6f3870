/-
  DamageClean holds: for every lay, rolls and polygons, without flaws nothing is damaged, and a flaw over a whole roll damages what it carries; the call returns true and the arguments read as before. No condition.
-/
import Derived.Test.YtolddfapanabbaaRowCle
import Derived.Test.YtolddfapanabbaaEx39
namespace Go.Proofs.Ytolddfapanabbaa

theorem damageClean_holds : Rows.DamageCleanSaid := damageClean_holds_of law39_example
#print axioms damageClean_holds

end Go.Proofs.Ytolddfapanabbaa
