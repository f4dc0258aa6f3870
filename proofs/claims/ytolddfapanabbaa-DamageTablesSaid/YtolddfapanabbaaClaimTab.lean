/-
  DamageTables holds: for every lay, rolls and polygons, Table returns the specified table or error; the call returns true and the arguments read as before. No condition.
-/
import Derived.Test.YtolddfapanabbaaRowTab
import Derived.Test.YtolddfapanabbaaEx39
namespace Go.Proofs.Ytolddfapanabbaa

theorem damageTables_holds : Rows.DamageTablesSaid := damageTables_holds_of law39_example
#print axioms damageTables_holds

end Go.Proofs.Ytolddfapanabbaa
