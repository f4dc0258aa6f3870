/-
  DamageCarriers holds: for every ply and every polygon, Carrier returns the specified part or error, the call returns true and the arguments read as before. No condition.
-/
import Derived.Test.YtolddfapanabbaaRowCar
import Derived.Test.YtolddfapanabbaaEx39
namespace Go.Proofs.Ytolddfapanabbaa

theorem damageCarriers_holds : Rows.DamageCarriersSaid := damageCarriers_holds_of law39_example
#print axioms damageCarriers_holds

end Go.Proofs.Ytolddfapanabbaa
