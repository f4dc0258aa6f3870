/-
  DamageHits holds: for every ply, rolls and polygon, Hit returns the specified result or error; the call returns true and the arguments read as before. No condition.
-/
import Derived.Test.YtolddfapanabbaaRowHit
import Derived.Test.YtolddfapanabbaaEx39
namespace Go.Proofs.Ytolddfapanabbaa

theorem damageHits_holds : Rows.DamageHitsSaid := damageHits_holds_of law39_example
#print axioms damageHits_holds

end Go.Proofs.Ytolddfapanabbaa
