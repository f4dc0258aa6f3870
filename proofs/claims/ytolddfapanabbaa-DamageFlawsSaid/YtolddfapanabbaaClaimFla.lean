/-
  DamageFlaws holds: for every ply, rolls and polygon, a piece is damaged exactly if one of its roll's flaws, taken alone, damages it; the call returns true and the arguments read as before. No condition.
-/
import Derived.Test.YtolddfapanabbaaRowFla
import Derived.Test.YtolddfapanabbaaEx39
namespace Go.Proofs.Ytolddfapanabbaa

theorem damageFlaws_holds : Rows.DamageFlawsSaid := damageFlaws_holds_of law39_example
#print axioms damageFlaws_holds

end Go.Proofs.Ytolddfapanabbaa
