/-
 AccountOf holds: Of returns the specified account or error for any lay; the call returns true and the arguments read as before. No condition.
-/
import Derived.Test.YtdhakoecjmaebaaGreatZRowAOf
import Derived.Test.YtdhakoecjmaebaaGreatZAwk9
namespace Go.Proofs.YtdhakoecjmaebaaGreat
theorem accountOf_holds : Rows.AccountOfSaid := accountOf_holds_of law40_awake
#print axioms accountOf_holds
end Go.Proofs.YtdhakoecjmaebaaGreat
