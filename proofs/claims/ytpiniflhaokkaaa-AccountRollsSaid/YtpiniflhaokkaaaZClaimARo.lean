/-
  AccountRolls holds: Rolls returns the specified lengths or error for any lay; the call returns true and the arguments read as before. No condition.
-/
import Derived.Test.YtpiniflhaokkaaaZRowARo
import Derived.Test.YtpiniflhaokkaaaZAwk9
namespace Go.Proofs.Ytpiniflhaokkaaa

theorem accountRolls_holds : Rows.AccountRollsSaid := accountRolls_holds_of law40_awake
#print axioms accountRolls_holds

end Go.Proofs.Ytpiniflhaokkaaa
