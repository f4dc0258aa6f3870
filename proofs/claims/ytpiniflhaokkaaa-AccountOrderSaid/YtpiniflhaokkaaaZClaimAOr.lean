/-
  AccountOrder holds: the account does not depend on the order of the plies; the call returns true and the arguments read as before. No condition.
-/
import Derived.Test.YtpiniflhaokkaaaZRowAOr
import Derived.Test.YtpiniflhaokkaaaZAwk9
namespace Go.Proofs.Ytpiniflhaokkaaa

theorem accountOrder_holds : Rows.AccountOrderSaid := accountOrder_holds_of law40_awake
#print axioms accountOrder_holds

end Go.Proofs.Ytpiniflhaokkaaa
