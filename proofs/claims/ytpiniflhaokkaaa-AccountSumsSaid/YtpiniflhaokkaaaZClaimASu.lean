/-
  AccountSums holds: the account of a lay is the sum of those of its plies, each alone; the call returns true and the arguments read as before. No condition.
-/
import Derived.Test.YtpiniflhaokkaaaZRowASu
import Derived.Test.YtpiniflhaokkaaaZAwk9
namespace Go.Proofs.Ytpiniflhaokkaaa

theorem accountSums_holds : Rows.AccountSumsSaid := accountSums_holds_of law40_awake
#print axioms accountSums_holds

end Go.Proofs.Ytpiniflhaokkaaa
