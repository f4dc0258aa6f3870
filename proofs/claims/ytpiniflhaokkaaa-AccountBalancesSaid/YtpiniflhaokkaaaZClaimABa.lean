/-
  AccountBalances holds: the cloth that a lay takes is pieces, damaged pieces, splices and waste, none of them negative, and what is used of each roll and its rests are the roll; the call returns true and the arguments read as before. No condition.
-/
import Derived.Test.YtpiniflhaokkaaaZRowABa
import Derived.Test.YtpiniflhaokkaaaZAwk9
namespace Go.Proofs.Ytpiniflhaokkaaa

theorem accountBalances_holds : Rows.AccountBalancesSaid := accountBalances_holds_of law40_awake
#print axioms accountBalances_holds

end Go.Proofs.Ytpiniflhaokkaaa
