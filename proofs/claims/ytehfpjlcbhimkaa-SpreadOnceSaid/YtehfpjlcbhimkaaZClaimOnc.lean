/-
  SpreadOnce holds: a lay has the plies that are wanted, of cloth of the rolls of the lot, no cloth twice, and what is used and left of each roll is the roll; the call returns true and the arguments read as before. No condition.
-/
import Derived.Test.YtehfpjlcbhimkaaZRowOnc
import Derived.Test.YtehfpjlcbhimkaaZAwk8
namespace Go.Proofs.Ytehfpjlcbhimkaa

theorem spreadOnce_holds : Rows.SpreadOnceSaid := spreadOnce_holds_of law38_awake
#print axioms spreadOnce_holds

end Go.Proofs.Ytehfpjlcbhimkaa
