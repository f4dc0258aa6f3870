/-
  SpreadLays holds: Spread returns the specified lay and rests, or the specified error; the call returns true and the arguments read as before. No condition.
-/
import Derived.Test.YtehfpjlcbhimkaaZRowLay
import Derived.Test.YtehfpjlcbhimkaaZAwk8
namespace Go.Proofs.Ytehfpjlcbhimkaa

theorem spreadLays_holds : Rows.SpreadLaysSaid := spreadLays_holds_of law38_awake
#print axioms spreadLays_holds

end Go.Proofs.Ytehfpjlcbhimkaa
