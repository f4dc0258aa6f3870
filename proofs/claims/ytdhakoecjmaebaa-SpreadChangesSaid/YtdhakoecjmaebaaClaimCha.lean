/-
  SpreadChanges holds: a lay is not accepted with a ply of another lot, without a part of one of its plies, or with a ply twice; the call returns true and the arguments read as before. No condition.
-/
import Derived.Test.YtdhakoecjmaebaaRowCha
import Derived.Test.YtdhakoecjmaebaaAwk8
namespace Go.Proofs.Ytdhakoecjmaebaa

theorem spreadChanges_holds : Rows.SpreadChangesSaid := spreadChanges_holds_of law38_awake
#print axioms spreadChanges_holds

end Go.Proofs.Ytdhakoecjmaebaa
