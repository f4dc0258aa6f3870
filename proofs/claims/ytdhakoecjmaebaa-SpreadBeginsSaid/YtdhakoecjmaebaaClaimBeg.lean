/-
  SpreadBegins holds: with one ply less of the last lot the lay is a beginning, and a roll that is added at the end changes nothing; the call returns true and the arguments read as before. No condition.
-/
import Derived.Test.YtdhakoecjmaebaaRowBeg
import Derived.Test.YtdhakoecjmaebaaAwk8
namespace Go.Proofs.Ytdhakoecjmaebaa

theorem spreadBegins_holds : Rows.SpreadBeginsSaid := spreadBegins_holds_of law38_awake
#print axioms spreadBegins_holds

end Go.Proofs.Ytdhakoecjmaebaa
