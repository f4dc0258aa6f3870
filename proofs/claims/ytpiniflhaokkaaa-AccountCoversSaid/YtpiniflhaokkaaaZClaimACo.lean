/-
  AccountCovers holds: the cloth that is taken, without what lies double, covers the marker once for each ply; the call returns true and the arguments read as before. No condition.
-/
import Derived.Test.YtpiniflhaokkaaaZRowACo
import Derived.Test.YtpiniflhaokkaaaZAwk9
namespace Go.Proofs.Ytpiniflhaokkaaa

theorem accountCovers_holds : Rows.AccountCoversSaid := accountCovers_holds_of law40_awake
#print axioms accountCovers_holds

end Go.Proofs.Ytpiniflhaokkaaa
