/-
  A byte's bounds.
-/
import Derived.Test.YtdhakoecjmaebaaBase
namespace Go.Proofs.Ytdhakoecjmaebaa
open Go.RowKit

theorem u8_bd {n : Int} (h : (Lit.int .u8 n).wf = true) : 0 ≤ n ∧ n ≤ 255 := by
  simp [Lit.wf, IntKind.min, IntKind.max, IntKind.signed, IntKind.bits] at h
  omega

end Go.Proofs.Ytdhakoecjmaebaa
