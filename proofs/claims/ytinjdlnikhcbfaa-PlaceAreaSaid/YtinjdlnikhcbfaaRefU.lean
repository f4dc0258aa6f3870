/-
  The references of layers 12 and 28: turns of one point, of a polygon; places within a repeat; garmentref11.Move.
-/
import Derived.Test.YtinjdlnikhcbfaaPl
import Derived.Test.YtinjdlnikhcbfaaRefN
namespace Go.Proofs.Ytinjdlnikhcbfaa
open Go.RowKit
set_option linter.unusedSimpArgs false
set_option linter.unusedVariables false

theorem qm_mod (q : Int) : qm q = q % 4 := by
  have h : (BitVec.ofInt 64 q &&& BitVec.ofInt 64 3).toNat = (BitVec.ofInt 64 q).toNat % 4 := by
    rw [BitVec.toNat_and]
    exact Nat.and_two_pow_sub_one_eq_mod _ 2
  show IntKind.i64.wrap ((BitVec.ofInt 64 q &&& BitVec.ofInt 64 3).toNat : Int) = q % 4
  rw [h, IntWalk.i64_in _ (by omega), BitVec.toNat_ofInt]
  omega
theorem tmod4 (q : Int) : -4 < q.tmod 4 ∧ q.tmod 4 < 4 ∧ (q.tmod 4 < 0 → qm q = q.tmod 4 + 4) ∧ (¬ q.tmod 4 < 0 → qm q = q.tmod 4) := by
  rw [qm_mod]
  rcases Int.le_total 0 q with h | h
  · rw [Int.tmod_eq_emod_of_nonneg h]; omega
  · have h1 : q.tmod 4 = -((-q) % 4) := by
      have h2 : (-q).tmod 4 = -(q.tmod 4) := Int.neg_tmod ..
      rw [Int.tmod_eq_emod_of_nonneg (by omega)] at h2
      omega
    rw [h1]; omega

theorem allow_half (m : Int) (h0 : 0 ≤ m) (h1 : m ≤ 3) : (m % 2 == 0) = (m == 0 || m == 2) := by
  obtain rfl | rfl | rfl | rfl : m = 0 ∨ m = 1 ∨ m = 2 ∨ m = 3 := by omega
  all_goals rfl
end Go.Proofs.Ytinjdlnikhcbfaa
