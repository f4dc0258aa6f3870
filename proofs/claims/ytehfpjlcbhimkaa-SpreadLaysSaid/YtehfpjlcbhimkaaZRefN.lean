/-
  The reference of layer 11: twice the area, the opposite order, the least vertex, the normal form.
-/
import Derived.Test.YtehfpjlcbhimkaaZAppR
import Derived.Test.YtehfpjlcbhimkaaZRef
namespace Go.Proofs.Ytehfpjlcbhimkaa
open Go.RowKit
set_option linter.unusedSimpArgs false
set_option linter.unusedVariables false

def pt2 (p : Pt) : List Value := [.int .i64 p.x, .int .i64 p.y]
theorem pt2_len (p : Pt) : (pt2 p).length = 2 := rfl
theorem pt2_one (p : Pt) : ∀ u ∈ pt2 p, u.oneCell' = true := by
  intro u hu
  simp only [pt2, List.mem_cons, List.not_mem_nil, or_false] at hu
  rcases hu with rfl | rfl <;> rfl
theorem Pts.none {w : World} {A : Option Addr} {l : List Pt} (h : Pts w A l) : A = none → l.length = 0 := by
  intro e
  rcases Nat.eq_zero_or_pos l.length with h0 | h0
  · exact h0
  · obtain ⟨b, o, e', _⟩ := h h0
    rw [e] at e'; cases e'
end Go.Proofs.Ytehfpjlcbhimkaa
