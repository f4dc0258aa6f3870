/-
  The reference of layer 11: twice the area, the opposite order, the least vertex, the normal form.
-/
import Derived.Test.YtdhakoecjmaebaaAppR
import Derived.Test.YtdhakoecjmaebaaRef
namespace Go.Proofs.Ytdhakoecjmaebaa
open Go.RowKit
set_option linter.unusedSimpArgs false
set_option linter.unusedVariables false

def pt2 (p : Pt) : List Value := [.int .i64 p.x, .int .i64 p.y]
theorem pt2_len (p : Pt) : (pt2 p).length = 2 := rfl
theorem pt2_one (p : Pt) : ∀ u ∈ pt2 p, u.oneCell' = true := by
  intro u hu
  simp only [pt2, List.mem_cons, List.not_mem_nil, or_false] at hu
  rcases hu with rfl | rfl <;> rfl
theorem flat_pt2 (l : List Pt) : flat l = l.flatMap pt2 := by
  induction l with
  | nil => rfl
  | cons p l ih => rw [flat, ih]; rfl
theorem slt_spot : SlT Try.prog 82 68 2 := SlT.mk (z := .agg #[.int .i64 0, .int .i64 0]) (by_ := 16) Try.underlying82 (by kernel_rfl) (by omega) rfl (by omega)
theorem Pts.src {w : World} {A : Option Addr} {l : List Pt} (h : Pts w A l) : SrcAt w A (l.flatMap pt2) := by rw [← flat_pt2]; exact src_cells h
theorem Pts.none {w : World} {A : Option Addr} {l : List Pt} (h : Pts w A l) : A = none → l.length = 0 := by
  intro e
  rcases Nat.eq_zero_or_pos l.length with h0 | h0
  · exact h0
  · obtain ⟨b, o, e', _⟩ := h h0
    rw [e] at e'; cases e'
theorem OwnR.pts {w : World} {base : Nat} {v : Value} {l : List Pt} (h : OwnR w base 68 2 pt2 v l) : ∃ A c, v = .slice A l.length c ∧ l.length ≤ c ∧ c ≤ maxLen ∧ Pts w A l := by
  obtain ⟨A, c, e, h1, h2, h3⟩ := h.form pt2_len
  refine ⟨A, c, e, h1, h2, fun hn => ?_⟩
  obtain ⟨g, rfl, _, _, _, hx⟩ := h3 hn
  refine ⟨g, 0, rfl, fun i p hp => ⟨hx i p hp 0 _ rfl, hx i p hp 1 _ rfl⟩⟩

theorem least_first {l : List Pt} (h : 0 < l.length) : leastOf l = leastGo l (l.length - 1) 1 0 := by
  unfold leastOf
  obtain ⟨f, hf⟩ : ∃ f, l.length = f + 1 := ⟨l.length - 1, by omega⟩
  rw [hf, leastGo]
  have : lessP (gp l 0) (gp l 0) = false := by unfold lessP; simp
  rw [this]
  rfl

/-- The reference's normal form. -/
def rnormalOf (ps : List Pt) : List Pt := rotOf (if areaI (cornersOf ps) < 0 then (cornersOf ps).reverse else cornersOf ps)

end Go.Proofs.Ytdhakoecjmaebaa
