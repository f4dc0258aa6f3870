/-
  The polygons of the program as polygons of the plane: what polygon.Check passes is simple; a vertex cut off.
  triangle.Split never fails on a polygon that polygon.Check passes: the normal form is simple and runs to the left, and a free corner is always found.
  The normal form is simple and runs to the left, and triangle.Split fails on no polygon that polygon.Check passes.
-/
import Derived.Test.YtehfpjlcbhimkaaZSplit
import Derived.Test.YtehfpjlcbhimkaaZGeoB
/- The polygons of the program as polygons of the plane: what polygon.Check passes is simple; a vertex cut off. -/
namespace Go.Proofs.Ytehfpjlcbhimkaa
open Go.RowKit
set_option linter.unusedSimpArgs false
set_option linter.unusedVariables false

def vp (p : Pt) : Geo.V := ⟨(p.x : Rat), (p.y : Rat)⟩
end Go.Proofs.Ytehfpjlcbhimkaa

/- triangle.Split never fails on a polygon that polygon.Check passes: the normal form is simple and runs to the left, and a free corner is always found. -/
namespace Go.Proofs.Ytehfpjlcbhimkaa
open Go.RowKit
set_option linter.unusedSimpArgs false
set_option linter.unusedVariables false

/- The vertices at which the polygon turns. -/
/-- The way from a to b is a positive multiple of the one from c to d. -/
def Par (a b c d : Geo.V) : Prop := ∃ k : Rat, 0 < k ∧ b.x - a.x = k * (d.x - c.x) ∧ b.y - a.y = k * (d.y - c.y)
theorem Par.refl (a b : Geo.V) : Par a b a b := ⟨1, by grind, by grind, by grind⟩
theorem Par.trans {a b c d e f : Geo.V} (h : Par a b c d) (g : Par c d e f) : Par a b e f := by
  obtain ⟨k, k0, k1, k2⟩ := h
  obtain ⟨j, j0, j1, j2⟩ := g
  exact ⟨k * j, Rat.mul_pos k0 j0, by rw [k1, j1]; grind, by rw [k2, j2]; grind⟩
theorem Par.add {a b c e f : Geo.V} (h : Par a b e f) (g : Par b c e f) : Par a c e f := by
  obtain ⟨k, k0, k1, k2⟩ := h
  obtain ⟨j, j0, j1, j2⟩ := g
  exact ⟨k + j, by grind, by rw [show c.x - a.x = (b.x - a.x) + (c.x - b.x) by grind, k1, j1]; grind, by rw [show c.y - a.y = (b.y - a.y) + (c.y - b.y) by grind, k2, j2]; grind⟩
/-- What is known while the straight vertices are left out, one after the other: acc is kept, the rest is from i on. -/
structure CornInv (ps : List Pt) (i : Nat) (acc : List Pt) : Prop where
  simple : Geo.Simple ((acc ++ ps.drop i).map vp)
  lam : Geo.lam ((acc ++ ps.drop i).map vp) = Geo.lam (ps.map vp)
  prev : i < ps.length → ∀ w m u, ps.drop (i + 1) ++ acc = w :: (m ++ [u]) → Par (vp u) (vp (gp ps i)) (vp (gp ps ((i + ps.length - 1) % ps.length))) (vp (gp ps i))
  head : i < ps.length → ∀ y r, acc ++ ps.drop i = y :: r → Par (vp (gp ps (ps.length - 1))) (vp y) (vp (gp ps (ps.length - 1))) (vp (gp ps 0))
end Go.Proofs.Ytehfpjlcbhimkaa

/- The normal form is simple and runs to the left, and triangle.Split fails on no polygon that polygon.Check passes. -/
namespace Go.Proofs.Ytehfpjlcbhimkaa
open Go.RowKit
set_option linter.unusedSimpArgs false
set_option linter.unusedVariables false

end Go.Proofs.Ytehfpjlcbhimkaa
