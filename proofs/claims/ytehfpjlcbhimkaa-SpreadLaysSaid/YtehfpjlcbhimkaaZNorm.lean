/-
  The walks of polygon.bend and polygon.area.
  Points in a row of the call's own: append, reversal.
  The walks of slices.Grow at nil and slices.Concat of two lists of points.
  The walk of polygon.Normal.
  The builtin copy at elements of several cells; make of points; slices of slices of points.
-/
import Derived.Test.YtehfpjlcbhimkaaZPoly
import Derived.Laws.OwnMore
import Derived.Deep.AppendLies
import Derived.OwnWalk
import Derived.Lib.AppendZeros
import Derived.Deep.DeepCutAuto
import Derived.Laws.CopyOwn
import Derived.Laws.MakeOwn
/- The walks of polygon.bend and polygon.area. -/
namespace Go.Proofs.Ytehfpjlcbhimkaa
open Go.RowKit
set_option linter.unusedSimpArgs false
set_option linter.unusedVariables false

def crossP (a b c : Pt) : Int := crossI a.x a.y b.x b.y c.x c.y
/-- The cross product at vertex i. -/
def bendI (ps : List Pt) (i : Nat) : Int := crossP (gp ps ((i + ps.length - 1) % ps.length)) (gp ps i) (gp ps ((i + 1) % ps.length))

/-- Twice the signed area, the rest from vertex i on. -/
def areaGo (ps : List Pt) : Nat → Nat → Int → Int
  | 0, _, s => s
  | f + 1, i, s => areaGo ps f (i + 1) (s + ((gp ps i).x * (gp ps ((i + 1) % ps.length)).y - (gp ps i).y * (gp ps ((i + 1) % ps.length)).x))
def areaI (ps : List Pt) : Int := areaGo ps ps.length 0 0
end Go.Proofs.Ytehfpjlcbhimkaa

/- Points in a row of the call's own: append, reversal. -/
namespace Go.Proofs.Ytehfpjlcbhimkaa
open Go.RowKit
set_option linter.unusedSimpArgs false
set_option linter.unusedVariables false

def flat : List Pt → List Value
  | [] => []
  | p :: l => .int .i64 p.x :: .int .i64 p.y :: flat l
theorem flat_get {l : List Pt} {i : Nat} {p : Pt} (h : l[i]? = some p) : (flat l)[i * 2]? = some (.int .i64 p.x) ∧ (flat l)[i * 2 + 1]? = some (.int .i64 p.y) := by
  induction l generalizing i with
  | nil => simp at h
  | cons q l ih =>
    rcases i with _ | i
    · simp at h; subst h; simp [flat]
    · have := ih (i := i) (by simpa using h)
      rw [show (i + 1) * 2 = i * 2 + 1 + 1 by omega]
      simpa [flat] using this
theorem flat_set (l : List Pt) (i : Nat) (p : Pt) : flat (l.set i p) = ((flat l).set (i * 2) (.int .i64 p.x)).set (i * 2 + 1) (.int .i64 p.y) := by
  induction l generalizing i with
  | nil => simp [flat]
  | cons q l ih =>
    rcases i with _ | i
    · simp [flat]
    · rw [show (i + 1) * 2 = i * 2 + 1 + 1 by omega]
      simp [flat, ih]

/-- v is a slice of a row from base on that nobody else holds, and reads as ps. -/
def Own (w : World) (base : Nat) (v : Value) (ps : List Pt) : Prop := w.ownsRow base 85 2 v ps.length (flat ps)
theorem Own.later {w w' : World} {base : Nat} {v : Value} {ps : List Pt} (h : Own w base v ps) (k : Later w w') : Own w' base v ps := by
  refine ⟨h.1, ?_⟩
  rcases h.2 with ⟨h1, h2⟩ | ⟨g, cap, cur, hv, hb, hg, r⟩
  · exact .inl ⟨h1, h2⟩
  · exact .inr ⟨g, cap, cur, hv, hb, (k.block g (by
      rcases Nat.lt_or_ge g w.heap.size with hlt | hge
      · exact hlt
      · rw [Array.getElem?_eq_none hge] at hg; cases hg)).trans hg, r⟩
theorem Own.form {w : World} {base : Nat} {v : Value} {ps : List Pt} (h : Own w base v ps) : ∃ A c, v = .slice A ps.length c ∧ ps.length ≤ c ∧ c ≤ maxLen ∧ Pts w A ps ∧ (∀ a, A = some a → ∃ g, a = ⟨g, 0, none⟩ ∧ base ≤ g ∧ g < w.heap.size) := by
  rcases h.2 with ⟨h1, h2⟩ | ⟨g, cap, cur, hv, hb, hg, hnc, hcm, hcs, htake⟩
  · exact ⟨none, 0, by rw [h1, h2], by omega, by unfold maxLen; omega, fun hn => by omega, by intro a ha; cases ha⟩
  · have hlt : g < w.heap.size := by
      rcases Nat.lt_or_ge g w.heap.size with hlt | hge
      · exact hlt
      · rw [Array.getElem?_eq_none hge] at hg; cases hg
    refine ⟨some ⟨g, 0, none⟩, cap, hv, hnc, hcm, fun _ => ⟨g, 0, rfl, fun i p hp => ?_⟩, by intro a ha; cases ha; exact ⟨g, rfl, hb, hlt⟩⟩
    obtain ⟨h1, h2⟩ := flat_get hp
    have hi : i < ps.length := by
      rcases Nat.lt_or_ge i ps.length with hh | hh
      · exact hh
      · rw [List.getElem?_eq_none hh] at hp; cases hp
    subst hv
    have hown : w.ownsRow base 85 2 (.slice (some ⟨g, 0, none⟩) ps.length cap) ps.length (flat ps) := h
    rw [Nat.zero_add, hown.cellAt _ (by omega), hown.cellAt _ (by omega)]
    exact ⟨h1, h2⟩

theorem Own.drew {w : World} {base : Nat} {v : Value} {ps : List Pt} (h : Own w base v ps) : Own w.drew base v ps := h
/-- slices.Reverse, from both ends. -/
def revGo : Nat → Nat → Nat → List Pt → List Pt
  | 0, _, _, l => l
  | f + 1, i, j, l => if i < j then revGo f (i + 1) (j - 1) ((l.set i (gp l j)).set j (gp l i)) else l
def revOf (ps : List Pt) : List Pt := revGo ps.length 0 (ps.length - 1) ps

theorem Own.swap {w : World} {base g cap i j : Nat} {l : List Pt} (h : Own w base (.slice (some ⟨g, 0, none⟩) l.length cap) l) (p q : Pt) :
    Own ((((w.setCell ⟨g, i * 2, none⟩ (.int .i64 p.x)).setCell ⟨g, i * 2 + 1, none⟩ (.int .i64 p.y)).setCell ⟨g, j * 2, none⟩ (.int .i64 q.x)).setCell ⟨g, j * 2 + 1, none⟩ (.int .i64 q.y)) base (.slice (some ⟨g, 0, none⟩) l.length cap) ((l.set i p).set j q) ∧
    w.grownBy ((((w.setCell ⟨g, i * 2, none⟩ (.int .i64 p.x)).setCell ⟨g, i * 2 + 1, none⟩ (.int .i64 p.y)).setCell ⟨g, j * 2, none⟩ (.int .i64 q.x)).setCell ⟨g, j * 2 + 1, none⟩ (.int .i64 q.y)) (some g) := by
  obtain ⟨h1, g1⟩ := World.ownsRow.stored (show w.ownsRow base 85 2 _ l.length (flat l) from h) (i * 2) (.int .i64 p.x)
  obtain ⟨h2, g2⟩ := h1.stored (i * 2 + 1) (.int .i64 p.y)
  obtain ⟨h3, g3⟩ := h2.stored (j * 2) (.int .i64 q.x)
  obtain ⟨h4, g4⟩ := h3.stored (j * 2 + 1) (.int .i64 q.y)
  refine ⟨?_, ((g1.trans g2).trans g3).trans g4⟩
  unfold Own
  rw [flat_set, flat_set]
  simpa using h4

end Go.Proofs.Ytehfpjlcbhimkaa

/- The walks of slices.Grow at nil and slices.Concat of two lists of points. -/
namespace Go.Proofs.Ytehfpjlcbhimkaa
open Go.RowKit
set_option linter.unusedSimpArgs false
set_option linter.unusedVariables false

end Go.Proofs.Ytehfpjlcbhimkaa

/- The walk of polygon.Normal. -/
namespace Go.Proofs.Ytehfpjlcbhimkaa
open Go.RowKit
set_option linter.unusedSimpArgs false
set_option linter.unusedVariables false

/-- The vertices at which a polygon turns. -/
def cornGo (ps : List Pt) : Nat → Nat → List Pt → List Pt
  | 0, _, acc => acc
  | f + 1, i, acc => cornGo ps f (i + 1) (if bendI ps i = 0 then acc else acc ++ [gp ps i])
def cornersOf (ps : List Pt) : List Pt := cornGo ps ps.length 0 []
def lessP (a b : Pt) : Bool := decide (a.x < b.x) || (decide (a.x = b.x) && decide (a.y < b.y))
def leastGo (l : List Pt) : Nat → Nat → Nat → Nat
  | 0, _, m => m
  | f + 1, i, m => leastGo l f (i + 1) (if lessP (gp l i) (gp l m) then i else m)
def leastOf (l : List Pt) : Nat := leastGo l l.length 0 0
def ccwOf (ps : List Pt) : List Pt := if areaI ps < 0 then revOf (cornersOf ps) else cornersOf ps
def rotOf (l : List Pt) : List Pt := l.drop (leastOf l) ++ l.take (leastOf l)
def normalOf (ps : List Pt) : List Pt := rotOf (ccwOf ps)

end Go.Proofs.Ytehfpjlcbhimkaa

/- The builtin copy at elements of several cells; make of points; slices of slices of points. -/
namespace Go.Proofs.Ytehfpjlcbhimkaa
open Go.RowKit
set_option linter.unusedSimpArgs false
set_option linter.unusedVariables false

/-- v is a slice that reads as ps. -/
def PolyV (w : World) (v : Value) (ps : List Pt) : Prop := ∃ A c, v = .slice A ps.length c ∧ ps.length ≤ c ∧ c ≤ maxLen ∧ Pts w A ps
theorem PolyV.later {w w' : World} {v : Value} {ps : List Pt} (h : PolyV w v ps) (k : Later w w') : PolyV w' v ps :=
  let ⟨A, c, h1, h2, h3, h4⟩ := h; ⟨A, c, h1, h2, h3, h4.later k⟩
/-- The values vs are slices that read as pss. -/
def PolyVs (w : World) : List Value → List (List Pt) → Prop
  | [], [] => True
  | v :: vs, ps :: pss => PolyV w v ps ∧ PolyVs w vs pss
  | _, _ => False
theorem PolyVs.later {w w' : World} {vs : List Value} {pss : List (List Pt)} (h : PolyVs w vs pss) (k : Later w w') : PolyVs w' vs pss := by
  induction vs generalizing pss with
  | nil => cases pss with
    | nil => trivial
    | cons => exact h.elim
  | cons v vs ih => cases pss with
    | nil => exact h.elim
    | cons ps pss => exact ⟨h.1.later k, ih h.2⟩
theorem PolyVs.length {w : World} {vs : List Value} {pss : List (List Pt)} (h : PolyVs w vs pss) : vs.length = pss.length := by
  induction vs generalizing pss with
  | nil => cases pss with
    | nil => rfl
    | cons => exact h.elim
  | cons v vs ih => cases pss with
    | nil => exact h.elim
    | cons ps pss => simp [ih h.2]
theorem PolyVs.get {w : World} {vs : List Value} {pss : List (List Pt)} (h : PolyVs w vs pss) {i : Nat} {ps : List Pt} (hi : pss[i]? = some ps) : ∃ v, vs[i]? = some v ∧ PolyV w v ps := by
  induction vs generalizing pss i with
  | nil => cases pss with
    | nil => simp at hi
    | cons => exact h.elim
  | cons u vs ih => cases pss with
    | nil => exact h.elim
    | cons qs pss =>
      cases i with
      | zero => simp at hi; subst hi; exact ⟨u, rfl, h.1⟩
      | succ i => exact ih h.2 (i := i) (by simpa using hi)
/-- A slice of that address, as long as pss, reads as pss. -/
def Polys (w : World) (A : Option Addr) (pss : List (List Pt)) : Prop :=
  0 < pss.length → ∃ b o, A = some ⟨b, o, none⟩ ∧ ∀ i ps, pss[i]? = some ps → ∃ v, w.cell? ⟨b, o + i, none⟩ = some v ∧ PolyV w v ps
theorem Polys.later {w w' : World} {A : Option Addr} {pss : List (List Pt)} (h : Polys w A pss) (k : Later w w') : Polys w' A pss := fun hn => by
  obtain ⟨b, o, e, hc⟩ := h hn
  refine ⟨b, o, e, fun i ps hi => ?_⟩
  obtain ⟨v, hv, hp⟩ := hc i ps hi
  exact ⟨v, k.cell hv, hp.later k⟩

end Go.Proofs.Ytehfpjlcbhimkaa
