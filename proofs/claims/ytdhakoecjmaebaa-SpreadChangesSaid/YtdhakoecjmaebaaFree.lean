/-
  The walk of triangle.Holds, at a triangle that turns to the left and points that are not outside.
  The walks of triangle.Split's closures: corner, straight.
  The walk of triangle.Split's closure 'free'.
-/
import Derived.Test.YtdhakoecjmaebaaNorm
import Derived.Deep.DeepCutAuto
/- The walk of triangle.Holds, at a triangle that turns to the left and points that are not outside. -/
namespace Go.Proofs.Ytdhakoecjmaebaa
open Go.RowKit
set_option linter.unusedSimpArgs false
set_option linter.unusedVariables false

theorem Blk.new2 (w : World) (o o' : Obj) (t : TypeId) (cs : Array Value) : Blk (((w.alloc o).alloc o').alloc (.cells cs t)) (w.heap.size + 1 + 1) t cs := by
  have := Blk.new ((w.alloc o).alloc o') t cs
  simpa using this

def outP (p : Pt) : Bool := outsideB p.x p.y
theorem out_sm {p : Pt} (h : outP p = false) : SmP p := by
  unfold outP outsideB at h
  simp only [Bool.or_eq_false_iff, decide_eq_false_iff_not] at h
  unfold SmP Sm
  omega
/-- Where q lies in respect of the triangle abc, which turns to the left. -/
def holdsI (a b c q : Pt) : Int :=
  if 0 < crossP a b q ∧ 0 < crossP b c q ∧ 0 < crossP c a q then 1 else if 0 ≤ crossP a b q ∧ 0 ≤ crossP b c q ∧ 0 ≤ crossP c a q then 0 else -1

end Go.Proofs.Ytdhakoecjmaebaa

/- The walks of triangle.Split's closures: corner, straight. -/
namespace Go.Proofs.Ytdhakoecjmaebaa
open Go.RowKit
set_option linter.unusedSimpArgs false
set_option linter.unusedVariables false

/-- The variable in block L holds a slice that reads as ps. -/
def VarPts (w : World) (L : Nat) (ps : List Pt) : Prop := ∃ g c, w.cell? ⟨L, 0, none⟩ = some (.slice (some ⟨g, 0, none⟩) ps.length c) ∧ ps.length ≤ c ∧ PtsAt w g 0 ps
theorem VarPts.later {w w' : World} {L : Nat} {ps : List Pt} (h : VarPts w L ps) (k : Later w w') : VarPts w' L ps :=
  let ⟨g, c, h1, h2, h3⟩ := h; ⟨g, c, k.cell h1, h2, h3.later k⟩

def ptV (p : Pt) : Value := .agg #[.int .i64 p.x, .int .i64 p.y]

/-- The least place from k on that passes the test; -1 if there is none. -/
def firstGo (t : Nat → Bool) : Nat → Nat → Int
  | 0, _ => -1
  | f + 1, k => if t k then k else firstGo t f (k + 1)
theorem first_hit {t : Nat → Bool} {n k : Nat} (h : k < n) (ht : t k = true) : firstGo t (n - k) k = k := by
  obtain ⟨f, hf⟩ : ∃ f, n - k = f + 1 := ⟨n - k - 1, by omega⟩
  rw [hf, firstGo, if_pos ht]
theorem first_miss {t : Nat → Bool} {n k : Nat} (h : k < n) (ht : t k = false) : firstGo t (n - k) k = firstGo t (n - (k + 1)) (k + 1) := by
  obtain ⟨f, hf⟩ : ∃ f, n - k = f + 1 := ⟨n - k - 1, by omega⟩
  rw [hf, firstGo, ht, show n - (k + 1) = f by omega]; rfl

end Go.Proofs.Ytdhakoecjmaebaa

/- The walk of triangle.Split's closure 'free'. -/
namespace Go.Proofs.Ytdhakoecjmaebaa
open Go.RowKit
set_option linter.unusedSimpArgs false
set_option linter.unusedVariables false

/-- No point of the list but a, b, c lies in the closed triangle. -/
def freeGo (a b c : Pt) : List Pt → Bool
  | [] => true
  | q :: l => if (q ≠ a ∧ q ≠ b ∧ q ≠ c) ∧ 0 ≤ holdsI a b c q then false else freeGo a b c l
def freeB (ps : List Pt) (i : Nat) : Bool :=
  decide (0 < bendI ps i) && freeGo (gp ps ((i + ps.length - 1) % ps.length)) (gp ps i) (gp ps ((i + 1) % ps.length)) ps
theorem free_hit {a b c q : Pt} {l : List Pt} (h1 : q ≠ a) (h2 : q ≠ b) (h3 : q ≠ c) (h : 0 ≤ holdsI a b c q) : freeGo a b c (q :: l) = false := by
  rw [freeGo, if_pos ⟨⟨h1, h2, h3⟩, h⟩]
theorem free_miss {a b c q : Pt} {l : List Pt} (h : ¬ ((q ≠ a ∧ q ≠ b ∧ q ≠ c) ∧ 0 ≤ holdsI a b c q)) : freeGo a b c (q :: l) = freeGo a b c l := by
  rw [freeGo, if_neg h]
theorem pt_eq {p q : Pt} : p = q ↔ (p.x = q.x ∧ p.y = q.y) := by
  cases p; cases q; simp
/-- All points are within the limits. -/
def AllIn (ps : List Pt) : Prop := ∀ j, outP (gp ps j) = false

theorem pts_three {w : World} {g : Nat} {a b c : Pt} (h : Blk w g 68 #[.int .i64 a.x, .int .i64 a.y, .int .i64 b.x, .int .i64 b.y, .int .i64 c.x, .int .i64 c.y]) : PtsAt w g 0 [a, b, c] := by
  intro i p hp
  rcases i with _ | _ | _ | i
  · cases hp; exact ⟨h.cell 0, h.cell 1⟩
  · cases hp; exact ⟨h.cell 2, h.cell 3⟩
  · cases hp; exact ⟨h.cell 4, h.cell 5⟩
  · simp at hp

end Go.Proofs.Ytdhakoecjmaebaa
