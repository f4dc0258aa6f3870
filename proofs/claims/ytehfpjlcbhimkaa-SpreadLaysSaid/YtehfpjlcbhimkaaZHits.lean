/-
  The walks of overlap.reach and overlap.contact.
  The walk of overlap.Hits.
  The walks of overlap.relation and overlap.Overlap.
-/
import Derived.Test.YtehfpjlcbhimkaaZPoly
import Derived.Test.YtehfpjlcbhimkaaZSplit
/- The walks of overlap.reach and overlap.contact. -/
namespace Go.Proofs.Ytehfpjlcbhimkaa
open Go.RowKit
set_option linter.unusedSimpArgs false
set_option linter.unusedVariables false

/-- The greatest sign of the turns from the side pq to the points of a list. -/
def mostGo (p q : Pt) : List Pt → Int → Int
  | [], m => m
  | v :: l, m => mostGo p q l (max m (sgn (crossI p.x p.y q.x q.y v.x v.y)))
def reachGo (a b : List Pt) : Nat → Nat → Int → Int
  | 0, _, m => m
  | f + 1, i, m => reachGo a b f (i + 1) (min m (mostGo (gp a i) (gp a ((i + 1) % a.length)) b (-1)))
def reachI (a b : List Pt) : Int := reachGo a b a.length 0 1
def contactI (a b : List Pt) : Int := min (reachI a b) (reachI b a)
attribute [local go_sem] ite_min ite_max

/-- overlap.span. -/
def spanLo (a : Int) : Int := max a (-1048576)
def spanHi (a n : Int) : Int := min (if a ≤ 9223372036854775807 - n then a + n else 9223372036854775807) 1048576

end Go.Proofs.Ytehfpjlcbhimkaa

/- The walk of overlap.Hits. -/
namespace Go.Proofs.Ytehfpjlcbhimkaa
open Go.RowKit
set_option linter.unusedSimpArgs false
set_option linter.unusedVariables false

def rectPts (l lo r hi : Int) : List Pt := [⟨l, lo⟩, ⟨r, lo⟩, ⟨r, hi⟩, ⟨l, hi⟩]
def anyHit (cs : List Pt) : List (List Pt) → Bool
  | [] => false
  | t :: l => if contactI t cs = 1 then true else anyHit cs l
/-- What overlap.Hits returns. -/
def hitsR (ps : List Pt) (x y ww h : Int) : Bool × Int :=
  if (splitR ps).2 ≠ 0 then (false, (splitR ps).2)
  else if ww < 1 ∨ h < 1 then (false, 0)
  else if ¬ spanLo x < spanHi x ww ∨ ¬ spanLo y < spanHi y h then (false, 0)
  else (anyHit (rectPts (spanLo x) (spanLo y) (spanHi x ww) (spanHi y h)) (splitR ps).1, 0)

def I64 (n : Int) : Prop := -9223372036854775808 ≤ n ∧ n ≤ 9223372036854775807

theorem pts_four {w : World} {g : Nat} {a b c d : Pt} (h : Blk w g 85 #[.int .i64 a.x, .int .i64 a.y, .int .i64 b.x, .int .i64 b.y, .int .i64 c.x, .int .i64 c.y, .int .i64 d.x, .int .i64 d.y]) : PtsAt w g 0 [a, b, c, d] := by
  intro i p hp
  rcases i with _ | _ | _ | _ | i
  · cases hp; exact ⟨h.cell 0, h.cell 1⟩
  · cases hp; exact ⟨h.cell 2, h.cell 3⟩
  · cases hp; exact ⟨h.cell 4, h.cell 5⟩
  · cases hp; exact ⟨h.cell 6, h.cell 7⟩
  · simp at hp
theorem drop_cons' {α : Type} (l : List α) (k : Nat) (h : k < l.length) : l.drop k = l[k] :: l.drop (k + 1) := List.drop_eq_getElem_cons h

end Go.Proofs.Ytehfpjlcbhimkaa

/- The walks of overlap.relation and overlap.Overlap. -/
namespace Go.Proofs.Ytehfpjlcbhimkaa
open Go.RowKit
set_option linter.unusedSimpArgs false
set_option linter.unusedVariables false

attribute [local go_sem] ite_min ite_max

section
variable (A B : Option Addr) (ca cb : Nat) (a b : List Pt) (w : World)
end

end Go.Proofs.Ytehfpjlcbhimkaa
