/-
  The walks of overlap.reach and overlap.contact.
  The walk of overlap.Hits.
  The walks of overlap.relation and overlap.Overlap.
-/
import Derived.Test.YtdhakoecjmaebaaPoly
import Derived.Test.YtdhakoecjmaebaaSplit
/- The walks of overlap.reach and overlap.contact. -/
namespace Go.Proofs.Ytdhakoecjmaebaa
open Go.RowKit
set_option linter.unusedSimpArgs false
set_option linter.unusedVariables false

/-- The greatest sign of the turns from the side pq to the points of a list. -/
def mostGo (p q : Pt) : List Pt → Int → Int
  | [], m => m
  | v :: l, m => mostGo p q l (max m (sgn (crossI p.x p.y q.x q.y v.x v.y)))
def reachGo (a b : List Pt) : Nat → Nat → Int → Int
  | 0, _, m => m
  | f + 1, i, m => reachGo a b f (i + 1) (min m (mostGo (gp a i) (gp a ((i + 1) % a.length)) b (-1)))
def reachI (a b : List Pt) : Int := reachGo a b a.length 0 1
def contactI (a b : List Pt) : Int := min (reachI a b) (reachI b a)
theorem reach_step {a b : List Pt} {i : Nat} {m x : Int} (he : x = reachGo a b (a.length - i) i m) (h : i < a.length) :
    x = reachGo a b (a.length - (i + 1)) (i + 1) (min m (mostGo (gp a i) (gp a ((i + 1) % a.length)) b (-1))) := by
  obtain ⟨f, hf'⟩ : ∃ f, a.length - i = f + 1 := ⟨a.length - i - 1, by omega⟩
  rw [he, hf', reachGo, show a.length - (i + 1) = f by omega]

attribute [local go_sem] ite_min ite_max

/-- overlap.span. -/
def spanLo (a : Int) : Int := max a (-1048576)
def spanHi (a n : Int) : Int := min (if a ≤ 9223372036854775807 - n then a + n else 9223372036854775807) 1048576

end Go.Proofs.Ytdhakoecjmaebaa

/- The walk of overlap.Hits. -/
namespace Go.Proofs.Ytdhakoecjmaebaa
open Go.RowKit
set_option linter.unusedSimpArgs false
set_option linter.unusedVariables false

def rectPts (l lo r hi : Int) : List Pt := [⟨l, lo⟩, ⟨r, lo⟩, ⟨r, hi⟩, ⟨l, hi⟩]
def anyHit (cs : List Pt) : List (List Pt) → Bool
  | [] => false
  | t :: l => if contactI t cs = 1 then true else anyHit cs l
/-- What overlap.Hits returns. -/
def hitsR (ps : List Pt) (x y ww h : Int) : Bool × Int :=
  if (splitR ps).2 ≠ 0 then (false, (splitR ps).2)
  else if ww < 1 ∨ h < 1 then (false, 0)
  else if ¬ spanLo x < spanHi x ww ∨ ¬ spanLo y < spanHi y h then (false, 0)
  else (anyHit (rectPts (spanLo x) (spanLo y) (spanHi x ww) (spanHi y h)) (splitR ps).1, 0)

def I64 (n : Int) : Prop := -9223372036854775808 ≤ n ∧ n ≤ 9223372036854775807

theorem span_sm {x n : Int} (h : spanLo x < spanHi x n) : Sm (spanLo x) ∧ Sm (spanHi x n) := by
  have a : -1048576 ≤ spanLo x := by unfold spanLo; omega
  have b : spanHi x n ≤ 1048576 := by unfold spanHi; omega
  unfold Sm
  omega
theorem pts_four {w : World} {g : Nat} {a b c d : Pt} (h : Blk w g 68 #[.int .i64 a.x, .int .i64 a.y, .int .i64 b.x, .int .i64 b.y, .int .i64 c.x, .int .i64 c.y, .int .i64 d.x, .int .i64 d.y]) : PtsAt w g 0 [a, b, c, d] := by
  intro i p hp
  rcases i with _ | _ | _ | _ | i
  · cases hp; exact ⟨h.cell 0, h.cell 1⟩
  · cases hp; exact ⟨h.cell 2, h.cell 3⟩
  · cases hp; exact ⟨h.cell 4, h.cell 5⟩
  · cases hp; exact ⟨h.cell 6, h.cell 7⟩
  · simp at hp
theorem anyHit_hit {cs t : List Pt} {l : List (List Pt)} (h : contactI t cs = 1) : anyHit cs (t :: l) = true := by rw [anyHit, if_pos h]
theorem anyHit_miss {cs t : List Pt} {l : List (List Pt)} (h : contactI t cs ≠ 1) : anyHit cs (t :: l) = anyHit cs l := by rw [anyHit, if_neg h]

theorem drop_cons' {α : Type} (l : List α) (k : Nat) (h : k < l.length) : l.drop k = l[k] :: l.drop (k + 1) := List.drop_eq_getElem_cons h

theorem splitGo_cnt : ∀ f l acc ts, splitGo f l acc = some ts → ts.length ≤ acc.length + f + 1 := by
  intro f
  induction f with
  | zero => intro l acc ts he; rw [splitGo] at he; cases he; simp
  | succ f ih =>
    intro l acc ts he
    rw [splitGo] at he
    split at he
    · cases he; simp
    · split at he
      · have := ih _ _ _ he; omega
      · split at he
        · have := ih _ _ _ he
          simp only [List.length_append, List.length_singleton] at this
          omega
        · cases he
theorem splitR_cnt (ps : List Pt) : (splitR ps).1.length ≤ 41 := by
  unfold splitR
  by_cases hok : checkI ps = 0
  · rw [if_pos hok]
    cases hs : splitOf ps with
    | none => exact Nat.zero_le _
    | some ts =>
      have hlen := normal_len ps
      have hle := corners_le ps
      have h40 := (simple_of_check hok).2.2
      have := splitGo_cnt _ _ _ _ hs
      simp only [List.length_nil] at this
      show ts.length ≤ 41
      omega
  · rw [if_neg hok]; exact Nat.zero_le _

end Go.Proofs.Ytdhakoecjmaebaa

/- The walks of overlap.relation and overlap.Overlap. -/
namespace Go.Proofs.Ytdhakoecjmaebaa
open Go.RowKit
set_option linter.unusedSimpArgs false
set_option linter.unusedVariables false

def relRow (s : List Pt) : List (List Pt) → Int → Int
  | [], m => m
  | t :: l, m => relRow s l (max m (contactI s t))
def relGo (ts : List (List Pt)) : List (List Pt) → Int → Int
  | [], m => m
  | s :: l, m => relGo ts l (relRow s ts m)
/-- What overlap.relation returns. -/
def relationR (a b : List Pt) : Int × Int :=
  if (splitR a).2 ≠ 0 then (0, (splitR a).2) else if (splitR b).2 ≠ 0 then (0, (splitR b).2) else (relGo (splitR b).1 (splitR a).1 (-1), 0)
def overR (a b : List Pt) : Bool × Int := ((relationR a b).2 == 0 && (relationR a b).1 == 1, (relationR a b).2)

attribute [local go_sem] ite_min ite_max

section
variable (A B : Option Addr) (ca cb : Nat) (a b : List Pt) (w : World)
end

end Go.Proofs.Ytdhakoecjmaebaa
