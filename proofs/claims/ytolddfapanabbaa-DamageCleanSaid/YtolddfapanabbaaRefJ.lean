/-
  The reference's Hits at the rectangles of flaws: plain facts.
-/
import Derived.Test.YtolddfapanabbaaRefH
namespace Go.Proofs.Ytolddfapanabbaa
open Go.RowKit
set_option linter.unusedSimpArgs false
set_option linter.unusedVariables false

/-- What the reference's Hits returns, at moderate rectangles. -/
def rhitsR (ps : List Pt) (x y ww h : Int) : Bool × Int :=
  if checkI ps ≠ 0 then (false, checkI ps) else if min (x + ww) 1048577 ≤ x ∨ min (y + h) 1048577 ≤ y then (false, 0)
  else (someB [rectPts x y (min (x + ww) 1048577) (min (y + h) 1048577)] (splitR ps).1, 0)

/-- The program's Hits and the reference's agree at the rectangles of flaws. -/
theorem any_some (r : List Pt) : ∀ ts : List (List Pt), anyHit r ts = true ↔ ∃ t ∈ ts, contactI t r = 1 := by
  intro ts
  induction ts with
  | nil => simp [anyHit]
  | cons t l ih =>
    rw [anyHit]
    split
    · rename_i h; simp [h]
    · rename_i h; rw [ih]; simp [h]
theorem out_x {p : Pt} (h : outP p = false) : p.x ≤ 1048576 := by
  unfold outP outsideB at h
  simp only [Bool.or_eq_false_iff, decide_eq_false_iff_not] at h
  omega
theorem rhits_eq {ps : List Pt} {x y ww h : Int} (x1 : -1048576 ≤ x) (x2 : x ≤ 2097152) (y1 : 0 ≤ y) (y2 : y + h ≤ 1048576) (w1 : 1 ≤ ww) (w2 : ww ≤ 1048576) (h1 : 1 ≤ h) : rhitsR ps x y ww h = hitsR ps x y ww h := by
  unfold rhitsR hitsR
  rw [splitR_err]
  by_cases hok : checkI ps = 0
  · simp only [hok, ne_eq, not_true_eq_false, if_false]
    rw [if_neg (show ¬ (ww < 1 ∨ h < 1) by omega)]
    have l1 : spanLo x = x := by unfold spanLo; omega
    have l2 : spanLo y = y := by unfold spanLo; omega
    have l3 : spanHi x ww = min (x + ww) 1048576 := by unfold spanHi; rw [if_pos (by omega)]
    have l4 : spanHi y h = y + h := by unfold spanHi; rw [if_pos (by omega)]; omega
    have l5 : min (y + h) 1048577 = y + h := by omega
    rw [l1, l2, l3, l4, l5]
    have tri := splitR_tri ps
    have hin := splitR_in ps
    generalize (splitR ps).1 = ts at *
    by_cases c1 : x < min (x + ww) 1048576
    · rw [if_neg (show ¬ (min (x + ww) 1048577 ≤ x ∨ y + h ≤ y) by omega), if_neg (show ¬ (¬ x < min (x + ww) 1048576 ∨ ¬ y < y + h) by omega)]
      rw [Prod.mk.injEq]
      refine ⟨?_, rfl⟩
      rw [Bool.eq_iff_iff, some_iff, any_some]
      have key : ∀ t ∈ ts, (contactI t (rectPts x y (min (x + ww) 1048577) (y + h)) = 1 ↔ contactI t (rectPts x y (min (x + ww) 1048576) (y + h)) = 1) := by
        intro t ht
        obtain ⟨a, b, c, rfl, hc⟩ := tri t ht
        have ia := out_x (hin _ ht a (by simp))
        have ib := out_x (hin _ ht b (by simp))
        have ic := out_x (hin _ ht c (by simp))
        rcases Int.lt_or_le (x + ww) 1048577 with q | q
        · rw [show min (x + ww) 1048577 = min (x + ww) 1048576 by omega]
        · rw [show min (x + ww) 1048577 = 1048576 + 1 by omega, show min (x + ww) 1048576 = 1048576 by omega]
          exact (clip_contact hc ia ib ic (by omega) (by omega)).symm
      constructor
      · rintro ⟨t, ht, u, hu, hc⟩
        rw [List.mem_singleton.1 hu] at hc
        exact ⟨t, ht, (key t ht).1 hc⟩
      · rintro ⟨t, ht, hc⟩
        exact ⟨t, ht, _, List.mem_singleton.2 rfl, (key t ht).2 hc⟩
    · rw [if_pos (show ¬ x < min (x + ww) 1048576 ∨ ¬ y < y + h by omega)]
      by_cases c2 : min (x + ww) 1048577 ≤ x ∨ y + h ≤ y
      · rw [if_pos c2]
      · rw [if_neg c2, Prod.mk.injEq]
        refine ⟨?_, rfl⟩
        rw [← Bool.not_eq_true, some_iff]
        rintro ⟨t, ht, u, hu, hc⟩
        rw [List.mem_singleton.1 hu] at hc
        obtain ⟨a, b, c, rfl, _⟩ := tri t ht
        exact far_contact (M := 1048576) (out_x (hin _ ht a (by simp))) (out_x (hin _ ht b (by simp))) (out_x (hin _ ht c (by simp))) (by omega) (by omega) (by omega) hc
  · simp [hok]

end Go.Proofs.Ytolddfapanabbaa
