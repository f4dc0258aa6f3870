/-
  Plain facts on the normal form: how long it is, that its points are the polygon's, that a simple polygon has a corner.
-/
import Derived.Test.YtolddfapanabbaaSplitB
namespace Go.Proofs.Ytolddfapanabbaa
open Go.RowKit
set_option linter.unusedSimpArgs false
set_option linter.unusedVariables false

theorem cornGo_all {Q : Pt → Prop} (ps : List Pt) (hps : ∀ j, Q (gp ps j)) : ∀ f i acc, (∀ p ∈ acc, Q p) → ∀ p ∈ cornGo ps f i acc, Q p := by
  intro f
  induction f with
  | zero => intro i acc h; exact h
  | succ f ih =>
    intro i acc h
    rw [cornGo]
    apply ih
    split
    · exact h
    · intro p hp
      rcases List.mem_append.1 hp with hp | hp
      · exact h p hp
      · rw [List.mem_singleton.1 hp]; exact hps i
theorem cornGo_len (ps : List Pt) : ∀ f i acc, (cornGo ps f i acc).length ≤ acc.length + f := by
  intro f
  induction f with
  | zero => intro i acc; simp [cornGo]
  | succ f ih =>
    intro i acc
    rw [cornGo]
    have := ih (i + 1) (if bendI ps i = 0 then acc else acc ++ [gp ps i])
    split at this
    · rename_i h; rw [if_pos h]; omega
    · rename_i h; rw [if_neg h]; simp at this; omega
theorem gp_all {Q : Pt → Prop} {l : List Pt} (h0 : Q ⟨0, 0⟩) (h : ∀ p ∈ l, Q p) (j : Nat) : Q (gp l j) := by
  by_cases hj : j < l.length
  · rw [gp_eq hj]; exact h _ (List.getElem_mem hj)
  · unfold gp
    rw [List.getD_eq_getElem?_getD, List.getElem?_eq_none (by omega), Option.getD_none]
    exact h0
theorem revGo_all {Q : Pt → Prop} (h0 : Q ⟨0, 0⟩) : ∀ f i j l, (∀ p ∈ l, Q p) → ∀ p ∈ revGo f i j l, Q p := by
  intro f
  induction f with
  | zero => intro i j l h; exact h
  | succ f ih =>
    intro i j l h
    rw [revGo]
    split
    · apply ih
      intro p hp
      rcases List.mem_or_eq_of_mem_set hp with hp | rfl
      · rcases List.mem_or_eq_of_mem_set hp with hp | rfl
        · exact h p hp
        · exact gp_all h0 h _
      · exact gp_all h0 h _
    · exact h
theorem revGo_len : ∀ f i j l, (revGo f i j l).length = l.length := by
  intro f
  induction f with
  | zero => intro i j l; rfl
  | succ f ih =>
    intro i j l
    rw [revGo]
    split
    · rw [ih]; simp
    · rfl
theorem ccw_len (ps : List Pt) : (ccwOf ps).length = (cornersOf ps).length := by
  unfold ccwOf revOf
  split
  · exact revGo_len _ _ _ _
  · rfl
theorem rot_len (l : List Pt) : (rotOf l).length = l.length := by
  unfold rotOf
  simp
  omega
theorem normal_len (ps : List Pt) : (normalOf ps).length = (cornersOf ps).length := by rw [normalOf, rot_len, ccw_len]
theorem corners_le (ps : List Pt) : (cornersOf ps).length ≤ ps.length := by
  have := cornGo_len ps ps.length 0 []
  simpa [cornersOf] using this
theorem normal_all {Q : Pt → Prop} (h0 : Q ⟨0, 0⟩) (ps : List Pt) (h : ∀ p ∈ ps, Q p) : ∀ p ∈ normalOf ps, Q p := by
  have h1 : ∀ p ∈ cornersOf ps, Q p := cornGo_all ps (gp_all h0 h) _ _ _ (by intro p hp; cases hp)
  have h2 : ∀ p ∈ ccwOf ps, Q p := by
    unfold ccwOf
    split
    · exact revGo_all h0 _ _ _ _ h1
    · exact h1
  intro p hp
  unfold normalOf rotOf at hp
  rcases List.mem_append.1 hp with hp | hp
  · exact h2 p (List.mem_of_mem_drop hp)
  · exact h2 p (List.mem_of_mem_take hp)
theorem normal_in {ps : List Pt} (h : checkI ps = 0) : AllIn (normalOf ps) := by
  have h1 : ∀ p ∈ ps, outP p = false := by
    unfold checkI at h
    split at h
    · cases h
    · split at h
      · cases h
      · split at h
        · cases h
        · rename_i h'
          intro p hp
          have h'' : ps.any (fun p => outsideB p.x p.y) = false := by simpa using h'
          rw [List.any_eq_false] at h''
          simpa [outP] using h'' p hp
  exact gp_all (Q := fun p => outP p = false) rfl (normal_all (Q := fun p => outP p = false) rfl ps h1)

end Go.Proofs.Ytolddfapanabbaa
