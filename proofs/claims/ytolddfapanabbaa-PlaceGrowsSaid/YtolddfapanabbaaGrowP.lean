/-
  Plain facts on placements: one more put; a larger bed.
-/
import Derived.Test.YtolddfapanabbaaFitsA
namespace Go.Proofs.Ytolddfapanabbaa
open Go.RowKit
set_option linter.unusedSimpArgs false
set_option linter.unusedVariables false

theorem checkGo_zero (b : Bd) (l : List Sh) (puts : List Pu) : ∀ f i, (checkGo b l puts f i = 0 ↔ ∀ k, i ≤ k → k < i + f → fitsR b l (puts.take k) (puts.getD k ⟨0, false, 0, 0, 0⟩) = 0) := by
  intro f
  induction f with
  | zero => intro i; exact ⟨fun _ k h1 h2 => by omega, fun _ => rfl⟩
  | succ f ih =>
    intro i
    rw [checkGo]
    by_cases h : fitsR b l (puts.take i) (puts.getD i ⟨0, false, 0, 0, 0⟩) = 0
    · rw [if_neg (by simpa using h), ih (i + 1)]
      refine ⟨fun hh k h1 h2 => ?_, fun hh k h1 h2 => hh k (by omega) (by omega)⟩
      rcases Nat.lt_or_ge i k with hk | hk
      · exact hh k hk (by omega)
      · rw [show k = i by omega]; exact h
    · rw [if_pos h]
      exact ⟨fun hh => absurd hh h, fun hh => absurd (hh i (Nat.le_refl _) (by omega)) h⟩
theorem pcheck_zero {b : Bd} {l : List Sh} {puts : List Pu} (hn : puts.length ≤ 60) : pcheckR b l puts = 0 ↔ ∀ k, k < puts.length → fitsR b l (puts.take k) (puts.getD k ⟨0, false, 0, 0, 0⟩) = 0 := by
  unfold pcheckR
  rw [if_neg (by omega), checkGo_zero]
  exact ⟨fun h k hk => h k (by omega) (by omega), fun h k _ hk => h k (by omega)⟩
/-- One more put. -/
theorem pcheck_snoc {b : Bd} {l : List Sh} {puts : List Pu} {p : Pu} (hn : puts.length ≤ 59) : pcheckR b l (puts ++ [p]) = 0 ↔ (pcheckR b l puts = 0 ∧ fitsR b l puts p = 0) := by
  rw [pcheck_zero (by simp; omega), pcheck_zero (by omega)]
  constructor
  · intro h
    refine ⟨fun k hk => ?_, ?_⟩
    · have := h k (by simp; omega)
      rw [List.take_append_of_le_length (by omega)] at this
      have hg : (puts ++ [p]).getD k ⟨0, false, 0, 0, 0⟩ = puts.getD k ⟨0, false, 0, 0, 0⟩ := by simp [List.getD_eq_getElem?_getD, List.getElem?_append_left hk]
      rwa [hg] at this
    · have := h puts.length (by simp)
      rw [List.take_left] at this
      have hg : (puts ++ [p]).getD puts.length ⟨0, false, 0, 0, 0⟩ = p := by simp [List.getD_eq_getElem?_getD]
      rwa [hg] at this
  · rintro ⟨h1, h2⟩ k hk
    simp only [List.length_append, List.length_singleton] at hk
    rcases Nat.lt_or_ge k puts.length with hlt | hge
    · rw [List.take_append_of_le_length (by omega)]
      have hg : (puts ++ [p]).getD k ⟨0, false, 0, 0, 0⟩ = puts.getD k ⟨0, false, 0, 0, 0⟩ := by simp [List.getD_eq_getElem?_getD, List.getElem?_append_left hlt]
      rw [hg]
      exact h1 k hlt
    · have : k = puts.length := by omega
      subst this
      rw [List.take_left]
      have hg : (puts ++ [p]).getD puts.length ⟨0, false, 0, 0, 0⟩ = p := by simp [List.getD_eq_getElem?_getD]
      rw [hg]
      exact h2
theorem onGo_iff {bl bw : Int} : ∀ {ps : List Pt}, onGo bl bw ps = true ↔ ∀ p ∈ ps, 0 ≤ p.x ∧ p.x ≤ bl ∧ 0 ≤ p.y ∧ p.y ≤ bw := by
  intro ps
  induction ps with
  | nil => simp [onGo]
  | cons q r ih =>
    rw [onGo]
    split
    · rename_i h
      refine ⟨(fun hh => by cases hh), fun hh => ?_⟩
      have := hh q (List.mem_cons_self ..)
      omega
    · rename_i h
      rw [ih]
      refine ⟨fun hh p hp => ?_, fun hh p hp => hh p (List.mem_cons_of_mem _ hp)⟩
      rcases List.mem_cons.1 hp with rfl | hp
      · omega
      · exact hh p hp
/-- A larger bed with the same repeat is as good. -/
theorem fits_larger {b b' : Bd} {l : List Sh} {puts : List Pu} {p : Pu} (h1 : b.l ≤ b'.l) (h2 : b.w ≤ b'.w) (h3 : b'.l ≤ 1048576) (h4 : b'.w ≤ 1048576) (hx : b'.rx = b.rx) (hy : b'.ry = b.ry) (h : fitsR b l puts p = 0) : fitsR b' l puts p = 0 := by
  unfold fitsR at h ⊢
  split at h
  · cases h
  · rename_i hb
    rw [if_neg (by omega)]
    split at h
    · rename_i he; exact absurd h he
    · rename_i he
      rw [if_neg he]
      split at h
      · rename_i hs; exact absurd h hs
      · rename_i hs
        have hs : selfR b l p = 0 := by simpa using hs
        have hs' : selfR b' l p = 0 := by
          unfold selfR at hs ⊢
          rw [hx, hy]
          split at hs
          · cases hs
          · rename_i ha
            rw [if_neg ha]
            split at hs
            · cases hs
            · rename_i ho
              have : onGo b'.l b'.w (polyR l p).1 = true := by
                rw [onGo_iff]
                intro q hq
                have := (onGo_iff.1 (by simpa using ho)) q hq
                omega
              rw [this, if_neg (by simp)]
              exact hs
        rw [hs', if_neg (by simp)]
        exact h
theorem pcheck_larger {b b' : Bd} {l : List Sh} {puts : List Pu} (hn : puts.length ≤ 60) (h1 : b.l ≤ b'.l) (h2 : b.w ≤ b'.w) (h3 : b'.l ≤ 1048576) (h4 : b'.w ≤ 1048576) (hx : b'.rx = b.rx) (hy : b'.ry = b.ry) (h : pcheckR b l puts = 0) : pcheckR b' l puts = 0 := by
  rw [pcheck_zero hn] at h ⊢
  exact fun k hk => fits_larger h1 h2 h3 h4 hx hy (h k hk)
/-- On a bed that is none nothing is valid but nothing. -/
theorem pcheck_bed {b : Bd} {l : List Sh} {puts : List Pu} (hn : puts.length ≤ 60) (h0 : 0 < puts.length) (h : pcheckR b l puts = 0) : 1 ≤ b.l ∧ b.l ≤ 1048576 ∧ 1 ≤ b.w ∧ b.w ≤ 1048576 := by
  rw [pcheck_zero hn] at h
  have := h 0 h0
  unfold fitsR at this
  split at this
  · cases this
  · omega

end Go.Proofs.Ytolddfapanabbaa
