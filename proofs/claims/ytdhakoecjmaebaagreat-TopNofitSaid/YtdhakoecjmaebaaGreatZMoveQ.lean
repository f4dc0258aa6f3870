/-
  Plain facts on placements: one more put; a larger bed.
  Plain facts on placements: whether one is valid is a matter of its puts and its pairs, whatever their order.
-/
import Derived.Test.YtdhakoecjmaebaaGreatZFits
import Derived.Test.YtdhakoecjmaebaaGreatZMoveP
/- Plain facts on placements: one more put; a larger bed. -/
namespace Go.Proofs.YtdhakoecjmaebaaGreat
open Go.RowKit
set_option linter.unusedSimpArgs false
set_option linter.unusedVariables false

theorem checkGo_zero (b : Bd) (l : List Sh) (puts : List Pu) : ∀ f i, (checkGo b l puts f i = 0 ↔ ∀ k, i ≤ k → k < i + f → fitsR b l (puts.take k) (puts.getD k ⟨0, false, 0, 0, 0⟩) = 0) := by
  intro f
  induction f with
  | zero => intro i; exact ⟨fun _ k h1 h2 => by omega, fun _ => rfl⟩
  | succ f ih =>
    intro i
    rw [checkGo]
    by_cases h : fitsR b l (puts.take i) (puts.getD i ⟨0, false, 0, 0, 0⟩) = 0
    · rw [if_neg (by simpa using h), ih (i + 1)]
      refine ⟨fun hh k h1 h2 => ?_, fun hh k h1 h2 => hh k (by omega) (by omega)⟩
      rcases Nat.lt_or_ge i k with hk | hk
      · exact hh k hk (by omega)
      · rw [show k = i by omega]; exact h
    · rw [if_pos h]
      exact ⟨fun hh => absurd hh h, fun hh => absurd (hh i (Nat.le_refl _) (by omega)) h⟩
theorem pcheck_zero {b : Bd} {l : List Sh} {puts : List Pu} (hn : puts.length ≤ 60) : pcheckR b l puts = 0 ↔ ∀ k, k < puts.length → fitsR b l (puts.take k) (puts.getD k ⟨0, false, 0, 0, 0⟩) = 0 := by
  unfold pcheckR
  rw [if_neg (by omega), checkGo_zero]
  exact ⟨fun h k hk => h k (by omega) (by omega), fun h k _ hk => h k (by omega)⟩
/-- One more put. -/
theorem pcheck_snoc {b : Bd} {l : List Sh} {puts : List Pu} {p : Pu} (hn : puts.length ≤ 59) : pcheckR b l (puts ++ [p]) = 0 ↔ (pcheckR b l puts = 0 ∧ fitsR b l puts p = 0) := by
  rw [pcheck_zero (by simp; omega), pcheck_zero (by omega)]
  constructor
  · intro h
    refine ⟨fun k hk => ?_, ?_⟩
    · have := h k (by simp; omega)
      rw [List.take_append_of_le_length (by omega)] at this
      have hg : (puts ++ [p]).getD k ⟨0, false, 0, 0, 0⟩ = puts.getD k ⟨0, false, 0, 0, 0⟩ := by simp [List.getD_eq_getElem?_getD, List.getElem?_append_left hk]
      rwa [hg] at this
    · have := h puts.length (by simp)
      rw [List.take_left] at this
      have hg : (puts ++ [p]).getD puts.length ⟨0, false, 0, 0, 0⟩ = p := by simp [List.getD_eq_getElem?_getD]
      rwa [hg] at this
  · rintro ⟨h1, h2⟩ k hk
    simp only [List.length_append, List.length_singleton] at hk
    rcases Nat.lt_or_ge k puts.length with hlt | hge
    · rw [List.take_append_of_le_length (by omega)]
      have hg : (puts ++ [p]).getD k ⟨0, false, 0, 0, 0⟩ = puts.getD k ⟨0, false, 0, 0, 0⟩ := by simp [List.getD_eq_getElem?_getD, List.getElem?_append_left hlt]
      rw [hg]
      exact h1 k hlt
    · have : k = puts.length := by omega
      subst this
      rw [List.take_left]
      have hg : (puts ++ [p]).getD puts.length ⟨0, false, 0, 0, 0⟩ = p := by simp [List.getD_eq_getElem?_getD]
      rw [hg]
      exact h2
theorem onGo_iff {bl bw : Int} : ∀ {ps : List Pt}, onGo bl bw ps = true ↔ ∀ p ∈ ps, 0 ≤ p.x ∧ p.x ≤ bl ∧ 0 ≤ p.y ∧ p.y ≤ bw := by
  intro ps
  induction ps with
  | nil => simp [onGo]
  | cons q r ih =>
    rw [onGo]
    split
    · rename_i h
      refine ⟨(fun hh => by cases hh), fun hh => ?_⟩
      have := hh q (List.mem_cons_self ..)
      omega
    · rename_i h
      rw [ih]
      refine ⟨fun hh p hp => ?_, fun hh p hp => hh p (List.mem_cons_of_mem _ hp)⟩
      rcases List.mem_cons.1 hp with rfl | hp
      · omega
      · exact hh p hp
end Go.Proofs.YtdhakoecjmaebaaGreat

/- Plain facts on placements: whether one is valid is a matter of its puts and its pairs, whatever their order. -/
namespace Go.Proofs.YtdhakoecjmaebaaGreat
open Go.RowKit
set_option linter.unusedSimpArgs false
set_option linter.unusedVariables false

theorem reachGo_le (a b : List Pt) : ∀ f i m, m ≤ 1 → reachGo a b f i m ≤ 1 := by
  intro f
  induction f with
  | zero => intro i m h; exact h
  | succ f ih =>
    intro i m h
    rw [reachGo]
    exact ih _ _ (by omega)
theorem contact_le (a b : List Pt) : contactI a b ≤ 1 := by
  unfold contactI reachI
  have := reachGo_le a b a.length 0 1 (by omega)
  omega
theorem contact_comm (a b : List Pt) : contactI a b = contactI b a := by unfold contactI; omega
theorem relRow_one (s : List Pt) : ∀ (l : List (List Pt)) (m : Int), m ≤ 1 → relRow s l m ≤ 1 ∧ (relRow s l m = 1 ↔ m = 1 ∨ ∃ t ∈ l, contactI s t = 1) := by
  intro l
  induction l with
  | nil => intro m h; exact ⟨h, by simp [relRow]⟩
  | cons t l ih =>
    intro m h
    have hc := contact_le s t
    obtain ⟨h1, h2⟩ := ih (max m (contactI s t)) (by omega)
    rw [relRow]
    refine ⟨h1, h2.trans ?_⟩
    constructor
    · rintro (hh | ⟨u, hu, hc1⟩)
      · rcases Int.le_total m (contactI s t) with k | k
        · exact .inr ⟨t, List.mem_cons_self .., by omega⟩
        · exact .inl (by omega)
      · exact .inr ⟨u, List.mem_cons_of_mem _ hu, hc1⟩
    · rintro (hh | ⟨u, hu, hc1⟩)
      · exact .inl (by omega)
      · rcases List.mem_cons.1 hu with rfl | hu
        · exact .inl (by omega)
        · exact .inr ⟨u, hu, hc1⟩
theorem relGo_one (ts : List (List Pt)) : ∀ (l : List (List Pt)) (m : Int), m ≤ 1 → (relGo ts l m = 1 ↔ m = 1 ∨ ∃ s ∈ l, ∃ t ∈ ts, contactI s t = 1) := by
  intro l
  induction l with
  | nil => intro m h; simp [relGo]
  | cons s l ih =>
    intro m h
    obtain ⟨h1, h2⟩ := relRow_one s ts m h
    rw [relGo, ih _ h1, h2]
    constructor
    · rintro ((hh | ⟨t, ht, hc⟩) | ⟨u, hu, t, ht, hc⟩)
      · exact .inl hh
      · exact .inr ⟨s, List.mem_cons_self .., t, ht, hc⟩
      · exact .inr ⟨u, List.mem_cons_of_mem _ hu, t, ht, hc⟩
    · rintro (hh | ⟨u, hu, t, ht, hc⟩)
      · exact .inl (.inl hh)
      · rcases List.mem_cons.1 hu with rfl | hu
        · exact .inl (.inr ⟨t, ht, hc⟩)
        · exact .inr ⟨u, hu, t, ht, hc⟩
/-- Two polygons are apart: both can be divided, and no two of their triangles cross. -/
def Apart (a b : List Pt) : Prop := (overR a b).2 = 0 ∧ (overR a b).1 = false
theorem apart_iff (a b : List Pt) : Apart a b ↔ ((splitR a).2 = 0 ∧ (splitR b).2 = 0 ∧ ∀ s ∈ (splitR a).1, ∀ t ∈ (splitR b).1, contactI s t ≠ 1) := by
  unfold Apart overR relationR
  by_cases h1 : (splitR a).2 = 0
  · rw [if_neg (by simpa using h1)]
    by_cases h2 : (splitR b).2 = 0
    · rw [if_neg (by simpa using h2)]
      have hr := relGo_one (splitR b).1 (splitR a).1 (-1) (by omega)
      simp only [beq_self_eq_true, Bool.true_and, beq_eq_false_iff_ne, ne_eq, true_and, h1, h2]
      constructor
      · intro h s hs t ht hc
        exact h (hr.2 (.inr ⟨s, hs, t, ht, hc⟩))
      · intro h hh
        rcases hr.1 hh with k | ⟨s, hs, t, ht, hc⟩
        · omega
        · exact h s hs t ht hc
    · rw [if_pos h2]
      simp [h1, h2]
  · rw [if_pos h1]
    simp [h1]
theorem Apart.symm {a b : List Pt} (h : Apart a b) : Apart b a := by
  rw [apart_iff] at h ⊢
  exact ⟨h.2.1, h.1, fun s hs t ht => by rw [contact_comm]; exact h.2.2 t ht s hs⟩
theorem othGo_zero {l : List Sh} {poly : List Pt} : ∀ {r : List Pu}, othGo l poly r = 0 ↔ ∀ o ∈ r, (polyR l o).2 = 0 ∧ Apart (polyR l o).1 poly := by
  intro r
  induction r with
  | nil => simp [othGo]
  | cons o r ih =>
    rw [othGo]
    by_cases h1 : (polyR l o).2 = 0
    · rw [if_neg (by simpa using h1)]
      by_cases h2 : (overR (polyR l o).1 poly).2 = 0
      · rw [if_neg (by simpa using h2)]
        by_cases h3 : (overR (polyR l o).1 poly).1 = true
        · rw [if_pos h3]
          refine ⟨(fun h => by cases h), fun h => ?_⟩
          have := (h o (List.mem_cons_self ..)).2.2
          rw [h3] at this
          cases this
        · rw [if_neg h3, ih]
          refine ⟨fun h q hq => ?_, fun h q hq => h q (List.mem_cons_of_mem _ hq)⟩
          rcases List.mem_cons.1 hq with rfl | hq
          · exact ⟨h1, h2, by simpa using h3⟩
          · exact h q hq
      · rw [if_pos h2]
        exact ⟨fun h => absurd h h2, fun h => absurd (h o (List.mem_cons_self ..)).2.1 h2⟩
    · rw [if_pos h1]
      exact ⟨fun h => absurd h h1, fun h => absurd (h o (List.mem_cons_self ..)).1 h1⟩
/-- A put passes by itself. -/
def Sound (b : Bd) (l : List Sh) (p : Pu) : Prop := ¬ (b.l < 1 ∨ 1048576 < b.l ∨ b.w < 1 ∨ 1048576 < b.w) ∧ (polyR l p).2 = 0 ∧ selfR b l p = 0
theorem fits_zero {b : Bd} {l : List Sh} {puts : List Pu} {p : Pu} : fitsR b l puts p = 0 ↔ (Sound b l p ∧ ∀ o ∈ puts, (polyR l o).2 = 0 ∧ Apart (polyR l o).1 (polyR l p).1) := by
  unfold fitsR Sound
  split
  · rename_i h; exact ⟨(fun hh => by cases hh), fun hh => absurd h hh.1.1⟩
  · rename_i h
    split
    · rename_i h1; exact ⟨fun hh => absurd hh h1, fun hh => absurd hh.1.2.1 h1⟩
    · rename_i h1
      split
      · rename_i h2; exact ⟨fun hh => absurd hh h2, fun hh => absurd hh.1.2.2 h2⟩
      · rename_i h2
        rw [othGo_zero]
        exact ⟨fun hh => ⟨⟨h, by simpa using h1, by simpa using h2⟩, hh⟩, fun hh => hh.2⟩
/-- A placement is valid exactly if each put passes by itself and each two are apart. -/
theorem pcheck_pairs {b : Bd} {l : List Sh} {puts : List Pu} (hn : puts.length ≤ 60) :
    pcheckR b l puts = 0 ↔ ((∀ p ∈ puts, Sound b l p) ∧ puts.Pairwise (fun o p => Apart (polyR l o).1 (polyR l p).1)) := by
  have key : ∀ (n : Nat) (puts : List Pu), puts.length = n → n ≤ 60 → (pcheckR b l puts = 0 ↔ ((∀ p ∈ puts, Sound b l p) ∧ puts.Pairwise (fun o p => Apart (polyR l o).1 (polyR l p).1))) := by
    intro n
    induction n with
    | zero =>
      intro puts hl _
      rw [List.eq_nil_of_length_eq_zero hl]
      exact ⟨fun _ => ⟨fun p hp => (by cases hp), List.Pairwise.nil⟩, fun _ => rfl⟩
    | succ n ih =>
      intro puts hl hn
      obtain ⟨init, last, rfl⟩ : ∃ init last, puts = init ++ [last] := by
        have hne : puts ≠ [] := by rintro rfl; cases hl
        exact ⟨puts.dropLast, puts.getLast hne, (List.dropLast_concat_getLast hne).symm⟩
      have hil : init.length = n := by simpa using hl
      rw [pcheck_snoc (by omega), ih init hil (by omega), fits_zero, List.pairwise_append]
      constructor
      · rintro ⟨⟨h1, h2⟩, h3, h4⟩
        refine ⟨fun p hp => ?_, h2, List.pairwise_singleton .., fun o ho p hp => ?_⟩
        · rcases List.mem_append.1 hp with hp | hp
          · exact h1 p hp
          · rw [List.mem_singleton.1 hp]; exact h3
        · rw [List.mem_singleton.1 hp]; exact (h4 o ho).2
      · rintro ⟨h1, h2, _, h4⟩
        refine ⟨⟨fun p hp => h1 p (by simp [hp]), h2⟩, h1 last (by simp), fun o ho => ⟨(h1 o (by simp [ho])).2.1, h4 o ho last (by simp)⟩⟩
  exact key puts.length puts rfl hn
end Go.Proofs.YtdhakoecjmaebaaGreat
/-
  A valid placement that is moved by multiples of the repeat is valid on a bed that is larger by as much (small numbers).
-/
namespace Go.Proofs.YtdhakoecjmaebaaGreat
open Go.RowKit
set_option linter.unusedSimpArgs false
set_option linter.unusedVariables false

theorem poly_zero {l : List Sh} {p : Pu} (h : (polyR l p).2 = 0) : 0 ≤ p.sh ∧ p.sh < (l.length : Int) ∧ outsideB p.x p.y = false ∧ checkI (gs l p.sh.toNat).ps = 0 ∧ checkI (placedPs p (gs l p.sh.toNat).ps) = 0 ∧ (polyR l p).1 = placedPs p (gs l p.sh.toNat).ps := by
  unfold polyR at h ⊢
  split at h
  · cases h
  · rename_i h1
    rw [if_neg h1]
    split at h
    · rename_i h2; exact absurd h h2
    · rename_i h2
      rw [if_neg h2]
      split at h
      · rename_i h3; exact absurd h h3
      · rename_i h3
        rw [if_neg h3]
        refine ⟨by omega, by omega, ?_, by simpa using h2, by simpa using h3, rfl⟩
        rcases ho : outsideB p.x p.y with _ | _
        · rfl
        · exact absurd (.inr (.inr ho)) h1
theorem self_zero {b : Bd} {l : List Sh} {p : Pu} : selfR b l p = 0 ↔ (allowB (gs l p.sh.toNat).gr p.fl p.q = true ∧ onGo b.l b.w (polyR l p).1 = true ∧ ((gs l p.sh.toNat).mt = true → matchB b.rx b.ry (gs l p.sh.toNat).ax (gs l p.sh.toNat).ay p = true)) := by
  unfold selfR
  rcases allowB (gs l p.sh.toNat).gr p.fl p.q with _ | _
  · simp
  · rcases onGo b.l b.w (polyR l p).1 with _ | _
    · simp
    · rcases (gs l p.sh.toNat).mt with _ | _
      · simp
      · rcases matchB b.rx b.ry (gs l p.sh.toNat).ax (gs l p.sh.toNat).ay p with _ | _ <;> simp
section
variable {b : Bd} {l : List Sh} {d : Pt} (hbl : b.l ≤ 1000) (hbw : b.w ≤ 1000) (hd : 0 ≤ d.x ∧ d.x ≤ 1000 ∧ 0 ≤ d.y ∧ d.y ≤ 1000)
  (hx : periodI b.rx = 0 ∨ ∃ k, d.x = periodI b.rx * k) (hy : periodI b.ry = 0 ∨ ∃ k, d.y = periodI b.ry * k)
include hbl hbw hd in
include hbl hbw hd hx hy in
include hbl hbw hd hx hy in
end

end Go.Proofs.YtdhakoecjmaebaaGreat
