/-
  Splice zones, plain: extents of polygons, the beginning of a zone, the best zone.
-/
import Derived.Test.YtpiniflhaokkaaaZPoly
import Derived.Test.YtpiniflhaokkaaaZNorm
import Derived.Test.YtpiniflhaokkaaaZAppR
import Derived.BigRegion
namespace Go.Proofs.Ytpiniflhaokkaaa
open Go.RowKit
set_option linter.unusedSimpArgs false
set_option linter.unusedVariables false

/-- The extents along X of polygons, as points (Lo, Hi), or the first error. -/
def extGoZ (len : Int) : List (List Pt) → List Pt → List Pt × Int
  | [], acc => (acc, 0)
  | p :: l, acc => if checkI p ≠ 0 then ([], checkI p) else if (loOf p).x < 0 ∨ len < (hiOf p).x then ([], 13) else extGoZ len l (acc ++ [⟨(loOf p).x, (hiOf p).x⟩])
def extentsR (len : Int) (polys : List (List Pt)) : List Pt × Int :=
  if len < 1 ∨ 1048576 < len then ([], 3) else if 60 < polys.length then ([], 5) else extGoZ len polys []
def backR (l : List Pt) (hi : Int) : Int := l.foldl (fun lo z => if hi < z.y then min lo z.x else lo) hi
def BackR (len : Int) (polys : List (List Pt)) (hi : Int) : Int × Int :=
  if (extentsR len polys).2 ≠ 0 then (0, (extentsR len polys).2) else if hi < 0 ∨ len < hi then (0, 3) else (backR (extentsR len polys).1 hi, 0)
/-- One more candidate for the best zone. -/
def bestStep (zs : List Pt) (lo hi : Int) (s : Bool × Pt) (h : Int) : Bool × Pt :=
  if hi < h ∨ backR zs h ≤ lo then s
  else if s.1 = false ∨ (h - backR zs h - (s.2.y - s.2.x) < 0 ∨ h - backR zs h - (s.2.y - s.2.x) = 0 ∧ s.2.y < h) then (true, ⟨backR zs h, h⟩) else s
def endsOf (zs : List Pt) (hi : Int) : List Int := hi :: zs.flatMap fun z => [z.x, z.y]
def bestGo (zs : List Pt) (lo hi : Int) (l : List Int) : Bool × Pt := l.foldl (bestStep zs lo hi) (false, ⟨0, 0⟩)
def BestR (len : Int) (polys : List (List Pt)) (lo hi : Int) : Pt × Int :=
  if (extentsR len polys).2 ≠ 0 then (⟨0, 0⟩, (extentsR len polys).2) else if lo < 0 ∨ hi < lo ∨ len < hi then (⟨0, 0⟩, 3)
  else if (bestGo (extentsR len polys).1 lo hi (endsOf (extentsR len polys).1 hi)).1 = true then ((bestGo (extentsR len polys).1 lo hi (endsOf (extentsR len polys).1 hi)).2, 0) else (⟨0, 0⟩, 18)

theorem back_le (l : List Pt) (hi : Int) : backR l hi ≤ hi := by
  have : ∀ (l : List Pt) (a : Int), l.foldl (fun lo z => if hi < z.y then min lo z.x else lo) a ≤ a := by
    intro l
    induction l with
    | nil => intro a; exact Int.le_refl _
    | cons z l ih =>
      intro a
      rw [List.foldl_cons]
      refine Int.le_trans (ih _) ?_
      split <;> omega
  exact this l hi
theorem back_lb {l : List Pt} {hi m : Int} (h : ∀ z ∈ l, m ≤ z.x) (hm : m ≤ hi) : m ≤ backR l hi := by
  have : ∀ (l : List Pt) (a : Int), (∀ z ∈ l, m ≤ z.x) → m ≤ a → m ≤ l.foldl (fun lo z => if hi < z.y then min lo z.x else lo) a := by
    intro l
    induction l with
    | nil => intro a _ h; exact h
    | cons z l ih =>
      intro a h1 h2
      rw [List.foldl_cons]
      refine ih _ (fun z hz => h1 z (by simp [hz])) ?_
      have := h1 z (by simp)
      split <;> omega
  exact this l hi h hm
/-- The greatest beginning: at most hi, at most the beginning of whatever ends behind hi; and one of these. -/
theorem back_spec (l : List Pt) (hi : Int) : (∀ z ∈ l, hi < z.y → backR l hi ≤ z.x) ∧ (backR l hi = hi ∨ ∃ z ∈ l, hi < z.y ∧ backR l hi = z.x) := by
  have mono : ∀ (l : List Pt) (a : Int), l.foldl (fun lo z => if hi < z.y then min lo z.x else lo) a ≤ a := by
    intro l
    induction l with
    | nil => intro a; exact Int.le_refl _
    | cons z l ih =>
      intro a
      rw [List.foldl_cons]
      refine Int.le_trans (ih _) ?_
      split <;> omega
  have : ∀ (l : List Pt) (a : Int), (∀ z ∈ l, hi < z.y → l.foldl (fun lo z => if hi < z.y then min lo z.x else lo) a ≤ z.x) ∧ (l.foldl (fun lo z => if hi < z.y then min lo z.x else lo) a = a ∨ ∃ z ∈ l, hi < z.y ∧ l.foldl (fun lo z => if hi < z.y then min lo z.x else lo) a = z.x) := by
    intro l
    induction l with
    | nil => intro a; exact ⟨fun z hz => (by cases hz), .inl rfl⟩
    | cons z l ih =>
      intro a
      rw [List.foldl_cons]
      obtain ⟨h1, h2⟩ := ih (if hi < z.y then min a z.x else a)
      refine ⟨fun y hy hlt => ?_, ?_⟩
      · rcases List.mem_cons.1 hy with rfl | k
        · have := mono l (if hi < y.y then min a y.x else a)
          rw [if_pos hlt] at this ⊢
          omega
        · exact h1 y k hlt
      · rcases h2 with h2 | ⟨y, hy, k1, k2⟩
        · by_cases hz : hi < z.y
          · rw [if_pos hz] at h2 ⊢
            by_cases hm : a ≤ z.x
            · left; rw [h2]; omega
            · right; exact ⟨z, by simp, hz, by rw [h2]; omega⟩
          · rw [if_neg hz] at h2 ⊢
            exact .inl h2
        · exact .inr ⟨y, by simp [hy], k1, k2⟩
  exact this l hi

/-- z is the best zone behind lo up to hi among the ends in S: the shortest, of several the last. -/
def IsBest (zs : List Pt) (lo hi : Int) (S : Int → Prop) (z : Pt) : Prop :=
  S z.y ∧ z.y ≤ hi ∧ z.x = backR zs z.y ∧ lo < z.x ∧ ∀ h, S h → h ≤ hi → lo < backR zs h → z.y - z.x < h - backR zs h ∨ (z.y - z.x = h - backR zs h ∧ h ≤ z.y)
/-- The fold over candidates keeps the best of those seen. -/
theorem bestGo_spec (zs : List Pt) (lo hi : Int) : ∀ (l : List Int) (S : Int → Prop) (s : Bool × Pt),
    ((s.1 = true ∧ IsBest zs lo hi S s.2) ∨ (s.1 = false ∧ ∀ h, S h → h ≤ hi → ¬ lo < backR zs h)) →
    (((l.foldl (bestStep zs lo hi) s).1 = true ∧ IsBest zs lo hi (fun h => S h ∨ h ∈ l) (l.foldl (bestStep zs lo hi) s).2) ∨ ((l.foldl (bestStep zs lo hi) s).1 = false ∧ ∀ h, (S h ∨ h ∈ l) → h ≤ hi → ¬ lo < backR zs h)) := by
  intro l
  induction l with
  | nil =>
    intro S s h
    have e : (fun h => S h ∨ h ∈ ([] : List Int)) = S := by funext h; simp
    rw [e]
    simpa using h
  | cons c l ih =>
    intro S s hs
    have e : (fun h => S h ∨ h ∈ c :: l) = (fun h => (S h ∨ h = c) ∨ h ∈ l) := by funext h; simp [or_assoc]
    rw [List.foldl_cons]
    have := ih (fun h => S h ∨ h = c) (bestStep zs lo hi s c) ?_
    · rw [e]
      rcases this with h | ⟨h1, h2⟩
      · exact .inl h
      · refine .inr ⟨h1, fun h hh => h2 h ?_⟩
        rcases hh with k | k
        · exact .inl (.inl k)
        · rcases List.mem_cons.1 k with k | k
          · exact .inl (.inr k)
          · exact .inr k
    · unfold bestStep
      by_cases hc : hi < c ∨ backR zs c ≤ lo
      · rw [if_pos hc]
        rcases hs with ⟨h1, b1, b2, b3, b4, b5⟩ | ⟨h1, h2⟩
        · refine .inl ⟨h1, .inl b1, b2, b3, b4, fun h hh k1 k2 => ?_⟩
          rcases hh with hh | rfl
          · exact b5 h hh k1 k2
          · omega
        · refine .inr ⟨h1, fun h hh k1 => ?_⟩
          rcases hh with hh | rfl
          · exact h2 h hh k1
          · omega
      · rw [if_neg hc]
        rcases hs with ⟨h1, b1, b2, b3, b4, b5⟩ | ⟨h1, h2⟩
        · by_cases hq : s.1 = false ∨ (c - backR zs c - (s.2.y - s.2.x) < 0 ∨ c - backR zs c - (s.2.y - s.2.x) = 0 ∧ s.2.y < c)
          · rw [if_pos hq]
            have hq' : c - backR zs c - (s.2.y - s.2.x) < 0 ∨ c - backR zs c - (s.2.y - s.2.x) = 0 ∧ s.2.y < c := by
              rcases hq with k | k
              · rw [h1] at k; cases k
              · exact k
            refine .inl ⟨rfl, .inr rfl, by show c ≤ hi; omega, rfl, by show lo < backR zs c; omega, fun h hh k1 k2 => ?_⟩
            show c - backR zs c < h - backR zs h ∨ (c - backR zs c = h - backR zs h ∧ h ≤ c)
            rcases hh with hh | rfl
            · have := b5 h hh k1 k2; omega
            · omega
          · rw [if_neg hq]
            have hq' : ¬ (c - backR zs c - (s.2.y - s.2.x) < 0 ∨ c - backR zs c - (s.2.y - s.2.x) = 0 ∧ s.2.y < c) := fun k => hq (.inr k)
            refine .inl ⟨h1, .inl b1, b2, b3, b4, fun h hh k1 k2 => ?_⟩
            rcases hh with hh | rfl
            · exact b5 h hh k1 k2
            · omega
        · rw [if_pos (.inl h1)]
          refine .inl ⟨rfl, .inr rfl, by show c ≤ hi; omega, rfl, by show lo < backR zs c; omega, fun h hh k1 k2 => ?_⟩
          show c - backR zs c < h - backR zs h ∨ (c - backR zs c = h - backR zs h ∧ h ≤ c)
          rcases hh with hh | rfl
          · exact absurd k2 (h2 h hh k1)
          · omega
theorem mem_ends {zs : List Pt} {hi h : Int} : h ∈ endsOf zs hi ↔ h = hi ∨ ∃ y ∈ zs, h = y.x ∨ h = y.y := by
  unfold endsOf
  simp [List.mem_flatMap]
end Go.Proofs.Ytpiniflhaokkaaa
/-
  The reference of layer 11: twice the area, the opposite order, the least vertex, the normal form.
-/
namespace Go.Proofs.Ytpiniflhaokkaaa
open Go.RowKit
set_option linter.unusedSimpArgs false
set_option linter.unusedVariables false

def pt2 (p : Pt) : List Value := [.int .i64 p.x, .int .i64 p.y]
theorem pt2_len (p : Pt) : (pt2 p).length = 2 := rfl
theorem pt2_one (p : Pt) : ∀ u ∈ pt2 p, u.oneCell' = true := by
  intro u hu
  simp only [pt2, List.mem_cons, List.not_mem_nil, or_false] at hu
  rcases hu with rfl | rfl <;> rfl
theorem Pts.none {w : World} {A : Option Addr} {l : List Pt} (h : Pts w A l) : A = none → l.length = 0 := by
  intro e
  rcases Nat.eq_zero_or_pos l.length with h0 | h0
  · exact h0
  · obtain ⟨b, o, e', _⟩ := h h0
    rw [e] at e'; cases e'
end Go.Proofs.Ytpiniflhaokkaaa
