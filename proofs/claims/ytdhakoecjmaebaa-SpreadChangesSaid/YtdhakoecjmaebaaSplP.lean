/-
  Splice zones, plain: extents of polygons, the beginning of a zone, the best zone.
-/
import Derived.Test.YtdhakoecjmaebaaPoly
import Derived.Test.YtdhakoecjmaebaaNorm
namespace Go.Proofs.Ytdhakoecjmaebaa
open Go.RowKit
set_option linter.unusedSimpArgs false
set_option linter.unusedVariables false

/-- The extents along X of polygons, as points (Lo, Hi), or the first error. -/
def extGoZ (len : Int) : List (List Pt) → List Pt → List Pt × Int
  | [], acc => (acc, 0)
  | p :: l, acc => if checkI p ≠ 0 then ([], checkI p) else if (loOf p).x < 0 ∨ len < (hiOf p).x then ([], 13) else extGoZ len l (acc ++ [⟨(loOf p).x, (hiOf p).x⟩])
def extentsR (len : Int) (polys : List (List Pt)) : List Pt × Int :=
  if len < 1 ∨ 1048576 < len then ([], 3) else if 60 < polys.length then ([], 5) else extGoZ len polys []
def backR (l : List Pt) (hi : Int) : Int := l.foldl (fun lo z => if hi < z.y then min lo z.x else lo) hi
def BackR (len : Int) (polys : List (List Pt)) (hi : Int) : Int × Int :=
  if (extentsR len polys).2 ≠ 0 then (0, (extentsR len polys).2) else if hi < 0 ∨ len < hi then (0, 3) else (backR (extentsR len polys).1 hi, 0)
/-- One more candidate for the best zone. -/
def bestStep (zs : List Pt) (lo hi : Int) (s : Bool × Pt) (h : Int) : Bool × Pt :=
  if hi < h ∨ backR zs h ≤ lo then s
  else if s.1 = false ∨ (h - backR zs h - (s.2.y - s.2.x) < 0 ∨ h - backR zs h - (s.2.y - s.2.x) = 0 ∧ s.2.y < h) then (true, ⟨backR zs h, h⟩) else s
def endsOf (zs : List Pt) (hi : Int) : List Int := hi :: zs.flatMap fun z => [z.x, z.y]
def bestGo (zs : List Pt) (lo hi : Int) (l : List Int) : Bool × Pt := l.foldl (bestStep zs lo hi) (false, ⟨0, 0⟩)
def BestR (len : Int) (polys : List (List Pt)) (lo hi : Int) : Pt × Int :=
  if (extentsR len polys).2 ≠ 0 then (⟨0, 0⟩, (extentsR len polys).2) else if lo < 0 ∨ hi < lo ∨ len < hi then (⟨0, 0⟩, 3)
  else if (bestGo (extentsR len polys).1 lo hi (endsOf (extentsR len polys).1 hi)).1 = true then ((bestGo (extentsR len polys).1 lo hi (endsOf (extentsR len polys).1 hi)).2, 0) else (⟨0, 0⟩, 18)

theorem back_le (l : List Pt) (hi : Int) : backR l hi ≤ hi := by
  have : ∀ (l : List Pt) (a : Int), l.foldl (fun lo z => if hi < z.y then min lo z.x else lo) a ≤ a := by
    intro l
    induction l with
    | nil => intro a; exact Int.le_refl _
    | cons z l ih =>
      intro a
      rw [List.foldl_cons]
      refine Int.le_trans (ih _) ?_
      split <;> omega
  exact this l hi
theorem back_lb {l : List Pt} {hi m : Int} (h : ∀ z ∈ l, m ≤ z.x) (hm : m ≤ hi) : m ≤ backR l hi := by
  have : ∀ (l : List Pt) (a : Int), (∀ z ∈ l, m ≤ z.x) → m ≤ a → m ≤ l.foldl (fun lo z => if hi < z.y then min lo z.x else lo) a := by
    intro l
    induction l with
    | nil => intro a _ h; exact h
    | cons z l ih =>
      intro a h1 h2
      rw [List.foldl_cons]
      refine ih _ (fun z hz => h1 z (by simp [hz])) ?_
      have := h1 z (by simp)
      split <;> omega
  exact this l hi h hm
/-- The greatest beginning: at most hi, at most the beginning of whatever ends behind hi; and one of these. -/
theorem back_spec (l : List Pt) (hi : Int) : (∀ z ∈ l, hi < z.y → backR l hi ≤ z.x) ∧ (backR l hi = hi ∨ ∃ z ∈ l, hi < z.y ∧ backR l hi = z.x) := by
  have mono : ∀ (l : List Pt) (a : Int), l.foldl (fun lo z => if hi < z.y then min lo z.x else lo) a ≤ a := by
    intro l
    induction l with
    | nil => intro a; exact Int.le_refl _
    | cons z l ih =>
      intro a
      rw [List.foldl_cons]
      refine Int.le_trans (ih _) ?_
      split <;> omega
  have : ∀ (l : List Pt) (a : Int), (∀ z ∈ l, hi < z.y → l.foldl (fun lo z => if hi < z.y then min lo z.x else lo) a ≤ z.x) ∧ (l.foldl (fun lo z => if hi < z.y then min lo z.x else lo) a = a ∨ ∃ z ∈ l, hi < z.y ∧ l.foldl (fun lo z => if hi < z.y then min lo z.x else lo) a = z.x) := by
    intro l
    induction l with
    | nil => intro a; exact ⟨fun z hz => (by cases hz), .inl rfl⟩
    | cons z l ih =>
      intro a
      rw [List.foldl_cons]
      obtain ⟨h1, h2⟩ := ih (if hi < z.y then min a z.x else a)
      refine ⟨fun y hy hlt => ?_, ?_⟩
      · rcases List.mem_cons.1 hy with rfl | k
        · have := mono l (if hi < y.y then min a y.x else a)
          rw [if_pos hlt] at this ⊢
          omega
        · exact h1 y k hlt
      · rcases h2 with h2 | ⟨y, hy, k1, k2⟩
        · by_cases hz : hi < z.y
          · rw [if_pos hz] at h2 ⊢
            by_cases hm : a ≤ z.x
            · left; rw [h2]; omega
            · right; exact ⟨z, by simp, hz, by rw [h2]; omega⟩
          · rw [if_neg hz] at h2 ⊢
            exact .inl h2
        · exact .inr ⟨y, by simp [hy], k1, k2⟩
  exact this l hi

/-- z is the best zone behind lo up to hi among the ends in S: the shortest, of several the last. -/
def IsBest (zs : List Pt) (lo hi : Int) (S : Int → Prop) (z : Pt) : Prop :=
  S z.y ∧ z.y ≤ hi ∧ z.x = backR zs z.y ∧ lo < z.x ∧ ∀ h, S h → h ≤ hi → lo < backR zs h → z.y - z.x < h - backR zs h ∨ (z.y - z.x = h - backR zs h ∧ h ≤ z.y)
theorem IsBest.unique {zs : List Pt} {lo hi : Int} {S : Int → Prop} {a b : Pt} (ha : IsBest zs lo hi S a) (hb : IsBest zs lo hi S b) : a = b := by
  obtain ⟨a1, a2, a3, a4, a5⟩ := ha
  obtain ⟨b1, b2, b3, b4, b5⟩ := hb
  have h1 := a5 b.y b1 b2 (by omega)
  have h2 := b5 a.y a1 a2 (by omega)
  obtain ⟨ax, ay⟩ := a
  obtain ⟨bx, bY⟩ := b
  simp only [] at *
  have : ay = bY := by omega
  subst this
  rw [a3, b3]
/-- The fold over candidates keeps the best of those seen. -/
theorem bestGo_spec (zs : List Pt) (lo hi : Int) : ∀ (l : List Int) (S : Int → Prop) (s : Bool × Pt),
    ((s.1 = true ∧ IsBest zs lo hi S s.2) ∨ (s.1 = false ∧ ∀ h, S h → h ≤ hi → ¬ lo < backR zs h)) →
    (((l.foldl (bestStep zs lo hi) s).1 = true ∧ IsBest zs lo hi (fun h => S h ∨ h ∈ l) (l.foldl (bestStep zs lo hi) s).2) ∨ ((l.foldl (bestStep zs lo hi) s).1 = false ∧ ∀ h, (S h ∨ h ∈ l) → h ≤ hi → ¬ lo < backR zs h)) := by
  intro l
  induction l with
  | nil =>
    intro S s h
    have e : (fun h => S h ∨ h ∈ ([] : List Int)) = S := by funext h; simp
    rw [e]
    simpa using h
  | cons c l ih =>
    intro S s hs
    have e : (fun h => S h ∨ h ∈ c :: l) = (fun h => (S h ∨ h = c) ∨ h ∈ l) := by funext h; simp [or_assoc]
    rw [List.foldl_cons]
    have := ih (fun h => S h ∨ h = c) (bestStep zs lo hi s c) ?_
    · rw [e]
      rcases this with h | ⟨h1, h2⟩
      · exact .inl h
      · refine .inr ⟨h1, fun h hh => h2 h ?_⟩
        rcases hh with k | k
        · exact .inl (.inl k)
        · rcases List.mem_cons.1 k with k | k
          · exact .inl (.inr k)
          · exact .inr k
    · unfold bestStep
      by_cases hc : hi < c ∨ backR zs c ≤ lo
      · rw [if_pos hc]
        rcases hs with ⟨h1, b1, b2, b3, b4, b5⟩ | ⟨h1, h2⟩
        · refine .inl ⟨h1, .inl b1, b2, b3, b4, fun h hh k1 k2 => ?_⟩
          rcases hh with hh | rfl
          · exact b5 h hh k1 k2
          · omega
        · refine .inr ⟨h1, fun h hh k1 => ?_⟩
          rcases hh with hh | rfl
          · exact h2 h hh k1
          · omega
      · rw [if_neg hc]
        rcases hs with ⟨h1, b1, b2, b3, b4, b5⟩ | ⟨h1, h2⟩
        · by_cases hq : s.1 = false ∨ (c - backR zs c - (s.2.y - s.2.x) < 0 ∨ c - backR zs c - (s.2.y - s.2.x) = 0 ∧ s.2.y < c)
          · rw [if_pos hq]
            have hq' : c - backR zs c - (s.2.y - s.2.x) < 0 ∨ c - backR zs c - (s.2.y - s.2.x) = 0 ∧ s.2.y < c := by
              rcases hq with k | k
              · rw [h1] at k; cases k
              · exact k
            refine .inl ⟨rfl, .inr rfl, by show c ≤ hi; omega, rfl, by show lo < backR zs c; omega, fun h hh k1 k2 => ?_⟩
            show c - backR zs c < h - backR zs h ∨ (c - backR zs c = h - backR zs h ∧ h ≤ c)
            rcases hh with hh | rfl
            · have := b5 h hh k1 k2; omega
            · omega
          · rw [if_neg hq]
            have hq' : ¬ (c - backR zs c - (s.2.y - s.2.x) < 0 ∨ c - backR zs c - (s.2.y - s.2.x) = 0 ∧ s.2.y < c) := fun k => hq (.inr k)
            refine .inl ⟨h1, .inl b1, b2, b3, b4, fun h hh k1 k2 => ?_⟩
            rcases hh with hh | rfl
            · exact b5 h hh k1 k2
            · omega
        · rw [if_pos (.inl h1)]
          refine .inl ⟨rfl, .inr rfl, by show c ≤ hi; omega, rfl, by show lo < backR zs c; omega, fun h hh k1 k2 => ?_⟩
          show c - backR zs c < h - backR zs h ∨ (c - backR zs c = h - backR zs h ∧ h ≤ c)
          rcases hh with hh | rfl
          · exact absurd k2 (h2 h hh k1)
          · omega
/-- Among all ends from 0 to hi the best one is hi or an end of a polygon. -/
theorem best_end {zs : List Pt} {lo hi : Int} {z : Pt} (hz : ∀ y ∈ zs, 0 ≤ y.x ∧ y.x ≤ y.y) (hlo : 0 ≤ lo) (h : IsBest zs lo hi (fun h => 0 ≤ h ∧ h ≤ hi) z) : z.y = hi ∨ ∃ y ∈ zs, z.y = y.x ∨ z.y = y.y := by
  obtain ⟨h1, h2, h3, h4, h5⟩ := h
  by_cases hn : z.y = hi ∨ ∃ y ∈ zs, z.y = y.x ∨ z.y = y.y
  · exact hn
  · exfalso
    have hne : z.y ≠ hi := fun k => hn (.inl k)
    have hno : ∀ y ∈ zs, z.y ≠ y.x ∧ z.y ≠ y.y := fun y hy => ⟨fun k => hn (.inr ⟨y, hy, .inl k⟩), fun k => hn (.inr ⟨y, hy, .inr k⟩)⟩
    obtain ⟨s1, s2⟩ := back_spec zs z.y
    rw [← h3] at s1 s2
    rcases s2 with s2 | ⟨y, hy, k1, k2⟩
    · -- an empty zone: the next one is empty too
      have hb : backR zs (z.y + 1) = z.y + 1 := by
        obtain ⟨t1, t2⟩ := back_spec zs (z.y + 1)
        rcases t2 with t2 | ⟨y, hy, k1, k2⟩
        · exact t2
        · have := s1 y hy (by omega)
          have := (hno y hy).1
          have := back_le zs (z.y + 1)
          omega
      have := h5 (z.y + 1) ⟨by omega, by omega⟩ (by omega) (by omega)
      omega
    · -- a zone that is not empty: the one that ends one earlier is shorter
      have := back_le zs z.y
      have hlt : z.x < z.y := by
        rcases Int.lt_or_eq_of_le (show z.x ≤ z.y by omega) with k | k
        · exact k
        · have := (hno y hy).1; omega
      have hb : backR zs (z.y - 1) = z.x := by
        obtain ⟨t1, t2⟩ := back_spec zs (z.y - 1)
        have u1 := t1 y hy (by omega)
        rcases t2 with t2 | ⟨x, hx, m1, m2⟩
        · omega
        · have := (hno x hx).2
          have := s1 x hx (by omega)
          omega
      have := h5 (z.y - 1) ⟨by omega, by omega⟩ (by omega) (by omega)
      omega
/-- The reference's search, over every end in turn. -/
def rbestStep (zs : List Pt) (lo : Int) (s : Bool × Pt) (h : Int) : Bool × Pt :=
  if lo < backR zs h ∧ (s.1 = false ∨ h - backR zs h ≤ s.2.y - s.2.x) then (true, ⟨backR zs h, h⟩) else s
def rbestN (zs : List Pt) (lo : Int) : Nat → Bool × Pt
  | 0 => (false, ⟨0, 0⟩)
  | n + 1 => rbestStep zs lo (rbestN zs lo n) n
theorem rbest_spec (zs : List Pt) (lo hi : Int) : ∀ n : Nat, (n : Int) ≤ hi + 1 →
    (((rbestN zs lo n).1 = true ∧ IsBest zs lo hi (fun h => 0 ≤ h ∧ h < n) (rbestN zs lo n).2) ∨ ((rbestN zs lo n).1 = false ∧ ∀ h, 0 ≤ h → h < (n : Int) → ¬ lo < backR zs h)) := by
  intro n
  induction n with
  | zero => intro _; exact .inr ⟨rfl, fun h h1 h2 => by omega⟩
  | succ n ih =>
    intro hn
    have := ih (by omega)
    rw [rbestN]
    unfold rbestStep
    rcases this with ⟨h1, b1, b2, b3, b4, b5⟩ | ⟨h1, h2⟩
    · by_cases hq : lo < backR zs n ∧ ((rbestN zs lo n).1 = false ∨ (n : Int) - backR zs n ≤ (rbestN zs lo n).2.y - (rbestN zs lo n).2.x)
      · rw [if_pos hq]
        have hq2 : (n : Int) - backR zs n ≤ (rbestN zs lo n).2.y - (rbestN zs lo n).2.x := by
          rcases hq.2 with k | k
          · rw [h1] at k; cases k
          · exact k
        refine .inl ⟨rfl, ⟨by show (0 : Int) ≤ (n : Int); omega, by show (n : Int) < ((n + 1 : Nat) : Int); omega⟩, by show (n : Int) ≤ hi; omega, rfl, hq.1, fun h hh k1 k2 => ?_⟩
        show (n : Int) - backR zs n < h - backR zs h ∨ ((n : Int) - backR zs n = h - backR zs h ∧ h ≤ (n : Int))
        by_cases e : h = n
        · subst e; omega
        · have := b5 h ⟨hh.1, by have := hh.2; omega⟩ k1 k2
          have := hh.2
          omega
      · rw [if_neg hq]
        refine .inl ⟨h1, ⟨b1.1, by have := b1.2; omega⟩, b2, b3, b4, fun h hh k1 k2 => ?_⟩
        by_cases e : h = n
        · subst e
          have : ¬ ((n : Int) - backR zs n ≤ (rbestN zs lo n).2.y - (rbestN zs lo n).2.x) := fun k => hq ⟨k2, .inr k⟩
          omega
        · exact b5 h ⟨hh.1, by have := hh.2; omega⟩ k1 k2
    · by_cases hq : lo < backR zs n
      · rw [if_pos ⟨hq, .inl h1⟩]
        refine .inl ⟨rfl, ⟨by show (0 : Int) ≤ (n : Int); omega, by show (n : Int) < ((n + 1 : Nat) : Int); omega⟩, by show (n : Int) ≤ hi; omega, rfl, hq, fun h hh k1 k2 => ?_⟩
        show (n : Int) - backR zs n < h - backR zs h ∨ ((n : Int) - backR zs n = h - backR zs h ∧ h ≤ (n : Int))
        by_cases e : h = n
        · subst e; omega
        · exact absurd k2 (h2 h hh.1 (by have := hh.2; omega))
      · rw [if_neg (fun k => hq k.1)]
        refine .inr ⟨h1, fun h k1 k2 => ?_⟩
        by_cases e : h = n
        · subst e; exact hq
        · exact h2 h k1 (by omega)
theorem mem_ends {zs : List Pt} {hi h : Int} : h ∈ endsOf zs hi ↔ h = hi ∨ ∃ y ∈ zs, h = y.x ∨ h = y.y := by
  unfold endsOf
  simp [List.mem_flatMap]
/-- The program's search over the ends of polygons finds what the reference's search over all ends finds. -/
theorem best_same {zs : List Pt} {lo hi : Int} (hz : ∀ y ∈ zs, 0 ≤ y.x ∧ y.x ≤ y.y) (hlo : 0 ≤ lo) (hhi : 0 ≤ hi) :
    (bestGo zs lo hi (endsOf zs hi)).1 = (rbestN zs lo (hi.toNat + 1)).1 ∧ ((rbestN zs lo (hi.toNat + 1)).1 = true → (bestGo zs lo hi (endsOf zs hi)).2 = (rbestN zs lo (hi.toNat + 1)).2) := by
  have h1 := bestGo_spec zs lo hi (endsOf zs hi) (fun _ => False) (false, ⟨0, 0⟩) (.inr ⟨rfl, fun h k => k.elim⟩)
  have h2 := rbest_spec zs lo hi (hi.toNat + 1) (by omega)
  change ((bestGo zs lo hi (endsOf zs hi)).1 = true ∧ IsBest zs lo hi _ (bestGo zs lo hi (endsOf zs hi)).2) ∨ ((bestGo zs lo hi (endsOf zs hi)).1 = false ∧ _) at h1
  have hpos : ∀ h ∈ endsOf zs hi, 0 ≤ h := fun h hh => by
    rcases mem_ends.1 hh with rfl | ⟨y, hy, rfl | rfl⟩
    · exact hhi
    · exact (hz y hy).1
    · have := hz y hy; omega
  have hset : (fun h : Int => 0 ≤ h ∧ h < ((hi.toNat + 1 : Nat) : Int)) = fun h => 0 ≤ h ∧ h ≤ hi := by
    funext h
    refine propext ?_
    omega
  rcases h2 with ⟨k1, k2⟩ | ⟨k1, k2⟩
  · rw [hset] at k2
    have he := best_end hz hlo k2
    have hm : (rbestN zs lo (hi.toNat + 1)).2.y ∈ endsOf zs hi := mem_ends.2 he
    rcases h1 with ⟨m1, m2⟩ | ⟨m1, m2⟩
    · refine ⟨by rw [m1, k1], fun _ => IsBest.unique m2 ?_⟩
      obtain ⟨c1, c2, c3, c4, c5⟩ := k2
      exact ⟨.inr hm, c2, c3, c4, fun h hh q1 q2 => c5 h ⟨hpos h (by rcases hh with k | k; exact k.elim; exact k), q1⟩ q1 q2⟩
    · obtain ⟨c1, c2, c3, c4, _⟩ := k2
      exact absurd (by rw [← c3]; exact c4) (m2 _ (.inr hm) c2)
  · rcases h1 with ⟨m1, c1, c2, c3, c4, _⟩ | ⟨m1, m2⟩
    · have hm : (bestGo zs lo hi (endsOf zs hi)).2.y ∈ endsOf zs hi := by rcases c1 with k | k; exact k.elim; exact k
      exact absurd (by rw [← c3]; exact c4) (k2 _ (hpos _ hm) (by omega))
    · exact ⟨by rw [m1, k1], fun k => by rw [k1] at k; cases k⟩

end Go.Proofs.Ytdhakoecjmaebaa
