/-
 Plain facts on contacts: when two convex polygons have inner points in common by their sides; a rectangle that reaches beyond the limits is as good as one that ends there; the triangles of a polygon turn to the left.
-/
import Derived.Test.YtdhakoecjmaebaaGreatZHits
import Derived.Test.YtdhakoecjmaebaaGreatZGeoT
import Derived.Test.YtdhakoecjmaebaaGreatZSplit
import Derived.Test.YtdhakoecjmaebaaGreatZRef
namespace Go.Proofs.YtdhakoecjmaebaaGreat
open Go.RowKit
set_option linter.unusedSimpArgs false
set_option linter.unusedVariables false
theorem sgn_one (n : Int) : sgn n = 1 ↔ 0 < n := by unfold sgn; split; omega; split <;> omega
theorem most_one (p q : Pt) : ∀ (l : List Pt) (m : Int), m ≤ 1 → mostGo p q l m ≤ 1 ∧ (mostGo p q l m = 1 ↔ m = 1 ∨ ∃ v ∈ l, 0 < crossP p q v) := by
 intro l
 induction l with
 | nil => intro m h; exact ⟨h, by simp [mostGo]⟩
 | cons v l ih =>
  intro m h
  have hb := sgn_bd (crossI p.x p.y q.x q.y v.x v.y)
  have hs := sgn_one (crossI p.x p.y q.x q.y v.x v.y)
  obtain ⟨h1, h2⟩ := ih (max m (sgn (crossI p.x p.y q.x q.y v.x v.y))) (by omega)
  rw [mostGo]
  refine ⟨h1, h2.trans ?_⟩
  constructor
  ·rintro (hh | ⟨u, hu, hc⟩)
   ·rcases Int.le_total m (sgn (crossI p.x p.y q.x q.y v.x v.y)) with k | k
    ·exact .inr ⟨v, by simp, hs.1 (by omega)⟩
    ·exact .inl (by omega)
   ·exact .inr ⟨u, List.mem_cons_of_mem _ hu, hc⟩
  ·rintro (hh | ⟨u, hu, hc⟩)
   ·exact .inl (by omega)
   ·rcases List.mem_cons.1 hu with rfl | hu
    ·left
     have := hs.2 hc
     omega
    ·exact .inr ⟨u, hu, hc⟩
def Reaches (a b : List Pt) : Prop := ∀ i, i < a.length → ∃ v ∈ b, 0 < crossP (gp a i) (gp a ((i + 1) % a.length)) v
theorem reachGo_one (a b : List Pt) : ∀ f i m, m ≤ 1 → reachGo a b f i m ≤ 1 ∧ (reachGo a b f i m = 1 ↔ m = 1 ∧ ∀ k, i ≤ k → k < i + f → ∃ v ∈ b, 0 < crossP (gp a k) (gp a ((k + 1) % a.length)) v) := by
 intro f
 induction f with
 | zero => intro i m h; exact ⟨h, ⟨fun h => ⟨h, fun k h1 h2 => by omega⟩, fun h => h.1⟩⟩
 | succ f ih =>
  intro i m h
  obtain ⟨k1, k2⟩ := most_one (gp a i) (gp a ((i + 1) % a.length)) b (-1) (by omega)
  obtain ⟨h1, h2⟩ := ih (i + 1) (min m (mostGo (gp a i) (gp a ((i + 1) % a.length)) b (-1))) (by omega)
  rw [reachGo]
  refine ⟨h1, h2.trans ?_⟩
  constructor
  ·rintro ⟨hm, hr⟩
   refine ⟨by omega, fun k a1 a2 => ?_⟩
   rcases Nat.lt_or_ge i k with q | q
   ·exact hr k q (by omega)
   ·rw [show k = i by omega]
    rcases k2.1 (by omega) with hh | hh
    ·omega
    ·exact hh
  ·rintro ⟨hm, hr⟩
   have := k2.2 (.inr (hr i (Nat.le_refl _) (by omega)))
   exact ⟨by omega, fun k a1 a2 => hr k (by omega) (by omega)⟩
theorem reach_one (a b : List Pt) : reachI a b ≤ 1 ∧ (reachI a b = 1 ↔ Reaches a b) := by
 unfold reachI Reaches
 obtain ⟨h1, h2⟩ := reachGo_one a b a.length 0 1 (by omega)
 exact ⟨h1, h2.trans ⟨fun h i hi => h.2 i (by omega) (by omega), fun h => ⟨rfl, fun k _ hk => h k (by omega)⟩⟩⟩
theorem contact_one (a b : List Pt) : contactI a b = 1 ↔ Reaches a b ∧ Reaches b a := by
 unfold contactI
 obtain ⟨h1, h2⟩ := reach_one a b
 obtain ⟨h3, h4⟩ := reach_one b a
 rw [← h2, ← h4]
 omega
theorem reaches3 {a b c : Pt} {l : List Pt} : Reaches [a, b, c] l ↔ (∃ v ∈ l, 0 < crossP a b v) ∧ (∃ v ∈ l, 0 < crossP b c v) ∧ (∃ v ∈ l, 0 < crossP c a v) := by
 unfold Reaches
 constructor
 ·intro h
  exact ⟨h 0 (by simp), h 1 (by simp), by simpa [gp] using h 2 (by simp)⟩
 ·rintro ⟨h0, h1, h2⟩ i hi
  simp at hi
  rcases i with _ | _ | _ | i
  ·exact h0
  ·exact h1
  ·simpa [gp] using h2
  ·omega
theorem reaches4 {a b c d : Pt} {l : List Pt} : Reaches [a, b, c, d] l ↔ (∃ v ∈ l, 0 < crossP a b v) ∧ (∃ v ∈ l, 0 < crossP b c v) ∧ (∃ v ∈ l, 0 < crossP c d v) ∧ (∃ v ∈ l, 0 < crossP d a v) := by
 unfold Reaches
 constructor
 ·intro h
  exact ⟨h 0 (by simp), h 1 (by simp), h 2 (by simp), by simpa [gp] using h 3 (by simp)⟩
 ·rintro ⟨h0, h1, h2, h3⟩ i hi
  simp at hi
  rcases i with _ | _ | _ | _ | i
  ·exact h0
  ·exact h1
  ·exact h2
  ·simpa [gp] using h3
  ·omega
theorem mul_pos_iff {a b : Int} (ha : 0 < a) : 0 < a * b ↔ 0 < b := by
 constructor
 ·intro h
  exact pos_of_mul ha (by rw [Int.mul_comm]; exact h)
 ·exact Int.mul_pos ha
theorem reaches_rect {x y z w : Int} (hx : x < z) (hy : y < w) {l : List Pt} : Reaches (rectPts x y z w) l ↔ (∃ v ∈ l, y < v.y) ∧ (∃ v ∈ l, v.x < z) ∧ (∃ v ∈ l, v.y < w) ∧ (∃ v ∈ l, x < v.x) := by
 unfold rectPts
 rw [reaches4]
 have c1 : ∀ v : Pt, 0 < crossP ⟨x, y⟩ ⟨z, y⟩ v ↔ y < v.y := by
  intro v
  unfold crossP crossI
  simp only [Int.sub_self, Int.zero_mul, Int.sub_zero]
  rw [mul_pos_iff (by omega)]; omega
 have c2 : ∀ v : Pt, 0 < crossP ⟨z, y⟩ ⟨z, w⟩ v ↔ v.x < z := by
  intro v
  unfold crossP crossI
  simp only [Int.sub_self, Int.zero_mul, Int.zero_sub]
  rw [← Int.mul_neg, mul_pos_iff (by omega)]; omega
 have c3 : ∀ v : Pt, 0 < crossP ⟨z, w⟩ ⟨x, w⟩ v ↔ v.y < w := by
  intro v
  unfold crossP crossI
  simp only [Int.sub_self, Int.zero_mul, Int.sub_zero]
  rw [show (x - z) * (v.y - w) = (z - x) * (w - v.y) by grind, mul_pos_iff (by omega)]; omega
 have c4 : ∀ v : Pt, 0 < crossP ⟨x, w⟩ ⟨x, y⟩ v ↔ x < v.x := by
  intro v
  unfold crossP crossI
  simp only [Int.sub_self, Int.zero_mul, Int.zero_sub]
  rw [show -((y - w) * (v.x - x)) = (w - y) * (v.x - x) by grind, mul_pos_iff (by omega)]; omega
 simp only [c1, c2, c3, c4]
theorem clip_side {p q v1 v2 v3 : Pt} {M x y w : Int} (hx : x < M) (hy : y < w) (h1 : 0 ≤ crossP p q v1) (h2 : 0 ≤ crossP p q v2) (h3 : 0 ≤ crossP p q v3) (hpos : 0 < crossP p q v1 ∨ 0 < crossP p q v2 ∨ 0 < crossP p q v3)
  (m1 : v1.x ≤ M) (m2 : v2.x ≤ M) (m3 : v3.x ≤ M) (lo : y < v1.y ∨ y < v2.y ∨ y < v3.y) (hi : v1.y < w ∨ v2.y < w ∨ v3.y < w)
  (h : ∃ v ∈ rectPts x y (M + 1) w, 0 < crossP p q v) : ∃ v ∈ rectPts x y M w, 0 < crossP p q v := by
 unfold rectPts at *
 simp only [List.mem_cons, List.not_mem_nil, or_false, exists_eq_or_imp, exists_eq_left] at h ⊢
 by_cases k1 : 0 < crossP p q ⟨x, y⟩
 ·exact .inl k1
 by_cases k4 : 0 < crossP p q ⟨x, w⟩
 ·exact .inr (.inr (.inr k4))
 by_cases k2 : 0 < crossP p q ⟨M, y⟩
 ·exact .inr (.inl k2)
 by_cases k3 : 0 < crossP p q ⟨M, w⟩
 ·exact .inr (.inr (.inl k3))
 exfalso
 have hdy : p.y - q.y > 0 := by
  have e2 : crossP p q ⟨M + 1, y⟩ = crossP p q ⟨M, y⟩ + (p.y - q.y) := by unfold crossP crossI; simp only []; grind
  have e3 : crossP p q ⟨M + 1, w⟩ = crossP p q ⟨M, w⟩ + (p.y - q.y) := by unfold crossP crossI; simp only []; grind
  rcases h with h | h | h | h
  ·omega
  ·omega
  ·omega
  ·omega
 have line : ∀ v : Pt, v.x ≤ M → 0 ≤ crossP p q v → 0 ≤ crossP p q ⟨M, v.y⟩ ∧ (0 < crossP p q v → 0 < crossP p q ⟨M, v.y⟩) := by
  intro v hv hc
  have e : crossP p q ⟨M, v.y⟩ = crossP p q v + (p.y - q.y) * (M - v.x) := by unfold crossP crossI; simp only []; grind
  have := Int.mul_nonneg (show 0 ≤ p.y - q.y by omega) (show 0 ≤ M - v.x by omega)
  exact ⟨by omega, fun _ => by omega⟩
 have vert : ∀ a b : Int, crossP p q ⟨M, a⟩ = crossP p q ⟨M, b⟩ + (q.x - p.x) * (a - b) := by intro a b; unfold crossP crossI; simp only []; grind
 obtain ⟨l1, l1'⟩ := line v1 m1 h1
 obtain ⟨l2, l2'⟩ := line v2 m2 h2
 obtain ⟨l3, l3'⟩ := line v3 m3 h3
 rcases Int.lt_trichotomy (q.x - p.x) 0 with k | k | k
 ·-- all vertices lie below
  have low : ∀ v : Pt, 0 ≤ crossP p q ⟨M, v.y⟩ → ¬ y < v.y := by
   intro v hv hlt
   have e := vert v.y y
   have := Int.mul_pos (show 0 < p.x - q.x by omega) (show 0 < v.y - y by omega)
   have e2 : (q.x - p.x) * (v.y - y) = - ((p.x - q.x) * (v.y - y)) := by grind
   omega
  rcases lo with q | q | q
  ·exact low v1 l1 q
  ·exact low v2 l2 q
  ·exact low v3 l3 q
 ·have e1 := vert v1.y y
  have e2 := vert v2.y y
  have e3 := vert v3.y y
  rw [k] at e1 e2 e3
  rcases hpos with q | q | q
  ·have := l1' q; omega
  ·have := l2' q; omega
  ·have := l3' q; omega
 ·have high : ∀ v : Pt, 0 ≤ crossP p q ⟨M, v.y⟩ → ¬ v.y < w := by
   intro v hv hlt
   have e := vert v.y w
   have := Int.mul_pos (show 0 < q.x - p.x by omega) (show 0 < w - v.y by omega)
   have e2 : (q.x - p.x) * (v.y - w) = - ((q.x - p.x) * (w - v.y)) := by grind
   omega
  rcases hi with q | q | q
  ·exact high v1 l1 q
  ·exact high v2 l2 q
  ·exact high v3 l3 q
theorem wide_side {p q : Pt} {M x y w : Int} (hx : x < M) (h : ∃ v ∈ rectPts x y M w, 0 < crossP p q v) : ∃ v ∈ rectPts x y (M + 1) w, 0 < crossP p q v := by
 unfold rectPts at *
 simp only [List.mem_cons, List.not_mem_nil, or_false, exists_eq_or_imp, exists_eq_left] at h ⊢
 have mid : ∀ t : Int, 0 < crossP p q ⟨M, t⟩ → 0 < crossP p q ⟨x, t⟩ ∨ 0 < crossP p q ⟨M + 1, t⟩ := by
  intro t ht
  have e : crossP p q ⟨M + 1, t⟩ = crossP p q ⟨M, t⟩ + (p.y - q.y) := by unfold crossP crossI; simp only []; grind
  have e2 : crossP p q ⟨x, t⟩ = crossP p q ⟨M, t⟩ + (q.y - p.y) * (M - x) := by unfold crossP crossI; simp only []; grind
  rcases Int.le_total 0 (p.y - q.y) with k | k
  ·right; omega
  ·left
   have := Int.mul_nonneg (show 0 ≤ q.y - p.y by omega) (show 0 ≤ M - x by omega)
   omega
 rcases h with h | h | h | h
 ·exact .inl h
 ·rcases mid y h with k | k
  ·exact .inl k
  ·exact .inr (.inl k)
 ·rcases mid w h with k | k
  ·exact .inr (.inr (.inr k))
  ·exact .inr (.inr (.inl k))
 ·exact .inr (.inr (.inr h))
theorem clip_contact {a b c : Pt} {M x y w : Int} (ht : 0 < crossP a b c) (ma : a.x ≤ M) (mb : b.x ≤ M) (mc : c.x ≤ M) (hx : x < M) (hy : y < w) :
  contactI [a, b, c] (rectPts x y M w) = 1 ↔ contactI [a, b, c] (rectPts x y (M + 1) w) = 1 := by
 rw [contact_one, contact_one, reaches3, reaches3, reaches_rect hx hy, reaches_rect (by omega) hy]
 have z : ∀ p q : Pt, crossP p q p = 0 ∧ crossP p q q = 0 := by intro p q; unfold crossP crossI; constructor <;> grind
 have e1 : crossP b c a = crossP a b c := by unfold crossP crossI; grind
 have e2 : crossP c a b = crossP a b c := by unfold crossP crossI; grind
 simp only [List.mem_cons, List.not_mem_nil, or_false, exists_eq_or_imp, exists_eq_left]
 constructor
 ·rintro ⟨⟨h1, h2, h3⟩, k1, k2, k3, k4⟩
  exact ⟨⟨wide_side hx h1, wide_side hx h2, wide_side hx h3⟩, k1, by omega, k3, k4⟩
 ·rintro ⟨⟨h1, h2, h3⟩, k1, k2, k3, k4⟩
  refine ⟨⟨?_, ?_, ?_⟩, k1, ?_, k3, k4⟩
  ·exact clip_side (v1 := a) (v2 := b) (v3 := c) hx hy (by rw [(z a b).1]; omega) (by rw [(z a b).2]; omega) (by omega) (.inr (.inr ht)) ma mb mc (by omega) (by omega) h1
  ·exact clip_side (v1 := a) (v2 := b) (v3 := c) hx hy (by omega) (by rw [(z b c).1]; omega) (by rw [(z b c).2]; omega) (.inl (by omega)) ma mb mc (by omega) (by omega) h2
  ·exact clip_side (v1 := a) (v2 := b) (v3 := c) hx hy (by rw [(z c a).2]; omega) (by omega) (by rw [(z c a).1]; omega) (.inr (.inl (by omega))) ma mb mc (by omega) (by omega) h3
  ·by_cases k : a.x < M ∨ b.x < M ∨ c.x < M
   ·exact k
   ·exfalso
    have h1 : a.x = M := by omega
    have h2 : b.x = M := by omega
    have h3 : c.x = M := by omega
    unfold crossP crossI at ht
    rw [h1, h2, h3] at ht
    simp at ht
theorem far_contact {a b c : Pt} {M x y z w : Int} (ma : a.x ≤ M) (mb : b.x ≤ M) (mc : c.x ≤ M) (hx : M ≤ x) (hz : x < z) (hy : y < w) : contactI [a, b, c] (rectPts x y z w) ≠ 1 := by
 rw [Ne, contact_one, reaches_rect hz hy]
 simp only [List.mem_cons, List.not_mem_nil, or_false, exists_eq_or_imp, exists_eq_left]
 omega
def TriL (t : List Pt) : Prop := ∃ a b c, t = [a, b, c] ∧ 0 < crossP a b c
theorem good_tri {l : List Pt} (h : Good l) (h3 : l.length ≤ 3) : TriL l := by
 have hl : l.length = 3 := by have := h.1.1; simp at this; omega
 match l, hl with
 | [v, w, u], _ =>
  refine ⟨v, w, u, rfl, ?_⟩
  have hs : Geo.Simple (vp v :: vp w :: ([] ++ [vp u])) := h.1
  have := Geo.ar_pos _ _ rfl h.1 h.2
  have e : Geo.ar (Geo.poly ([v, w, u].map vp)) = Geo.ar (Geo.poly (vp v :: vp w :: ([] ++ [vp u]))) := rfl
  rw [e, Geo.ar_cut] at this
  have e0 : Geo.ar (Geo.poly (vp w :: ([] ++ [vp u]))) = 0 := by simp [Geo.poly, Geo.edg, Geo.ar]; grind
  rw [e0] at this
  have h1 : 0 < crossP u v w := cr_pos.1 (by grind)
  have e1 : crossP v w u = crossP u v w := by unfold crossP crossI; grind
  rw [e1]; exact h1
theorem splitGo_tri : ∀ (f : Nat) (l : List Pt) (acc ts : List (List Pt)), Good l → l.length ≤ f + 3 → (∀ t ∈ acc, TriL t) → splitGo f l acc = some ts → ∀ t ∈ ts, TriL t := by
 intro f
 induction f with
 | zero =>
  intro l acc ts hg hf ha he t ht
  cases he
  rcases List.mem_append.1 ht with k | k
  ·exact ha t k
  ·rw [List.mem_singleton.1 k]; exact good_tri hg (by omega)
 | succ f ih =>
  intro l acc ts hg hf ha he
  rw [splitGo] at he
  split at he
  ·rename_i h3
   cases he
   intro t ht
   rcases List.mem_append.1 ht with k | k
   ·exact ha t k
   ·rw [List.mem_singleton.1 k]; exact good_tri hg h3
  ·rename_i h3
   have hel : ∀ j, j < l.length → (l.eraseIdx j).length ≤ f + 3 := fun j hj => by rw [List.length_eraseIdx, if_pos hj]; omega
   split at he
   ·rename_i hs
    obtain ⟨k1, k2⟩ := straight_flat hs
    exact ih _ _ ts (good_flat hg (by omega) k1 k2) (hel _ k1) ha he
   ·split at he
    ·rcases free_bd l with k | ⟨j', k1, k2, k3⟩
     ·rename_i hf2; omega
     ·rw [k2, Int.toNat_natCast] at he
      refine ih _ _ ts (good_free hg (by omega) k1 k3) (hel _ k1) ?_ he
      intro t ht
      rcases List.mem_append.1 ht with q | q
      ·exact ha t q
      ·rw [List.mem_singleton.1 q]
       unfold freeB at k3
       rw [Bool.and_eq_true, decide_eq_true_eq] at k3
       exact ⟨_, _, _, rfl, k3.1⟩
    ·cases he
theorem splitR_tri (ps : List Pt) : ∀ t ∈ (splitR ps).1, TriL t := by
 unfold splitR
 by_cases h : checkI ps = 0
 ·rw [if_pos h]
  cases hs : splitOf ps with
  | none => intro t ht; cases ht
  | some ts => exact splitGo_tri _ _ _ ts (normal_good h) (by omega) (by intro t ht; cases ht) hs
 ·rw [if_neg h]; intro t ht; cases ht
theorem splitR_in (ps : List Pt) : ∀ t ∈ (splitR ps).1, ∀ p ∈ t, outP p = false := by
 unfold splitR
 by_cases h : checkI ps = 0
 ·rw [if_pos h]
  cases hs : splitOf ps with
  | none => intro t ht; cases ht
  | some ts =>
   have hin : ∀ p ∈ normalOf ps, outP p = false := by
    intro p hp
    obtain ⟨k, hk, he⟩ := List.getElem_of_mem hp
    rw [← he, ← gp_eq hk]
    exact normal_in h k
   exact splitGo_all (Q := fun p => outP p = false) rfl _ _ _ ts hin (by intro t ht; cases ht) hs
 ·rw [if_neg h]; intro t ht; cases ht
end Go.Proofs.YtdhakoecjmaebaaGreat
namespace Go.Proofs.YtdhakoecjmaebaaGreat
open Go.RowKit
set_option linter.unusedSimpArgs false
set_option linter.unusedVariables false
theorem box_cmp {a b c d : Int} (ha : 0 ≤ a) (hb : 0 ≤ b) (hc : 0 ≤ c) (hd : 0 ≤ d) (h : a * d = b * c) : (c ≤ a ∧ d ≤ b) ∨ (a ≤ c ∧ b ≤ d) := by
 rcases Int.lt_or_le a c with h1 | h1
 ·rcases Int.lt_or_le d b with h2 | h2
  ·exfalso
   have k1 : a * d ≤ a * b := Int.mul_le_mul_of_nonneg_left (by omega) ha
   have k2 : b * (a + 1) ≤ b * c := Int.mul_le_mul_of_nonneg_left (by omega) hb
   have k3 : b * (a + 1) = a * b + b := by grind
   omega
  ·exact .inr ⟨by omega, h2⟩
 ·rcases Int.lt_or_le b d with h2 | h2
  ·rcases Int.lt_or_le c a with h3 | h3
   ·exfalso
    have k1 : b * c ≤ b * a := Int.mul_le_mul_of_nonneg_left (by omega) hb
    have k2 : a * (b + 1) ≤ a * d := Int.mul_le_mul_of_nonneg_left (by omega) ha
    have k3 : a * (b + 1) = b * a + a := by grind
    omega
   ·exact .inr ⟨by omega, by omega⟩
  ·exact .inl ⟨h1, h2⟩
theorem sgn_cases {a b : Int} (h : 0 ≤ a * b) : (0 ≤ a ∧ 0 ≤ b) ∨ (a ≤ 0 ∧ b ≤ 0) := by
 rcases Int.lt_or_le a 0 with h1 | h1
 ·rcases Int.lt_or_le 0 b with h2 | h2
  ·have := Int.mul_neg_of_neg_of_pos h1 h2; omega
  ·exact .inr ⟨by omega, h2⟩
 ·rcases Int.lt_or_le b 0 with h2 | h2
  ·rcases Int.lt_or_le 0 a with h3 | h3
   ·have := Int.mul_neg_of_pos_of_neg h3 h2; omega
   ·exact .inr ⟨h3, by omega⟩
  ·exact .inl ⟨h1, h2⟩
theorem both_nonneg {p q s : Int} (h : p * q = s * s) (hs : 0 < p + q) : 0 ≤ p ∧ 0 ≤ q := by
 have h2 := sgn_cases (a := p) (b := q) (by rw [h]; exact sq_nonneg s)
 omega
theorem between_of {ux uy vx vy : Int} (h : ux * vy = uy * vx) (hd : 0 < ux * vx + uy * vy) :
  ((min 0 ux ≤ vx ∧ vx ≤ max 0 ux) ∧ (min 0 uy ≤ vy ∧ vy ≤ max 0 uy)) ∨ ((min 0 vx ≤ ux ∧ ux ≤ max 0 vx) ∧ (min 0 vy ≤ uy ∧ uy ≤ max 0 vy)) := by
 have hp := both_nonneg (p := ux * vx) (q := uy * vy) (s := ux * vy) (by grind) hd
 rcases sgn_cases hp.1 with ⟨a1, a2⟩ | ⟨a1, a2⟩ <;> rcases sgn_cases hp.2 with ⟨b1, b2⟩ | ⟨b1, b2⟩
 ·have := box_cmp a1 b1 a2 b2 h; omega
 ·have := box_cmp (a := ux) (b := -uy) (c := vx) (d := -vy) a1 (by omega) a2 (by omega) (by grind); omega
 ·have := box_cmp (a := -ux) (b := uy) (c := -vx) (d := vy) (by omega) b1 (by omega) b2 (by grind); omega
 ·have := box_cmp (a := -ux) (b := -uy) (c := -vx) (d := -vy) (by omega) (by omega) (by omega) (by omega) (by grind); omega
theorem onP_iff {a b q : Pt} : onP a b q = true ↔ crossI a.x a.y b.x b.y q.x q.y = 0 ∧ min a.x b.x ≤ q.x ∧ q.x ≤ max a.x b.x ∧ min a.y b.y ≤ q.y ∧ q.y ≤ max a.y b.y := by
 unfold onP onB
 simp only [Bool.and_eq_true, decide_eq_true_eq, and_assoc]
theorem foldedP_iff {a b c : Pt} : foldedP a b c = true ↔ crossI a.x a.y b.x b.y c.x c.y = 0 ∧ 0 < (a.x - b.x) * (c.x - b.x) + (a.y - b.y) * (c.y - b.y) := by
 unfold foldedP foldedB
 simp only [Bool.and_eq_true, decide_eq_true_eq]
theorem cross_turn (a b c : Pt) : crossI b.x b.y c.x c.y a.x a.y = crossI a.x a.y b.x b.y c.x c.y := by
 unfold crossI; grind
theorem mul_same {u v : Int} (h : (0 ≤ v ∧ v ≤ u) ∨ (u ≤ v ∧ v ≤ 0)) : 0 ≤ u * v ∧ (v ≠ 0 → 0 < u * v) := by
 rcases h with ⟨h1, h2⟩ | ⟨h1, h2⟩
 ·exact ⟨Int.mul_nonneg (by omega) h1, fun hv => Int.mul_pos (by omega) (by omega)⟩
 ·exact ⟨Int.mul_nonneg_of_nonpos_of_nonpos (by omega) h2, fun hv => Int.mul_pos_of_neg_of_neg (by omega) (by omega)⟩
theorem dot_pos {ux uy vx vy : Int} (h1 : (0 ≤ vx ∧ vx ≤ ux) ∨ (ux ≤ vx ∧ vx ≤ 0)) (h2 : (0 ≤ vy ∧ vy ≤ uy) ∨ (uy ≤ vy ∧ vy ≤ 0)) (hv : vx ≠ 0 ∨ vy ≠ 0) : 0 < ux * vx + uy * vy := by
 have a := mul_same h1
 have b := mul_same h2
 rcases hv with hv | hv
 ·have := a.2 hv; omega
 ·have := b.2 hv; omega
theorem folded_of_on {a b c : Pt} (hcb : c ≠ b) (h : onP a b c = true) : foldedP a b c = true := by
 rw [onP_iff] at h
 obtain ⟨h0, h1, h2, h3, h4⟩ := h
 refine foldedP_iff.2 ⟨h0, ?_⟩
 have hv : c.x - b.x ≠ 0 ∨ c.y - b.y ≠ 0 := by
  rcases Classical.em (c.x = b.x) with hx | hx
  ·rcases Classical.em (c.y = b.y) with hy | hy
   ·exact absurd (pt_eq.2 ⟨hx, hy⟩) hcb
   ·exact .inr (by omega)
  ·exact .inl (by omega)
 exact dot_pos (by omega) (by omega) hv
theorem folded_of_on' {a b c : Pt} (hab : a ≠ b) (h : onP b c a = true) : foldedP a b c = true := by
 rw [onP_iff] at h
 obtain ⟨h0, h1, h2, h3, h4⟩ := h
 rw [cross_turn] at h0
 refine foldedP_iff.2 ⟨h0, ?_⟩
 have hv : a.x - b.x ≠ 0 ∨ a.y - b.y ≠ 0 := by
  rcases Classical.em (a.x = b.x) with hx | hx
  ·rcases Classical.em (a.y = b.y) with hy | hy
   ·exact absurd (pt_eq.2 ⟨hx, hy⟩) hab
   ·exact .inr (by omega)
  ·exact .inl (by omega)
 have := dot_pos (ux := c.x - b.x) (uy := c.y - b.y) (vx := a.x - b.x) (vy := a.y - b.y) (by omega) (by omega) hv
 rw [Int.mul_comm (a.x - b.x), Int.mul_comm (a.y - b.y)]
 exact this
theorem on_of_folded {a b c : Pt} (h : foldedP a b c = true) : onP a b c = true ∨ onP b c a = true := by
 rw [foldedP_iff] at h
 obtain ⟨h0, hd⟩ := h
 have hc : (a.x - b.x) * (c.y - b.y) = (a.y - b.y) * (c.x - b.x) := by unfold crossI at h0; grind
 rcases between_of hc hd with ⟨h1, h2⟩ | ⟨h1, h2⟩
 ·exact .inl (onP_iff.2 ⟨h0, by omega, by omega, by omega, by omega⟩)
 ·exact .inr (onP_iff.2 ⟨by rw [cross_turn]; exact h0, by omega, by omega, by omega, by omega⟩)
theorem innerGo_iff (ps : List Pt) (i : Nat) : ∀ f k, i + 2 ≤ k → k + f = ps.length → (innerGo ps i f k = false ↔ ∀ j, k ≤ j → j < ps.length → ¬ (j + 1) % ps.length = i → meetP (gp ps i) (gp ps ((i + 1) % ps.length)) (gp ps j) (gp ps ((j + 1) % ps.length)) = false) := by
 intro f
 induction f with
 | zero => intro k hk hf; exact ⟨fun _ j h1 h2 => by omega, fun _ => rfl⟩
 | succ f ih =>
  intro k hk hf
  rw [innerGo]
  by_cases hq : (k + 1) % ps.length = i
  ·rw [if_pos hq]
   refine ⟨fun _ j h1 h2 hj => ?_, fun _ => rfl⟩
   have hke : k + 1 = ps.length := by
    rcases Nat.lt_or_ge (k + 1) ps.length with h | h
    ·rw [Nat.mod_eq_of_lt h] at hq; omega
    ·omega
   have : j = k := by omega
   subst this
   exact absurd hq hj
  ·rw [if_neg hq]
   by_cases hm : meetP (gp ps i) (gp ps ((i + 1) % ps.length)) (gp ps k) (gp ps ((k + 1) % ps.length)) = true
   ·rw [if_pos hm]
    refine ⟨(fun h => by cases h), fun h => ?_⟩
    rw [h k (Nat.le_refl _) (by omega) hq] at hm
    cases hm
   ·rw [if_neg hm, ih (k + 1) (by omega) (by omega)]
    refine ⟨fun h j h1 h2 hj => ?_, fun h j h1 h2 hj => h j (by omega) h2 hj⟩
    rcases Nat.lt_or_ge k j with hh | hh
    ·exact h j hh h2 hj
    ·rw [show j = k by omega]; simpa using hm
theorem rinnerGo_iff (ps : List Pt) (i : Nat) : ∀ f k, k + f = ps.length → (rinnerGo ps i f k = false ↔ ∀ j, k ≤ j → j < ps.length → ¬ (j + 1) % ps.length = i → meetP (gp ps i) (gp ps ((i + 1) % ps.length)) (gp ps j) (gp ps ((j + 1) % ps.length)) = false) := by
 intro f
 induction f with
 | zero => intro k hf; exact ⟨fun _ j h1 h2 => by omega, fun _ => rfl⟩
 | succ f ih =>
  intro k hf
  rw [rinnerGo]
  by_cases hm : ¬ (k + 1) % ps.length = i ∧ meetP (gp ps i) (gp ps ((i + 1) % ps.length)) (gp ps k) (gp ps ((k + 1) % ps.length)) = true
  ·rw [if_pos hm]
   refine ⟨(fun h => by cases h), fun h => ?_⟩
   have := h k (Nat.le_refl _) (by omega) hm.1
   rw [this] at hm
   exact absurd hm.2 (by simp)
  ·rw [if_neg hm, ih (k + 1) (by omega)]
   refine ⟨fun h j h1 h2 hj => ?_, fun h j h1 h2 hj => h j (by omega) h2 hj⟩
   rcases Nat.lt_or_ge k j with hh | hh
   ·exact h j hh h2 hj
   ·have : j = k := by omega
    subst this
    rcases hmt : meetP (gp ps i) (gp ps ((i + 1) % ps.length)) (gp ps j) (gp ps ((j + 1) % ps.length)) with _ | _
    ·rfl
    ·exact absurd ⟨hj, hmt⟩ hm
theorem outerGo_iff (ps : List Pt) : ∀ f i, (outerGo ps f i = true ↔ ∀ k, i ≤ k → k < i + f → foldedP (gp ps k) (gp ps ((k + 1) % ps.length)) (gp ps ((k + 2) % ps.length)) = false ∧ innerGo ps k (ps.length - (k + 2)) (k + 2) = false) := by
 intro f
 induction f with
 | zero => intro i; exact ⟨fun _ k h1 h2 => by omega, fun _ => rfl⟩
 | succ f ih =>
  intro i
  refine ⟨outerGo_true ps (f + 1) i, fun h => ?_⟩
  rw [outerGo, (h i (Nat.le_refl _) (by omega)).1, (h i (Nat.le_refl _) (by omega)).2]
  exact (ih (i + 1)).2 fun k h1 h2 => h k (by omega) (by omega)
theorem routerGo_iff (ps : List Pt) : ∀ f i, (routerGo ps f i = true ↔ ∀ k, i ≤ k → k < i + f → badAt ps k = false ∧ rinnerGo ps k (ps.length - (k + 2)) (k + 2) = false) := by
 intro f
 induction f with
 | zero => intro i; exact ⟨fun _ k h1 h2 => by omega, fun _ => rfl⟩
 | succ f ih =>
  intro i
  rw [routerGo]
  constructor
  ·intro h k h1 h2
   split at h
   ·cases h
   ·split at h
    ·cases h
    ·rename_i a b
     rcases Nat.lt_or_ge i k with hh | hh
     ·exact (ih (i + 1)).1 h k hh (by omega)
     ·rw [show k = i by omega]; exact ⟨by simpa using a, by simpa using b⟩
  ·intro h
   rw [(h i (Nat.le_refl _) (by omega)).1, (h i (Nat.le_refl _) (by omega)).2]
   exact (ih (i + 1)).2 fun k h1 h2 => h k (by omega) (by omega)
theorem dupGo_true (l : List Pt) : ∀ pre, dupGo pre l = true → (∃ p ∈ pre, p ∈ l) ∨ ∃ i j, ∃ (hi : i < l.length) (hj : j < l.length), i < j ∧ l[i] = l[j] := by
 induction l with
 | nil => intro pre h; cases h
 | cons q l ih =>
  intro pre h
  rw [dupGo] at h
  split at h
  ·rename_i hq; exact .inl ⟨q, hq, List.mem_cons_self ..⟩
  ·rcases ih _ h with ⟨p, hp, hl⟩ | ⟨i, j, hi, hj, hij, he⟩
   ·rcases List.mem_append.1 hp with hp | hp
    ·exact .inl ⟨p, hp, List.mem_cons_of_mem _ hl⟩
    ·rw [List.mem_singleton.1 hp] at hl
     obtain ⟨j, hj, he⟩ := List.getElem_of_mem hl
     exact .inr ⟨0, j + 1, by simp, by simp; omega, by omega, by simpa using he.symm⟩
   ·exact .inr ⟨i + 1, j + 1, by simp; omega, by simp; omega, by omega, by simpa using he⟩
theorem onP_end (a b : Pt) : onP a b a = true ∧ onP a b b = true := by
 constructor <;> (rw [onP_iff]; unfold crossI; refine ⟨by grind, by omega, by omega, by omega, by omega⟩)
theorem meet_same {a b c d : Pt} (h : a = c) : meetP a b c d = true := by
 subst h
 have := (onP_end a b).1
 unfold onP at this
 unfold meetP meetB
 rw [this]
 simp
theorem rsimple_eq {ps : List Pt} (h3 : 3 ≤ ps.length) : rsimpleB ps = simpleB ps := by
 rw [Bool.eq_iff_iff]
 have hm : ∀ k, k < ps.length → ∀ j, 1 ≤ j → j < ps.length → (k + j) % ps.length < ps.length ∧ (k + j) % ps.length ≠ k := by
  intro k hk j h1 h2
  refine ⟨Nat.mod_lt _ (by omega), ?_⟩
  rcases Nat.lt_or_ge (k + j) ps.length with h | h
  ·rw [Nat.mod_eq_of_lt h]; omega
  ·rw [Nat.mod_eq_sub_mod h, Nat.mod_eq_of_lt (by omega)]; omega
 have hm2 : ∀ k, k < ps.length → (k + 1) % ps.length ≠ (k + 2) % ps.length := by
  intro k hk
  rcases Nat.lt_or_ge (k + 1) ps.length with h | h
  ·rw [Nat.mod_eq_of_lt h]
   rcases Nat.lt_or_ge (k + 2) ps.length with h' | h'
   ·rw [Nat.mod_eq_of_lt h']; omega
   ·rw [Nat.mod_eq_sub_mod h', Nat.mod_eq_of_lt (by omega)]; omega
  ·rw [Nat.mod_eq_sub_mod h, Nat.mod_eq_of_lt (by omega), Nat.mod_eq_sub_mod (by omega : k + 2 ≥ ps.length), Nat.mod_eq_of_lt (by omega)]; omega
 have hbad : ∀ k, badAt ps k = false ↔ (gp ps k ≠ gp ps ((k + 1) % ps.length) ∧ onP (gp ps k) (gp ps ((k + 1) % ps.length)) (gp ps ((k + 2) % ps.length)) = false ∧ onP (gp ps ((k + 1) % ps.length)) (gp ps ((k + 2) % ps.length)) (gp ps k) = false) := by
  intro k
  unfold badAt
  simp only [Bool.or_eq_false_iff, Bool.and_eq_false_iff, beq_eq_false_iff_ne, ne_eq, pt_eq, and_assoc]
  constructor
  ·rintro ⟨h1, h2, h3⟩; exact ⟨fun hh => by rcases h1 with h | h; exact h hh.1; exact h hh.2, h2, h3⟩
  ·rintro ⟨h1, h2, h3⟩
   refine ⟨?_, h2, h3⟩
   rcases Classical.em ((gp ps k).x = (gp ps ((k + 1) % ps.length)).x) with h | h
   ·exact .inr fun hh => h1 ⟨h, hh⟩
   ·exact .inl h
 unfold rsimpleB simpleB
 constructor
 ·intro h
  rw [routerGo_iff] at h
  have hd : dupGo [] ps = false := by
   rcases hd : dupGo [] ps with _ | _
   ·rfl
   ·exfalso
    rcases dupGo_true ps [] hd with ⟨p, hp, _⟩ | ⟨i, j, hi, hj, hij, he⟩
    ·cases hp
    ·obtain ⟨hb, hr⟩ := h i (by omega) (by omega)
     rw [← gp_eq hi, ← gp_eq hj] at he
     rcases Nat.lt_or_ge (i + 1) j with h2 | h2
     ·by_cases hq : (j + 1) % ps.length = i
      ·obtain ⟨hb', _⟩ := h j (by omega) (by omega)
       rw [hbad, hq] at hb'
       exact hb'.1 he.symm
      ·rw [rinnerGo_iff _ _ _ _ (by omega)] at hr
       have := hr j h2 hj hq
       rw [meet_same he] at this
       cases this
     ·have : j = i + 1 := by omega
      subst this
      rw [hbad, Nat.mod_eq_of_lt hj] at hb
      exact hb.1 he
  rw [if_neg (by simp [hd]), outerGo_iff]
  intro k h1 h2
  obtain ⟨hb, hr⟩ := h k h1 h2
  rw [hbad] at hb
  refine ⟨?_, ?_⟩
  ·rcases hf : foldedP (gp ps k) (gp ps ((k + 1) % ps.length)) (gp ps ((k + 2) % ps.length)) with _ | _
   ·rfl
   ·rcases on_of_folded hf with h' | h'
    ·rw [hb.2.1] at h'; cases h'
    ·rw [hb.2.2] at h'; cases h'
  ·rcases Nat.lt_or_ge ps.length (k + 2) with h' | h'
   ·rw [show ps.length - (k + 2) = 0 by omega]; rfl
   ·rw [innerGo_iff _ _ _ _ (Nat.le_refl _) (by omega)]
    exact (rinnerGo_iff _ _ _ _ (by omega)).1 hr
 ·intro h
  split at h
  ·cases h
  ·rename_i hd
   have hdis := dupGo_false ps [] (by simpa using hd)
   have hne : ∀ a b, a < ps.length → b < ps.length → a ≠ b → gp ps a ≠ gp ps b := by
    intro a b ha hb hab
    rw [gp_eq ha, gp_eq hb]
    rcases Nat.lt_or_ge a b with hh | hh
    ·exact hdis a b ha hb hh
    ·exact (hdis b a hb ha (by omega)).symm
   rw [outerGo_iff] at h
   rw [routerGo_iff]
   intro k h1 h2
   obtain ⟨hf, hi⟩ := h k h1 h2
   have m1 := hm k (by omega) 1 (by omega) (by omega)
   have m2 := hm k (by omega) 2 (by omega) (by omega)
   have m3 := hm2 k (by omega)
   refine ⟨(hbad k).2 ⟨hne _ _ (by omega) m1.1 m1.2.symm, ?_, ?_⟩, ?_⟩
   ·rcases ho : onP (gp ps k) (gp ps ((k + 1) % ps.length)) (gp ps ((k + 2) % ps.length)) with _ | _
    ·rfl
    ·rw [folded_of_on (hne _ _ m2.1 m1.1 m3.symm) ho] at hf; cases hf
   ·rcases ho : onP (gp ps ((k + 1) % ps.length)) (gp ps ((k + 2) % ps.length)) (gp ps k) with _ | _
    ·rfl
    ·rw [folded_of_on' (hne _ _ (by omega) m1.1 m1.2.symm) ho] at hf; cases hf
   ·rcases Nat.lt_or_ge ps.length (k + 2) with h' | h'
    ·rw [show ps.length - (k + 2) = 0 by omega]; rfl
    ·rw [rinnerGo_iff _ _ _ _ (by omega)]
     exact (innerGo_iff _ _ _ _ (Nat.le_refl _) (by omega)).1 hi
theorem rcheck_eq (ps : List Pt) : rcheckI ps = checkI ps := by
 unfold rcheckI checkI
 split
 ·rfl
 ·split
  ·rfl
  ·rw [rsimple_eq (by omega)]
end Go.Proofs.YtdhakoecjmaebaaGreat
