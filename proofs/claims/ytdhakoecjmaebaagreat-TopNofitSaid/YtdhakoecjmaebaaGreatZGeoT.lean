/-
  The polygons of the program as polygons of the plane: what polygon.Check passes is simple; a vertex cut off.
  triangle.Split never fails on a polygon that polygon.Check passes: the normal form is simple and runs to the left, and a free corner is always found.
  The normal form is simple and runs to the left, and triangle.Split fails on no polygon that polygon.Check passes.
-/
import Derived.Test.YtdhakoecjmaebaaGreatZSplit
import Derived.Test.YtdhakoecjmaebaaGreatZGeoB
/- The polygons of the program as polygons of the plane: what polygon.Check passes is simple; a vertex cut off. -/
namespace Go.Proofs.YtdhakoecjmaebaaGreat
open Go.RowKit
set_option linter.unusedSimpArgs false
set_option linter.unusedVariables false

def vp (p : Pt) : Geo.V := ⟨(p.x : Rat), (p.y : Rat)⟩
theorem vp_inj {p q : Pt} (h : vp p = vp q) : p = q := by
  unfold vp at h
  injection h with h1 h2
  rw [pt_eq]
  exact ⟨Rat.intCast_inj.1 h1, Rat.intCast_inj.1 h2⟩
theorem vp_cr (a b c : Pt) : Geo.cr (vp a) (vp b) (vp c) = ((crossP a b c : Int) : Rat) := by
  unfold Geo.cr vp crossP crossI
  simp
theorem cr_pos {a b c : Pt} : 0 < Geo.cr (vp a) (vp b) (vp c) ↔ 0 < crossP a b c := by rw [vp_cr]; exact Rat.intCast_pos
theorem cr_nonneg {a b c : Pt} : 0 ≤ Geo.cr (vp a) (vp b) (vp c) ↔ 0 ≤ crossP a b c := by rw [vp_cr]; exact Rat.intCast_nonneg
theorem cr_zero {a b c : Pt} : Geo.cr (vp a) (vp b) (vp c) = 0 ↔ crossP a b c = 0 := by
  rw [vp_cr, ← Rat.intCast_zero, Rat.intCast_inj]
theorem cr_neg {a b c : Pt} : Geo.cr (vp a) (vp b) (vp c) < 0 ↔ crossP a b c < 0 := by
  rw [vp_cr, ← Rat.intCast_zero, Rat.intCast_lt_intCast]

theorem edg_idx {a b : Geo.V} {l : List Geo.V} {e : Geo.V × Geo.V} (h : e ∈ Geo.edg a l b) : ∃ i, i ≤ l.length ∧ (a :: l)[i]? = some e.1 ∧ (l ++ [b])[i]? = some e.2 := by
  induction l generalizing a with
  | nil => simp [Geo.edg] at h; subst h; exact ⟨0, by simp, by simp, by simp⟩
  | cons x l ih =>
    rw [Geo.edg] at h
    rcases List.mem_cons.1 h with rfl | h
    · exact ⟨0, by simp, by simp, by simp⟩
    · obtain ⟨i, h1, h2, h3⟩ := ih h
      exact ⟨i + 1, by simp; omega, by simpa using h2, by simpa using h3⟩
theorem poly_idx {ps : List Pt} {e : Geo.V × Geo.V} (h : e ∈ Geo.poly (ps.map vp)) : ∃ i, i < ps.length ∧ e = (vp (gp ps i), vp (gp ps ((i + 1) % ps.length))) := by
  cases ps with
  | nil => simp [Geo.poly] at h
  | cons p r =>
    rw [List.map_cons] at h
    obtain ⟨i, h1, h2, h3⟩ := edg_idx h
    simp only [List.length_map] at h1
    have hi : i < (p :: r).length := by simp; omega
    refine ⟨i, hi, ?_⟩
    have e1 : e.1 = vp (gp (p :: r) i) := by
      rw [← List.map_cons, List.getElem?_map, List.getElem?_eq_getElem hi] at h2
      rw [gp_eq hi]
      simpa using h2.symm
    have e2 : e.2 = vp (gp (p :: r) ((i + 1) % (p :: r).length)) := by
      rcases Nat.lt_or_ge i r.length with k | k
      · rw [List.getElem?_append_left (by simpa using k), List.getElem?_map, List.getElem?_eq_getElem k] at h3
        have hm : (i + 1) % (p :: r).length = i + 1 := Nat.mod_eq_of_lt (by simp; omega)
        rw [hm, gp_eq (by simp; omega)]
        simpa using h3.symm
      · have : i = r.length := by omega
        subst this
        rw [List.getElem?_append_right (by simp)] at h3
        have hm : (r.length + 1) % (p :: r).length = 0 := by simp
        rw [hm]
        simp at h3
        rw [← h3]; rfl
    rw [← e1, ← e2]

theorem onB_of {a b c : Pt} (h : Geo.On (vp a, vp b) (vp c)) : onB a.x a.y b.x b.y c.x c.y = true := by
  have h0 := cr_zero.1 h.cr0
  obtain ⟨s, s0, s1, s2, s3⟩ := h
  simp only [vp] at s2 s3
  unfold crossP at h0
  have box : ∀ x y z : Int, (z : Rat) = (x : Rat) + s * ((y : Rat) - (x : Rat)) → min x y ≤ z ∧ z ≤ max x y := by
    intro x y z hz
    rcases Int.le_total x y with k | k
    · have k' : (x : Rat) ≤ (y : Rat) := Rat.intCast_le_intCast.2 k
      have m1 := Rat.mul_nonneg s0 (show 0 ≤ (y : Rat) - (x : Rat) by grind)
      have m2 := Rat.mul_nonneg (show 0 ≤ 1 - s by grind) (show 0 ≤ (y : Rat) - (x : Rat) by grind)
      have a1 : (x : Rat) ≤ (z : Rat) := by grind
      have a2 : (z : Rat) ≤ (y : Rat) := by grind
      have a1 := Rat.intCast_le_intCast.1 a1
      have a2 := Rat.intCast_le_intCast.1 a2
      omega
    · have k' : (y : Rat) ≤ (x : Rat) := Rat.intCast_le_intCast.2 k
      have m1 := Rat.mul_nonneg s0 (show 0 ≤ (x : Rat) - (y : Rat) by grind)
      have m2 := Rat.mul_nonneg (show 0 ≤ 1 - s by grind) (show 0 ≤ (x : Rat) - (y : Rat) by grind)
      have a1 : (y : Rat) ≤ (z : Rat) := by grind
      have a2 : (z : Rat) ≤ (x : Rat) := by grind
      have a1 := Rat.intCast_le_intCast.1 a1
      have a2 := Rat.intCast_le_intCast.1 a2
      omega
  have bx := box _ _ _ s2
  have by_ := box _ _ _ s3
  unfold onB
  simp only [Bool.and_eq_true, decide_eq_true_eq]
  exact ⟨⟨⟨⟨h0, bx.1⟩, bx.2⟩, by_.1⟩, by_.2⟩
theorem line_param {a b c : Geo.V} (hab : a ≠ b) (h : Geo.cr a b c = 0) : ∃ g : Rat, c.x = a.x + g * (b.x - a.x) ∧ c.y = a.y + g * (b.y - a.y) := by
  rw [Geo.V.ne] at hab
  unfold Geo.cr at h
  by_cases hx : b.x - a.x = 0
  · have hy : b.y - a.y ≠ 0 := by grind
    refine ⟨(c.y - a.y) / (b.y - a.y), ?_, by grind⟩
    have : (b.y - a.y) * (c.x - a.x) = 0 := by grind
    grind
  · refine ⟨(c.x - a.x) / (b.x - a.x), by grind, ?_⟩
    have e : (c.x - a.x) / (b.x - a.x) * (b.x - a.x) = c.x - a.x := by grind
    generalize (c.x - a.x) / (b.x - a.x) = g at *
    have : (b.x - a.x) * (c.y - a.y - g * (b.y - a.y)) = 0 := by grind
    grind
/-- Two ways on one line with a common point: an end of one lies on the other. -/
theorem line_meet {a b c d p : Geo.V} (hab : a ≠ b) (h1 : Geo.cr a b c = 0) (h2 : Geo.cr a b d = 0) (hp : Geo.On (a, b) p) (hq : Geo.On (c, d) p) : Geo.On (a, b) c ∨ Geo.On (a, b) d ∨ Geo.On (c, d) a := by
  obtain ⟨g, g1, g2⟩ := line_param hab h1
  obtain ⟨k, k1, k2⟩ := line_param hab h2
  obtain ⟨s, s0, s1, s2, s3⟩ := hp
  obtain ⟨t, t0, t1, t2, t3⟩ := hq
  simp only [] at s2 s3 t2 t3
  have hs : s = g + t * (k - g) := by
    rw [Geo.V.ne] at hab
    have ex : (b.x - a.x) * (s - (g + t * (k - g))) = 0 := by grind
    have ey : (b.y - a.y) * (s - (g + t * (k - g))) = 0 := by grind
    rcases hab with q | q <;> grind
  by_cases hg : 0 ≤ g ∧ g ≤ 1
  · exact .inl ⟨g, hg.1, hg.2, g1, g2⟩
  by_cases hk : 0 ≤ k ∧ k ≤ 1
  · exact .inr (.inl ⟨k, hk.1, hk.2, k1, k2⟩)
  right; right
  have m1 := Rat.mul_nonneg t0 (show 0 ≤ 1 - t by grind)
  have hgk : (g < 0 ∧ 1 < k) ∨ (1 < g ∧ k < 0) := by
    by_cases c1 : g < 0
    · left
      refine ⟨c1, ?_⟩
      by_cases c2 : k < 0
      · exfalso
        have q1 := Rat.mul_nonneg t0 (show 0 ≤ -k by grind)
        have q2 := Rat.mul_nonneg (show 0 ≤ 1 - t by grind) (show 0 ≤ -g by grind)
        by_cases ht : t = 0
        · rw [ht] at hs; grind
        · have := Rat.mul_pos (show 0 < t by grind) (show 0 < -k by grind); grind
      · grind
    · right
      refine ⟨by grind, ?_⟩
      by_cases c2 : 1 < k
      · exfalso
        have q1 := Rat.mul_nonneg t0 (show 0 ≤ k - 1 by grind)
        have q2 := Rat.mul_nonneg (show 0 ≤ 1 - t by grind) (show 0 ≤ g - 1 by grind)
        by_cases ht : t = 0
        · rw [ht] at hs; grind
        · have := Rat.mul_pos (show 0 < t by grind) (show 0 < k - 1 by grind); grind
      · grind
  rcases hgk with ⟨c1, c2⟩ | ⟨c1, c2⟩
  · obtain ⟨r, r0, r1, r2⟩ := Geo.quot (a := k - g) (b := -g) (by grind) (by grind) (by grind)
    refine ⟨r, r0, r1, ?_, ?_⟩
    · simp only []; rw [g1, k1]
      have : (g + r * (k - g)) * (b.x - a.x) = 0 := by rw [r2]; grind
      grind
    · simp only []; rw [g2, k2]
      have : (g + r * (k - g)) * (b.y - a.y) = 0 := by rw [r2]; grind
      grind
  · obtain ⟨r, r0, r1, r2⟩ := Geo.quot (a := g - k) (b := g) (by grind) (by grind) (by grind)
    refine ⟨r, r0, r1, ?_, ?_⟩
    · simp only []; rw [g1, k1]
      have : (g + r * (k - g)) * (b.x - a.x) = 0 := by
        have : g + r * (k - g) = 0 := by grind
        rw [this]; grind
      grind
    · simp only []; rw [g2, k2]
      have : (g + r * (k - g)) * (b.y - a.y) = 0 := by
        have : g + r * (k - g) = 0 := by grind
        rw [this]; grind
      grind
theorem sgn_opp {m n : Int} (h : (m < 0 ∧ 0 < n) ∨ (0 < m ∧ n < 0)) : sgn m * sgn n < 0 := by
  unfold sgn
  rcases h with ⟨h1, h2⟩ | ⟨h1, h2⟩
  · rw [if_neg (by omega), if_pos h1, if_pos h2]; decide
  · rw [if_pos h1, if_neg (by omega), if_pos h2]; decide
theorem meet_of {a b c d : Pt} {p : Geo.V} (hab : a ≠ b) (hp : Geo.On (vp a, vp b) p) (hq : Geo.On (vp c, vp d) p) : meetP a b c d = true := by
  have hab' : vp a ≠ vp b := fun h => hab (vp_inj h)
  obtain ⟨s, s0, s1, s2, s3⟩ := id hp
  obtain ⟨t, t0, t1, t2, t3⟩ := id hq
  have f1 := Geo.On.aff t2 t3 (vp a) (vp b)
  have f2 := Geo.On.aff s2 s3 (vp c) (vp d)
  rw [hp.cr0] at f1
  rw [hq.cr0] at f2
  simp only [] at f1 f2 s2 s3 t2 t3
  have e1 : Geo.cr (vp a) (vp b) (vp d) - Geo.cr (vp a) (vp b) (vp c) = Geo.cr (vp c) (vp d) (vp a) - Geo.cr (vp c) (vp d) (vp b) := by unfold Geo.cr; grind
  have atA : s = 0 → p = vp a := fun k => Geo.V.ext (by rw [s2, k]; grind) (by rw [s3, k]; grind)
  have atB : s = 1 → p = vp b := fun k => Geo.V.ext (by rw [s2, k]; grind) (by rw [s3, k]; grind)
  have atC : t = 0 → p = vp c := fun k => Geo.V.ext (by rw [t2, k]; grind) (by rw [t3, k]; grind)
  have atD : t = 1 → p = vp d := fun k => Geo.V.ext (by rw [t2, k]; grind) (by rw [t3, k]; grind)
  unfold meetP meetB
  simp only [Bool.or_eq_true, Bool.and_eq_true]
  by_cases hA : Geo.cr (vp a) (vp b) (vp c) = 0
  · by_cases hB : Geo.cr (vp a) (vp b) (vp d) = 0
    · rcases line_meet hab' hA hB hp hq with k | k | k
      · exact .inl (.inl (.inl (.inl (onB_of k))))
      · exact .inl (.inl (.inl (.inr (onB_of k))))
      · exact .inl (.inl (.inr (onB_of k)))
    · have ht : t = 0 := by rw [hA] at f1; grind
      rw [atC ht] at hp
      exact .inl (.inl (.inl (.inl (onB_of hp))))
  · by_cases hB : Geo.cr (vp a) (vp b) (vp d) = 0
    · have ht : t = 1 := by rw [hB] at f1; grind
      rw [atD ht] at hp
      exact .inl (.inl (.inl (.inr (onB_of hp))))
    · by_cases hE : Geo.cr (vp c) (vp d) (vp a) = 0
      · by_cases hF : Geo.cr (vp c) (vp d) (vp b) = 0
        · exfalso
          have : Geo.cr (vp a) (vp b) (vp d) = Geo.cr (vp a) (vp b) (vp c) := by grind
          rw [this] at f1
          grind
        · have hs : s = 0 := by rw [hE] at f2; grind
          rw [atA hs] at hq
          exact .inl (.inl (.inr (onB_of hq)))
      · by_cases hF : Geo.cr (vp c) (vp d) (vp b) = 0
        · have hs : s = 1 := by rw [hF] at f2; grind
          rw [atB hs] at hq
          exact .inl (.inr (onB_of hq))
        · right
          have opp : ∀ (r x y : Rat), 0 ≤ r → r ≤ 1 → 0 = (1 - r) * x + r * y → x ≠ 0 → y ≠ 0 → (x < 0 ∧ 0 < y) ∨ (0 < x ∧ y < 0) := by
            intro r x y r0 r1 h hx hy
            have m1 := Geo.mul_signs (1 - r) x
            have m2 := Geo.mul_signs r y
            have hr0 : 0 < r := by
              by_cases k : r = 0
              · rw [k] at h; grind
              · grind
            have hr1 : 0 < 1 - r := by
              by_cases k : r = 1
              · rw [k] at h; grind
              · grind
            rcases Geo.tri x 0 with k | k | k <;> rcases Geo.tri y 0 with k' | k' | k' <;> grind
          have o1 := opp t _ _ t0 t1 f1 hA hB
          have o2 := opp s _ _ s0 s1 f2 hE hF
          simp only [cr_neg, cr_pos] at o1 o2
          unfold crossP at o1 o2
          exact ⟨by unfold partedB; exact decide_eq_true (sgn_opp o1), by unfold partedB; exact decide_eq_true (sgn_opp o2)⟩
theorem fold_of {a b c : Pt} {p : Geo.V} (hbc : b ≠ c) (hf : foldedP a b c = false) (hp : Geo.On (vp a, vp b) p) (hq : Geo.On (vp b, vp c) p) : p = vp b := by
  obtain ⟨s, s0, s1, s2, s3⟩ := id hp
  obtain ⟨t, t0, t1, t2, t3⟩ := id hq
  have f1 := Geo.On.aff t2 t3 (vp a) (vp b)
  rw [hp.cr0] at f1
  simp only [] at f1 s2 s3 t2 t3
  have z : Geo.cr (vp a) (vp b) (vp b) = 0 := by unfold Geo.cr; grind
  suffices ht : t = 0 by exact Geo.V.ext (by rw [t2, ht]; grind) (by rw [t3, ht]; grind)
  by_cases hc : Geo.cr (vp a) (vp b) (vp c) = 0
  · have hc' := cr_zero.1 hc
    unfold foldedP foldedB at hf
    unfold crossP at hc'
    rw [hc'] at hf
    simp only [decide_true, Bool.true_and, decide_eq_false_iff_not, Int.not_lt] at hf
    have hf' : ((a.x : Rat) - b.x) * ((c.x : Rat) - b.x) + ((a.y : Rat) - b.y) * ((c.y : Rat) - b.y) ≤ 0 := by
      have := Rat.intCast_le_intCast.2 hf
      simpa using this
    have hne : (b.x : Rat) ≠ c.x ∨ (b.y : Rat) ≠ c.y := by
      rw [Ne, pt_eq] at hbc
      by_cases k : b.x = c.x
      · right
        intro e
        exact hbc ⟨k, Rat.intCast_inj.1 e⟩
      · left
        intro e
        exact k (Rat.intCast_inj.1 e)
    simp only [vp] at s2 s3 t2 t3
    generalize (a.x : Rat) = ax at *
    generalize (a.y : Rat) = ay at *
    generalize (b.x : Rat) = bx at *
    generalize (b.y : Rat) = bY at *
    generalize (c.x : Rat) = cx at *
    generalize (c.y : Rat) = cy at *
    have e1 : (1 - s) * ((ax - bx) * (cx - bx) + (ay - bY) * (cy - bY)) = t * ((cx - bx) * (cx - bx) + (cy - bY) * (cy - bY)) := by grind
    have m1 := Rat.mul_nonneg (show 0 ≤ 1 - s by grind) (show 0 ≤ -((ax - bx) * (cx - bx) + (ay - bY) * (cy - bY)) by grind)
    have sq : ∀ x : Rat, 0 ≤ x * x := by
      intro x
      rcases Geo.le_tot 0 x with k | k
      · exact Rat.mul_nonneg k k
      · have := Rat.mul_nonneg (show 0 ≤ -x by grind) (show 0 ≤ -x by grind); grind
    have sqp : ∀ x : Rat, x ≠ 0 → 0 < x * x := by
      intro x hx
      have := sq x
      rcases Geo.tri x 0 with k | k | k
      · exact (Geo.mul_signs x x).2.2.2 k k
      · exact absurd k hx
      · exact (Geo.mul_signs x x).1 k k
    have pos : 0 < (cx - bx) * (cx - bx) + (cy - bY) * (cy - bY) := by
      have q1 := sq (cx - bx)
      have q2 := sq (cy - bY)
      rcases hne with k | k
      · have := sqp (cx - bx) (by grind); grind
      · have := sqp (cy - bY) (by grind); grind
    by_cases ht : t = 0
    · exact ht
    · have := Rat.mul_pos (show 0 < t by grind) pos
      grind
  · rw [z] at f1
    grind

theorem inner_false {ps : List Pt} {i : Nat} : ∀ {f k : Nat}, innerGo ps i f k = false → ∀ j, k ≤ j → j < k + f → (∀ j', k ≤ j' → j' ≤ j → (j' + 1) % ps.length ≠ i) → meetP (gp ps i) (gp ps ((i + 1) % ps.length)) (gp ps j) (gp ps ((j + 1) % ps.length)) = false := by
  intro f
  induction f with
  | zero => intro k _ j h1 h2; omega
  | succ f ih =>
    intro k h j h1 h2 h3
    rw [innerGo] at h
    rw [if_neg (h3 k (by omega) h1)] at h
    split at h
    · cases h
    · rename_i hm
      rcases Nat.lt_or_ge k j with q | q
      · exact ih h j q (by omega) (fun j' a b => h3 j' (by omega) b)
      · rw [show j = k by omega]; simpa using hm
/-- What polygon.Check passes is a simple polygon. -/
theorem simple_vp {ps : List Pt} (hs : simpleB ps = true) (h3 : 3 ≤ ps.length) : Geo.Simple (ps.map vp) := by
  have ho : outerGo ps ps.length 0 = true := by
    have hs' := hs
    unfold simpleB at hs'
    split at hs'
    · cases hs'
    · exact hs'
  have hout := outerGo_true ps _ _ ho
  have hdist : ∀ i j, i < ps.length → j < ps.length → i ≠ j → gp ps i ≠ gp ps j := fun i j hi hj hne => distinct_of_simple hs hi hj hne
  have hnd : ps.Nodup := by
    refine List.pairwise_iff_getElem.2 fun i j hi hj hij => ?_
    have := hdist i j hi hj (by omega)
    rw [gp_eq hi, gp_eq hj] at this
    exact this
  refine ⟨by simpa using h3, ?_, ?_⟩
  · exact List.Pairwise.map vp (fun a b h e => h (vp_inj e)) hnd
  · have key : ∀ i j, i < j → j < ps.length → ∀ p, Geo.On (vp (gp ps i), vp (gp ps ((i + 1) % ps.length))) p → Geo.On (vp (gp ps j), vp (gp ps ((j + 1) % ps.length))) p →
        (p = vp (gp ps ((i + 1) % ps.length)) ∧ p = vp (gp ps j)) ∨ (p = vp (gp ps i) ∧ p = vp (gp ps ((j + 1) % ps.length))) := by
      intro i j hij hj p hp hq
      have hi1 : (i + 1) % ps.length = i + 1 := Nat.mod_eq_of_lt (by omega)
      by_cases c1 : j = i + 1
      · left
        subst c1
        have hf := (hout i (by omega) (by omega)).1
        rw [hi1] at hp hf ⊢
        have hne : gp ps (i + 1) ≠ gp ps ((i + 2) % ps.length) := by
          refine hdist _ _ (by omega) (Nat.mod_lt _ (by omega)) ?_
          rcases Nat.lt_or_ge (i + 2) ps.length with q | q
          · rw [Nat.mod_eq_of_lt q]; omega
          · rw [show i + 2 = ps.length by omega, Nat.mod_self]; omega
        have := fold_of hne hf hp hq
        exact ⟨this, this⟩
      · by_cases c2 : i = 0 ∧ j = ps.length - 1
        · right
          obtain ⟨rfl, rfl⟩ := c2
          have hf := (hout (ps.length - 1) (by omega) (by omega)).1
          have m1 : (ps.length - 1 + 1) % ps.length = 0 := by rw [show ps.length - 1 + 1 = ps.length by omega, Nat.mod_self]
          have m2 : (ps.length - 1 + 2) % ps.length = 1 := by rw [show ps.length - 1 + 2 = ps.length + 1 by omega, Nat.add_mod_left]; exact Nat.mod_eq_of_lt (by omega)
          rw [m1, m2] at hf
          rw [m1] at hq ⊢
          rw [hi1] at hp
          have hne : gp ps 0 ≠ gp ps 1 := hdist 0 1 (by omega) (by omega) (by omega)
          have := fold_of hne hf hq hp
          exact ⟨this, this⟩
        · exfalso
          have hin := (hout i (by omega) (by omega)).2
          have hm := inner_false hin j (by omega) (by omega) (by
            intro j' a b
            rcases Nat.lt_or_ge (j' + 1) ps.length with q | q
            · rw [Nat.mod_eq_of_lt q]; omega
            · rw [show j' + 1 = ps.length by omega, Nat.mod_self]; omega)
          have := meet_of (hdist i ((i + 1) % ps.length) (by omega) (by rw [hi1]; omega) (by rw [hi1]; omega)) hp hq
          rw [hm] at this
          cases this
    intro e he f hf hne p hp hq
    obtain ⟨i, hi, rfl⟩ := poly_idx he
    obtain ⟨j, hj, rfl⟩ := poly_idx hf
    rcases Nat.lt_trichotomy i j with k | k | k
    · exact key i j k hj p hp hq
    · subst k; exact absurd rfl hne
    · rcases key j i k hi p hq hp with ⟨q1, q2⟩ | ⟨q1, q2⟩
      · exact .inr ⟨q2, q1⟩
      · exact .inl ⟨q2, q1⟩

end Go.Proofs.YtdhakoecjmaebaaGreat

/- triangle.Split never fails on a polygon that polygon.Check passes: the normal form is simple and runs to the left, and a free corner is always found. -/
namespace Go.Proofs.YtdhakoecjmaebaaGreat
open Go.RowKit
set_option linter.unusedSimpArgs false
set_option linter.unusedVariables false

/-- The cyclic neighbours of a vertex, and the polygon without it. -/
theorem around_get {l : List Pt} {j k : Nat} (hj : j < l.length) (hk : k < l.length - 1) : (l.drop (j + 1) ++ l.take j)[k]? = some (gp l ((j + 1 + k) % l.length)) := by
  have hm : (j + 1 + k) % l.length < l.length := Nat.mod_lt _ (by omega)
  rw [gp_eq hm]
  rcases Nat.lt_or_ge (j + 1 + k) l.length with h | h
  · rw [List.getElem?_append_left (by simp; omega), List.getElem?_drop, List.getElem?_eq_getElem h]
    congr 1
    congr 1
    exact (Nat.mod_eq_of_lt h).symm
  · rw [List.getElem?_append_right (by simp; omega), List.getElem?_take, if_pos (by simp; omega)]
    have e : (j + 1 + k) % l.length = j + 1 + k - l.length := by
      rw [Nat.mod_eq_sub_mod h, Nat.mod_eq_of_lt (by omega)]
    have e2 : k - (l.drop (j + 1)).length = j + 1 + k - l.length := by simp; omega
    rw [e2, List.getElem?_eq_getElem (by omega)]
    congr 1
    congr 1
    exact e.symm
theorem form2 {α : Type} {l : List α} (h : 2 ≤ l.length) : ∃ w m u, l = w :: (m ++ [u]) := by
  match l, h with
  | w :: x :: r, _ => exact ⟨w, (x :: r).dropLast, (x :: r).getLast (by simp), by rw [List.dropLast_concat_getLast]⟩
theorem around {l : List Pt} {j : Nat} (hj : j < l.length) (h3 : 3 ≤ l.length) : ∃ w m u, l.drop (j + 1) ++ l.take j = w :: (m ++ [u]) ∧ gp l ((j + 1) % l.length) = w ∧ gp l ((j + l.length - 1) % l.length) = u := by
  have hlen : (l.drop (j + 1) ++ l.take j).length = l.length - 1 := by simp; omega
  obtain ⟨w, m, u, hw⟩ := form2 (l := l.drop (j + 1) ++ l.take j) (by omega)
  refine ⟨w, m, u, hw, ?_, ?_⟩
  · have := around_get (k := 0) hj (by omega)
    rw [hw] at this
    simpa using this.symm
  · have h2 : m.length + 2 = l.length - 1 := by rw [hw] at hlen; simpa using hlen
    have := around_get (k := l.length - 2) hj (by omega)
    rw [hw, show l.length - 2 = (m.length + 1) by omega] at this
    rw [show j + 1 + (m.length + 1) = j + l.length - 1 by omega] at this
    simpa using this.symm
theorem rot_of {l : List Pt} {j : Nat} (hj : j < l.length) {w u : Pt} {m : List Pt} (h : l.drop (j + 1) ++ l.take j = w :: (m ++ [u])) :
    Geo.IsRot (l.map vp) (vp (gp l j) :: vp w :: (m.map vp ++ [vp u])) ∧ Geo.IsRot ((l.eraseIdx j).map vp) (vp w :: (m.map vp ++ [vp u])) ∧ ∀ q ∈ l, q = gp l j ∨ q = w ∨ q ∈ m ∨ q = u := by
  have e : l = l.take j ++ gp l j :: l.drop (j + 1) := by
    rw [gp_eq hj, ← List.drop_eq_getElem_cons hj, List.take_append_drop]
  refine ⟨⟨(l.take j).map vp, (gp l j :: l.drop (j + 1)).map vp, ?_, ?_⟩, ⟨(l.take j).map vp, (l.drop (j + 1)).map vp, ?_, ?_⟩, ?_⟩
  · rw [← List.map_append, ← e]
  · rw [← List.map_append, List.cons_append, h]; simp
  · rw [← List.map_append, List.eraseIdx_eq_take_drop_succ]
  · rw [← List.map_append, h]; simp
  · intro q hq
    rw [e] at hq
    have : q ∈ l.drop (j + 1) ++ l.take j ∨ q = gp l j := by
      simp only [List.mem_append, List.mem_cons] at hq ⊢
      rcases hq with k | k | k
      · exact .inl (.inr k)
      · exact .inr k
      · exact .inl (.inl k)
    rcases this with k | k
    · rw [h] at k
      simp only [List.mem_append, List.mem_cons, List.not_mem_nil, or_false] at k
      rcases k with k | k | k
      · exact .inr (.inl k)
      · exact .inr (.inr (.inl k))
      · exact .inr (.inr (.inr k))
    · exact .inl k
/-- A simple polygon that runs to the left. -/
def Good (l : List Pt) : Prop := Geo.Simple (l.map vp) ∧ Geo.lam (l.map vp) = 1
theorem flat_erase {l : List Pt} {j : Nat} (hs : Geo.Simple (l.map vp)) (h4 : 4 ≤ l.length) (hj : j < l.length) (hb : bendI l j = 0) :
    Geo.Simple ((l.eraseIdx j).map vp) ∧ Geo.lam ((l.eraseIdx j).map vp) = Geo.lam (l.map vp) := by
  obtain ⟨w, m, u, h, e1, e2⟩ := around hj (by omega)
  obtain ⟨r1, r2, _⟩ := rot_of hj h
  unfold bendI at hb
  rw [e1, e2] at hb
  obtain ⟨k1, k2⟩ := Geo.flat_cut hs (by simpa using h4) r1 (cr_zero.2 hb)
  obtain ⟨q1, q2, _⟩ := r2.symm.simple k1
  exact ⟨q1, by rw [q2, k2]⟩
theorem holds_in {a b c q : Pt} : 0 ≤ holdsI a b c q ↔ Geo.InT (vp a) (vp b) (vp c) (vp q) := by
  unfold holdsI Geo.InT
  rw [cr_nonneg, cr_nonneg, cr_nonneg]
  split
  · rename_i h; exact ⟨fun _ => ⟨by omega, by omega, by omega⟩, fun _ => by omega⟩
  · split
    · rename_i h; exact ⟨fun _ => h, fun _ => by omega⟩
    · rename_i h; exact ⟨fun k => by omega, fun k => absurd k h⟩
theorem freeGo_iff {a b c : Pt} : ∀ {l : List Pt}, freeGo a b c l = true ↔ ∀ q ∈ l, q ≠ a → q ≠ b → q ≠ c → ¬ 0 ≤ holdsI a b c q := by
  intro l
  induction l with
  | nil => simp [freeGo]
  | cons q l ih =>
    rw [freeGo]
    split
    · rename_i h
      refine ⟨(fun k => by cases k), fun k => ?_⟩
      exact absurd h.2 (k q (by simp) h.1.1 h.1.2.1 h.1.2.2)
    · rename_i h
      rw [ih]
      refine ⟨fun k x hx => ?_, fun k x hx => k x (List.mem_cons_of_mem _ hx)⟩
      rcases List.mem_cons.1 hx with rfl | hx
      · exact fun h1 h2 h3 h4 => h ⟨⟨h1, h2, h3⟩, h4⟩
      · exact k x hx
theorem good_free {l : List Pt} {j : Nat} (hg : Good l) (h4 : 4 ≤ l.length) (hj : j < l.length) (hf : freeB l j = true) : Good (l.eraseIdx j) := by
  obtain ⟨w, m, u, h, e1, e2⟩ := around hj (by omega)
  obtain ⟨r1, r2, _⟩ := rot_of hj h
  unfold freeB bendI at hf
  rw [e1, e2, Bool.and_eq_true, decide_eq_true_eq, freeGo_iff] at hf
  have hnd := (r1.simple hg.1).1.2.1
  obtain ⟨n1, n2, n3, n4, n5, n6, _⟩ := Geo.nd_four hnd
  obtain ⟨k1, k2⟩ := Geo.ear_cut hg.1 (by simpa using h4) r1 (cr_pos.2 hf.1) (by
    intro x hx
    obtain ⟨q, hq, rfl⟩ := List.mem_map.1 hx
    rw [← holds_in]
    refine hf.2 q ?_ ?_ ?_ ?_
    · have : q ∈ l.drop (j + 1) ++ l.take j := by rw [h]; simp [hq]
      rcases List.mem_append.1 this with k | k
      · exact List.mem_of_mem_drop k
      · exact List.mem_of_mem_take k
    · rintro rfl; exact n6 hx
    · rintro rfl; exact n4 hx
    · rintro rfl; exact n5 hx)
  obtain ⟨q1, q2, _⟩ := r2.symm.simple k1
  exact ⟨q1, by rw [q2, k2]; exact hg.2⟩
theorem good_flat {l : List Pt} {j : Nat} (hg : Good l) (h4 : 4 ≤ l.length) (hj : j < l.length) (hb : bendI l j = 0) : Good (l.eraseIdx j) := by
  obtain ⟨k1, k2⟩ := flat_erase hg.1 h4 hj hb
  exact ⟨k1, by rw [k2]; exact hg.2⟩
/-- A free corner is always found. -/
theorem free_exists {l : List Pt} (hg : Good l) (h4 : 4 ≤ l.length) : ∃ j, j < l.length ∧ freeB l j = true := by
  obtain ⟨e, he⟩ : ∃ e, e ∈ Geo.poly (l.map vp) := by
    match l, h4 with
    | a :: b :: r, _ => exact ⟨(vp a, vp b), by simp [Geo.poly, Geo.edg]⟩
  obtain ⟨i, ⟨b, mm, a, hr, hD, hfree⟩, _⟩ := Geo.ears _ (l.map vp) rfl hg.1 hg.2 e he
  obtain ⟨A', B', h1, h2⟩ := Geo.rot_split hr
  obtain ⟨A, B0, rfl, hA, hB⟩ := List.map_eq_append_iff.1 h1
  obtain ⟨p, B, rfl, hp, hB⟩ := List.map_eq_cons_iff.1 hB
  have hj : A.length < (A ++ p :: B).length := by simp
  obtain ⟨w, m, u, h, e1, e2⟩ := around hj (by omega)
  have hdt : (A ++ p :: B).drop (A.length + 1) ++ (A ++ p :: B).take A.length = B ++ A := by simp
  have hgp : gp (A ++ p :: B) A.length = p := by rw [gp_eq hj]; simp
  have hwm : vp w :: (m.map vp ++ [vp u]) = b :: (mm ++ [a]) := by
    rw [h2, ← hA, ← hB, ← List.map_append, ← hdt, h]; simp
  simp only [List.cons.injEq] at hwm
  obtain ⟨rfl, hwm⟩ := hwm
  obtain ⟨rfl, hz⟩ := List.append_inj' hwm rfl
  simp at hz
  subst hz
  subst hp
  refine ⟨A.length, hj, ?_⟩
  unfold freeB bendI
  rw [e1, e2, hgp, Bool.and_eq_true, decide_eq_true_eq, freeGo_iff]
  refine ⟨cr_pos.1 hD, fun q hq h1 h2 h3 h4 => ?_⟩
  rw [holds_in] at h4
  obtain ⟨_, _, hm⟩ := rot_of hj h
  rcases hm q hq with k | k | k | k
  · exact h2 (by rw [k, hgp])
  · exact h3 k
  · exact hfree (vp q) (List.mem_map_of_mem k) h4
  · exact h1 k
theorem first_some {t : Nat → Bool} : ∀ {f k j : Nat}, k ≤ j → j < k + f → t j = true → 0 ≤ firstGo t f k := by
  intro f
  induction f with
  | zero => intro k j h1 h2; omega
  | succ f ih =>
    intro k j h1 h2 h
    rw [firstGo]
    split
    · omega
    · rename_i hk
      rcases Nat.lt_or_ge k j with q | q
      · exact ih q (by omega) h
      · have : j = k := by omega
        subst this
        exact absurd h hk
theorem straight_flat {l : List Pt} (h : 0 ≤ straightAt l) : (straightAt l).toNat < l.length ∧ bendI l (straightAt l).toNat = 0 := by
  rcases first_bd (fun k => decide (bendI l k = 0)) l.length 0 with h' | ⟨j, _, h2, h3, h4⟩
  · unfold straightAt at h; omega
  · have e : straightAt l = (j : Int) := h3
    rw [e, Int.toNat_natCast]
    exact ⟨by omega, by simpa using h4⟩
theorem split_some : ∀ (f : Nat) (l : List Pt) (acc : List (List Pt)), Good l → ∃ ts, splitGo f l acc = some ts := by
  intro f
  induction f with
  | zero => intro l acc _; exact ⟨_, rfl⟩
  | succ f ih =>
    intro l acc hg
    rw [splitGo]
    split
    · exact ⟨_, rfl⟩
    · rename_i h3
      split
      · rename_i hs
        obtain ⟨k1, k2⟩ := straight_flat hs
        exact ih _ _ (good_flat hg (by omega) k1 k2)
      · obtain ⟨j, hj, hfj⟩ := free_exists hg (by omega)
        have hpos : 0 ≤ freeAt l := first_some (Nat.zero_le j) (by omega) hfj
        rw [if_pos hpos]
        rcases free_bd l with k | ⟨j', k1, k2, k3⟩
        · omega
        · rw [k2, Int.toNat_natCast]
          exact ih _ _ (good_free hg (by omega) k1 k3)

/- The vertices at which the polygon turns. -/
/-- The way from a to b is a positive multiple of the one from c to d. -/
def Par (a b c d : Geo.V) : Prop := ∃ k : Rat, 0 < k ∧ b.x - a.x = k * (d.x - c.x) ∧ b.y - a.y = k * (d.y - c.y)
theorem Par.refl (a b : Geo.V) : Par a b a b := ⟨1, by grind, by grind, by grind⟩
theorem par_cr {u x w p q : Geo.V} (h1 : Par u x p x) (h2 : Par x w x q) (h : Geo.cr p x q = 0) : Geo.cr u x w = 0 := by
  obtain ⟨k, k0, k1, k2⟩ := h1
  obtain ⟨j, j0, j1, j2⟩ := h2
  have e1 : Geo.cr u x w = (x.x - u.x) * (w.y - x.y) - (x.y - u.y) * (w.x - x.x) := by unfold Geo.cr; grind
  have e2 : Geo.cr p x q = (x.x - p.x) * (q.y - x.y) - (x.y - p.y) * (q.x - x.x) := by unfold Geo.cr; grind
  rw [e1, k1, k2, j1, j2]
  rw [e2] at h
  have : k * (x.x - p.x) * (j * (q.y - x.y)) - k * (x.y - p.y) * (j * (q.x - x.x)) = k * j * ((x.x - p.x) * (q.y - x.y) - (x.y - p.y) * (q.x - x.x)) := by grind
  rw [this, h]
  grind
theorem flat_par {p x q : Geo.V} (h : Geo.Flat p x q) : Par p x x q := by
  obtain ⟨s, s0, s1, s2, s3⟩ := h
  have hne : 1 - s ≠ 0 := by grind
  have he : s / (1 - s) * (1 - s) = s := by grind
  have hpos : 0 < s / (1 - s) := by
    generalize s / (1 - s) = k at *
    exact Geo.pos_of (k := 1 - s) (by grind) he s0
  refine ⟨s / (1 - s), hpos, ?_, ?_⟩
  · generalize s / (1 - s) = k at *
    have : (1 - s) * (x.x - p.x - k * (q.x - x.x)) = 0 := by grind
    grind
  · generalize s / (1 - s) = k at *
    have : (1 - s) * (x.y - p.y - k * (q.y - x.y)) = 0 := by grind
    grind
theorem Par.inv {a b c d : Geo.V} (h : Par a b c d) : Par c d a b := by
  obtain ⟨k, k0, k1, k2⟩ := h
  have e : k⁻¹ * k = 1 := by grind
  have hp : 0 < k⁻¹ := Rat.inv_pos.2 k0
  generalize k⁻¹ = j at *
  exact ⟨j, hp, by rw [k1]; grind, by rw [k2]; grind⟩
theorem Par.trans {a b c d e f : Geo.V} (h : Par a b c d) (g : Par c d e f) : Par a b e f := by
  obtain ⟨k, k0, k1, k2⟩ := h
  obtain ⟨j, j0, j1, j2⟩ := g
  exact ⟨k * j, Rat.mul_pos k0 j0, by rw [k1, j1]; grind, by rw [k2, j2]; grind⟩
/-- On along the same direction. -/
theorem Par.on {a b c d : Geo.V} (h : Par a b b c) (g : Par b c d c) : Par a c d c := by
  obtain ⟨k, k0, k1, k2⟩ := h
  obtain ⟨j, j0, j1, j2⟩ := g
  have := Rat.mul_pos k0 j0
  exact ⟨k * j + j, by grind, by rw [show c.x - a.x = (b.x - a.x) + (c.x - b.x) by grind, k1, j1]; grind, by rw [show c.y - a.y = (b.y - a.y) + (c.y - b.y) by grind, k2, j2]; grind⟩
theorem Par.add {a b c e f : Geo.V} (h : Par a b e f) (g : Par b c e f) : Par a c e f := by
  obtain ⟨k, k0, k1, k2⟩ := h
  obtain ⟨j, j0, j1, j2⟩ := g
  exact ⟨k + j, by grind, by rw [show c.x - a.x = (b.x - a.x) + (c.x - b.x) by grind, k1, j1]; grind, by rw [show c.y - a.y = (b.y - a.y) + (c.y - b.y) by grind, k2, j2]; grind⟩
theorem tri_not_flat {i b a : Geo.V} (h : Geo.Simple [i, b, a]) : Geo.cr a i b ≠ 0 := by
  intro hc
  have hs : Geo.Simple (i :: b :: ([] ++ [a])) := h
  obtain ⟨s, s0, s1, s2, s3⟩ := Geo.flat_of (Geo.nf_of_simple hs) hc
  have hr : Geo.Simple (b :: a :: ([] ++ [i])) := hs.rot
  obtain ⟨t, t0, t1, t2, t3⟩ := Geo.flat_of (Geo.nf_of_simple hr) (by rw [Geo.cr_rot]; exact hc)
  obtain ⟨n1, n2, n3, _⟩ := Geo.nd_four hs.2.1
  rw [Geo.V.ne] at n3
  have m := Rat.mul_pos s0 (show 0 < 1 - t by grind)
  have m2 := Rat.mul_pos (show 0 < 1 - s by grind) (show 0 < 1 - t by grind)
  have ex : (b.x - a.x) * (1 - s * (1 - t)) = 0 := by grind
  have ey : (b.y - a.y) * (1 - s * (1 - t)) = 0 := by grind
  have hF : 1 - s * (1 - t) ≠ 0 := by clear ex ey hs hr h hc n1 n2 s2 s3 t2 t3; grind
  rcases n3 with k | k
  · rcases Rat.mul_eq_zero.1 ex with q | q
    · exact k (by grind)
    · exact hF q
  · rcases Rat.mul_eq_zero.1 ey with q | q
    · exact k (by grind)
    · exact hF q
/-- What is known while the straight vertices are left out, one after the other: acc is kept, the rest is from i on. -/
structure CornInv (ps : List Pt) (i : Nat) (acc : List Pt) : Prop where
  simple : Geo.Simple ((acc ++ ps.drop i).map vp)
  lam : Geo.lam ((acc ++ ps.drop i).map vp) = Geo.lam (ps.map vp)
  prev : i < ps.length → ∀ w m u, ps.drop (i + 1) ++ acc = w :: (m ++ [u]) → Par (vp u) (vp (gp ps i)) (vp (gp ps ((i + ps.length - 1) % ps.length))) (vp (gp ps i))
  head : i < ps.length → ∀ y r, acc ++ ps.drop i = y :: r → Par (vp (gp ps (ps.length - 1))) (vp y) (vp (gp ps (ps.length - 1))) (vp (gp ps 0))
theorem drop_gp {ps : List Pt} {i : Nat} (h : i < ps.length) : ps.drop i = gp ps i :: ps.drop (i + 1) := by rw [gp_eq h]; exact List.drop_eq_getElem_cons h
theorem last_form (w u : Pt) (m : List Pt) : (w :: (m ++ [u])).getLast? = some u := List.getLast?_concat (l := w :: m)
theorem corn_keep {ps : List Pt} {i : Nat} {acc : List Pt} (h : CornInv ps i acc) (hi : i < ps.length) : CornInv ps (i + 1) (acc ++ [gp ps i]) := by
  have e : acc ++ [gp ps i] ++ ps.drop (i + 1) = acc ++ ps.drop i := by rw [drop_gp hi]; simp
  refine ⟨by rw [e]; exact h.simple, by rw [e]; exact h.lam, ?_, ?_⟩
  · intro hi' w m u hw
    have hu : u = gp ps i := by
      have : (ps.drop (i + 1 + 1) ++ (acc ++ [gp ps i])).getLast? = (w :: (m ++ [u])).getLast? := by rw [hw]
      rw [← List.append_assoc] at this
      rw [last_form] at this
      simp at this
      exact this.symm
    have em : (i + 1 + ps.length - 1) % ps.length = i := by
      rw [show i + 1 + ps.length - 1 = i + ps.length by omega, Nat.add_mod_right]
      exact Nat.mod_eq_of_lt hi
    rw [em, hu]
    exact Par.refl _ _
  · intro hi' y r hy
    rw [e] at hy
    exact h.head hi y r hy
theorem corn_drop {ps : List Pt} {i : Nat} {acc : List Pt} (hps : Geo.Simple (ps.map vp)) (h : CornInv ps i acc) (hi : i < ps.length) (hb : bendI ps i = 0) : CornInv ps (i + 1) acc := by
  have h3 : 3 ≤ ps.length := by have := hps.1; simpa using this
  have e : acc ++ ps.drop i = acc ++ gp ps i :: ps.drop (i + 1) := by rw [drop_gp hi]
  -- the flat corner of the polygon itself
  obtain ⟨w0, m0, u0, a0, a1, a2⟩ := around hi h3
  obtain ⟨r1, _, _⟩ := rot_of hi a0
  unfold bendI at hb
  rw [a1, a2] at hb
  have hflat0 := Geo.flat_of (Geo.nf_of_simple (r1.simple hps).1) (cr_zero.2 hb)
  have hpar0 := flat_par hflat0
  rw [← a1, ← a2] at hpar0
  have hb' := cr_zero.2 hb
  rw [← a1, ← a2] at hb'
  -- the polygon so far
  have hlen := h.simple.1
  have hl2 : 2 ≤ (ps.drop (i + 1) ++ acc).length := by
    rw [e] at hlen
    simp at hlen ⊢
    omega
  obtain ⟨w, m, u, hw⟩ := form2 hl2
  have hrot : Geo.IsRot ((acc ++ ps.drop i).map vp) (vp (gp ps i) :: vp w :: (m.map vp ++ [vp u])) := by
    refine ⟨acc.map vp, (gp ps i :: ps.drop (i + 1)).map vp, by rw [← List.map_append, e], ?_⟩
    rw [← List.map_append, List.cons_append, hw]; simp
  have hrot2 : Geo.IsRot ((acc ++ ps.drop (i + 1)).map vp) (vp w :: (m.map vp ++ [vp u])) := by
    refine ⟨acc.map vp, (ps.drop (i + 1)).map vp, by rw [← List.map_append], ?_⟩
    rw [← List.map_append, hw]; simp
  have hprev := h.prev hi w m u hw
  have hnext : Par (vp (gp ps i)) (vp w) (vp (gp ps i)) (vp (gp ps ((i + 1) % ps.length))) := by
    rcases Nat.lt_or_ge (i + 1) ps.length with q | q
    · rw [drop_gp q, List.cons_append] at hw
      injection hw with hw1 hw2
      rw [Nat.mod_eq_of_lt q, ← hw1]
      exact Par.refl _ _
    · have hn : i = ps.length - 1 := by omega
      have hd : ps.drop (i + 1) = [] := List.drop_eq_nil_of_le q
      rw [hd, List.nil_append] at hw
      have := h.head hi w (m ++ [u] ++ ps.drop i) (by rw [hw]; simp)
      rw [show (i + 1) % ps.length = 0 by rw [show i + 1 = ps.length by omega, Nat.mod_self], hn]
      exact this
  have hc := par_cr hprev hnext hb'
  have h4 : 4 ≤ ((acc ++ ps.drop i).map vp).length := by
    rcases Nat.lt_or_ge 3 ((acc ++ ps.drop i).map vp).length with q | q
    · exact q
    · exfalso
      have hm : m = [] := by
        have := hrot.len
        simp only [List.length_cons, List.length_append, List.length_map, List.length_nil] at this hlen q
        exact List.eq_nil_of_length_eq_zero (by omega)
      subst hm
      exact tri_not_flat (hrot.simple h.simple).1 hc
  obtain ⟨k1, k2⟩ := Geo.flat_cut h.simple h4 hrot hc
  obtain ⟨q1, q2, _⟩ := hrot2.symm.simple k1
  refine ⟨q1, by rw [q2, k2, h.lam], ?_, ?_⟩
  · intro hi' w' m' u' hw'
    have hu : u' = u := by
      have e1 : (ps.drop (i + 1) ++ acc).getLast? = some u := by rw [hw]; exact last_form _ _ _
      rw [drop_gp hi', List.cons_append, hw'] at e1
      have e3 := last_form (gp ps (i + 1)) u' (w' :: m')
      rw [List.cons_append, e1] at e3
      simpa using e3.symm
    have em : (i + 1 + ps.length - 1) % ps.length = i := by
      rw [show i + 1 + ps.length - 1 = i + ps.length by omega, Nat.add_mod_right]
      exact Nat.mod_eq_of_lt hi
    rw [hu, em]
    rw [Nat.mod_eq_of_lt hi'] at hpar0
    exact Par.on (hprev.trans hpar0) (Par.refl _ _)
  · intro hi' y r hy
    cases hacc : acc with
    | cons a acc' =>
      rw [hacc, List.cons_append] at hy
      injection hy with hy1 hy2
      exact h.head hi y (acc' ++ ps.drop i) (by rw [hacc, hy1]; rfl)
    | nil =>
      rw [hacc, List.nil_append, drop_gp hi'] at hy
      injection hy with hy1 hy2
      have hh := h.head hi (gp ps i) (ps.drop (i + 1)) (by rw [hacc, drop_gp hi]; rfl)
      have hu : u = gp ps (ps.length - 1) := by
        have e1 : (ps.drop (i + 1) ++ acc).getLast? = some u := by rw [hw]; exact last_form _ _ _
        rw [hacc, List.append_nil, List.getLast?_drop, if_neg (by omega)] at e1
        rw [List.getLast?_eq_getElem?, List.getElem?_eq_getElem (by omega)] at e1
        rw [gp_eq (by omega)]
        simpa using e1.symm
      rw [hu] at hprev
      rw [Nat.mod_eq_of_lt hi'] at hpar0
      rw [← hy1]
      -- on from the vertex before in the same direction
      have g1 : Par (vp (gp ps i)) (vp (gp ps (i + 1))) (vp (gp ps (ps.length - 1))) (vp (gp ps i)) := (hprev.trans hpar0).inv
      have g2 : Par (vp (gp ps i)) (vp (gp ps (i + 1))) (vp (gp ps (ps.length - 1))) (vp (gp ps 0)) := g1.trans hh
      exact Par.add hh g2
theorem corn_all {ps : List Pt} (hps : Geo.Simple (ps.map vp)) : ∀ f i acc, i + f = ps.length → CornInv ps i acc → Geo.Simple ((cornGo ps f i acc).map vp) ∧ Geo.lam ((cornGo ps f i acc).map vp) = Geo.lam (ps.map vp) := by
  intro f
  induction f with
  | zero =>
    intro i acc hi h
    have h1 := h.simple
    have h2 := h.lam
    rw [List.drop_eq_nil_of_le (by omega), List.append_nil] at h1 h2
    exact ⟨h1, h2⟩
  | succ f ih =>
    intro i acc hi h
    rw [cornGo]
    split
    · rename_i hb
      exact ih _ _ (by omega) (corn_drop hps h (by omega) hb)
    · exact ih _ _ (by omega) (corn_keep h (by omega))
theorem corners_simple {ps : List Pt} (hps : Geo.Simple (ps.map vp)) : Geo.Simple ((cornersOf ps).map vp) ∧ Geo.lam ((cornersOf ps).map vp) = Geo.lam (ps.map vp) := by
  have h3 : 3 ≤ ps.length := by have := hps.1; simpa using this
  refine corn_all hps _ 0 [] (by omega) ⟨by simpa using hps, by simp, ?_, ?_⟩
  · intro hi w m u hw
    rw [List.append_nil] at hw
    have hu : u = gp ps (ps.length - 1) := by
      have e1 : (ps.drop (0 + 1)).getLast? = some u := by rw [hw]; exact last_form _ _ _
      rw [List.getLast?_drop, if_neg (by omega)] at e1
      rw [List.getLast?_eq_getElem?, List.getElem?_eq_getElem (by omega)] at e1
      rw [gp_eq (by omega)]
      simpa using e1.symm
    rw [hu, show (0 + ps.length - 1) % ps.length = ps.length - 1 by rw [Nat.zero_add]; exact Nat.mod_eq_of_lt (by omega)]
    exact Par.refl _ _
  · intro hi y r hy
    rw [List.nil_append, drop_gp hi] at hy
    injection hy with hy1 hy2
    rw [← hy1]
    exact Par.refl _ _

end Go.Proofs.YtdhakoecjmaebaaGreat

/- The normal form is simple and runs to the left, and triangle.Split fails on no polygon that polygon.Check passes. -/
namespace Go.Proofs.YtdhakoecjmaebaaGreat
open Go.RowKit
set_option linter.unusedSimpArgs false
set_option linter.unusedVariables false

theorem area_sum (ps : List Pt) (p : Pt) (hp : gp ps 0 = p) : ∀ f i s, i + (f + 1) = ps.length → ((areaGo ps (f + 1) i s : Int) : Rat) = (s : Rat) + Geo.ar (Geo.edg (vp (gp ps i)) ((ps.drop (i + 1)).map vp) (vp p)) := by
  intro f
  induction f with
  | zero =>
    intro i s hi
    have hm : (i + 1) % ps.length = 0 := by rw [show i + 1 = ps.length by omega, Nat.mod_self]
    rw [areaGo, areaGo, List.drop_eq_nil_of_le (by omega), hm, hp]
    simp only [List.map_nil, Geo.edg, Geo.ar, vp]
    simp
    grind
  | succ f ih =>
    intro i s hi
    have hm : (i + 1) % ps.length = i + 1 := Nat.mod_eq_of_lt (by omega)
    rw [areaGo, ih (i + 1) _ (by omega), drop_gp (i := i + 1) (by omega), hm]
    simp only [List.map_cons, Geo.edg, Geo.ar, vp]
    simp
    grind
theorem area_vp {ps : List Pt} (h : 0 < ps.length) : ((areaI ps : Int) : Rat) = Geo.ar (Geo.poly (ps.map vp)) := by
  cases ps with
  | nil => simp at h
  | cons p r =>
    unfold areaI
    have := area_sum (p :: r) p rfl r.length 0 0 (by simp)
    rw [List.length_cons, this]
    simp only [List.map_cons, Geo.poly]
    have e : gp (p :: r) 0 = p := rfl
    rw [e]
    simp
    grind
theorem area_lam {ps : List Pt} (hs : Geo.Simple (ps.map vp)) : (areaI ps < 0 ↔ Geo.lam (ps.map vp) = 0) ∧ (0 < areaI ps ↔ Geo.lam (ps.map vp) = 1) := by
  have hn : 0 < ps.length := by have := hs.1; simp at this; omega
  have ha := area_vp hn
  rcases Geo.lam_01 hs with k | k
  · have := Geo.ar_neg hs k
    rw [← ha, ← Rat.intCast_zero, Rat.intCast_lt_intCast] at this
    exact ⟨⟨fun _ => k, fun _ => this⟩, ⟨fun q => by omega, fun q => by omega⟩⟩
  · have := Geo.ar_pos _ _ rfl hs k
    rw [← ha, Rat.intCast_pos] at this
    exact ⟨⟨fun q => by omega, fun q => by omega⟩, ⟨fun _ => k, fun _ => this⟩⟩
theorem gp_set (l : List Pt) (i k : Nat) (p : Pt) (hi : i < l.length) : gp (l.set i p) k = if k = i then p else gp l k := by
  unfold gp
  rw [List.getD_eq_getElem?_getD, List.getElem?_set]
  by_cases h : i = k
  · subst h
    rw [if_pos rfl, if_pos hi, if_pos rfl]; rfl
  · rw [if_neg h, if_neg (fun e => h e.symm), ← List.getD_eq_getElem?_getD]
theorem revGo_get {n : Nat} : ∀ f i j (l : List Pt), l.length = n → j < n → i + j + 1 = n → j < i + f → ∀ k, k < n → gp (revGo f i j l) k = if i ≤ k ∧ k ≤ j then gp l (n - 1 - k) else gp l k := by
  intro f
  induction f with
  | zero =>
    intro i j l hl hj hij hf k hk
    rw [revGo, if_neg (by omega)]
  | succ f ih =>
    intro i j l hl hj hij hf k hk
    rw [revGo]
    split
    · rename_i hlt
      rw [ih (i + 1) (j - 1) _ (by simp [hl]) (by omega) (by omega) (by omega) k hk]
      have hset : ∀ k, gp ((l.set i (gp l j)).set j (gp l i)) k = if k = j then gp l i else if k = i then gp l j else gp l k := by
        intro k
        rw [gp_set _ _ _ _ (by simp; omega), gp_set _ _ _ _ (by omega)]
      rw [hset, hset]
      by_cases h1 : i + 1 ≤ k ∧ k ≤ j - 1
      · rw [if_pos h1, if_neg (show ¬ n - 1 - k = j by omega), if_neg (show ¬ n - 1 - k = i by omega), if_pos (by omega)]
      · rw [if_neg h1]
        by_cases h2 : k = j
        · rw [if_pos h2, if_pos (by omega), show n - 1 - k = i by omega]
        · rw [if_neg h2]
          by_cases h3 : k = i
          · rw [if_pos h3, if_pos (by omega), show n - 1 - k = j by omega]
          · rw [if_neg h3, if_neg (by omega)]
    · rename_i hlt
      split
      · congr 1; omega
      · rfl
theorem rev_reverse (l : List Pt) : revOf l = l.reverse := by
  unfold revOf
  apply List.ext_getElem
  · rw [revGo_len]; simp
  · intro k h1 h2
    rw [revGo_len] at h1
    rw [← gp_eq, revGo_get (n := l.length) _ _ _ _ rfl (by omega) (by omega) (by omega) k h1, if_pos (by omega), List.getElem_reverse, gp_eq (by omega)]
theorem rot_isRot (l : List Pt) : Geo.IsRot (l.map vp) ((rotOf l).map vp) := by
  unfold rotOf
  exact ⟨(l.take (leastOf l)).map vp, (l.drop (leastOf l)).map vp, by rw [← List.map_append, List.take_append_drop], by rw [List.map_append]⟩
theorem good_rot {l : List Pt} (h : Good l) : Good (rotOf l) := by
  obtain ⟨h1, h2, _⟩ := (rot_isRot l).simple h.1
  exact ⟨h1, by rw [h2]; exact h.2⟩
theorem check_simple {ps : List Pt} (h : checkI ps = 0) : Geo.Simple (ps.map vp) := by
  obtain ⟨h1, h2, h3⟩ := simple_of_check h
  exact simple_vp h1 h2
theorem good_ccw {ps : List Pt} (hs : Geo.Simple (ps.map vp)) : Good (ccwOf ps) := by
  obtain ⟨c1, c2⟩ := corners_simple hs
  obtain ⟨a1, a2⟩ := area_lam hs
  unfold ccwOf
  split
  · rename_i h
    have hl := a1.1 h
    rw [rev_reverse]
    unfold Good
    rw [List.map_reverse]
    exact ⟨Geo.simple_rev c1, by rw [Geo.lam_rev c1, c2, hl]; rfl⟩
  · rename_i h
    refine ⟨c1, ?_⟩
    rw [c2]
    rcases Geo.lam_01 hs with k | k
    · exact absurd (a1.2 k) h
    · exact k
theorem normal_good {ps : List Pt} (h : checkI ps = 0) : Good (normalOf ps) := good_rot (good_ccw (check_simple h))
theorem splitOf_some {ps : List Pt} (h : checkI ps = 0) : ∃ ts, splitOf ps = some ts := split_some _ _ _ (normal_good h)
/-- triangle.Split fails only as polygon.Check does. -/
theorem splitR_err (ps : List Pt) : (splitR ps).2 = checkI ps := by
  unfold splitR
  by_cases h : checkI ps = 0
  · rw [if_pos h]
    obtain ⟨ts, hts⟩ := splitOf_some h
    rw [hts, h]
  · rw [if_neg h]

end Go.Proofs.YtdhakoecjmaebaaGreat
