/-
  The reference's test whether a polygon is simple gives the same answer as the program's.
-/
import Derived.Test.YtdhakoecjmaebaaSplit
import Derived.Test.YtdhakoecjmaebaaRef
namespace Go.Proofs.Ytdhakoecjmaebaa
open Go.RowKit
set_option linter.unusedSimpArgs false
set_option linter.unusedVariables false

theorem box_cmp {a b c d : Int} (ha : 0 ≤ a) (hb : 0 ≤ b) (hc : 0 ≤ c) (hd : 0 ≤ d) (h : a * d = b * c) : (c ≤ a ∧ d ≤ b) ∨ (a ≤ c ∧ b ≤ d) := by
  rcases Int.lt_or_le a c with h1 | h1
  · rcases Int.lt_or_le d b with h2 | h2
    · exfalso
      have k1 : a * d ≤ a * b := Int.mul_le_mul_of_nonneg_left (by omega) ha
      have k2 : b * (a + 1) ≤ b * c := Int.mul_le_mul_of_nonneg_left (by omega) hb
      have k3 : b * (a + 1) = a * b + b := by grind
      omega
    · exact .inr ⟨by omega, h2⟩
  · rcases Int.lt_or_le b d with h2 | h2
    · rcases Int.lt_or_le c a with h3 | h3
      · exfalso
        have k1 : b * c ≤ b * a := Int.mul_le_mul_of_nonneg_left (by omega) hb
        have k2 : a * (b + 1) ≤ a * d := Int.mul_le_mul_of_nonneg_left (by omega) ha
        have k3 : a * (b + 1) = b * a + a := by grind
        omega
      · exact .inr ⟨by omega, by omega⟩
    · exact .inl ⟨h1, h2⟩

theorem sgn_cases {a b : Int} (h : 0 ≤ a * b) : (0 ≤ a ∧ 0 ≤ b) ∨ (a ≤ 0 ∧ b ≤ 0) := by
  rcases Int.lt_or_le a 0 with h1 | h1
  · rcases Int.lt_or_le 0 b with h2 | h2
    · have := Int.mul_neg_of_neg_of_pos h1 h2; omega
    · exact .inr ⟨by omega, h2⟩
  · rcases Int.lt_or_le b 0 with h2 | h2
    · rcases Int.lt_or_le 0 a with h3 | h3
      · have := Int.mul_neg_of_pos_of_neg h3 h2; omega
      · exact .inr ⟨h3, by omega⟩
    · exact .inl ⟨h1, h2⟩

theorem both_nonneg {p q s : Int} (h : p * q = s * s) (hs : 0 < p + q) : 0 ≤ p ∧ 0 ≤ q := by
  have h2 := sgn_cases (a := p) (b := q) (by rw [h]; exact sq_nonneg s)
  omega

/-- Collinear and on the same side of b: one lies between b and the other. -/
theorem between_of {ux uy vx vy : Int} (h : ux * vy = uy * vx) (hd : 0 < ux * vx + uy * vy) :
    ((min 0 ux ≤ vx ∧ vx ≤ max 0 ux) ∧ (min 0 uy ≤ vy ∧ vy ≤ max 0 uy)) ∨ ((min 0 vx ≤ ux ∧ ux ≤ max 0 vx) ∧ (min 0 vy ≤ uy ∧ uy ≤ max 0 vy)) := by
  have hp := both_nonneg (p := ux * vx) (q := uy * vy) (s := ux * vy) (by grind) hd
  rcases sgn_cases hp.1 with ⟨a1, a2⟩ | ⟨a1, a2⟩ <;> rcases sgn_cases hp.2 with ⟨b1, b2⟩ | ⟨b1, b2⟩
  · have := box_cmp a1 b1 a2 b2 h; omega
  · have := box_cmp (a := ux) (b := -uy) (c := vx) (d := -vy) a1 (by omega) a2 (by omega) (by grind); omega
  · have := box_cmp (a := -ux) (b := uy) (c := -vx) (d := vy) (by omega) b1 (by omega) b2 (by grind); omega
  · have := box_cmp (a := -ux) (b := -uy) (c := -vx) (d := -vy) (by omega) (by omega) (by omega) (by omega) (by grind); omega

theorem onP_iff {a b q : Pt} : onP a b q = true ↔ crossI a.x a.y b.x b.y q.x q.y = 0 ∧ min a.x b.x ≤ q.x ∧ q.x ≤ max a.x b.x ∧ min a.y b.y ≤ q.y ∧ q.y ≤ max a.y b.y := by
  unfold onP onB
  simp only [Bool.and_eq_true, decide_eq_true_eq, and_assoc]
theorem foldedP_iff {a b c : Pt} : foldedP a b c = true ↔ crossI a.x a.y b.x b.y c.x c.y = 0 ∧ 0 < (a.x - b.x) * (c.x - b.x) + (a.y - b.y) * (c.y - b.y) := by
  unfold foldedP foldedB
  simp only [Bool.and_eq_true, decide_eq_true_eq]
theorem cross_turn (a b c : Pt) : crossI b.x b.y c.x c.y a.x a.y = crossI a.x a.y b.x b.y c.x c.y := by
  unfold crossI; grind

theorem mul_same {u v : Int} (h : (0 ≤ v ∧ v ≤ u) ∨ (u ≤ v ∧ v ≤ 0)) : 0 ≤ u * v ∧ (v ≠ 0 → 0 < u * v) := by
  rcases h with ⟨h1, h2⟩ | ⟨h1, h2⟩
  · exact ⟨Int.mul_nonneg (by omega) h1, fun hv => Int.mul_pos (by omega) (by omega)⟩
  · exact ⟨Int.mul_nonneg_of_nonpos_of_nonpos (by omega) h2, fun hv => Int.mul_pos_of_neg_of_neg (by omega) (by omega)⟩
theorem dot_pos {ux uy vx vy : Int} (h1 : (0 ≤ vx ∧ vx ≤ ux) ∨ (ux ≤ vx ∧ vx ≤ 0)) (h2 : (0 ≤ vy ∧ vy ≤ uy) ∨ (uy ≤ vy ∧ vy ≤ 0)) (hv : vx ≠ 0 ∨ vy ≠ 0) : 0 < ux * vx + uy * vy := by
  have a := mul_same h1
  have b := mul_same h2
  rcases hv with hv | hv
  · have := a.2 hv; omega
  · have := b.2 hv; omega

theorem folded_of_on {a b c : Pt} (hcb : c ≠ b) (h : onP a b c = true) : foldedP a b c = true := by
  rw [onP_iff] at h
  obtain ⟨h0, h1, h2, h3, h4⟩ := h
  refine foldedP_iff.2 ⟨h0, ?_⟩
  have hv : c.x - b.x ≠ 0 ∨ c.y - b.y ≠ 0 := by
    rcases Classical.em (c.x = b.x) with hx | hx
    · rcases Classical.em (c.y = b.y) with hy | hy
      · exact absurd (pt_eq.2 ⟨hx, hy⟩) hcb
      · exact .inr (by omega)
    · exact .inl (by omega)
  exact dot_pos (by omega) (by omega) hv
theorem folded_of_on' {a b c : Pt} (hab : a ≠ b) (h : onP b c a = true) : foldedP a b c = true := by
  rw [onP_iff] at h
  obtain ⟨h0, h1, h2, h3, h4⟩ := h
  rw [cross_turn] at h0
  refine foldedP_iff.2 ⟨h0, ?_⟩
  have hv : a.x - b.x ≠ 0 ∨ a.y - b.y ≠ 0 := by
    rcases Classical.em (a.x = b.x) with hx | hx
    · rcases Classical.em (a.y = b.y) with hy | hy
      · exact absurd (pt_eq.2 ⟨hx, hy⟩) hab
      · exact .inr (by omega)
    · exact .inl (by omega)
  have := dot_pos (ux := c.x - b.x) (uy := c.y - b.y) (vx := a.x - b.x) (vy := a.y - b.y) (by omega) (by omega) hv
  rw [Int.mul_comm (a.x - b.x), Int.mul_comm (a.y - b.y)]
  exact this
theorem on_of_folded {a b c : Pt} (h : foldedP a b c = true) : onP a b c = true ∨ onP b c a = true := by
  rw [foldedP_iff] at h
  obtain ⟨h0, hd⟩ := h
  have hc : (a.x - b.x) * (c.y - b.y) = (a.y - b.y) * (c.x - b.x) := by unfold crossI at h0; grind
  rcases between_of hc hd with ⟨h1, h2⟩ | ⟨h1, h2⟩
  · exact .inl (onP_iff.2 ⟨h0, by omega, by omega, by omega, by omega⟩)
  · exact .inr (onP_iff.2 ⟨by rw [cross_turn]; exact h0, by omega, by omega, by omega, by omega⟩)

/-- What rsimpleB says. -/
theorem innerGo_iff (ps : List Pt) (i : Nat) : ∀ f k, i + 2 ≤ k → k + f = ps.length → (innerGo ps i f k = false ↔ ∀ j, k ≤ j → j < ps.length → ¬ (j + 1) % ps.length = i → meetP (gp ps i) (gp ps ((i + 1) % ps.length)) (gp ps j) (gp ps ((j + 1) % ps.length)) = false) := by
  intro f
  induction f with
  | zero => intro k hk hf; exact ⟨fun _ j h1 h2 => by omega, fun _ => rfl⟩
  | succ f ih =>
    intro k hk hf
    rw [innerGo]
    by_cases hq : (k + 1) % ps.length = i
    · rw [if_pos hq]
      refine ⟨fun _ j h1 h2 hj => ?_, fun _ => rfl⟩
      have hke : k + 1 = ps.length := by
        rcases Nat.lt_or_ge (k + 1) ps.length with h | h
        · rw [Nat.mod_eq_of_lt h] at hq; omega
        · omega
      have : j = k := by omega
      subst this
      exact absurd hq hj
    · rw [if_neg hq]
      by_cases hm : meetP (gp ps i) (gp ps ((i + 1) % ps.length)) (gp ps k) (gp ps ((k + 1) % ps.length)) = true
      · rw [if_pos hm]
        refine ⟨(fun h => by cases h), fun h => ?_⟩
        rw [h k (Nat.le_refl _) (by omega) hq] at hm
        cases hm
      · rw [if_neg hm, ih (k + 1) (by omega) (by omega)]
        refine ⟨fun h j h1 h2 hj => ?_, fun h j h1 h2 hj => h j (by omega) h2 hj⟩
        rcases Nat.lt_or_ge k j with hh | hh
        · exact h j hh h2 hj
        · rw [show j = k by omega]; simpa using hm
theorem rinnerGo_iff (ps : List Pt) (i : Nat) : ∀ f k, k + f = ps.length → (rinnerGo ps i f k = false ↔ ∀ j, k ≤ j → j < ps.length → ¬ (j + 1) % ps.length = i → meetP (gp ps i) (gp ps ((i + 1) % ps.length)) (gp ps j) (gp ps ((j + 1) % ps.length)) = false) := by
  intro f
  induction f with
  | zero => intro k hf; exact ⟨fun _ j h1 h2 => by omega, fun _ => rfl⟩
  | succ f ih =>
    intro k hf
    rw [rinnerGo]
    by_cases hm : ¬ (k + 1) % ps.length = i ∧ meetP (gp ps i) (gp ps ((i + 1) % ps.length)) (gp ps k) (gp ps ((k + 1) % ps.length)) = true
    · rw [if_pos hm]
      refine ⟨(fun h => by cases h), fun h => ?_⟩
      have := h k (Nat.le_refl _) (by omega) hm.1
      rw [this] at hm
      exact absurd hm.2 (by simp)
    · rw [if_neg hm, ih (k + 1) (by omega)]
      refine ⟨fun h j h1 h2 hj => ?_, fun h j h1 h2 hj => h j (by omega) h2 hj⟩
      rcases Nat.lt_or_ge k j with hh | hh
      · exact h j hh h2 hj
      · have : j = k := by omega
        subst this
        rcases hmt : meetP (gp ps i) (gp ps ((i + 1) % ps.length)) (gp ps j) (gp ps ((j + 1) % ps.length)) with _ | _
        · rfl
        · exact absurd ⟨hj, hmt⟩ hm
theorem outerGo_iff (ps : List Pt) : ∀ f i, (outerGo ps f i = true ↔ ∀ k, i ≤ k → k < i + f → foldedP (gp ps k) (gp ps ((k + 1) % ps.length)) (gp ps ((k + 2) % ps.length)) = false ∧ innerGo ps k (ps.length - (k + 2)) (k + 2) = false) := by
  intro f
  induction f with
  | zero => intro i; exact ⟨fun _ k h1 h2 => by omega, fun _ => rfl⟩
  | succ f ih =>
    intro i
    refine ⟨outerGo_true ps (f + 1) i, fun h => ?_⟩
    rw [outerGo, (h i (Nat.le_refl _) (by omega)).1, (h i (Nat.le_refl _) (by omega)).2]
    exact (ih (i + 1)).2 fun k h1 h2 => h k (by omega) (by omega)
theorem routerGo_iff (ps : List Pt) : ∀ f i, (routerGo ps f i = true ↔ ∀ k, i ≤ k → k < i + f → badAt ps k = false ∧ rinnerGo ps k (ps.length - (k + 2)) (k + 2) = false) := by
  intro f
  induction f with
  | zero => intro i; exact ⟨fun _ k h1 h2 => by omega, fun _ => rfl⟩
  | succ f ih =>
    intro i
    rw [routerGo]
    constructor
    · intro h k h1 h2
      split at h
      · cases h
      · split at h
        · cases h
        · rename_i a b
          rcases Nat.lt_or_ge i k with hh | hh
          · exact (ih (i + 1)).1 h k hh (by omega)
          · rw [show k = i by omega]; exact ⟨by simpa using a, by simpa using b⟩
    · intro h
      rw [(h i (Nat.le_refl _) (by omega)).1, (h i (Nat.le_refl _) (by omega)).2]
      exact (ih (i + 1)).2 fun k h1 h2 => h k (by omega) (by omega)

theorem dupGo_true (l : List Pt) : ∀ pre, dupGo pre l = true → (∃ p ∈ pre, p ∈ l) ∨ ∃ i j, ∃ (hi : i < l.length) (hj : j < l.length), i < j ∧ l[i] = l[j] := by
  induction l with
  | nil => intro pre h; cases h
  | cons q l ih =>
    intro pre h
    rw [dupGo] at h
    split at h
    · rename_i hq; exact .inl ⟨q, hq, List.mem_cons_self ..⟩
    · rcases ih _ h with ⟨p, hp, hl⟩ | ⟨i, j, hi, hj, hij, he⟩
      · rcases List.mem_append.1 hp with hp | hp
        · exact .inl ⟨p, hp, List.mem_cons_of_mem _ hl⟩
        · rw [List.mem_singleton.1 hp] at hl
          obtain ⟨j, hj, he⟩ := List.getElem_of_mem hl
          exact .inr ⟨0, j + 1, by simp, by simp; omega, by omega, by simpa using he.symm⟩
      · exact .inr ⟨i + 1, j + 1, by simp; omega, by simp; omega, by omega, by simpa using he⟩

theorem onP_end (a b : Pt) : onP a b a = true ∧ onP a b b = true := by
  constructor <;> (rw [onP_iff]; unfold crossI; refine ⟨by grind, by omega, by omega, by omega, by omega⟩)
theorem meet_same {a b c d : Pt} (h : a = c) : meetP a b c d = true := by
  subst h
  have := (onP_end a b).1
  unfold onP at this
  unfold meetP meetB
  rw [this]
  simp

theorem rsimple_eq {ps : List Pt} (h3 : 3 ≤ ps.length) : rsimpleB ps = simpleB ps := by
  rw [Bool.eq_iff_iff]
  have hm : ∀ k, k < ps.length → ∀ j, 1 ≤ j → j < ps.length → (k + j) % ps.length < ps.length ∧ (k + j) % ps.length ≠ k := by
    intro k hk j h1 h2
    refine ⟨Nat.mod_lt _ (by omega), ?_⟩
    rcases Nat.lt_or_ge (k + j) ps.length with h | h
    · rw [Nat.mod_eq_of_lt h]; omega
    · rw [Nat.mod_eq_sub_mod h, Nat.mod_eq_of_lt (by omega)]; omega
  have hm2 : ∀ k, k < ps.length → (k + 1) % ps.length ≠ (k + 2) % ps.length := by
    intro k hk
    rcases Nat.lt_or_ge (k + 1) ps.length with h | h
    · rw [Nat.mod_eq_of_lt h]
      rcases Nat.lt_or_ge (k + 2) ps.length with h' | h'
      · rw [Nat.mod_eq_of_lt h']; omega
      · rw [Nat.mod_eq_sub_mod h', Nat.mod_eq_of_lt (by omega)]; omega
    · rw [Nat.mod_eq_sub_mod h, Nat.mod_eq_of_lt (by omega), Nat.mod_eq_sub_mod (by omega : k + 2 ≥ ps.length), Nat.mod_eq_of_lt (by omega)]; omega
  have hbad : ∀ k, badAt ps k = false ↔ (gp ps k ≠ gp ps ((k + 1) % ps.length) ∧ onP (gp ps k) (gp ps ((k + 1) % ps.length)) (gp ps ((k + 2) % ps.length)) = false ∧ onP (gp ps ((k + 1) % ps.length)) (gp ps ((k + 2) % ps.length)) (gp ps k) = false) := by
    intro k
    unfold badAt
    simp only [Bool.or_eq_false_iff, Bool.and_eq_false_iff, beq_eq_false_iff_ne, ne_eq, pt_eq, and_assoc]
    constructor
    · rintro ⟨h1, h2, h3⟩; exact ⟨fun hh => by rcases h1 with h | h; exact h hh.1; exact h hh.2, h2, h3⟩
    · rintro ⟨h1, h2, h3⟩
      refine ⟨?_, h2, h3⟩
      rcases Classical.em ((gp ps k).x = (gp ps ((k + 1) % ps.length)).x) with h | h
      · exact .inr fun hh => h1 ⟨h, hh⟩
      · exact .inl h
  unfold rsimpleB simpleB
  constructor
  · intro h
    rw [routerGo_iff] at h
    have hd : dupGo [] ps = false := by
      rcases hd : dupGo [] ps with _ | _
      · rfl
      · exfalso
        rcases dupGo_true ps [] hd with ⟨p, hp, _⟩ | ⟨i, j, hi, hj, hij, he⟩
        · cases hp
        · obtain ⟨hb, hr⟩ := h i (by omega) (by omega)
          rw [← gp_eq hi, ← gp_eq hj] at he
          rcases Nat.lt_or_ge (i + 1) j with h2 | h2
          · by_cases hq : (j + 1) % ps.length = i
            · obtain ⟨hb', _⟩ := h j (by omega) (by omega)
              rw [hbad, hq] at hb'
              exact hb'.1 he.symm
            · rw [rinnerGo_iff _ _ _ _ (by omega)] at hr
              have := hr j h2 hj hq
              rw [meet_same he] at this
              cases this
          · have : j = i + 1 := by omega
            subst this
            rw [hbad, Nat.mod_eq_of_lt hj] at hb
            exact hb.1 he
    rw [if_neg (by simp [hd]), outerGo_iff]
    intro k h1 h2
    obtain ⟨hb, hr⟩ := h k h1 h2
    rw [hbad] at hb
    refine ⟨?_, ?_⟩
    · rcases hf : foldedP (gp ps k) (gp ps ((k + 1) % ps.length)) (gp ps ((k + 2) % ps.length)) with _ | _
      · rfl
      · rcases on_of_folded hf with h' | h'
        · rw [hb.2.1] at h'; cases h'
        · rw [hb.2.2] at h'; cases h'
    · rcases Nat.lt_or_ge ps.length (k + 2) with h' | h'
      · rw [show ps.length - (k + 2) = 0 by omega]; rfl
      · rw [innerGo_iff _ _ _ _ (Nat.le_refl _) (by omega)]
        exact (rinnerGo_iff _ _ _ _ (by omega)).1 hr
  · intro h
    split at h
    · cases h
    · rename_i hd
      have hdis := dupGo_false ps [] (by simpa using hd)
      have hne : ∀ a b, a < ps.length → b < ps.length → a ≠ b → gp ps a ≠ gp ps b := by
        intro a b ha hb hab
        rw [gp_eq ha, gp_eq hb]
        rcases Nat.lt_or_ge a b with hh | hh
        · exact hdis a b ha hb hh
        · exact (hdis b a hb ha (by omega)).symm
      rw [outerGo_iff] at h
      rw [routerGo_iff]
      intro k h1 h2
      obtain ⟨hf, hi⟩ := h k h1 h2
      have m1 := hm k (by omega) 1 (by omega) (by omega)
      have m2 := hm k (by omega) 2 (by omega) (by omega)
      have m3 := hm2 k (by omega)
      refine ⟨(hbad k).2 ⟨hne _ _ (by omega) m1.1 m1.2.symm, ?_, ?_⟩, ?_⟩
      · rcases ho : onP (gp ps k) (gp ps ((k + 1) % ps.length)) (gp ps ((k + 2) % ps.length)) with _ | _
        · rfl
        · rw [folded_of_on (hne _ _ m2.1 m1.1 m3.symm) ho] at hf; cases hf
      · rcases ho : onP (gp ps ((k + 1) % ps.length)) (gp ps ((k + 2) % ps.length)) (gp ps k) with _ | _
        · rfl
        · rw [folded_of_on' (hne _ _ (by omega) m1.1 m1.2.symm) ho] at hf; cases hf
      · rcases Nat.lt_or_ge ps.length (k + 2) with h' | h'
        · rw [show ps.length - (k + 2) = 0 by omega]; rfl
        · rw [rinnerGo_iff _ _ _ _ (by omega)]
          exact (innerGo_iff _ _ _ _ (Nat.le_refl _) (by omega)).1 hi

theorem rcheck_eq (ps : List Pt) : rcheckI ps = checkI ps := by
  unfold rcheckI checkI
  split
  · rfl
  · split
    · rfl
    · rw [rsimple_eq (by omega)]

end Go.Proofs.Ytdhakoecjmaebaa
