/-
  Two polygons that do not overlap: the no-fit regions do not block the move between them. No program in sight.
-/
import Derived.Test.YtdhakoecjmaebaaGreatZNofP
namespace Go.Proofs.YtdhakoecjmaebaaGreat
set_option linter.unusedSimpArgs false
set_option linter.unusedVariables false

/-- Around a point one cannot always turn to the left and stay on one side of a line through it. -/
theorem turn_chain {f g : Nat → Int} (hf : ∀ i, 0 ≤ f i) (h : ∀ i, 0 < g i * f (i + 1) - f i * g (i + 1)) : ∀ k, 0 < g 0 * f (k + 1) - f 0 * g (k + 1) ∨ (f 0 = 0 ∧ f (k + 1) = 0 ∧ 0 < g 0 ∧ g (k + 1) < 0)
  | 0 => .inl (h 0)
  | k + 1 => by
    have h1 := h (k + 1)
    have f0 := hf 0
    have f1 := hf (k + 1)
    have f2 := hf (k + 1 + 1)
    rcases turn_chain hf h k with ih | ⟨i1, i2, i3, i4⟩
    · generalize f 0 = a at *
      generalize g 0 = p at *
      generalize f (k + 1) = b at *
      generalize g (k + 1) = q at *
      generalize f (k + 1 + 1) = c at *
      generalize g (k + 1 + 1) = r at *
      have key : b * (p * c - a * r) = a * (q * c - b * r) + c * (p * b - a * q) := by grind
      by_cases hz : a = 0 ∧ c = 0
      · obtain ⟨rfl, rfl⟩ := hz
        refine .inr ⟨rfl, rfl, ?_, ?_⟩
        · rw [Int.zero_mul, Int.sub_zero] at ih
          have hb : 0 < b := by
            rcases Int.lt_or_eq_of_le f1 with h | h
            · exact h
            · rw [← h, Int.mul_zero] at ih; omega
          exact Int.pos_of_mul_pos_left ih hb
        · rw [Int.mul_zero, Int.zero_sub, ← Int.mul_neg] at h1
          have hb : 0 < b := by
            rcases Int.lt_or_eq_of_le f1 with h | h
            · exact h
            · rw [← h, Int.zero_mul] at h1; omega
          have := Int.pos_of_mul_pos_right h1 hb
          omega
      · left
        have hpos : 0 < a * (q * c - b * r) + c * (p * b - a * q) := by
          by_cases ha : a = 0
          · have hc : 0 < c := by omega
            have := Int.mul_pos hc ih
            rw [ha] at this ⊢
            rw [Int.zero_mul, Int.zero_add]
            exact this
          · have ha' : 0 < a := by omega
            have := Int.mul_pos ha' h1
            have := Int.mul_nonneg f2 (Int.le_of_lt ih)
            omega
        rw [← key] at hpos
        have hb : 0 < b := by
          rcases Int.lt_or_eq_of_le f1 with h | h
          · exact h
          · rw [← h, Int.zero_mul] at hpos; omega
        exact Int.pos_of_mul_pos_right hpos hb
    · exfalso
      rw [i2, Int.zero_mul, Int.sub_zero] at h1
      have := Int.mul_nonneg f2 (show 0 ≤ -g (k + 1) by omega)
      rw [Int.mul_neg, Int.mul_comm] at this
      omega
theorem interGo_iff {r : List Pt} {d : Pt} : ∀ {f i : Nat}, interGo r d f i = true ↔ ∀ k, i ≤ k → k < i + f → 0 < leftI (gp r k) (gp r ((k + 1) % r.length)) d
  | 0, i => by simp [interGo]; intro k h1 h2; omega
  | f + 1, i => by
    rw [interGo]
    split
    · rename_i h
      constructor
      · intro h'; cases h'
      · intro h'
        have := h' i (Nat.le_refl _) (by omega)
        omega
    · rename_i h
      rw [interGo_iff]
      constructor
      · intro h' k h1 h2
        rcases Nat.eq_or_lt_of_le h1 with e | e
        · subst e; omega
        · exact h' k e (by omega)
      · intro h' k h1 h2
        exact h' k (by omega) (by omega)
theorem inter_iff {r : List Pt} {d : Pt} : interB r d = true ↔ 0 < r.length ∧ ∀ k, k < r.length → 0 < leftI (gp r k) (gp r ((k + 1) % r.length)) d := by
  unfold interB
  rw [Bool.and_eq_true, interGo_iff, decide_eq_true_iff]
  constructor
  · rintro ⟨h1, h2⟩
    exact ⟨h2, fun k hk => h1 k (Nat.zero_le _) (by omega)⟩
  · rintro ⟨h1, h2⟩
    exact ⟨fun k _ hk => h2 k (by omega), h1⟩
/-- A region on one side of a line through d does not hold d. -/
theorem not_inter {r : List Pt} {d : Pt} {ex ey : Int} (he : ¬ (ex = 0 ∧ ey = 0)) (hr : ∀ p ∈ r, 0 ≤ ex * (p.y - d.y) - ey * (p.x - d.x)) : interB r d = false := by
  rcases hb : interB r d with _ | _
  · rfl
  exfalso
  obtain ⟨h0, hl⟩ := inter_iff.1 hb
  let U := fun i => gp r (i % r.length)
  have hU : ∀ i, U i ∈ r := fun i => by
    show gp r (i % r.length) ∈ r
    have := Nat.mod_lt i h0
    rw [gp_eq this]
    exact List.getElem_mem _
  have hE : 0 < ex * ex + ey * ey := by
    have sq : ∀ n : Int, 0 ≤ n * n ∧ (n ≠ 0 → 0 < n * n) := fun n => by
      rcases Int.lt_trichotomy n 0 with h | h | h
      · have := Int.mul_pos_of_neg_of_neg h h
        exact ⟨by omega, fun _ => this⟩
      · subst h; simp
      · have := Int.mul_pos h h
        exact ⟨by omega, fun _ => this⟩
    have h1 := (sq ex).1
    have h2 := (sq ey).1
    by_cases hx : ex = 0
    · have : ey ≠ 0 := fun h => he ⟨hx, h⟩
      have := (sq ey).2 this
      omega
    · have := (sq ex).2 hx
      omega
  have hchain := turn_chain (f := fun i => ex * ((U i).y - d.y) - ey * ((U i).x - d.x)) (g := fun i => ex * ((U i).x - d.x) + ey * ((U i).y - d.y)) (fun i => hr _ (hU i)) (fun i => by
    have h1 := hl (i % r.length) (Nat.mod_lt i h0)
    have h2 : (i % r.length + 1) % r.length = (i + 1) % r.length := by rw [Nat.mod_add_mod]
    rw [h2] at h1
    have h3 : 0 < leftI (U i) (U (i + 1)) d := h1
    have := Int.mul_pos hE h3
    unfold leftI at this
    generalize U i = a at *
    generalize U (i + 1) = b at *
    grind) (r.length - 1)
  have hn : r.length - 1 + 1 = r.length := by omega
  have hUn : U (r.length - 1 + 1) = U 0 := by
    show gp r ((r.length - 1 + 1) % r.length) = gp r (0 % r.length)
    rw [hn, Nat.mod_self, Nat.zero_mod]
  simp only [hUn] at hchain
  rcases hchain with h | ⟨_, _, h1, h2⟩
  · have : (ex * ((U 0).x - d.x) + ey * ((U 0).y - d.y)) * (ex * ((U 0).y - d.y) - ey * ((U 0).x - d.x)) - (ex * ((U 0).y - d.y) - ey * ((U 0).x - d.x)) * (ex * ((U 0).x - d.x) + ey * ((U 0).y - d.y)) = 0 := by grind
    omega
  · omega

theorem tri_side {s : List Pt} (hs : TriL s) {i : Nat} (hi : i < s.length) : (∀ u ∈ s, 0 ≤ crossP (gp s i) (gp s ((i + 1) % s.length)) u) ∧ ¬ ((gp s ((i + 1) % s.length)).x - (gp s i).x = 0 ∧ (gp s ((i + 1) % s.length)).y - (gp s i).y = 0) := by
  obtain ⟨a, b, c, rfl, h⟩ := hs
  have e1 : crossP b c a = crossP a b c := by unfold crossP crossI; grind
  have e2 : crossP c a b = crossP a b c := by unfold crossP crossI; grind
  have z1 : ∀ p q : Pt, crossP p q p = 0 := fun p q => by unfold crossP crossI; grind
  have z2 : ∀ p q : Pt, crossP p q q = 0 := fun p q => by unfold crossP crossI; grind
  have nz : ∀ p q r : Pt, 0 < crossP p q r → ¬ (q.x - p.x = 0 ∧ q.y - p.y = 0) := fun p q r hp ⟨h1, h2⟩ => by
    unfold crossP crossI at hp
    rw [h1, h2] at hp
    simp at hp
  rcases i with _ | _ | _ | i
  · refine ⟨fun u hu => ?_, nz a b c h⟩
    simp only [List.mem_cons, List.not_mem_nil, or_false] at hu
    rcases hu with rfl | rfl | rfl
    · exact Int.le_of_eq (z1 _ _).symm
    · exact Int.le_of_eq (z2 _ _).symm
    · exact Int.le_of_lt h
  · change (∀ u ∈ [a, b, c], 0 ≤ crossP b c u) ∧ ¬ (c.x - b.x = 0 ∧ c.y - b.y = 0)
    refine ⟨fun u hu => ?_, nz b c a (by omega)⟩
    simp only [List.mem_cons, List.not_mem_nil, or_false] at hu
    rcases hu with rfl | rfl | rfl
    · exact Int.le_of_lt (by show 0 < crossP _ _ _; rw [e1]; exact h)
    · exact Int.le_of_eq (z1 _ _).symm
    · exact Int.le_of_eq (z2 _ _).symm
  · rw [show (0 + 1 + 1 + 1) % [a, b, c].length = 0 from by simp]
    change (∀ u ∈ [a, b, c], 0 ≤ crossP c a u) ∧ ¬ (a.x - c.x = 0 ∧ a.y - c.y = 0)
    refine ⟨fun u hu => ?_, nz c a b (by omega)⟩
    simp only [List.mem_cons, List.not_mem_nil, or_false] at hu
    rcases hu with rfl | rfl | rfl
    · exact Int.le_of_eq (z2 _ _).symm
    · exact Int.le_of_lt (by show 0 < crossP _ _ _; rw [e2]; exact h)
    · exact Int.le_of_eq (z1 _ _).symm
  · simp at hi; omega
theorem not_reaches {a b : List Pt} (h : ¬ Reaches a b) : ∃ i, i < a.length ∧ ∀ v ∈ b, crossP (gp a i) (gp a ((i + 1) % a.length)) v ≤ 0 := by
  unfold Reaches at h
  simp only [Classical.not_forall] at h
  obtain ⟨i, hi, hn⟩ := h
  refine ⟨i, hi, fun v hv => ?_⟩
  rcases Int.lt_or_le 0 (crossP (gp a i) (gp a ((i + 1) % a.length)) v) with h | h
  · exact absurd ⟨v, hv, h⟩ hn
  · exact h
theorem tri_mv {t : List Pt} (h : TriL t) (d : Pt) : TriL (t.map (mvP d)) := by
  obtain ⟨a, b, c, rfl, h⟩ := h
  exact ⟨mvP d a, mvP d b, mvP d c, rfl, by rw [crossT]; exact h⟩
/-- Triangles that are not in contact: a region of differences of their points does not hold the move. -/
theorem tri_clear {s t r : List Pt} {d : Pt} (hs : TriL s) (ht : TriL t) (hr : ∀ p ∈ r, ∃ u ∈ s, ∃ q ∈ t, p = ⟨u.x - q.x, u.y - q.y⟩) (hc : contactI s (t.map (mvP d)) ≠ 1) : interB r d = false := by
  rw [ne_eq, contact_one, Classical.not_and_iff_not_or_not] at hc
  rcases hc with h | h
  · obtain ⟨i, hi, hv⟩ := not_reaches h
    obtain ⟨h1, h2⟩ := tri_side hs hi
    generalize gp s i = a at *
    generalize gp s ((i + 1) % s.length) = b at *
    refine not_inter (ex := b.x - a.x) (ey := b.y - a.y) h2 fun p hp => ?_
    obtain ⟨u, hu, q, hq, rfl⟩ := hr p hp
    have k1 := h1 u hu
    have k2 := hv (mvP d q) (List.mem_map_of_mem hq)
    unfold crossP crossI mvP at *
    simp only [] at *
    grind
  · obtain ⟨i, hi, hv⟩ := not_reaches h
    obtain ⟨h1, h2⟩ := tri_side (tri_mv ht d) hi
    generalize gp (t.map (mvP d)) i = a at *
    generalize gp (t.map (mvP d)) ((i + 1) % (t.map (mvP d)).length) = b at *
    refine not_inter (ex := -(b.x - a.x)) (ey := -(b.y - a.y)) (fun ⟨k1, k2⟩ => h2 ⟨by omega, by omega⟩) fun p hp => ?_
    obtain ⟨u, hu, q, hq, rfl⟩ := hr p hp
    have k1 := h1 (mvP d q) (List.mem_map_of_mem hq)
    have k2 := hv u hu
    unfold crossP crossI mvP at *
    simp only [] at *
    grind
theorem sums_mem {a b : List Pt} {p : Pt} : p ∈ sumsP a b ↔ ∃ u ∈ a, ∃ v ∈ b, p = plusP u v := by
  unfold sumsP
  rw [List.mem_flatMap]
  constructor
  · rintro ⟨u, hu, h⟩
    obtain ⟨v, hv, rfl⟩ := List.mem_map.1 h
    exact ⟨u, hu, v, hv, rfl⟩
  · rintro ⟨u, hu, v, hv, rfl⟩
    exact ⟨u, hu, List.mem_map_of_mem hv⟩
theorem chull_sub {l : List Pt} {p : Pt} (h : p ∈ (chullR l).1) : p ∈ l := by
  unfold chullR at h
  split at h
  · simp at h
  · split at h
    · simp at h
    · split at h
      · exact hull_sub h
      · simp at h
theorem msum_sub {a b : List Pt} {p : Pt} (h : p ∈ (msumR a b).1) : ∃ u ∈ a, ∃ v ∈ b, p = plusP u v := by
  unfold msumR at h
  split at h
  · simp at h
  · split at h
    · simp at h
    · split at h
      · simp at h
      · split at h
        · simp at h
        · obtain ⟨u, hu, v, hv, e⟩ := sums_mem.1 (hull_sub h)
          exact ⟨u, chull_sub hu, v, chull_sub hv, e⟩
/-- Polygons whose triangles are not in contact when the second one is moved: the move is not blocked. -/
theorem block_clear {a b : List Pt} {d : Pt} (h : ∀ s ∈ (splitR a).1, ∀ t ∈ (splitR b).1, contactI s (t.map (mvP d)) ≠ 1) : blockB (regsR a b) d = false := by
  unfold blockB
  split
  · rfl
  · rw [List.any_eq_false]
    intro r hr
    unfold regsR at hr
    obtain ⟨s, hs, hr⟩ := List.mem_flatMap.1 hr
    obtain ⟨t, ht, rfl⟩ := List.mem_map.1 hr
    rw [tri_clear (splitR_tri a s hs) (splitR_tri b t ht) (fun p hp => ?_) (h s hs t ht)]
    · simp
    · obtain ⟨u, hu, v, hv, e⟩ := msum_sub hp
      obtain ⟨q, hq, rfl⟩ := List.mem_map.1 hv
      exact ⟨u, hu, q, hq, by rw [e]; unfold plusP negP; simp [Int.sub_eq_add_neg]⟩
theorem mv_mv (d e p : Pt) : mvP d (mvP ⟨e.x - d.x, e.y - d.y⟩ p) = mvP e p := by unfold mvP; simp only [Pt.mk.injEq]; omega
/-- Placed polygons that do not overlap: the move between their turned shapes is not blocked. -/
theorem placed_clear {a b : List Pt} {d e : Pt} (ha : checkI a = 0) (hb : checkI b = 0) (ha' : checkI (a.map (mvP d)) = 0) (hb' : checkI (b.map (mvP e)) = 0) (h : (overR (a.map (mvP d)) (b.map (mvP e))).1 = false) : blockB (regsR a b) ⟨e.x - d.x, e.y - d.y⟩ = false := by
  refine block_clear fun s hs t ht hc => ?_
  have : (overR (a.map (mvP d)) (b.map (mvP e))).1 = true := by
    rw [over_iff ha' hb', splitT d ha ha', splitT e hb hb']
    refine ⟨_, List.mem_map_of_mem hs, _, List.mem_map_of_mem ht, ?_⟩
    rw [show t.map (mvP e) = (t.map (mvP ⟨e.x - d.x, e.y - d.y⟩)).map (mvP d) by rw [List.map_map]; exact List.map_congr_left fun p _ => (mv_mv d e p).symm, contactT]
    exact hc
  rw [this] at h
  cases h

end Go.Proofs.YtdhakoecjmaebaaGreat
