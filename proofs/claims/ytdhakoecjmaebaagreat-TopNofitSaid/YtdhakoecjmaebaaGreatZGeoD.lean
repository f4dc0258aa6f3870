/-
  Plane geometry over the rationals: points close to a point that lie on none of some lines; half a turn; the areas of polygons that do not overlap fit into a rectangle.
-/
import Derived.Test.YtdhakoecjmaebaaGreatZGeoC
namespace Go.Proofs.YtdhakoecjmaebaaGreat.Geo
set_option linter.unusedVariables false
set_option linter.unusedSimpArgs false

theorem avoid : ∀ (S : List Rat) (d : Rat), 0 < d → ∃ t, 0 < t ∧ t < d ∧ t ∉ S := by
  intro S
  induction S with
  | nil => intro d h; exact ⟨d / 2, by grind, by grind, by simp⟩
  | cons a S ih =>
    intro d h
    by_cases ha : 0 < a ∧ a < d
    · obtain ⟨t, t0, t1, t2⟩ := ih a ha.1
      exact ⟨t, t0, by grind, by simp only [List.mem_cons, not_or]; exact ⟨by grind, t2⟩⟩
    · obtain ⟨t, t0, t1, t2⟩ := ih d h
      exact ⟨t, t0, t1, by simp only [List.mem_cons, not_or]; exact ⟨fun e => ha ⟨by rw [← e]; exact t0, by rw [← e]; exact t1⟩, t2⟩⟩
/- Half a turn about the middle of 0 and D. -/
def ht (D p : V) : V := ⟨D.x - p.x, D.y - p.y⟩
def lev (c : Rat) (p : V) : Int := if c < p.y then 1 else 0
/- The crossings of a level. -/
def xe (e : V × V) (c : Rat) : Rat := e.1.x + (c - e.1.y) / (e.2.y - e.1.y) * (e.2.x - e.1.x)
def one (e : V × V) (c : Rat) : List (Rat × Int) := if e.1.y < c ∧ c < e.2.y then [(xe e c, 1)] else if e.2.y < c ∧ c < e.1.y then [(xe e c, -1)] else []
def crs (c : Rat) (L : List (V × V)) : List (Rat × Int) := L.flatMap fun e => one e c
def rsum (x : Rat) (X : List (Rat × Int)) : Int := (X.map fun t => if x < t.1 then t.2 else 0).sum
def tot (X : List (Rat × Int)) : Int := (X.map (·.2)).sum
def sli (X : List (Rat × Int)) : Rat := (X.map fun t => (t.2 : Rat) * t.1).sum
theorem rsum_append (x : Rat) (X Y : List (Rat × Int)) : rsum x (X ++ Y) = rsum x X + rsum x Y := by simp [rsum]
theorem tot_append (X Y : List (Rat × Int)) : tot (X ++ Y) = tot X + tot Y := by simp [tot]
theorem sli_append (X Y : List (Rat × Int)) : sli (X ++ Y) = sli X + sli Y := by
  unfold sli
  induction X with
  | nil => simp; grind
  | cons a X ih => simp only [List.cons_append, List.map_cons, List.sum_cons, ih]; grind
theorem xe_cr {a b : V} {c x : Rat} (h : a.y ≠ b.y) : (b.y - a.y) * (xe (a, b) c - x) = cr a b ⟨x, c⟩ := by
  have hd : b.y - a.y ≠ 0 := by grind
  have hr : (c - a.y) / (b.y - a.y) * (b.y - a.y) = c - a.y := by grind
  unfold xe cr
  simp only []
  generalize (c - a.y) / (b.y - a.y) = r at *
  grind
theorem one_cs {a b : V} {c x : Rat} (ha : a.y ≠ c) (hb : b.y ≠ c) : rsum x (one (a, b) c) = cs a b ⟨x, c⟩ := by
  unfold one cs
  simp only []
  by_cases h1 : a.y < c ∧ c < b.y
  · rw [if_pos h1]
    have hx := xe_cr (a := a) (b := b) (c := c) (x := x) (by grind)
    have hs := mul_signs (b.y - a.y) (xe (a, b) c - x)
    simp only [rsum, List.map_cons, List.map_nil, List.sum_cons, List.sum_nil]
    rcases tri (xe (a, b) c) x with k | k | k
    · have := hs.2.1 (by grind) (by grind); grind
    · have : (b.y - a.y) * (xe (a, b) c - x) = 0 := by rw [k]; grind
      grind
    · have := hs.1 (by grind) (by grind); grind
  · rw [if_neg h1]
    by_cases h2 : b.y < c ∧ c < a.y
    · rw [if_pos h2]
      have hx := xe_cr (a := a) (b := b) (c := c) (x := x) (by grind)
      have hs := mul_signs (b.y - a.y) (xe (a, b) c - x)
      simp only [rsum, List.map_cons, List.map_nil, List.sum_cons, List.sum_nil]
      rcases tri (xe (a, b) c) x with k | k | k
      · have := hs.2.2.2 (by grind) (by grind); grind
      · have : (b.y - a.y) * (xe (a, b) c - x) = 0 := by rw [k]; grind
        grind
      · have := hs.2.2.1 (by grind) (by grind); grind
    · rw [if_neg h2]
      simp only [rsum, List.map_nil, List.sum_nil]
      grind
theorem crs_wn {c x : Rat} : ∀ {L : List (V × V)}, (∀ e ∈ L, e.1.y ≠ c ∧ e.2.y ≠ c) → rsum x (crs c L) = wn ⟨x, c⟩ L := by
  intro L
  induction L with
  | nil => intro _; rfl
  | cons e L ih =>
    intro h
    have h0 := h e (List.mem_cons_self ..)
    show rsum x (one e c ++ crs c L) = _
    rw [rsum_append, ih (fun f hf => h f (List.mem_cons_of_mem _ hf)), wn]
    have := one_cs (x := x) h0.1 h0.2
    rw [← this]
theorem crs_tot {c : Rat} : ∀ {l : List V} {a b : V}, (∀ p ∈ a :: (l ++ [b]), p.y ≠ c) → tot (crs c (edg a l b)) = lev c b - lev c a := by
  have key : ∀ {a b : V}, a.y ≠ c → b.y ≠ c → tot (one (a, b) c) = lev c b - lev c a := by
    intro a b ha hb
    unfold one lev
    simp only []
    by_cases h1 : a.y < c ∧ c < b.y
    · rw [if_pos h1]; simp only [tot, List.map_cons, List.map_nil, List.sum_cons, List.sum_nil]; grind
    · rw [if_neg h1]
      by_cases h2 : b.y < c ∧ c < a.y
      · rw [if_pos h2]; simp only [tot, List.map_cons, List.map_nil, List.sum_cons, List.sum_nil]; grind
      · rw [if_neg h2]; simp only [tot, List.map_nil, List.sum_nil]; grind
  intro l
  induction l with
  | nil =>
    intro a b h
    have := key (h a (by simp)) (h b (by simp))
    simp only [edg, crs, List.flatMap_cons, List.flatMap_nil, List.append_nil]
    exact this
  | cons x l ih =>
    intro a b h
    have k1 := key (h a (by simp)) (h x (by simp))
    have k2 := ih (a := x) (b := b) (fun p hp => h p (by simp only [List.cons_append, List.mem_cons]; exact .inr (by simpa using hp)))
    rw [edg]
    show tot (one (a, x) c ++ crs c (edg x l b)) = _
    rw [tot_append, k1, k2]
    omega
theorem crs_in {c A B : Rat} {L : List (V × V)} (h : ∀ e ∈ L, A ≤ e.1.x ∧ e.1.x ≤ B ∧ A ≤ e.2.x ∧ e.2.x ≤ B) : ∀ t ∈ crs c L, A ≤ t.1 ∧ t.1 ≤ B := by
  intro t ht
  obtain ⟨e, he, ht⟩ := List.mem_flatMap.1 ht
  obtain ⟨h1, h2, h3, h4⟩ := h e he
  have key : (e.1.y < c ∧ c < e.2.y) ∨ (e.2.y < c ∧ c < e.1.y) → A ≤ xe e c ∧ xe e c ≤ B := by
    intro hc
    have hd : e.2.y - e.1.y ≠ 0 := by grind
    have hr : (c - e.1.y) / (e.2.y - e.1.y) * (e.2.y - e.1.y) = c - e.1.y := by grind
    unfold xe
    generalize (c - e.1.y) / (e.2.y - e.1.y) = r at *
    have hr01 : 0 ≤ r ∧ r ≤ 1 := by
      have m1 := mul_signs r (e.2.y - e.1.y)
      have m2 := mul_signs (1 - r) (e.2.y - e.1.y)
      have e2 : (1 - r) * (e.2.y - e.1.y) = e.2.y - c := by grind
      constructor
      · by_cases k : 0 ≤ r
        · exact k
        · rcases hc with hc | hc
          · have := m1.2.2.1 (by grind) (by grind); grind
          · have := m1.2.2.2 (by grind) (by grind); grind
      · by_cases k : r ≤ 1
        · exact k
        · rcases hc with hc | hc
          · have := m2.2.2.1 (by grind) (by grind); grind
          · have := m2.2.2.2 (by grind) (by grind); grind
    have a1 := lin_nonneg hr01.1 hr01.2 (show 0 ≤ e.1.x - A by grind) (show 0 ≤ e.2.x - A by grind)
    have a2 := lin_nonneg hr01.1 hr01.2 (show 0 ≤ B - e.1.x by grind) (show 0 ≤ B - e.2.x by grind)
    constructor <;> grind
  unfold one at ht
  split at ht
  · rename_i hc
    rw [List.mem_singleton.1 ht]
    exact key (.inl hc)
  · split at ht
    · rename_i hc
      rw [List.mem_singleton.1 ht]
      exact key (.inr hc)
    · cases ht
/-- The sum of the crossings, sorted from the right. -/
theorem integ_sorted (S : List Rat) (A : Rat) : ∀ (X : List (Rat × Int)) (s0 : Int) (t0 : Rat), X.Pairwise (fun a b => b.1 ≤ a.1) → (∀ t ∈ X, A ≤ t.1 ∧ t.1 ≤ t0) → A ≤ t0 → s0 + tot X = 0 →
    (∀ x, x < t0 → x ∉ S → (∀ t ∈ X, x ≠ t.1) → s0 + rsum x X ≤ 1) → (s0 : Rat) * t0 + sli X ≤ t0 - A := by
  intro X
  induction X with
  | nil =>
    intro s0 t0 _ _ hA h0 _
    have : s0 = 0 := by simpa [tot] using h0
    rw [this]
    simp [sli]
    grind
  | cons a X ih =>
    intro s0 t0 hp hb hA h0 hs
    obtain ⟨t1, s1⟩ := a
    obtain ⟨hp1, hp2⟩ := List.pairwise_cons.1 hp
    have b1 := hb (t1, s1) (List.mem_cons_self ..)
    simp only [] at hp1 b1
    have hrec := ih (s0 + s1) t1 hp2 (fun t ht => ⟨(hb t (List.mem_cons_of_mem _ ht)).1, hp1 t ht⟩) b1.1 (by simp [tot] at h0 ⊢; omega) (fun x hx hS hX => by
      have := hs x (by grind) hS (fun t ht => by
        rcases List.mem_cons.1 ht with rfl | ht
        · simp only []; grind
        · exact hX t ht)
      simp only [rsum, List.map_cons, List.sum_cons, if_pos hx] at this ⊢
      omega)
    have e : sli ((t1, s1) :: X) = (s1 : Rat) * t1 + sli X := by simp only [sli, List.map_cons, List.sum_cons]
    rw [e]
    rw [Rat.intCast_add] at hrec
    -- between t1 and t0 nothing crosses
    have hgap : (s0 : Rat) * (t0 - t1) ≤ t0 - t1 := by
      rcases Rat.le_iff_lt_or_eq.1 b1.2 with hlt | heq
      · obtain ⟨d, d0, d1, d2⟩ := avoid (S.map fun y => y - t1) (t0 - t1) (by grind)
        have := hs (t1 + d) (by grind) (fun h => d2 (List.mem_map.2 ⟨_, h, by grind⟩)) (fun t ht => by
          rcases List.mem_cons.1 ht with rfl | ht
          · simp only []; grind
          · have := hp1 t ht; grind)
        have hz : rsum (t1 + d) ((t1, s1) :: X) = 0 := by
          unfold rsum
          have : ∀ Y : List (Rat × Int), (∀ t ∈ Y, t.1 ≤ t1) → (Y.map fun t => if t1 + d < t.1 then t.2 else 0).sum = 0 := by
            intro Y
            induction Y with
            | nil => intro _; rfl
            | cons y Y ihY =>
              intro hY
              have h1 := hY y (List.mem_cons_self ..)
              rw [List.map_cons, List.sum_cons, ihY (fun t ht => hY t (List.mem_cons_of_mem _ ht)), if_neg (by grind)]
              rfl
          exact this _ (fun t ht => by
            rcases List.mem_cons.1 ht with rfl | ht
            · exact Rat.le_refl
            · exact hp1 t ht)
        rw [hz] at this
        have h1 : (s0 : Rat) ≤ 1 := by
          have : s0 ≤ 1 := by omega
          exact_mod_cast this
        have := Rat.mul_nonneg (show 0 ≤ 1 - (s0 : Rat) by grind) (show 0 ≤ t0 - t1 by grind)
        grind
      · rw [heq]; grind
    grind
theorem perm_sum {U W : List Int} (h : U.Perm W) : U.sum = W.sum := by
  induction h with
  | nil => rfl
  | cons x _ ih => simp only [List.sum_cons, ih]
  | swap x y l => simp only [List.sum_cons]; omega
  | trans _ _ h1 h2 => rw [h1, h2]
theorem integ {X : List (Rat × Int)} (S : List Rat) {A B : Rat} (hb : ∀ t ∈ X, A ≤ t.1 ∧ t.1 ≤ B) (hA : A ≤ B) (h0 : tot X = 0) (hs : ∀ x, x < B → x ∉ S → (∀ t ∈ X, x ≠ t.1) → rsum x X ≤ 1) : sli X ≤ B - A := by
  have hperm := List.mergeSort_perm X (fun a b => decide (b.1 ≤ a.1))
  have hsort : (X.mergeSort (fun a b => decide (b.1 ≤ a.1))).Pairwise (fun a b => b.1 ≤ a.1) := by
    have := List.pairwise_mergeSort (le := fun a b : Rat × Int => decide (b.1 ≤ a.1)) (fun a b c h1 h2 => by simp at *; grind) (fun a b => by simp; grind) X
    exact this.imp fun h => by simpa using h
  generalize X.mergeSort (fun a b => decide (b.1 ≤ a.1)) = Y at *
  have e1 : tot Y = tot X := by unfold tot; exact perm_sum (hperm.map _)
  have e2 : ∀ x, rsum x Y = rsum x X := fun x => by unfold rsum; exact perm_sum (hperm.map _)
  have e3 : sli Y = sli X := by
    have : ∀ {U W : List (Rat × Int)}, U.Perm W → sli U = sli W := by
      intro U W h
      unfold sli
      induction h with
      | nil => rfl
      | cons x _ ih => simp only [List.map_cons, List.sum_cons, ih]
      | swap x y l => simp only [List.map_cons, List.sum_cons]; grind
      | trans _ _ h1 h2 => rw [h1, h2]
    exact this hperm
  have := integ_sorted S A Y 0 B hsort (fun t ht => hb t (hperm.subset ht)) hA (by rw [e1, h0]; rfl) (fun x hx hS hX => by
    rw [e2, Int.zero_add]
    exact hs x hx hS (fun t ht => hX t (hperm.symm.subset ht)))
  rw [e3] at this
  have z : ((0 : Int) : Rat) = 0 := rfl
  rw [z] at this
  grind

end Go.Proofs.YtdhakoecjmaebaaGreat.Geo
