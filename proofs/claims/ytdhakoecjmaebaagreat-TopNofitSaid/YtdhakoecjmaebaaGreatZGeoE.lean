/-
  Plane geometry over the rationals: polygons of whole heights that lie in a rectangle and about no point of which two of them turn have together at most the area of the rectangle.
-/
import Derived.Test.YtdhakoecjmaebaaGreatZGeoD
namespace Go.Proofs.YtdhakoecjmaebaaGreat.Geo
set_option linter.unusedVariables false
set_option linter.unusedSimpArgs false

def sumN (f : Nat → Rat) : Nat → Rat
  | 0 => 0
  | n + 1 => sumN f n + f n
theorem sumN_add (f g : Nat → Rat) (n : Nat) : sumN (fun k => f k + g k) n = sumN f n + sumN g n := by
  induction n with
  | zero => simp only [sumN]; grind
  | succ n ih => simp only [sumN, ih]; grind
theorem sumN_neg (f : Nat → Rat) (n : Nat) : sumN (fun k => - f k) n = - sumN f n := by
  induction n with
  | zero => simp [sumN]
  | succ n ih => simp only [sumN, ih]; grind
theorem sumN_congr {f g : Nat → Rat} {n : Nat} (h : ∀ k, k < n → f k = g k) : sumN f n = sumN g n := by
  induction n with
  | zero => rfl
  | succ n ih => simp only [sumN]; rw [ih (fun k hk => h k (by omega)), h n (by omega)]
theorem sumN_le {f : Nat → Rat} {B : Rat} {n : Nat} (h : ∀ k, k < n → f k ≤ B) : sumN f n ≤ n * B := by
  induction n with
  | zero =>
    have z : ((0 : Nat) : Rat) = 0 := rfl
    rw [sumN, z]; grind
  | succ n ih =>
    have := ih (fun k hk => h k (by omega))
    have := h n (by omega)
    simp only [sumN]
    have e : ((n + 1 : Nat) : Rat) = (n : Rat) + 1 := Rat.natCast_add n 1
    rw [e]
    grind
/-- The middle of the k-th strip. -/
def mid (k : Nat) : Rat := (k : Rat) + 1 / 2
theorem mid_lt {i k : Nat} : (i : Rat) < mid k ↔ i ≤ k := by
  unfold mid
  constructor
  · intro h
    rcases Nat.lt_or_ge k i with hk | hk
    · have : ((k + 1 : Nat) : Rat) ≤ (i : Rat) := Rat.natCast_le_natCast.2 hk
      rw [Rat.natCast_add] at this
      have e : ((1 : Nat) : Rat) = 1 := rfl
      grind
    · exact hk
  · intro h
    have : (i : Rat) ≤ (k : Rat) := Rat.natCast_le_natCast.2 h
    grind
theorem lt_mid {i k : Nat} : mid k < (i : Rat) ↔ k < i := by
  constructor
  · intro h
    rcases Nat.lt_or_ge k i with hk | hk
    · exact hk
    · have := mid_lt.2 hk; grind
  · intro h
    have : ((k + 1 : Nat) : Rat) ≤ (i : Rat) := Rat.natCast_le_natCast.2 h
    rw [Rat.natCast_add] at this
    have e : ((1 : Nat) : Rat) = 1 := rfl
    unfold mid
    grind
theorem ne_mid {i k : Nat} : (i : Rat) ≠ mid k := by
  intro h
  rcases Nat.lt_or_ge k i with hk | hk
  · have := lt_mid.2 hk; grind
  · have := mid_lt.2 hk; grind
/-- The strips of a way that runs up. -/
theorem strips_up {a b : V} {i d : Nat} (ha : a.y = (i : Rat)) (hb : b.y = ((i + (d + 1) : Nat) : Rat)) : ∀ n, sumN (fun k => sli (one (a, b) (mid k))) n =
    (if n ≤ i then 0 else if n ≤ i + (d + 1) then ((n - i : Nat) : Rat) * a.x + ((n - i : Nat) : Rat) * ((n - i : Nat) : Rat) / (2 * ((d + 1 : Nat) : Rat)) * (b.x - a.x) else ((d + 1 : Nat) : Rat) * a.x + ((d + 1 : Nat) : Rat) / 2 * (b.x - a.x)) := by
  have hD : ((d + 1 : Nat) : Rat) ≠ 0 := by
    have : ((0 : Nat) : Rat) < ((d + 1 : Nat) : Rat) := Rat.natCast_lt_natCast.2 (by omega)
    have e : ((0 : Nat) : Rat) = 0 := rfl
    grind
  intro n
  induction n with
  | zero => rw [if_pos (Nat.zero_le _)]; rfl
  | succ n ih =>
    rw [sumN, ih]
    have hc1 : (a, b).1.y < mid n ↔ i ≤ n := by show a.y < mid n ↔ _; rw [ha]; exact mid_lt
    have hc2 : mid n < (a, b).2.y ↔ n < i + (d + 1) := by show mid n < b.y ↔ _; rw [hb]; exact lt_mid
    have hc3 : (a, b).2.y < mid n ↔ i + (d + 1) ≤ n := by show b.y < mid n ↔ _; rw [hb]; exact mid_lt
    have hc4 : mid n < (a, b).1.y ↔ n < i := by show mid n < a.y ↔ _; rw [ha]; exact lt_mid
    by_cases h1 : n + 1 ≤ i
    · rw [if_pos (show n ≤ i by omega), if_pos h1]
      have : one (a, b) (mid n) = [] := by
        unfold one
        rw [if_neg (by rw [hc1, hc2]; omega), if_neg (by rw [hc3, hc4]; omega)]
      rw [this]
      simp [sli]
      grind
    · rw [if_neg h1]
      by_cases h2 : n + 1 ≤ i + (d + 1)
      · rw [if_pos h2]
        have h1' : one (a, b) (mid n) = [(xe (a, b) (mid n), 1)] := by
          unfold one
          rw [if_pos (by rw [hc1, hc2]; omega)]
        rw [h1']
        obtain ⟨m, rfl⟩ : ∃ m, n = i + m := ⟨n - i, by omega⟩
        have hs : sli [(xe (a, b) (mid (i + m)), 1)] = xe (a, b) (mid (i + m)) := by
          have z : ((1 : Int) : Rat) = 1 := rfl
          simp only [sli, List.map_cons, List.map_nil, List.sum_cons, List.sum_nil, z]
          grind
        rw [hs]
        have hx : xe (a, b) (mid (i + m)) = a.x + ((m : Rat) + 1 / 2) / ((d + 1 : Nat) : Rat) * (b.x - a.x) := by
          unfold xe mid
          simp only []
          rw [ha, hb, Rat.natCast_add, Rat.natCast_add]
          grind
        rw [hx]
        have e1 : ((i + m + 1 - i : Nat) : Rat) = (m : Rat) + 1 := by rw [show i + m + 1 - i = m + 1 by omega, Rat.natCast_add]; rfl
        rw [e1]
        by_cases h3 : i + m ≤ i
        · have hm : m = 0 := by omega
          subst hm
          rw [if_pos h3]
          have z : ((0 : Nat) : Rat) = 0 := rfl
          rw [z]
          grind
        · rw [if_neg h3, if_pos (show i + m ≤ i + (d + 1) by omega), show i + m - i = m by omega]
          grind
      · rw [if_neg h2]
        have h1' : one (a, b) (mid n) = [] := by
          unfold one
          rw [if_neg (by rw [hc1, hc2]; omega), if_neg (by rw [hc3, hc4]; omega)]
        rw [h1']
        have z : sli [] = 0 := by simp [sli]
        rw [z]
        by_cases h3 : n ≤ i + (d + 1)
        · have hn : n = i + (d + 1) := by omega
          subst hn
          rw [if_neg (by omega), if_pos (Nat.le_refl _), show i + (d + 1) - i = d + 1 by omega]
          grind
        · rw [if_neg (by omega), if_neg h3]
          grind
theorem sli_swap (a b : V) (c : Rat) (ha : a.y ≠ c) (hb : b.y ≠ c) : sli (one (b, a) c) = - sli (one (a, b) c) := by
  have hx : a.y ≠ b.y → xe (b, a) c = xe (a, b) c := by
    intro h
    unfold xe
    simp only []
    have h1 : b.y - a.y ≠ 0 := by grind
    have h2 : a.y - b.y ≠ 0 := by grind
    have r1 : (c - a.y) / (b.y - a.y) * (b.y - a.y) = c - a.y := by grind
    have r2 : (c - b.y) / (a.y - b.y) * (a.y - b.y) = c - b.y := by grind
    generalize (c - a.y) / (b.y - a.y) = r at *
    generalize (c - b.y) / (a.y - b.y) = s at *
    have e : (s + r - 1) * (b.y - a.y) = 0 := by grind
    rcases Rat.mul_eq_zero.1 e with k | k
    · have : s = 1 - r := by grind
      rw [this]; grind
    · exact absurd k h1
  unfold one
  simp only []
  have z1 : ((1 : Int) : Rat) = 1 := rfl
  have z2 : ((-1 : Int) : Rat) = -1 := rfl
  by_cases h1 : a.y < c ∧ c < b.y
  · rw [if_pos h1, if_neg (by grind), if_pos h1]
    simp only [sli, List.map_cons, List.map_nil, List.sum_cons, List.sum_nil, z1, z2]
    rw [hx (by grind)]
    grind
  · by_cases h2 : b.y < c ∧ c < a.y
    · rw [if_pos h2, if_neg h1, if_pos h2]
      simp only [sli, List.map_cons, List.map_nil, List.sum_cons, List.sum_nil, z1, z2]
      rw [hx (by grind)]
      grind
    · rw [if_neg h2, if_neg h1, if_neg h1, if_neg h2]
      simp [sli]
/-- A vertex of a whole height up to W. -/
def Whole (W : Nat) (p : V) : Prop := ∃ i : Nat, i ≤ W ∧ p.y = (i : Rat)
theorem strips {a b : V} {W : Nat} (ha : Whole W a) (hb : Whole W b) : 2 * sumN (fun k => sli (one (a, b) (mid k))) W = (a.x + b.x) * (b.y - a.y) := by
  have up : ∀ {a b : V} {i j : Nat}, i < j → j ≤ W → a.y = (i : Rat) → b.y = (j : Rat) → 2 * sumN (fun k => sli (one (a, b) (mid k))) W = (a.x + b.x) * (b.y - a.y) := by
    intro a b i j hij hj h1 h2
    obtain ⟨d, rfl⟩ : ∃ d, j = i + (d + 1) := ⟨j - i - 1, by omega⟩
    rw [strips_up h1 h2, if_neg (by omega)]
    have hD : ((d + 1 : Nat) : Rat) ≠ 0 := by
      have : ((0 : Nat) : Rat) < ((d + 1 : Nat) : Rat) := Rat.natCast_lt_natCast.2 (by omega)
      have e : ((0 : Nat) : Rat) = 0 := rfl
      grind
    have ey : b.y - a.y = ((d + 1 : Nat) : Rat) := by rw [h1, h2, Rat.natCast_add]; grind
    rw [ey]
    by_cases h3 : W ≤ i + (d + 1)
    · have : W - i = d + 1 := by omega
      rw [if_pos h3, this]
      grind
    · rw [if_neg h3]
      grind
  obtain ⟨i, hi, h1⟩ := ha
  obtain ⟨j, hj, h2⟩ := hb
  rcases Nat.lt_trichotomy i j with h | h | h
  · exact up h hj h1 h2
  · subst h
    have : sumN (fun k => sli (one (a, b) (mid k))) W = sumN (fun _ => 0) W := sumN_congr fun k _ => by
      unfold one
      simp only []
      rw [h1, h2, if_neg (by grind), if_neg (by grind)]
      simp [sli]
    have z : ∀ n, sumN (fun _ => 0) n = 0 := by
      intro n
      induction n with
      | zero => rfl
      | succ n ih => simp only [sumN, ih]; grind
    rw [this, z, h1, h2]
    grind
  · have := up h hi h2 h1
    have e : sumN (fun k => sli (one (b, a) (mid k))) W = - sumN (fun k => sli (one (a, b) (mid k))) W := by
      rw [← sumN_neg]
      exact sumN_congr fun k _ => sli_swap a b _ (by rw [h1]; exact ne_mid) (by rw [h2]; exact ne_mid)
    rw [e] at this
    grind
theorem strips_edg {W : Nat} : ∀ {l : List V} {a b : V}, (∀ p ∈ a :: (l ++ [b]), Whole W p) → 2 * sumN (fun k => sli (crs (mid k) (edg a l b))) W = ar (edg a l b) + (b.x * b.y - a.x * a.y) := by
  intro l
  induction l with
  | nil =>
    intro a b h
    have e : (fun k => sli (crs (mid k) (edg a [] b))) = fun k => sli (one (a, b) (mid k)) := by
      funext k
      simp only [edg, crs, List.flatMap_cons, List.flatMap_nil, List.append_nil]
    rw [e, strips (h a (by simp)) (h b (by simp))]
    simp only [edg, ar]
    grind
  | cons x l ih =>
    intro a b h
    have k1 := strips (h a (by simp)) (h x (by simp))
    have k2 := ih (a := x) (b := b) (fun p hp => h p (by simp only [List.cons_append, List.mem_cons]; exact .inr (by simpa using hp)))
    have e : (fun k => sli (crs (mid k) (edg a (x :: l) b))) = fun k => sli (one (a, x) (mid k)) + sli (crs (mid k) (edg x l b)) := by
      funext k
      rw [edg]
      show sli (one (a, x) (mid k) ++ crs (mid k) (edg x l b)) = _
      rw [sli_append]
    rw [e, sumN_add]
    simp only [edg, ar]
    grind
theorem strips_poly {W : Nat} {l : List V} (h : ∀ p ∈ l, Whole W p) : 2 * sumN (fun k => sli (crs (mid k) (poly l))) W = ar (poly l) := by
  cases l with
  | nil =>
    have e0 : ∀ k, sli (crs (mid k) (poly [])) = 0 := by intro k; simp [poly, crs, sli]
    have z : ∀ n, sumN (fun k => sli (crs (mid k) (poly []))) n = 0 := by
      intro n
      induction n with
      | zero => rfl
      | succ n ih => rw [sumN, ih, e0]; grind
    rw [z]
    simp [poly, ar]
  | cons v r =>
    have := strips_edg (W := W) (l := r) (a := v) (b := v) (fun p hp => h p (by simp at hp ⊢; grind))
    show 2 * sumN (fun k => sli (crs (mid k) (edg v r v))) W = ar (edg v r v)
    rw [this]
    grind

theorem edge_pts {l : List V} {e : V × V} (h : e ∈ poly l) : e.1 ∈ l ∧ e.2 ∈ l := by
  cases l with
  | nil => cases h
  | cons v r =>
    have := edg_mem (a := v) (l := r) (b := v) h
    refine ⟨this.1, ?_⟩
    have := this.2
    simp at this ⊢
    grind
theorem crs_all (c : Rat) (Ps : List (List V)) : sli (Ps.flatMap fun P => crs c (poly P)) = (Ps.map fun P => sli (crs c (poly P))).sum := by
  induction Ps with
  | nil => simp [sli]
  | cons P Ps ih => rw [List.flatMap_cons, sli_append, ih, List.map_cons, List.sum_cons]
theorem tot_all {c : Rat} {Ps : List (List V)} (h : ∀ P ∈ Ps, ∀ p ∈ P, p.y ≠ c) : tot (Ps.flatMap fun P => crs c (poly P)) = 0 := by
  induction Ps with
  | nil => rfl
  | cons P Ps ih =>
    rw [List.flatMap_cons, tot_append, ih (fun Q hQ => h Q (List.mem_cons_of_mem _ hQ))]
    have hP := h P (List.mem_cons_self ..)
    cases P with
    | nil => rfl
    | cons v r =>
      have := crs_tot (c := c) (l := r) (a := v) (b := v) (fun p hp => hP p (by simp at hp ⊢; grind))
      show tot (crs c (edg v r v)) + 0 = 0
      omega
theorem rsum_all {c x : Rat} {Ps : List (List V)} (h : ∀ P ∈ Ps, ∀ p ∈ P, p.y ≠ c) : rsum x (Ps.flatMap fun P => crs c (poly P)) = (Ps.map fun P => wn ⟨x, c⟩ (poly P)).sum := by
  induction Ps with
  | nil => rfl
  | cons P Ps ih =>
    rw [List.flatMap_cons, rsum_append, ih (fun Q hQ => h Q (List.mem_cons_of_mem _ hQ)), List.map_cons, List.sum_cons]
    rw [crs_wn (fun e he => ⟨h P (List.mem_cons_self ..) _ (edge_pts he).1, h P (List.mem_cons_self ..) _ (edge_pts he).2⟩)]
/-- At most one of some numbers that are 0 or 1, no two of which are 1 at once. -/
theorem sum_one {f : List V → Int} : ∀ {Ps : List (List V)}, (∀ P ∈ Ps, f P = 0 ∨ f P = 1) → Ps.Pairwise (fun P Q => ¬ (f P = 1 ∧ f Q = 1)) → (Ps.map f).sum ≤ 1 := by
  have zero : ∀ {Ps : List (List V)}, (∀ P ∈ Ps, f P = 0) → (Ps.map f).sum = 0 := by
    intro Ps
    induction Ps with
    | nil => intro _; rfl
    | cons P Ps ih => intro h; rw [List.map_cons, List.sum_cons, h P (List.mem_cons_self ..), ih (fun Q hQ => h Q (List.mem_cons_of_mem _ hQ))]; rfl
  intro Ps
  induction Ps with
  | nil => intro _ _; simp
  | cons P Ps ih =>
    intro h hp
    obtain ⟨p1, p2⟩ := List.pairwise_cons.1 hp
    rw [List.map_cons, List.sum_cons]
    rcases h P (List.mem_cons_self ..) with k | k
    · have := ih (fun Q hQ => h Q (List.mem_cons_of_mem _ hQ)) p2
      omega
    · have : (Ps.map f).sum = 0 := zero fun Q hQ => by
        rcases h Q (List.mem_cons_of_mem _ hQ) with j | j
        · exact j
        · exact absurd ⟨k, j⟩ (p1 Q hQ)
      omega
/-- One level of polygons about no point of which two turn. -/
theorem level {Ps : List (List V)} {L c : Rat} (hL : 0 ≤ L) (hs : ∀ P ∈ Ps, Simple P ∧ lam P = 1) (hx : ∀ P ∈ Ps, ∀ p ∈ P, 0 ≤ p.x ∧ p.x ≤ L) (hy : ∀ P ∈ Ps, ∀ p ∈ P, p.y ≠ c)
    (hd : ∀ q, Ps.Pairwise fun P Q => ¬ (wn q (poly P) = 1 ∧ wn q (poly Q) = 1)) : (Ps.map fun P => sli (crs c (poly P))).sum ≤ L := by
  rw [← crs_all]
  have hb : ∀ t ∈ Ps.flatMap (fun P => crs c (poly P)), 0 ≤ t.1 ∧ t.1 ≤ L := by
    intro t ht
    obtain ⟨P, hP, ht⟩ := List.mem_flatMap.1 ht
    exact crs_in (fun e he => ⟨(hx P hP _ (edge_pts he).1).1, (hx P hP _ (edge_pts he).1).2, (hx P hP _ (edge_pts he).2).1, (hx P hP _ (edge_pts he).2).2⟩) t ht
  have := integ (Ps.flatMap fun P => P.flatMap fun u => P.map fun w => xe (u, w) c) hb hL (tot_all hy) (fun x _ hS _ => by
    rw [rsum_all hy]
    refine sum_one (fun P hP => wn_01 _ P rfl (hs P hP).1 (hs P hP).2 _ (fun u hu w hw hne hz => ?_)) (hd _)
    by_cases hyy : u.y = w.y
    · have hxx : w.x - u.x ≠ 0 := fun k => hne (V.ext (by grind) hyy)
      have hcc : c - u.y ≠ 0 := by have := hy P hP u hu; grind
      unfold cr at hz
      simp only [] at hz
      rw [hyy] at hz
      have : (w.x - u.x) * (c - w.y) = 0 := by grind
      rcases Rat.mul_eq_zero.1 this with k | k
      · exact hxx k
      · rw [hyy] at hcc; exact hcc k
    · rw [← xe_cr hyy] at hz
      rcases Rat.mul_eq_zero.1 hz with k | k
      · exact hyy (by grind)
      · refine hS (List.mem_flatMap.2 ⟨P, hP, List.mem_flatMap.2 ⟨u, hu, List.mem_map.2 ⟨w, hw, ?_⟩⟩⟩)
        grind)
  have e : L - 0 = L := by grind
  rw [e] at this
  exact this
theorem sumN_list (W : Nat) : ∀ (Ps : List (List V)) (f : List V → Nat → Rat), sumN (fun k => (Ps.map fun P => f P k).sum) W = (Ps.map fun P => sumN (f P) W).sum := by
  intro Ps f
  induction Ps with
  | nil =>
    have z : ∀ n, sumN (fun k => (([] : List (List V)).map fun P => f P k).sum) n = 0 := by
      intro n
      induction n with
      | zero => rfl
      | succ n ih => rw [sumN, ih, List.map_nil, List.sum_nil]; grind
    rw [z]; rfl
  | cons P Ps ih =>
    simp only [List.map_cons, List.sum_cons]
    rw [sumN_add (f P) (fun k => (Ps.map fun P => f P k).sum), ih]
theorem two_sum (f : List V → Rat) (Ps : List (List V)) : 2 * (Ps.map f).sum = (Ps.map fun P => 2 * f P).sum := by
  induction Ps with
  | nil => simp
  | cons P Ps ih => simp only [List.map_cons, List.sum_cons]; rw [← ih]; grind
/-- Twice the areas of polygons about no point of which two turn, in a rectangle, are at most twice the rectangle. -/
theorem area_fit {Ps : List (List V)} {L : Rat} {W : Nat} (hL : 0 ≤ L) (hs : ∀ P ∈ Ps, Simple P ∧ lam P = 1) (hx : ∀ P ∈ Ps, ∀ p ∈ P, 0 ≤ p.x ∧ p.x ≤ L) (hy : ∀ P ∈ Ps, ∀ p ∈ P, Whole W p)
    (hd : ∀ q, Ps.Pairwise fun P Q => ¬ (wn q (poly P) = 1 ∧ wn q (poly Q) = 1)) : (Ps.map fun P => ar (poly P)).sum ≤ 2 * (W * L) := by
  have e : (Ps.map fun P => ar (poly P)) = Ps.map fun P => 2 * sumN (fun k => sli (crs (mid k) (poly P))) W := List.map_congr_left fun P hP => (strips_poly (hy P hP)).symm
  rw [e, ← two_sum, ← sumN_list W Ps (fun P k => sli (crs (mid k) (poly P)))]
  have := sumN_le (n := W) (f := fun k => (Ps.map fun P => sli (crs (mid k) (poly P))).sum) (B := L) (fun k _ => level hL hs hx (fun P hP p hp => by
    obtain ⟨i, _, e⟩ := hy P hP p hp
    rw [e]
    exact ne_mid) hd)
  grind

end Go.Proofs.YtdhakoecjmaebaaGreat.Geo
