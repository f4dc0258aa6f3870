/-
 Plane geometry over the rationals: points close to a point that lie on none of some lines; half a turn; the areas of polygons that do not overlap fit into a rectangle.
-/
import Derived.Test.YtdhakoecjmaebaaGreatZGeoC
namespace Go.Proofs.YtdhakoecjmaebaaGreat.Geo
set_option linter.unusedVariables false
set_option linter.unusedSimpArgs false
theorem avoid : ∀ (S : List Rat) (d : Rat), 0 < d → ∃ t, 0 < t ∧ t < d ∧ t ∉ S := by
 intro S
 induction S with
 | nil => intro d h; exact ⟨d / 2, by grind, by grind, by simp⟩
 | cons a S ih =>
  intro d h
  by_cases ha : 0 < a ∧ a < d
  ·obtain ⟨t, t0, t1, t2⟩ := ih a ha.1
   exact ⟨t, t0, by grind, by simp only [List.mem_cons, not_or]; exact ⟨by grind, t2⟩⟩
  ·obtain ⟨t, t0, t1, t2⟩ := ih d h
   exact ⟨t, t0, t1, by simp only [List.mem_cons, not_or]; exact ⟨fun e => ha ⟨by rw [← e]; exact t0, by rw [← e]; exact t1⟩, t2⟩⟩
def ht (D p : V) : V := ⟨D.x - p.x, D.y - p.y⟩
def lev (c : Rat) (p : V) : Int := if c < p.y then 1 else 0
def xe (e : V × V) (c : Rat) : Rat := e.1.x + (c - e.1.y) / (e.2.y - e.1.y) * (e.2.x - e.1.x)
def one (e : V × V) (c : Rat) : List (Rat × Int) := if e.1.y < c ∧ c < e.2.y then [(xe e c, 1)] else if e.2.y < c ∧ c < e.1.y then [(xe e c, -1)] else []
def crs (c : Rat) (L : List (V × V)) : List (Rat × Int) := L.flatMap fun e => one e c
def rsum (x : Rat) (X : List (Rat × Int)) : Int := (X.map fun t => if x < t.1 then t.2 else 0).sum
def tot (X : List (Rat × Int)) : Int := (X.map (·.2)).sum
def sli (X : List (Rat × Int)) : Rat := (X.map fun t => (t.2 : Rat) * t.1).sum
theorem rsum_append (x : Rat) (X Y : List (Rat × Int)) : rsum x (X ++ Y) = rsum x X + rsum x Y := by simp [rsum]
theorem tot_append (X Y : List (Rat × Int)) : tot (X ++ Y) = tot X + tot Y := by simp [tot]
theorem sli_append (X Y : List (Rat × Int)) : sli (X ++ Y) = sli X + sli Y := by
 unfold sli
 induction X with
 | nil => simp; grind
 | cons a X ih => simp only [List.cons_append, List.map_cons, List.sum_cons, ih]; grind
theorem xe_cr {a b : V} {c x : Rat} (h : a.y ≠ b.y) : (b.y - a.y) * (xe (a, b) c - x) = cr a b ⟨x, c⟩ := by
 have hd : b.y - a.y ≠ 0 := by grind
 have hr : (c - a.y) / (b.y - a.y) * (b.y - a.y) = c - a.y := by grind
 unfold xe cr
 simp only []
 generalize (c - a.y) / (b.y - a.y) = r at *
 grind
theorem one_cs {a b : V} {c x : Rat} (ha : a.y ≠ c) (hb : b.y ≠ c) : rsum x (one (a, b) c) = cs a b ⟨x, c⟩ := by
 unfold one cs
 simp only []
 by_cases h1 : a.y < c ∧ c < b.y
 ·rw [if_pos h1]
  have hx := xe_cr (a := a) (b := b) (c := c) (x := x) (by grind)
  have hs := mul_signs (b.y - a.y) (xe (a, b) c - x)
  simp only [rsum, List.map_cons, List.map_nil, List.sum_cons, List.sum_nil]
  rcases tri (xe (a, b) c) x with k | k | k
  ·have := hs.2.1 (by grind) (by grind); grind
  ·have : (b.y - a.y) * (xe (a, b) c - x) = 0 := by rw [k]; grind
   grind
  ·have := hs.1 (by grind) (by grind); grind
 ·rw [if_neg h1]
  by_cases h2 : b.y < c ∧ c < a.y
  ·rw [if_pos h2]
   have hx := xe_cr (a := a) (b := b) (c := c) (x := x) (by grind)
   have hs := mul_signs (b.y - a.y) (xe (a, b) c - x)
   simp only [rsum, List.map_cons, List.map_nil, List.sum_cons, List.sum_nil]
   rcases tri (xe (a, b) c) x with k | k | k
   ·have := hs.2.2.2 (by grind) (by grind); grind
   ·have : (b.y - a.y) * (xe (a, b) c - x) = 0 := by rw [k]; grind
    grind
   ·have := hs.2.2.1 (by grind) (by grind); grind
  ·rw [if_neg h2]
   simp only [rsum, List.map_nil, List.sum_nil]
   grind
theorem crs_wn {c x : Rat} : ∀ {L : List (V × V)}, (∀ e ∈ L, e.1.y ≠ c ∧ e.2.y ≠ c) → rsum x (crs c L) = wn ⟨x, c⟩ L := by
 intro L
 induction L with
 | nil => intro _; rfl
 | cons e L ih =>
  intro h
  have h0 := h e (List.mem_cons_self ..)
  show rsum x (one e c ++ crs c L) = _
  rw [rsum_append, ih (fun f hf => h f (List.mem_cons_of_mem _ hf)), wn]
  have := one_cs (x := x) h0.1 h0.2
  rw [← this]
theorem crs_tot {c : Rat} : ∀ {l : List V} {a b : V}, (∀ p ∈ a :: (l ++ [b]), p.y ≠ c) → tot (crs c (edg a l b)) = lev c b - lev c a := by
 have key : ∀ {a b : V}, a.y ≠ c → b.y ≠ c → tot (one (a, b) c) = lev c b - lev c a := by
  intro a b ha hb
  unfold one lev
  simp only []
  by_cases h1 : a.y < c ∧ c < b.y
  ·rw [if_pos h1]; simp only [tot, List.map_cons, List.map_nil, List.sum_cons, List.sum_nil]; grind
  ·rw [if_neg h1]
   by_cases h2 : b.y < c ∧ c < a.y
   ·rw [if_pos h2]; simp only [tot, List.map_cons, List.map_nil, List.sum_cons, List.sum_nil]; grind
   ·rw [if_neg h2]; simp only [tot, List.map_nil, List.sum_nil]; grind
 intro l
 induction l with
 | nil =>
  intro a b h
  have := key (h a (by simp)) (h b (by simp))
  simp only [edg, crs, List.flatMap_cons, List.flatMap_nil, List.append_nil]
  exact this
 | cons x l ih =>
  intro a b h
  have k1 := key (h a (by simp)) (h x (by simp))
  have k2 := ih (a := x) (b := b) (fun p hp => h p (by simp only [List.cons_append, List.mem_cons]; exact .inr (by simpa using hp)))
  rw [edg]
  show tot (one (a, x) c ++ crs c (edg x l b)) = _
  rw [tot_append, k1, k2]
  omega
theorem crs_in {c A B : Rat} {L : List (V × V)} (h : ∀ e ∈ L, A ≤ e.1.x ∧ e.1.x ≤ B ∧ A ≤ e.2.x ∧ e.2.x ≤ B) : ∀ t ∈ crs c L, A ≤ t.1 ∧ t.1 ≤ B := by
 intro t ht
 obtain ⟨e, he, ht⟩ := List.mem_flatMap.1 ht
 obtain ⟨h1, h2, h3, h4⟩ := h e he
 have key : (e.1.y < c ∧ c < e.2.y) ∨ (e.2.y < c ∧ c < e.1.y) → A ≤ xe e c ∧ xe e c ≤ B := by
  intro hc
  have hd : e.2.y - e.1.y ≠ 0 := by grind
  have hr : (c - e.1.y) / (e.2.y - e.1.y) * (e.2.y - e.1.y) = c - e.1.y := by grind
  unfold xe
  generalize (c - e.1.y) / (e.2.y - e.1.y) = r at *
  have hr01 : 0 ≤ r ∧ r ≤ 1 := by
   have m1 := mul_signs r (e.2.y - e.1.y)
   have m2 := mul_signs (1 - r) (e.2.y - e.1.y)
   have e2 : (1 - r) * (e.2.y - e.1.y) = e.2.y - c := by grind
   constructor
   ·by_cases k : 0 ≤ r
    ·exact k
    ·rcases hc with hc | hc
     ·have := m1.2.2.1 (by grind) (by grind); grind
     ·have := m1.2.2.2 (by grind) (by grind); grind
   ·by_cases k : r ≤ 1
    ·exact k
    ·rcases hc with hc | hc
     ·have := m2.2.2.1 (by grind) (by grind); grind
     ·have := m2.2.2.2 (by grind) (by grind); grind
  have a1 := lin_nonneg hr01.1 hr01.2 (show 0 ≤ e.1.x - A by grind) (show 0 ≤ e.2.x - A by grind)
  have a2 := lin_nonneg hr01.1 hr01.2 (show 0 ≤ B - e.1.x by grind) (show 0 ≤ B - e.2.x by grind)
  constructor <;> grind
 unfold one at ht
 split at ht
 ·rename_i hc
  rw [List.mem_singleton.1 ht]
  exact key (.inl hc)
 ·split at ht
  ·rename_i hc
   rw [List.mem_singleton.1 ht]
   exact key (.inr hc)
  ·cases ht
theorem integ_sorted (S : List Rat) (A : Rat) : ∀ (X : List (Rat × Int)) (s0 : Int) (t0 : Rat), X.Pairwise (fun a b => b.1 ≤ a.1) → (∀ t ∈ X, A ≤ t.1 ∧ t.1 ≤ t0) → A ≤ t0 → s0 + tot X = 0 →
  (∀ x, x < t0 → x ∉ S → (∀ t ∈ X, x ≠ t.1) → s0 + rsum x X ≤ 1) → (s0 : Rat) * t0 + sli X ≤ t0 - A := by
 intro X
 induction X with
 | nil =>
  intro s0 t0 _ _ hA h0 _
  have : s0 = 0 := by simpa [tot] using h0
  rw [this]
  simp [sli]
  grind
 | cons a X ih =>
  intro s0 t0 hp hb hA h0 hs
  obtain ⟨t1, s1⟩ := a
  obtain ⟨hp1, hp2⟩ := List.pairwise_cons.1 hp
  have b1 := hb (t1, s1) (List.mem_cons_self ..)
  simp only [] at hp1 b1
  have hrec := ih (s0 + s1) t1 hp2 (fun t ht => ⟨(hb t (List.mem_cons_of_mem _ ht)).1, hp1 t ht⟩) b1.1 (by simp [tot] at h0 ⊢; omega) (fun x hx hS hX => by
   have := hs x (by grind) hS (fun t ht => by
    rcases List.mem_cons.1 ht with rfl | ht
    ·simp only []; grind
    ·exact hX t ht)
   simp only [rsum, List.map_cons, List.sum_cons, if_pos hx] at this ⊢
   omega)
  have e : sli ((t1, s1) :: X) = (s1 : Rat) * t1 + sli X := by simp only [sli, List.map_cons, List.sum_cons]
  rw [e]
  rw [Rat.intCast_add] at hrec
  have hgap : (s0 : Rat) * (t0 - t1) ≤ t0 - t1 := by
   rcases Rat.le_iff_lt_or_eq.1 b1.2 with hlt | heq
   ·obtain ⟨d, d0, d1, d2⟩ := avoid (S.map fun y => y - t1) (t0 - t1) (by grind)
    have := hs (t1 + d) (by grind) (fun h => d2 (List.mem_map.2 ⟨_, h, by grind⟩)) (fun t ht => by
     rcases List.mem_cons.1 ht with rfl | ht
     ·simp only []; grind
     ·have := hp1 t ht; grind)
    have hz : rsum (t1 + d) ((t1, s1) :: X) = 0 := by
     unfold rsum
     have : ∀ Y : List (Rat × Int), (∀ t ∈ Y, t.1 ≤ t1) → (Y.map fun t => if t1 + d < t.1 then t.2 else 0).sum = 0 := by
      intro Y
      induction Y with
      | nil => intro _; rfl
      | cons y Y ihY =>
       intro hY
       have h1 := hY y (List.mem_cons_self ..)
       rw [List.map_cons, List.sum_cons, ihY (fun t ht => hY t (List.mem_cons_of_mem _ ht)), if_neg (by grind)]
       rfl
     exact this _ (fun t ht => by
      rcases List.mem_cons.1 ht with rfl | ht
      ·exact Rat.le_refl
      ·exact hp1 t ht)
    rw [hz] at this
    have h1 : (s0 : Rat) ≤ 1 := by
     have : s0 ≤ 1 := by omega
     exact_mod_cast this
    have := Rat.mul_nonneg (show 0 ≤ 1 - (s0 : Rat) by grind) (show 0 ≤ t0 - t1 by grind)
    grind
   ·rw [heq]; grind
  grind
theorem perm_sum {U W : List Int} (h : U.Perm W) : U.sum = W.sum := by
 induction h with
 | nil => rfl
 | cons x _ ih => simp only [List.sum_cons, ih]
 | swap x y l => simp only [List.sum_cons]; omega
 | trans _ _ h1 h2 => rw [h1, h2]
theorem integ {X : List (Rat × Int)} (S : List Rat) {A B : Rat} (hb : ∀ t ∈ X, A ≤ t.1 ∧ t.1 ≤ B) (hA : A ≤ B) (h0 : tot X = 0) (hs : ∀ x, x < B → x ∉ S → (∀ t ∈ X, x ≠ t.1) → rsum x X ≤ 1) : sli X ≤ B - A := by
 have hperm := List.mergeSort_perm X (fun a b => decide (b.1 ≤ a.1))
 have hsort : (X.mergeSort (fun a b => decide (b.1 ≤ a.1))).Pairwise (fun a b => b.1 ≤ a.1) := by
  have := List.pairwise_mergeSort (le := fun a b : Rat × Int => decide (b.1 ≤ a.1)) (fun a b c h1 h2 => by simp at *; grind) (fun a b => by simp; grind) X
  exact this.imp fun h => by simpa using h
 generalize X.mergeSort (fun a b => decide (b.1 ≤ a.1)) = Y at *
 have e1 : tot Y = tot X := by unfold tot; exact perm_sum (hperm.map _)
 have e2 : ∀ x, rsum x Y = rsum x X := fun x => by unfold rsum; exact perm_sum (hperm.map _)
 have e3 : sli Y = sli X := by
  have : ∀ {U W : List (Rat × Int)}, U.Perm W → sli U = sli W := by
   intro U W h
   unfold sli
   induction h with
   | nil => rfl
   | cons x _ ih => simp only [List.map_cons, List.sum_cons, ih]
   | swap x y l => simp only [List.map_cons, List.sum_cons]; grind
   | trans _ _ h1 h2 => rw [h1, h2]
  exact this hperm
 have := integ_sorted S A Y 0 B hsort (fun t ht => hb t (hperm.subset ht)) hA (by rw [e1, h0]; rfl) (fun x hx hS hX => by
  rw [e2, Int.zero_add]
  exact hs x hx hS (fun t ht => hX t (hperm.symm.subset ht)))
 rw [e3] at this
 have z : ((0 : Int) : Rat) = 0 := rfl
 rw [z] at this
 grind
end Go.Proofs.YtdhakoecjmaebaaGreat.Geo
namespace Go.Proofs.YtdhakoecjmaebaaGreat.Geo
set_option linter.unusedVariables false
set_option linter.unusedSimpArgs false
def sumN (f : Nat → Rat) : Nat → Rat
 | 0 => 0
 | n + 1 => sumN f n + f n
theorem sumN_add (f g : Nat → Rat) (n : Nat) : sumN (fun k => f k + g k) n = sumN f n + sumN g n := by
 induction n with
 | zero => simp only [sumN]; grind
 | succ n ih => simp only [sumN, ih]; grind
theorem sumN_neg (f : Nat → Rat) (n : Nat) : sumN (fun k => - f k) n = - sumN f n := by
 induction n with
 | zero => simp [sumN]
 | succ n ih => simp only [sumN, ih]; grind
theorem sumN_congr {f g : Nat → Rat} {n : Nat} (h : ∀ k, k < n → f k = g k) : sumN f n = sumN g n := by
 induction n with
 | zero => rfl
 | succ n ih => simp only [sumN]; rw [ih (fun k hk => h k (by omega)), h n (by omega)]
theorem sumN_le {f : Nat → Rat} {B : Rat} {n : Nat} (h : ∀ k, k < n → f k ≤ B) : sumN f n ≤ n * B := by
 induction n with
 | zero =>
  have z : ((0 : Nat) : Rat) = 0 := rfl
  rw [sumN, z]; grind
 | succ n ih =>
  have := ih (fun k hk => h k (by omega))
  have := h n (by omega)
  simp only [sumN]
  have e : ((n + 1 : Nat) : Rat) = (n : Rat) + 1 := Rat.natCast_add n 1
  rw [e]
  grind
def mid (k : Nat) : Rat := (k : Rat) + 1 / 2
theorem mid_lt {i k : Nat} : (i : Rat) < mid k ↔ i ≤ k := by
 unfold mid
 constructor
 ·intro h
  rcases Nat.lt_or_ge k i with hk | hk
  ·have : ((k + 1 : Nat) : Rat) ≤ (i : Rat) := Rat.natCast_le_natCast.2 hk
   rw [Rat.natCast_add] at this
   have e : ((1 : Nat) : Rat) = 1 := rfl
   grind
  ·exact hk
 ·intro h
  have : (i : Rat) ≤ (k : Rat) := Rat.natCast_le_natCast.2 h
  grind
theorem lt_mid {i k : Nat} : mid k < (i : Rat) ↔ k < i := by
 constructor
 ·intro h
  rcases Nat.lt_or_ge k i with hk | hk
  ·exact hk
  ·have := mid_lt.2 hk; grind
 ·intro h
  have : ((k + 1 : Nat) : Rat) ≤ (i : Rat) := Rat.natCast_le_natCast.2 h
  rw [Rat.natCast_add] at this
  have e : ((1 : Nat) : Rat) = 1 := rfl
  unfold mid
  grind
theorem ne_mid {i k : Nat} : (i : Rat) ≠ mid k := by
 intro h
 rcases Nat.lt_or_ge k i with hk | hk
 ·have := lt_mid.2 hk; grind
 ·have := mid_lt.2 hk; grind
theorem strips_up {a b : V} {i d : Nat} (ha : a.y = (i : Rat)) (hb : b.y = ((i + (d + 1) : Nat) : Rat)) : ∀ n, sumN (fun k => sli (one (a, b) (mid k))) n =
  (if n ≤ i then 0 else if n ≤ i + (d + 1) then ((n - i : Nat) : Rat) * a.x + ((n - i : Nat) : Rat) * ((n - i : Nat) : Rat) / (2 * ((d + 1 : Nat) : Rat)) * (b.x - a.x) else ((d + 1 : Nat) : Rat) * a.x + ((d + 1 : Nat) : Rat) / 2 * (b.x - a.x)) := by
 have hD : ((d + 1 : Nat) : Rat) ≠ 0 := by
  have : ((0 : Nat) : Rat) < ((d + 1 : Nat) : Rat) := Rat.natCast_lt_natCast.2 (by omega)
  have e : ((0 : Nat) : Rat) = 0 := rfl
  grind
 intro n
 induction n with
 | zero => rw [if_pos (Nat.zero_le _)]; rfl
 | succ n ih =>
  rw [sumN, ih]
  have hc1 : (a, b).1.y < mid n ↔ i ≤ n := by show a.y < mid n ↔ _; rw [ha]; exact mid_lt
  have hc2 : mid n < (a, b).2.y ↔ n < i + (d + 1) := by show mid n < b.y ↔ _; rw [hb]; exact lt_mid
  have hc3 : (a, b).2.y < mid n ↔ i + (d + 1) ≤ n := by show b.y < mid n ↔ _; rw [hb]; exact mid_lt
  have hc4 : mid n < (a, b).1.y ↔ n < i := by show mid n < a.y ↔ _; rw [ha]; exact lt_mid
  by_cases h1 : n + 1 ≤ i
  ·rw [if_pos (show n ≤ i by omega), if_pos h1]
   have : one (a, b) (mid n) = [] := by
    unfold one
    rw [if_neg (by rw [hc1, hc2]; omega), if_neg (by rw [hc3, hc4]; omega)]
   rw [this]
   simp [sli]
   grind
  ·rw [if_neg h1]
   by_cases h2 : n + 1 ≤ i + (d + 1)
   ·rw [if_pos h2]
    have h1' : one (a, b) (mid n) = [(xe (a, b) (mid n), 1)] := by
     unfold one
     rw [if_pos (by rw [hc1, hc2]; omega)]
    rw [h1']
    obtain ⟨m, rfl⟩ : ∃ m, n = i + m := ⟨n - i, by omega⟩
    have hs : sli [(xe (a, b) (mid (i + m)), 1)] = xe (a, b) (mid (i + m)) := by
     have z : ((1 : Int) : Rat) = 1 := rfl
     simp only [sli, List.map_cons, List.map_nil, List.sum_cons, List.sum_nil, z]
     grind
    rw [hs]
    have hx : xe (a, b) (mid (i + m)) = a.x + ((m : Rat) + 1 / 2) / ((d + 1 : Nat) : Rat) * (b.x - a.x) := by
     unfold xe mid
     simp only []
     rw [ha, hb, Rat.natCast_add, Rat.natCast_add]
     grind
    rw [hx]
    have e1 : ((i + m + 1 - i : Nat) : Rat) = (m : Rat) + 1 := by rw [show i + m + 1 - i = m + 1 by omega, Rat.natCast_add]; rfl
    rw [e1]
    by_cases h3 : i + m ≤ i
    ·have hm : m = 0 := by omega
     subst hm
     rw [if_pos h3]
     have z : ((0 : Nat) : Rat) = 0 := rfl
     rw [z]
     grind
    ·rw [if_neg h3, if_pos (show i + m ≤ i + (d + 1) by omega), show i + m - i = m by omega]
     grind
   ·rw [if_neg h2]
    have h1' : one (a, b) (mid n) = [] := by
     unfold one
     rw [if_neg (by rw [hc1, hc2]; omega), if_neg (by rw [hc3, hc4]; omega)]
    rw [h1']
    have z : sli [] = 0 := by simp [sli]
    rw [z]
    by_cases h3 : n ≤ i + (d + 1)
    ·have hn : n = i + (d + 1) := by omega
     subst hn
     rw [if_neg (by omega), if_pos (Nat.le_refl _), show i + (d + 1) - i = d + 1 by omega]
     grind
    ·rw [if_neg (by omega), if_neg h3]
     grind
theorem sli_swap (a b : V) (c : Rat) (ha : a.y ≠ c) (hb : b.y ≠ c) : sli (one (b, a) c) = - sli (one (a, b) c) := by
 have hx : a.y ≠ b.y → xe (b, a) c = xe (a, b) c := by
  intro h
  unfold xe
  simp only []
  have h1 : b.y - a.y ≠ 0 := by grind
  have h2 : a.y - b.y ≠ 0 := by grind
  have r1 : (c - a.y) / (b.y - a.y) * (b.y - a.y) = c - a.y := by grind
  have r2 : (c - b.y) / (a.y - b.y) * (a.y - b.y) = c - b.y := by grind
  generalize (c - a.y) / (b.y - a.y) = r at *
  generalize (c - b.y) / (a.y - b.y) = s at *
  have e : (s + r - 1) * (b.y - a.y) = 0 := by grind
  rcases Rat.mul_eq_zero.1 e with k | k
  ·have : s = 1 - r := by grind
   rw [this]; grind
  ·exact absurd k h1
 unfold one
 simp only []
 have z1 : ((1 : Int) : Rat) = 1 := rfl
 have z2 : ((-1 : Int) : Rat) = -1 := rfl
 by_cases h1 : a.y < c ∧ c < b.y
 ·rw [if_pos h1, if_neg (by grind), if_pos h1]
  simp only [sli, List.map_cons, List.map_nil, List.sum_cons, List.sum_nil, z1, z2]
  rw [hx (by grind)]
  grind
 ·by_cases h2 : b.y < c ∧ c < a.y
  ·rw [if_pos h2, if_neg h1, if_pos h2]
   simp only [sli, List.map_cons, List.map_nil, List.sum_cons, List.sum_nil, z1, z2]
   rw [hx (by grind)]
   grind
  ·rw [if_neg h2, if_neg h1, if_neg h1, if_neg h2]
   simp [sli]
def Whole (W : Nat) (p : V) : Prop := ∃ i : Nat, i ≤ W ∧ p.y = (i : Rat)
theorem strips {a b : V} {W : Nat} (ha : Whole W a) (hb : Whole W b) : 2 * sumN (fun k => sli (one (a, b) (mid k))) W = (a.x + b.x) * (b.y - a.y) := by
 have up : ∀ {a b : V} {i j : Nat}, i < j → j ≤ W → a.y = (i : Rat) → b.y = (j : Rat) → 2 * sumN (fun k => sli (one (a, b) (mid k))) W = (a.x + b.x) * (b.y - a.y) := by
  intro a b i j hij hj h1 h2
  obtain ⟨d, rfl⟩ : ∃ d, j = i + (d + 1) := ⟨j - i - 1, by omega⟩
  rw [strips_up h1 h2, if_neg (by omega)]
  have hD : ((d + 1 : Nat) : Rat) ≠ 0 := by
   have : ((0 : Nat) : Rat) < ((d + 1 : Nat) : Rat) := Rat.natCast_lt_natCast.2 (by omega)
   have e : ((0 : Nat) : Rat) = 0 := rfl
   grind
  have ey : b.y - a.y = ((d + 1 : Nat) : Rat) := by rw [h1, h2, Rat.natCast_add]; grind
  rw [ey]
  by_cases h3 : W ≤ i + (d + 1)
  ·have : W - i = d + 1 := by omega
   rw [if_pos h3, this]
   grind
  ·rw [if_neg h3]
   grind
 obtain ⟨i, hi, h1⟩ := ha
 obtain ⟨j, hj, h2⟩ := hb
 rcases Nat.lt_trichotomy i j with h | h | h
 ·exact up h hj h1 h2
 ·subst h
  have : sumN (fun k => sli (one (a, b) (mid k))) W = sumN (fun _ => 0) W := sumN_congr fun k _ => by
   unfold one
   simp only []
   rw [h1, h2, if_neg (by grind), if_neg (by grind)]
   simp [sli]
  have z : ∀ n, sumN (fun _ => 0) n = 0 := by
   intro n
   induction n with
   | zero => rfl
   | succ n ih => simp only [sumN, ih]; grind
  rw [this, z, h1, h2]
  grind
 ·have := up h hi h2 h1
  have e : sumN (fun k => sli (one (b, a) (mid k))) W = - sumN (fun k => sli (one (a, b) (mid k))) W := by
   rw [← sumN_neg]
   exact sumN_congr fun k _ => sli_swap a b _ (by rw [h1]; exact ne_mid) (by rw [h2]; exact ne_mid)
  rw [e] at this
  grind
theorem strips_edg {W : Nat} : ∀ {l : List V} {a b : V}, (∀ p ∈ a :: (l ++ [b]), Whole W p) → 2 * sumN (fun k => sli (crs (mid k) (edg a l b))) W = ar (edg a l b) + (b.x * b.y - a.x * a.y) := by
 intro l
 induction l with
 | nil =>
  intro a b h
  have e : (fun k => sli (crs (mid k) (edg a [] b))) = fun k => sli (one (a, b) (mid k)) := by
   funext k
   simp only [edg, crs, List.flatMap_cons, List.flatMap_nil, List.append_nil]
  rw [e, strips (h a (by simp)) (h b (by simp))]
  simp only [edg, ar]
  grind
 | cons x l ih =>
  intro a b h
  have k1 := strips (h a (by simp)) (h x (by simp))
  have k2 := ih (a := x) (b := b) (fun p hp => h p (by simp only [List.cons_append, List.mem_cons]; exact .inr (by simpa using hp)))
  have e : (fun k => sli (crs (mid k) (edg a (x :: l) b))) = fun k => sli (one (a, x) (mid k)) + sli (crs (mid k) (edg x l b)) := by
   funext k
   rw [edg]
   show sli (one (a, x) (mid k) ++ crs (mid k) (edg x l b)) = _
   rw [sli_append]
  rw [e, sumN_add]
  simp only [edg, ar]
  grind
theorem strips_poly {W : Nat} {l : List V} (h : ∀ p ∈ l, Whole W p) : 2 * sumN (fun k => sli (crs (mid k) (poly l))) W = ar (poly l) := by
 cases l with
 | nil =>
  have e0 : ∀ k, sli (crs (mid k) (poly [])) = 0 := by intro k; simp [poly, crs, sli]
  have z : ∀ n, sumN (fun k => sli (crs (mid k) (poly []))) n = 0 := by
   intro n
   induction n with
   | zero => rfl
   | succ n ih => rw [sumN, ih, e0]; grind
  rw [z]
  simp [poly, ar]
 | cons v r =>
  have := strips_edg (W := W) (l := r) (a := v) (b := v) (fun p hp => h p (by simp at hp ⊢; grind))
  show 2 * sumN (fun k => sli (crs (mid k) (edg v r v))) W = ar (edg v r v)
  rw [this]
  grind
theorem edge_pts {l : List V} {e : V × V} (h : e ∈ poly l) : e.1 ∈ l ∧ e.2 ∈ l := by
 cases l with
 | nil => cases h
 | cons v r =>
  have := edg_mem (a := v) (l := r) (b := v) h
  refine ⟨this.1, ?_⟩
  have := this.2
  simp at this ⊢
  grind
theorem crs_all (c : Rat) (Ps : List (List V)) : sli (Ps.flatMap fun P => crs c (poly P)) = (Ps.map fun P => sli (crs c (poly P))).sum := by
 induction Ps with
 | nil => simp [sli]
 | cons P Ps ih => rw [List.flatMap_cons, sli_append, ih, List.map_cons, List.sum_cons]
theorem tot_all {c : Rat} {Ps : List (List V)} (h : ∀ P ∈ Ps, ∀ p ∈ P, p.y ≠ c) : tot (Ps.flatMap fun P => crs c (poly P)) = 0 := by
 induction Ps with
 | nil => rfl
 | cons P Ps ih =>
  rw [List.flatMap_cons, tot_append, ih (fun Q hQ => h Q (List.mem_cons_of_mem _ hQ))]
  have hP := h P (List.mem_cons_self ..)
  cases P with
  | nil => rfl
  | cons v r =>
   have := crs_tot (c := c) (l := r) (a := v) (b := v) (fun p hp => hP p (by simp at hp ⊢; grind))
   show tot (crs c (edg v r v)) + 0 = 0
   omega
theorem rsum_all {c x : Rat} {Ps : List (List V)} (h : ∀ P ∈ Ps, ∀ p ∈ P, p.y ≠ c) : rsum x (Ps.flatMap fun P => crs c (poly P)) = (Ps.map fun P => wn ⟨x, c⟩ (poly P)).sum := by
 induction Ps with
 | nil => rfl
 | cons P Ps ih =>
  rw [List.flatMap_cons, rsum_append, ih (fun Q hQ => h Q (List.mem_cons_of_mem _ hQ)), List.map_cons, List.sum_cons]
  rw [crs_wn (fun e he => ⟨h P (List.mem_cons_self ..) _ (edge_pts he).1, h P (List.mem_cons_self ..) _ (edge_pts he).2⟩)]
theorem sum_one {f : List V → Int} : ∀ {Ps : List (List V)}, (∀ P ∈ Ps, f P = 0 ∨ f P = 1) → Ps.Pairwise (fun P Q => ¬ (f P = 1 ∧ f Q = 1)) → (Ps.map f).sum ≤ 1 := by
 have zero : ∀ {Ps : List (List V)}, (∀ P ∈ Ps, f P = 0) → (Ps.map f).sum = 0 := by
  intro Ps
  induction Ps with
  | nil => intro _; rfl
  | cons P Ps ih => intro h; rw [List.map_cons, List.sum_cons, h P (List.mem_cons_self ..), ih (fun Q hQ => h Q (List.mem_cons_of_mem _ hQ))]; rfl
 intro Ps
 induction Ps with
 | nil => intro _ _; simp
 | cons P Ps ih =>
  intro h hp
  obtain ⟨p1, p2⟩ := List.pairwise_cons.1 hp
  rw [List.map_cons, List.sum_cons]
  rcases h P (List.mem_cons_self ..) with k | k
  ·have := ih (fun Q hQ => h Q (List.mem_cons_of_mem _ hQ)) p2
   omega
  ·have : (Ps.map f).sum = 0 := zero fun Q hQ => by
    rcases h Q (List.mem_cons_of_mem _ hQ) with j | j
    ·exact j
    ·exact absurd ⟨k, j⟩ (p1 Q hQ)
   omega
theorem level {Ps : List (List V)} {L c : Rat} (hL : 0 ≤ L) (hs : ∀ P ∈ Ps, Simple P ∧ lam P = 1) (hx : ∀ P ∈ Ps, ∀ p ∈ P, 0 ≤ p.x ∧ p.x ≤ L) (hy : ∀ P ∈ Ps, ∀ p ∈ P, p.y ≠ c)
  (hd : ∀ q, Ps.Pairwise fun P Q => ¬ (wn q (poly P) = 1 ∧ wn q (poly Q) = 1)) : (Ps.map fun P => sli (crs c (poly P))).sum ≤ L := by
 rw [← crs_all]
 have hb : ∀ t ∈ Ps.flatMap (fun P => crs c (poly P)), 0 ≤ t.1 ∧ t.1 ≤ L := by
  intro t ht
  obtain ⟨P, hP, ht⟩ := List.mem_flatMap.1 ht
  exact crs_in (fun e he => ⟨(hx P hP _ (edge_pts he).1).1, (hx P hP _ (edge_pts he).1).2, (hx P hP _ (edge_pts he).2).1, (hx P hP _ (edge_pts he).2).2⟩) t ht
 have := integ (Ps.flatMap fun P => P.flatMap fun u => P.map fun w => xe (u, w) c) hb hL (tot_all hy) (fun x _ hS _ => by
  rw [rsum_all hy]
  refine sum_one (fun P hP => wn_01 _ P rfl (hs P hP).1 (hs P hP).2 _ (fun u hu w hw hne hz => ?_)) (hd _)
  by_cases hyy : u.y = w.y
  ·have hxx : w.x - u.x ≠ 0 := fun k => hne (V.ext (by grind) hyy)
   have hcc : c - u.y ≠ 0 := by have := hy P hP u hu; grind
   unfold cr at hz
   simp only [] at hz
   rw [hyy] at hz
   have : (w.x - u.x) * (c - w.y) = 0 := by grind
   rcases Rat.mul_eq_zero.1 this with k | k
   ·exact hxx k
   ·rw [hyy] at hcc; exact hcc k
  ·rw [← xe_cr hyy] at hz
   rcases Rat.mul_eq_zero.1 hz with k | k
   ·exact hyy (by grind)
   ·refine hS (List.mem_flatMap.2 ⟨P, hP, List.mem_flatMap.2 ⟨u, hu, List.mem_map.2 ⟨w, hw, ?_⟩⟩⟩)
    grind)
 have e : L - 0 = L := by grind
 rw [e] at this
 exact this
theorem sumN_list (W : Nat) : ∀ (Ps : List (List V)) (f : List V → Nat → Rat), sumN (fun k => (Ps.map fun P => f P k).sum) W = (Ps.map fun P => sumN (f P) W).sum := by
 intro Ps f
 induction Ps with
 | nil =>
  have z : ∀ n, sumN (fun k => (([] : List (List V)).map fun P => f P k).sum) n = 0 := by
   intro n
   induction n with
   | zero => rfl
   | succ n ih => rw [sumN, ih, List.map_nil, List.sum_nil]; grind
  rw [z]; rfl
 | cons P Ps ih =>
  simp only [List.map_cons, List.sum_cons]
  rw [sumN_add (f P) (fun k => (Ps.map fun P => f P k).sum), ih]
theorem two_sum (f : List V → Rat) (Ps : List (List V)) : 2 * (Ps.map f).sum = (Ps.map fun P => 2 * f P).sum := by
 induction Ps with
 | nil => simp
 | cons P Ps ih => simp only [List.map_cons, List.sum_cons]; rw [← ih]; grind
theorem area_fit {Ps : List (List V)} {L : Rat} {W : Nat} (hL : 0 ≤ L) (hs : ∀ P ∈ Ps, Simple P ∧ lam P = 1) (hx : ∀ P ∈ Ps, ∀ p ∈ P, 0 ≤ p.x ∧ p.x ≤ L) (hy : ∀ P ∈ Ps, ∀ p ∈ P, Whole W p)
  (hd : ∀ q, Ps.Pairwise fun P Q => ¬ (wn q (poly P) = 1 ∧ wn q (poly Q) = 1)) : (Ps.map fun P => ar (poly P)).sum ≤ 2 * (W * L) := by
 have e : (Ps.map fun P => ar (poly P)) = Ps.map fun P => 2 * sumN (fun k => sli (crs (mid k) (poly P))) W := List.map_congr_left fun P hP => (strips_poly (hy P hP)).symm
 rw [e, ← two_sum, ← sumN_list W Ps (fun P k => sli (crs (mid k) (poly P)))]
 have := sumN_le (n := W) (f := fun k => (Ps.map fun P => sli (crs (mid k) (poly P))).sum) (B := L) (fun k _ => level hL hs hx (fun P hP p hp => by
  obtain ⟨i, _, e⟩ := hy P hP p hp
  rw [e]
  exact ne_mid) hd)
 grind
end Go.Proofs.YtdhakoecjmaebaaGreat.Geo
