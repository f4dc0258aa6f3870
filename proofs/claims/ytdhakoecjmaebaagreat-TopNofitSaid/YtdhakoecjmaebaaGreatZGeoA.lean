/-
  Plane geometry over the rationals: turns, crossings of a ray, two ways that have no point in common.
-/
namespace Go.Proofs.YtdhakoecjmaebaaGreat.Geo
set_option linter.unusedVariables false
set_option linter.unusedSimpArgs false

structure V where
  x : Rat
  y : Rat

def cr (a b c : V) : Rat := (b.x - a.x) * (c.y - a.y) - (b.y - a.y) * (c.x - a.x)
/-- How the way from a to b crosses the ray from q to the right. -/
def cs (a b q : V) : Int := if a.y ≤ q.y ∧ q.y < b.y ∧ 0 < cr a b q then 1 else if b.y ≤ q.y ∧ q.y < a.y ∧ cr a b q < 0 then -1 else 0
def gg (p q r : V) : Int := if p.y < r.y ∧ r.y ≤ q.y ∧ cr p q r < 0 then 1 else if q.y < r.y ∧ r.y ≤ p.y ∧ cr q p r < 0 then -1 else 0

theorem le_tot (a b : Rat) : a ≤ b ∨ b ≤ a := Rat.le_total
theorem cr_swap (a b c : V) : cr b a c = - cr a b c := by unfold cr; grind
theorem cr_rot (a b c : V) : cr b c a = cr a b c := by unfold cr; grind
theorem cs_swap (a b q : V) : cs b a q = - cs a b q := by
  unfold cs
  rw [cr_swap a b q]
  grind
theorem gg_swap (p q r : V) : gg q p r = - gg p q r := by
  unfold gg
  grind
theorem neg_of {x k y : Rat} (hk : 0 ≤ k) (h : x * k = -y) (hy : 0 < y) : x < 0 := by
  by_cases h3 : 0 ≤ x
  · have := Rat.mul_nonneg h3 hk
    grind
  · grind
theorem pos_of {x k y : Rat} (hk : 0 ≤ k) (h : x * k = y) (hy : 0 < y) : 0 < x := by
  by_cases h3 : x ≤ 0
  · have := Rat.mul_nonneg (show 0 ≤ -x by grind) hk
    grind
  · grind
theorem sum_pos {x y k l : Rat} (hx : 0 < x) (hy : 0 < y) (hk : 0 ≤ k) (hl : 0 ≤ l) (h : 0 < k + l) : 0 < x * k + y * l := by
  have h1 := Rat.mul_nonneg (Rat.le_of_lt hx) hk
  have h2 := Rat.mul_nonneg (Rat.le_of_lt hy) hl
  rcases Rat.le_iff_lt_or_eq.1 hk with h3 | h3
  · have := Rat.mul_pos hx h3; grind
  · have := Rat.mul_pos hy (show 0 < l by grind); grind
/-- The signs that show that two ways have no point in common (or lie on one line). -/
def Dis (a b p q : V) : Prop := (0 < cr a b p ∧ 0 < cr a b q) ∨ (cr a b p < 0 ∧ cr a b q < 0) ∨ (0 < cr p q a ∧ 0 < cr p q b) ∨ (cr p q a < 0 ∧ cr p q b < 0) ∨ (cr a b p = 0 ∧ cr a b q = 0 ∧ cr p q a = 0 ∧ cr p q b = 0)

theorem Dis.symm {a b p q : V} (h : Dis a b p q) : Dis p q a b := by unfold Dis at *; grind
theorem Dis.swap1 {a b p q : V} (h : Dis a b p q) : Dis b a p q := by
  unfold Dis at *
  rw [cr_swap a b p, cr_swap a b q]; grind
theorem Dis.swap2 {a b p q : V} (h : Dis a b p q) : Dis a b q p := h.symm.swap1.symm

theorem flow_up {a b p q : V} (hab : a.y ≤ b.y) (hpq : p.y ≤ q.y) (h : Dis a b p q) : cs a b p - cs a b q = gg p q b - gg p q a := by
  have i1 : cr a b p * (q.y - p.y) = -(cr p q a * (b.y - p.y) + cr p q b * (p.y - a.y)) := by unfold cr; grind
  have i2 : cr a b q * (q.y - p.y) = -(cr p q a * (b.y - q.y) + cr p q b * (q.y - a.y)) := by unfold cr; grind
  have i3 : cr p q a * (b.y - a.y) = -(cr a b p * (q.y - a.y) + cr a b q * (a.y - p.y)) := by unfold cr; grind
  have i4 : cr p q b * (b.y - a.y) = -(cr a b p * (q.y - b.y) + cr a b q * (b.y - p.y)) := by unfold cr; grind
  unfold cs gg
  unfold Dis at h
  generalize cr a b p = A1 at *
  generalize cr a b q = A2 at *
  generalize cr p q a = Ea at *
  generalize cr p q b = Eb at *
  have key1 : a.y ≤ p.y → p.y < b.y → b.y ≤ q.y → (0 < A1 ↔ Eb < 0) := by
    intro h1 h2 h3
    rcases h with ⟨ha, hb⟩ | ⟨ha, hb⟩ | ⟨ha, hb⟩ | ⟨ha, hb⟩ | ⟨ha, hb, hc, hd⟩
    · have := neg_of (by grind) i4 (sum_pos ha hb (by grind) (by grind) (by grind)); grind
    · have := pos_of (x := Eb) (k := b.y - a.y) (by grind) (show _ = (-A1) * (q.y - b.y) + (-A2) * (b.y - p.y) by grind) (sum_pos (by grind) (by grind) (by grind) (by grind) (by grind)); grind
    · have := neg_of (by grind) i1 (sum_pos ha hb (by grind) (by grind) (by grind)); grind
    · have := pos_of (x := A1) (k := q.y - p.y) (by grind) (show _ = (-Ea) * (b.y - p.y) + (-Eb) * (p.y - a.y) by grind) (sum_pos (by grind) (by grind) (by grind) (by grind) (by grind)); grind
    · grind
  have key2 : a.y ≤ p.y → q.y < b.y → (0 < A1 ↔ 0 < A2) := by
    intro h1 h2
    rcases h with ⟨ha, hb⟩ | ⟨ha, hb⟩ | ⟨ha, hb⟩ | ⟨ha, hb⟩ | ⟨ha, hb, hc, hd⟩
    · grind
    · grind
    · have k1 := neg_of (by grind) i1 (sum_pos ha hb (by grind) (by grind) (by grind))
      have k2 := neg_of (by grind) i2 (sum_pos ha hb (by grind) (by grind) (by grind)); grind
    · have k1 := pos_of (x := A1) (k := q.y - p.y) (by grind) (show _ = (-Ea) * (b.y - p.y) + (-Eb) * (p.y - a.y) by grind) (sum_pos (by grind) (by grind) (by grind) (by grind) (by grind))
      have k2 := pos_of (x := A2) (k := q.y - p.y) (by grind) (show _ = (-Ea) * (b.y - q.y) + (-Eb) * (q.y - a.y) by grind) (sum_pos (by grind) (by grind) (by grind) (by grind) (by grind)); grind
    · grind
  have key3 : p.y < a.y → b.y ≤ q.y → (Ea < 0 ↔ Eb < 0) := by
    intro h1 h2
    rcases h with ⟨ha, hb⟩ | ⟨ha, hb⟩ | ⟨ha, hb⟩ | ⟨ha, hb⟩ | ⟨ha, hb, hc, hd⟩
    · have k1 := neg_of (by grind) i3 (sum_pos ha hb (by grind) (by grind) (by grind))
      have k2 := neg_of (by grind) i4 (sum_pos ha hb (by grind) (by grind) (by grind)); grind
    · have k1 := pos_of (x := Ea) (k := b.y - a.y) (by grind) (show _ = (-A1) * (q.y - a.y) + (-A2) * (a.y - p.y) by grind) (sum_pos (by grind) (by grind) (by grind) (by grind) (by grind))
      have k2 := pos_of (x := Eb) (k := b.y - a.y) (by grind) (show _ = (-A1) * (q.y - b.y) + (-A2) * (b.y - p.y) by grind) (sum_pos (by grind) (by grind) (by grind) (by grind) (by grind)); grind
    · grind
    · grind
    · grind
  have key4 : p.y < a.y → a.y ≤ q.y → q.y < b.y → (0 < A2 ↔ Ea < 0) := by
    intro h1 h2 h3
    rcases h with ⟨ha, hb⟩ | ⟨ha, hb⟩ | ⟨ha, hb⟩ | ⟨ha, hb⟩ | ⟨ha, hb, hc, hd⟩
    · have := neg_of (by grind) i3 (sum_pos ha hb (by grind) (by grind) (by grind)); grind
    · have := pos_of (x := Ea) (k := b.y - a.y) (by grind) (show _ = (-A1) * (q.y - a.y) + (-A2) * (a.y - p.y) by grind) (sum_pos (by grind) (by grind) (by grind) (by grind) (by grind)); grind
    · have := neg_of (by grind) i2 (sum_pos ha hb (by grind) (by grind) (by grind)); grind
    · have := pos_of (x := A2) (k := q.y - p.y) (by grind) (show _ = (-Ea) * (b.y - q.y) + (-Eb) * (q.y - a.y) by grind) (sum_pos (by grind) (by grind) (by grind) (by grind) (by grind)); grind
    · grind
  clear i1 i2 i3 i4 h
  rw [if_neg (show ¬ (b.y ≤ p.y ∧ p.y < a.y ∧ A1 < 0) by grind), if_neg (show ¬ (b.y ≤ q.y ∧ q.y < a.y ∧ A2 < 0) by grind),
    if_neg (show ¬ (q.y < b.y ∧ b.y ≤ p.y ∧ cr q p b < 0) by grind), if_neg (show ¬ (q.y < a.y ∧ a.y ≤ p.y ∧ cr q p a < 0) by grind)]
  rcases le_tot a.y p.y with h1 | h1
  · rcases le_tot b.y p.y with h2 | h2
    · grind
    · rcases le_tot b.y q.y with h3 | h3
      · grind
      · grind
  · grind

theorem flow {a b p q : V} (h : Dis a b p q) : cs a b p - cs a b q = gg p q b - gg p q a := by
  rcases le_tot a.y b.y with h1 | h1
  · rcases le_tot p.y q.y with h2 | h2
    · exact flow_up h1 h2 h
    · have := flow_up h1 h2 h.swap2
      rw [gg_swap p q, gg_swap p q] at this
      omega
  · rcases le_tot p.y q.y with h2 | h2
    · have := flow_up h1 h2 h.swap1
      rw [cs_swap a b, cs_swap a b] at this
      omega
    · have := flow_up h1 h2 h.swap1.swap2
      rw [cs_swap a b, cs_swap a b, gg_swap p q, gg_swap p q] at this
      omega

theorem tri (a b : Rat) : a < b ∨ a = b ∨ b < a := by grind
def upI (v p : V) : Int := if v.y < p.y ∨ (v.y = p.y ∧ p.x < v.x) then 1 else 0
/-- In the turn to the left that begins at the ray to the right, u comes before w, both seen from v. -/
def al (v u w : V) : Int := if (upI v u = 1 ∧ upI v w = 0) ∨ (upI v u = upI v w ∧ 0 < cr v u w) then 1 else 0
/-- Two ways that follow each other and have only their common end in common. -/
def NF (u v w : V) : Prop := u ≠ v ∧ w ≠ v ∧ (cr u v w = 0 → upI v u ≠ upI v w)
theorem V.ne {u v : V} : u ≠ v ↔ u.x ≠ v.x ∨ u.y ≠ v.y := by
  cases u; cases v; simp; grind
theorem mul_signs (x y : Rat) : (0 < x → 0 < y → 0 < x * y) ∧ (0 < x → y < 0 → x * y < 0) ∧ (x < 0 → 0 < y → x * y < 0) ∧ (x < 0 → y < 0 → 0 < x * y) := by
  refine ⟨Rat.mul_pos, fun h k => ?_, fun h k => ?_, fun h k => ?_⟩
  · have := Rat.mul_pos h (show 0 < -y by grind); grind
  · have := Rat.mul_pos (show 0 < -x by grind) k; grind
  · have := Rat.mul_pos (show 0 < -x by grind) (show 0 < -y by grind); grind
theorem upI_swap {u v : V} (h : u ≠ v) : upI u v = 1 - upI v u := by
  rw [V.ne] at h
  unfold upI
  grind
theorem upI_01 (u v : V) : upI u v = 0 ∨ upI u v = 1 := by unfold upI; grind
theorem corner_a {u v w : V} (h : NF u v w) : cs u v w - gg v w u = 1 - al v u w - upI v w := by
  obtain ⟨h1, h2, h3⟩ := h
  rw [V.ne] at h1 h2
  have e1 : cr v w u = cr u v w := cr_rot u v w
  have e2 : cr w v u = - cr u v w := by unfold cr; grind
  have e3 : cr v u w = - cr u v w := by unfold cr; grind
  have f1 : w.y = v.y → cr u v w = (v.y - u.y) * (v.x - w.x) := by intro h; unfold cr; rw [h]; grind
  have f2 : u.y = v.y → cr u v w = (v.x - u.x) * (w.y - v.y) := by intro h; unfold cr; rw [h]; grind
  have f3 : u.y = w.y → cr u v w = (v.y - u.y) * (u.x - w.x) := by intro h; unfold cr; rw [h]; grind
  have g1 := mul_signs (v.y - u.y) (v.x - w.x)
  have g2 := mul_signs (v.x - u.x) (w.y - v.y)
  have g3 := mul_signs (v.y - u.y) (u.x - w.x)
  unfold cs gg al
  rw [e1, e2, e3]
  generalize cr u v w = D at *
  unfold upI at *
  rcases tri u.y v.y with k1 | k1 | k1 <;> rcases tri w.y v.y with k2 | k2 | k2 <;> rcases tri D 0 with k3 | k3 | k3 <;> grind (splits := 30)
theorem corner_b {u v w : V} (h : NF u v w) : cs v w u - gg u v w = 1 - al v u w - upI u v := by
  have h' := h
  obtain ⟨h1, h2, h3⟩ := h
  rw [upI_swap h1]
  rw [V.ne] at h1 h2
  have e1 : cr v w u = cr u v w := cr_rot u v w
  have e2 : cr v u w = - cr u v w := by unfold cr; grind
  have f1 : w.y = v.y → cr u v w = (v.y - u.y) * (v.x - w.x) := by intro h; unfold cr; rw [h]; grind
  have f2 : u.y = v.y → cr u v w = (v.x - u.x) * (w.y - v.y) := by intro h; unfold cr; rw [h]; grind
  have f3 : u.y = w.y → cr u v w = (v.y - u.y) * (u.x - w.x) := by intro h; unfold cr; rw [h]; grind
  have g1 := mul_signs (v.y - u.y) (v.x - w.x)
  have g2 := mul_signs (v.x - u.x) (w.y - v.y)
  have g3 := mul_signs (v.y - u.y) (u.x - w.x)
  unfold cs gg al
  rw [e1, e2]
  generalize cr u v w = D at *
  unfold upI at *
  rcases tri u.y v.y with k1 | k1 | k1 <;> rcases tri w.y v.y with k2 | k2 | k2 <;> rcases tri D 0 with k3 | k3 | k3 <;> grind (splits := 30)

def On (e : V × V) (p : V) : Prop := ∃ s : Rat, 0 ≤ s ∧ s ≤ 1 ∧ p.x = e.1.x + s * (e.2.x - e.1.x) ∧ p.y = e.1.y + s * (e.2.y - e.1.y)
theorem V.ext {u v : V} (h1 : u.x = v.x) (h2 : u.y = v.y) : u = v := by cases u; cases v; simp_all
theorem On.left (a b : V) : On (a, b) a := ⟨0, by grind, by grind, by grind, by grind⟩
theorem On.right (a b : V) : On (a, b) b := ⟨1, by grind, by grind, by grind, by grind⟩
theorem On.cr0 {a b p : V} (h : On (a, b) p) : cr a b p = 0 := by
  obtain ⟨s, h1, h2, h3, h4⟩ := h
  unfold cr
  rw [h3, h4]
  grind
theorem On.aff {a b p : V} {s : Rat} (h3 : p.x = a.x + s * (b.x - a.x)) (h4 : p.y = a.y + s * (b.y - a.y)) (c d : V) : cr c d p = (1 - s) * cr c d a + s * cr c d b := by
  unfold cr
  rw [h3, h4]
  grind
/-- Two ways without a common point have the signs of such, or lie on one line. -/
theorem dis_of {a b c d : V} (h : ∀ p, On (a, b) p → On (c, d) p → False) : Dis a b c d := by
  by_cases hd : Dis a b c d
  · exact hd
  exfalso
  have e1 : cr a b d - cr a b c = cr c d a - cr c d b := by unfold cr; grind
  have key : ∀ s t : Rat, s * (cr c d a - cr c d b) = cr c d a → t * (cr c d a - cr c d b) = - cr a b c → cr c d a - cr c d b ≠ 0 → 0 ≤ s → s ≤ 1 → 0 ≤ t → t ≤ 1 → False := by
    intro s t h1 h2 h0 s0 s1 t0 t1
    refine h ⟨a.x + s * (b.x - a.x), a.y + s * (b.y - a.y)⟩ ⟨s, s0, s1, rfl, rfl⟩ ⟨t, t0, t1, ?_, ?_⟩
    · have : (cr c d a - cr c d b) * ((a.x + s * (b.x - a.x)) - (c.x + t * (d.x - c.x))) = 0 := by
        have : (cr c d a - cr c d b) * ((a.x + s * (b.x - a.x)) - (c.x + t * (d.x - c.x))) = (cr c d a - cr c d b) * (a.x - c.x) + (s * (cr c d a - cr c d b)) * (b.x - a.x) - (t * (cr c d a - cr c d b)) * (d.x - c.x) := by grind
        rw [this, h1, h2]
        unfold cr
        grind
      simp only []
      grind
    · have : (cr c d a - cr c d b) * ((a.y + s * (b.y - a.y)) - (c.y + t * (d.y - c.y))) = 0 := by
        have : (cr c d a - cr c d b) * ((a.y + s * (b.y - a.y)) - (c.y + t * (d.y - c.y))) = (cr c d a - cr c d b) * (a.y - c.y) + (s * (cr c d a - cr c d b)) * (b.y - a.y) - (t * (cr c d a - cr c d b)) * (d.y - c.y) := by grind
        rw [this, h1, h2]
        unfold cr
        grind
      simp only []
      grind
  unfold Dis at hd
  generalize cr a b c = A at *
  generalize cr a b d = B at *
  generalize cr c d a = E at *
  generalize cr c d b = F at *
  clear h
  by_cases h0 : E - F = 0
  · grind
  · have quo : ∀ (x k : Rat), k ≠ 0 → (0 < k → 0 ≤ x ∧ x ≤ k) → (k < 0 → x ≤ 0 ∧ k ≤ x) → ∃ s, s * k = x ∧ 0 ≤ s ∧ s ≤ 1 := by
      intro x k hk h1 h2
      refine ⟨x / k, by grind, ?_⟩
      have hx : (x / k) * k = x := by grind
      generalize x / k = s at *
      rcases tri k 0 with k1 | k1 | k1
      · obtain ⟨h3, h4⟩ := h2 k1
        refine ⟨?_, ?_⟩
        · by_cases hs : 0 ≤ s
          · exact hs
          · have := (mul_signs s k).2.2.2 (by grind) k1; grind
        · by_cases hs : s ≤ 1
          · exact hs
          · have := (mul_signs (s - 1) k).2.1 (by grind) k1; grind
      · exact absurd k1 hk
      · obtain ⟨h3, h4⟩ := h1 k1
        refine ⟨?_, ?_⟩
        · by_cases hs : 0 ≤ s
          · exact hs
          · have := (mul_signs s k).2.2.1 (by grind) k1; grind
        · by_cases hs : s ≤ 1
          · exact hs
          · have := (mul_signs (s - 1) k).1 (by grind) k1; grind
    have n1 : ¬ (0 < E ∧ 0 < F) := fun k => hd (.inr (.inr (.inl k)))
    have n2 : ¬ (E < 0 ∧ F < 0) := fun k => hd (.inr (.inr (.inr (.inl k))))
    have n3 : ¬ (0 < A ∧ 0 < B) := fun k => hd (.inl k)
    have n4 : ¬ (A < 0 ∧ B < 0) := fun k => hd (.inr (.inl k))
    have key' := key
    clear hd key
    have o1 : 0 < E - F → 0 ≤ E ∧ E ≤ E - F := by clear quo key'; grind
    have o2 : E - F < 0 → E ≤ 0 ∧ E - F ≤ E := by clear quo key'; grind
    have o3 : 0 < E - F → 0 ≤ -A ∧ -A ≤ E - F := by clear quo key' o1 o2 n1 n2; intro k; grind
    have o4 : E - F < 0 → -A ≤ 0 ∧ E - F ≤ -A := by clear quo key' o1 o2 n1 n2; intro k; grind
    obtain ⟨s, s1, s2, s3⟩ := quo E (E - F) h0 o1 o2
    obtain ⟨t, t1, t2, t3⟩ := quo (-A) (E - F) h0 o3 o4
    exact key' s t s1 t1 h0 s2 s3 t2 t3

def edg : V → List V → V → List (V × V)
  | a, [], b => [(a, b)]
  | a, x :: l, b => (a, x) :: edg x l b
def wn (q : V) : List (V × V) → Int
  | [] => 0
  | e :: l => cs e.1 e.2 q + wn q l
theorem wn_append (q : V) (l m : List (V × V)) : wn q (l ++ m) = wn q l + wn q m := by
  induction l with
  | nil => simp [wn]
  | cons e l ih => simp only [List.cons_append, wn, ih]; omega
theorem edg_append (a x b : V) (l m : List V) : edg a (l ++ x :: m) b = edg a l x ++ edg x m b := by
  induction l generalizing a with
  | nil => rfl
  | cons y l ih => simp only [List.cons_append, edg, ih]
theorem edg_mem {a b : V} {l : List V} {e : V × V} (h : e ∈ edg a l b) : e.1 ∈ a :: l ∧ e.2 ∈ l ++ [b] := by
  induction l generalizing a with
  | nil => simp [edg] at h; subst h; simp
  | cons y l ih =>
    rw [edg] at h
    rcases List.mem_cons.1 h with rfl | h
    · simp
    · have := ih h
      exact ⟨List.mem_cons_of_mem _ this.1, by simp only [List.cons_append]; exact List.mem_cons_of_mem _ this.2⟩
theorem wn_flow {p q a b : V} {l : List V} (h : ∀ e ∈ edg a l b, Dis e.1 e.2 p q) : wn p (edg a l b) - wn q (edg a l b) = gg p q b - gg p q a := by
  induction l generalizing a with
  | nil =>
    have := flow (h (a, b) (by simp [edg]))
    simp only [edg, wn]
    simp only [] at this
    omega
  | cons x l ih =>
    have h1 := flow (h (a, x) (by simp [edg]))
    have h2 := ih (a := x) (fun e he => h e (by rw [edg]; exact List.mem_cons_of_mem _ he))
    simp only [edg, wn]
    simp only [] at h1
    omega
def poly : List V → List (V × V)
  | [] => []
  | v :: r => edg v r v
def Simple (l : List V) : Prop := 3 ≤ l.length ∧ l.Nodup ∧ ∀ e ∈ poly l, ∀ f ∈ poly l, e ≠ f → ∀ p, On e p → On f p → (p = e.2 ∧ p = f.1) ∨ (p = e.1 ∧ p = f.2)
theorem poly_rot (v w : V) (r : List V) : poly (w :: (r ++ [v])) = edg w r v ++ [(v, w)] := by rw [poly, edg_append]; rfl
theorem poly_two (v w : V) (r : List V) : poly (v :: w :: r) = (v, w) :: edg w r v := rfl
theorem mem_rot {v w : V} {r : List V} {e : V × V} : e ∈ poly (w :: (r ++ [v])) ↔ e ∈ poly (v :: w :: r) := by
  rw [poly_rot, poly_two]; simp only [List.mem_append, List.mem_cons, List.not_mem_nil, or_false]; exact Or.comm
theorem Simple.rot {v w : V} {r : List V} (h : Simple (v :: w :: r)) : Simple (w :: (r ++ [v])) := by
  obtain ⟨h1, h2, h3⟩ := h
  refine ⟨by simp at h1 ⊢; omega, ?_, fun e he f hf => h3 e (mem_rot.1 he) f (mem_rot.1 hf)⟩
  have : (w :: (r ++ [v])).Perm (v :: w :: r) := by
    rw [← List.cons_append]
    exact List.perm_append_comm
  exact this.nodup_iff.2 h2
theorem folded_on {u v w : V} (h1 : u ≠ v) (h2 : w ≠ v) (h : cr u v w = 0) (hu : upI v u = upI v w) : On (u, v) w ∨ On (v, w) u := by
  rw [V.ne] at h1 h2
  unfold upI at hu
  have hc : (v.x - u.x) * (w.y - u.y) = (v.y - u.y) * (w.x - u.x) := by unfold cr at h; grind
  have m1 : ∀ a b : Rat, 0 < a → 0 ≤ b → b ≤ a → ∃ s, 0 ≤ s ∧ s ≤ 1 ∧ s * a = b := by
    intro a b h1 h2 h3
    refine ⟨b / a, ?_, ?_, by grind⟩
    · have hx : (b / a) * a = b := by grind
      generalize b / a = s at *
      by_cases hs : 0 ≤ s
      · exact hs
      · have := (mul_signs s a).2.2.1 (by grind) h1; grind
    · have hx : (b / a) * a = b := by grind
      generalize b / a = s at *
      by_cases hs : s ≤ 1
      · exact hs
      · have := (mul_signs (s - 1) a).1 (by grind) h1; grind
  have pick : ∀ (du dw : Rat), du * (w.x - v.x) = dw * (u.x - v.x) → du * (w.y - v.y) = dw * (u.y - v.y) → 0 < du → 0 < dw → On (u, v) w ∨ On (v, w) u := by
    intro du dw e1 e2 k1 k2
    rcases le_tot dw du with k | k
    · obtain ⟨s, s0, s1, s2⟩ := m1 du dw k1 (by grind) k
      left
      refine ⟨1 - s, by grind, by grind, ?_, ?_⟩
      · simp only []
        have : du * ((w.x - v.x) - s * (u.x - v.x)) = 0 := by grind
        grind
      · simp only []
        have : du * ((w.y - v.y) - s * (u.y - v.y)) = 0 := by grind
        grind
    · obtain ⟨s, s0, s1, s2⟩ := m1 dw du k2 (by grind) k
      right
      refine ⟨s, by grind, by grind, ?_, ?_⟩
      · simp only []
        have : dw * ((u.x - v.x) - s * (w.x - v.x)) = 0 := by grind
        grind
      · simp only []
        have : dw * ((u.y - v.y) - s * (w.y - v.y)) = 0 := by grind
        grind
  rcases tri v.y u.y with k | k | k
  · have : v.y < w.y ∨ (v.y = w.y ∧ w.x < v.x) := by grind
    rcases this with k2 | ⟨k2, k3⟩
    · exact pick (u.y - v.y) (w.y - v.y) (by grind) (by grind) (by grind) (by grind)
    · exfalso
      have : (u.y - v.y) * (w.x - v.x) = 0 := by grind
      have := (mul_signs (u.y - v.y) (w.x - v.x)).2.1 (by grind) (by grind)
      grind
  · have k2 : v.y = w.y := by
      rcases tri v.y w.y with k2 | k2 | k2
      · exfalso
        have hux : u.x < v.x := by grind
        have : (u.x - v.x) * (w.y - v.y) = 0 := by grind
        have := (mul_signs (u.x - v.x) (w.y - v.y)).2.2.1 (by grind) (by grind)
        grind
      · exact k2
      · exfalso
        have hux : v.x < u.x := by grind
        have : (u.x - v.x) * (w.y - v.y) = 0 := by grind
        have := (mul_signs (u.x - v.x) (w.y - v.y)).2.1 (by grind) (by grind)
        grind
    rcases tri u.x v.x with k3 | k3 | k3
    · exact pick (v.x - u.x) (v.x - w.x) (by grind) (by grind) (by grind) (by grind)
    · grind
    · exact pick (u.x - v.x) (w.x - v.x) (by grind) (by grind) (by grind) (by grind)
  · have : w.y < v.y ∨ (v.y = w.y ∧ v.x < w.x) := by grind
    rcases this with k2 | ⟨k2, k3⟩
    · exact pick (v.y - u.y) (v.y - w.y) (by grind) (by grind) (by grind) (by grind)
    · exfalso
      have : (u.y - v.y) * (w.x - v.x) = 0 := by grind
      have := (mul_signs (u.y - v.y) (w.x - v.x)).2.2.1 (by grind) (by grind)
      grind

/-- The number that a simple polygon has all along its boundary, read at v, between u and w. -/
def lamE (v w : V) (m : List V) (u : V) : Int := wn v (edg w m u) + 1 - al v u w
theorem poly_four (v w u : V) (m : List V) : poly (v :: w :: (m ++ [u])) = (v, w) :: (edg w m u ++ [(u, v)]) := by rw [poly_two, edg_append]; rfl
theorem nd_four {v w u : V} {m : List V} (h : (v :: w :: (m ++ [u])).Nodup) : v ≠ w ∧ v ≠ u ∧ w ≠ u ∧ v ∉ m ∧ w ∉ m ∧ u ∉ m ∧ m.Nodup := by
  simp only [List.nodup_cons, List.mem_cons, List.mem_append, List.not_mem_nil, or_false, not_or, List.nodup_append] at h
  obtain ⟨⟨h1, h2, h3⟩, ⟨h4, h5⟩, h6, h7, h8⟩ := h
  exact ⟨h1, h3, h5, h2, h4, fun hu => h8 u hu u rfl rfl, h6⟩
theorem nf_of_simple {v w u : V} {m : List V} (h : Simple (v :: w :: (m ++ [u]))) : NF u v w := by
  obtain ⟨h1, h2, h3⟩ := h
  obtain ⟨n1, n2, n3, _⟩ := nd_four h2
  refine ⟨fun e => n2 e.symm, fun e => n1 e.symm, fun hc hu => ?_⟩
  have hne : ((u, v) : V × V) ≠ (v, w) := fun e => n2 (Prod.mk.inj e).1.symm
  rw [poly_four] at h3
  have k := h3 (u, v) (by simp) (v, w) (by simp) hne
  rcases folded_on (fun e => n2 e.symm) (fun e => n1 e.symm) hc hu with hh | hh
  · rcases k w hh (On.right _ _) with ⟨e, _⟩ | ⟨e, _⟩
    · exact n1 e.symm
    · exact n3 e
  · rcases k u (On.left _ _) hh with ⟨e, _⟩ | ⟨_, e⟩
    · exact n2 e.symm
    · exact n3 e.symm
theorem lam_rot {v w u x : V} {m m' : List V} (h : Simple (v :: w :: (m ++ [u]))) (hm : m ++ [u] = x :: m') : lamE v w m u = lamE w x m' v := by
  have a1 := corner_a (nf_of_simple h)
  have h' := h.rot
  have e1 : w :: (m ++ [u]) ++ [v] = w :: x :: (m' ++ [v]) := by rw [List.cons_append, hm]; rfl
  rw [show w :: (m ++ [u] ++ [v]) = w :: x :: (m' ++ [v]) from e1] at h'
  have a2 := corner_b (nf_of_simple h')
  unfold lamE
  cases m with
  | nil =>
    simp at hm
    obtain ⟨rfl, rfl⟩ := hm
    simp only [edg, wn]
    omega
  | cons y m'' =>
    simp at hm
    obtain ⟨rfl, rfl⟩ := hm
    obtain ⟨n1, n2, n3, n4, n5, n6, _⟩ := nd_four h.2.1
    have hdis : ∀ e ∈ edg y m'' u, Dis e.1 e.2 v w := by
      rintro ⟨e1, e2⟩ he
      have hmem := edg_mem he
      simp only [] at hmem
      apply dis_of
      intro p hp hq
      have hne : ((e1, e2) : V × V) ≠ (v, w) := by
        intro k
        cases k
        exact n4 hmem.1
      have := h.2.2 (e1, e2) (by rw [poly_four, edg]; simp [he]) (v, w) (by rw [poly_four]; simp) hne p hp hq
      simp only [] at this
      rcases this with ⟨k1, k2⟩ | ⟨k1, k2⟩
      · have hv : e2 = v := by rw [← k1, k2]
        rw [hv] at hmem
        rcases List.mem_append.1 hmem.2 with k | k
        · exact n4 (List.mem_cons_of_mem _ k)
        · exact n2 (List.mem_singleton.1 k)
      · have hv : e1 = w := by rw [← k1, k2]
        rw [hv] at hmem
        exact n5 hmem.1
    have hf := wn_flow hdis
    rw [edg_append]
    simp only [edg, wn, wn_append]
    omega
def IsTop (v : V) (l : List V) : Prop := ∀ p ∈ l, p ≠ v → upI v p = 0
theorem up0_y {v p : V} (h : upI v p = 0) : p.y ≤ v.y := by unfold upI at h; grind
theorem wn_low {q a b : V} {l : List V} (ha : a.y ≤ q.y) (hb : b.y ≤ q.y) (h : ∀ p ∈ l, p.y ≤ q.y) : wn q (edg a l b) = 0 := by
  induction l generalizing a with
  | nil => simp only [edg, wn, cs]; grind
  | cons x l ih =>
    have hx := h x (by simp)
    have := ih hx (fun p hp => h p (by simp [hp]))
    simp only [edg, wn, cs]
    grind
theorem lam_top {v w u : V} {m : List V} (h : Simple (v :: w :: (m ++ [u]))) (ht : IsTop v (v :: w :: (m ++ [u]))) : (lamE v w m u = 1 ∧ 0 < cr u v w) ∨ (lamE v w m u = 0 ∧ cr u v w < 0) := by
  obtain ⟨n1, n2, n3, n4, n5, n6, _⟩ := nd_four h.2.1
  have hw := ht w (by simp) (fun e => n1 e.symm)
  have hu := ht u (by simp) (fun e => n2 e.symm)
  have hz : wn v (edg w m u) = 0 := wn_low (up0_y hw) (up0_y hu) (fun p hp => up0_y (ht p (by simp [hp]) (fun e => n4 (e ▸ hp))))
  have hnf := (nf_of_simple h).2.2
  unfold lamE al
  rw [hz, hw, hu]
  have e : cr v u w = - cr u v w := cr_swap u v w
  rw [e]
  rw [hw, hu] at hnf
  grind
def lam : List V → Int
  | v :: w :: x :: r => lamE v w ((x :: r).dropLast) ((x :: r).getLast (by simp))
  | _ => 0
theorem lam_eq (v w u : V) (m : List V) : lam (v :: w :: (m ++ [u])) = lamE v w m u := by
  cases m with
  | nil => rfl
  | cons y m =>
    have h1 : (y :: (m ++ [u])).dropLast = y :: m := by rw [← List.cons_append, List.dropLast_concat]
    have h2 : (y :: (m ++ [u])).getLast (by simp) = u := by rw [List.getLast_cons (by simp)]; simp
    show lamE v w (y :: (m ++ [u])).dropLast ((y :: (m ++ [u])).getLast (by simp)) = _
    rw [h1, h2]
def IsRot (l l' : List V) : Prop := ∃ A B, l = A ++ B ∧ l' = B ++ A
theorem form_of {l : List V} (h : 3 ≤ l.length) : ∃ v w m u, l = v :: w :: (m ++ [u]) := by
  match l, h with
  | v :: w :: x :: r, _ => exact ⟨v, w, (x :: r).dropLast, (x :: r).getLast (by simp), by rw [List.dropLast_concat_getLast]⟩
theorem rot_one {v : V} {r : List V} (h : Simple (v :: r)) : Simple (r ++ [v]) ∧ lam (r ++ [v]) = lam (v :: r) ∧ ∀ e, (e ∈ poly (r ++ [v]) ↔ e ∈ poly (v :: r)) := by
  obtain ⟨v', w, m, u, e⟩ := form_of h.1
  cases e
  refine ⟨h.rot, ?_, fun e => mem_rot⟩
  obtain ⟨x, m', hm⟩ : ∃ x m', m ++ [u] = x :: m' := by
    cases m with
    | nil => exact ⟨u, [], rfl⟩
    | cons y m => exact ⟨y, m ++ [u], rfl⟩
  rw [lam_eq, lam_rot h hm, List.cons_append, hm, List.cons_append, lam_eq]
theorem rot_all {A B : List V} (h : Simple (A ++ B)) : Simple (B ++ A) ∧ lam (B ++ A) = lam (A ++ B) ∧ ∀ e, (e ∈ poly (B ++ A) ↔ e ∈ poly (A ++ B)) := by
  induction A generalizing B with
  | nil => rw [List.nil_append] at h; rw [List.append_nil, List.nil_append]; exact ⟨h, rfl, fun e => Iff.rfl⟩
  | cons a A ih =>
    rw [List.cons_append] at h
    obtain ⟨h1, h2, h3⟩ := rot_one h
    rw [List.append_assoc] at h1 h2 h3
    obtain ⟨h4, h5, h6⟩ := ih h1
    rw [List.append_assoc] at h4 h5 h6
    exact ⟨h4, h5.trans h2, fun e => (h6 e).trans (h3 e)⟩
theorem IsRot.simple {l l' : List V} (h : IsRot l l') (hs : Simple l) : Simple l' ∧ lam l' = lam l ∧ ∀ e, (e ∈ poly l' ↔ e ∈ poly l) := by
  obtain ⟨A, B, rfl, rfl⟩ := h
  exact rot_all hs
theorem IsRot.symm {l l' : List V} (h : IsRot l l') : IsRot l' l := by
  obtain ⟨A, B, h1, h2⟩ := h
  exact ⟨B, A, h2, h1⟩
theorem IsRot.mem {l l' : List V} (h : IsRot l l') (p : V) : p ∈ l' ↔ p ∈ l := by
  obtain ⟨A, B, rfl, rfl⟩ := h
  simp [Or.comm]
theorem IsRot.len {l l' : List V} (h : IsRot l l') : l'.length = l.length := by
  obtain ⟨A, B, rfl, rfl⟩ := h
  simp; omega
theorem IsRot.to {l : List V} {v : V} (h : v ∈ l) : ∃ r, IsRot l (v :: r) := by
  obtain ⟨A, B, rfl⟩ := List.append_of_mem h
  exact ⟨B ++ A, A, v :: B, rfl, rfl⟩
theorem top_exists {l : List V} (h : l ≠ []) : ∃ v ∈ l, IsTop v l := by
  induction l with
  | nil => exact absurd rfl h
  | cons a l ih =>
    by_cases hl : l = []
    · subst hl
      exact ⟨a, by simp, fun p hp hne => absurd (List.mem_singleton.1 hp) hne⟩
    · obtain ⟨v, hv, ht⟩ := ih hl
      rcases upI_01 a v with k | k
      · refine ⟨a, by simp, fun p hp hne => ?_⟩
        rcases List.mem_cons.1 hp with rfl | hp
        · exact absurd rfl hne
        · by_cases hpv : p = v
          · rw [hpv]; exact k
          · have := ht p hp hpv
            unfold upI at *
            grind
      · refine ⟨v, by simp [hv], fun p hp hne => ?_⟩
        rcases List.mem_cons.1 hp with rfl | hp
        · unfold upI at *
          grind
        · exact ht p hp hne

theorem lin_nonneg {s x y : Rat} (h0 : 0 ≤ s) (h1 : s ≤ 1) (hx : 0 ≤ x) (hy : 0 ≤ y) : 0 ≤ (1 - s) * x + s * y := by
  have a := Rat.mul_nonneg (show 0 ≤ 1 - s by grind) hx
  have b := Rat.mul_nonneg h0 hy
  grind
theorem wn_high {q a b : V} {l : List V} (ha : q.y < a.y) (hb : q.y < b.y) (h : ∀ p ∈ l, q.y < p.y) : wn q (edg a l b) = 0 := by
  induction l generalizing a with
  | nil => simp only [edg, wn, cs]; grind
  | cons x l ih =>
    have hx := h x (by simp)
    have := ih hx (fun p hp => h p (by simp [hp]))
    simp only [edg, wn, cs]
    grind
theorem y_bound (l : List V) : ∃ M : Rat, ∀ p ∈ l, p.y ≤ M := by
  induction l with
  | nil => exact ⟨0, fun p hp => by cases hp⟩
  | cons a l ih =>
    obtain ⟨M, hM⟩ := ih
    rcases le_tot a.y M with k | k
    · exact ⟨M, fun p hp => by rcases List.mem_cons.1 hp with rfl | hp; exact k; exact hM p hp⟩
    · exact ⟨a.y, fun p hp => by
        rcases List.mem_cons.1 hp with rfl | hp
        · exact Rat.le_refl
        · exact Rat.le_trans (hM p hp) k⟩
theorem closed_flow {p q v : V} {l : List V} (h : ∀ e ∈ edg v l v, Dis e.1 e.2 p q) : wn p (edg v l v) = wn q (edg v l v) := by
  have := wn_flow h
  omega
/-- A point on the other side of a line has nothing to do with a polygon. -/
theorem half_plane {a b x v : V} {l : List V} (h : ∀ p ∈ v :: l, 0 ≤ cr a b p) (hx : cr a b x < 0) : wn x (edg v l v) = 0 := by
  by_cases hy : b.y = a.y
  · have hc : ∀ p : V, cr a b p = (b.x - a.x) * (p.y - a.y) := by intro p; unfold cr; rw [hy]; grind
    have hx' := hc x
    have hxs := mul_signs (b.x - a.x) (x.y - a.y)
    rcases tri b.x a.x with k | k | k
    · have hxy : a.y < x.y := by
        by_cases hh : a.y < x.y
        · exact hh
        · rcases tri x.y a.y with k2 | k2 | k2
          · have := hxs.2.2.2 (by grind) (by grind); grind
          · rw [k2] at hx'; grind
          · exact k2
      have hp : ∀ p ∈ v :: l, p.y ≤ x.y := by
        intro p hp
        have h1 := h p hp
        rw [hc p] at h1
        by_cases hh : p.y ≤ x.y
        · exact hh
        · have := (mul_signs (b.x - a.x) (p.y - a.y)).2.2.1 (by grind) (by grind); grind
      exact wn_low (hp v (by simp)) (hp v (by simp)) (fun p hq => hp p (by simp [hq]))
    · rw [k] at hx'; grind
    · have hxy : x.y < a.y := by
        rcases tri x.y a.y with k2 | k2 | k2
        · exact k2
        · rw [k2] at hx'; grind
        · have := hxs.1 (by grind) (by grind); grind
      have hp : ∀ p ∈ v :: l, x.y < p.y := by
        intro p hp
        have h1 := h p hp
        rw [hc p] at h1
        by_cases hh : x.y < p.y
        · exact hh
        · have := (mul_signs (b.x - a.x) (p.y - a.y)).2.1 (by grind) (by grind); grind
      exact wn_high (hp v (by simp)) (hp v (by simp)) (fun p hq => hp p (by simp [hq]))
  · obtain ⟨M, hM⟩ := y_bound (v :: l)
    have hk : b.y - a.y ≠ 0 := by grind
    have ht : ((M - x.y) / (b.y - a.y)) * (b.y - a.y) = M - x.y := by grind
    generalize (M - x.y) / (b.y - a.y) = t at ht
    have hq : cr a b ⟨x.x + t * (b.x - a.x), x.y + t * (b.y - a.y)⟩ = cr a b x := by unfold cr; grind
    have hlow : wn ⟨x.x + t * (b.x - a.x), x.y + t * (b.y - a.y)⟩ (edg v l v) = 0 :=
      wn_low (by have := hM v (by simp); simp only []; grind) (by have := hM v (by simp); simp only []; grind) (fun p hp => by have := hM p (by simp [hp]); simp only []; grind)
    rw [← hlow]
    apply closed_flow
    rintro ⟨e1, e2⟩ he
    apply dis_of
    intro p hp hp2
    have hm := edg_mem he
    simp only [] at hm
    have h1 := h e1 hm.1
    have h2 := h e2 (by
      rcases List.mem_append.1 hm.2 with k | k
      · exact List.mem_cons_of_mem _ k
      · rw [List.mem_singleton.1 k]; simp)
    obtain ⟨s, s0, s1, s2, s3⟩ := hp
    obtain ⟨r, r0, r1, r2, r3⟩ := hp2
    have c1 := On.aff s2 s3 a b
    have c2 := On.aff r2 r3 a b
    have := lin_nonneg s0 s1 h1 h2
    rw [hq] at c2
    grind
theorem tri_out {u v w x : V} (h : 0 < cr u v w) (hx : cr u v x < 0 ∨ cr v w x < 0 ∨ cr w u x < 0) : cs u v x + cs v w x + cs w u x = 0 := by
  have z1 : cr u v u = 0 := by unfold cr; grind
  have z2 : cr u v v = 0 := by unfold cr; grind
  have z3 : cr v w v = 0 := by unfold cr; grind
  have z4 : cr v w w = 0 := by unfold cr; grind
  have z5 : cr w u w = 0 := by unfold cr; grind
  have z6 : cr w u u = 0 := by unfold cr; grind
  have e1 : cr v w u = cr u v w := cr_rot u v w
  have e2 : cr w u v = cr u v w := by rw [cr_rot v w u, e1]
  have : wn x (edg u [v, w] u) = 0 := by
    rcases hx with hx | hx | hx
    · exact half_plane (by intro p hp; simp at hp; rcases hp with rfl | rfl | rfl <;> grind) hx
    · exact half_plane (by intro p hp; simp at hp; rcases hp with rfl | rfl | rfl <;> grind) hx
    · exact half_plane (by intro p hp; simp at hp; rcases hp with rfl | rfl | rfl <;> grind) hx
  simp only [edg, wn] at this
  omega
/-- The closed triangle. -/
def InT (u v w p : V) : Prop := 0 ≤ cr u v p ∧ 0 ≤ cr v w p ∧ 0 ≤ cr w u p
theorem cr_sum (u v w p : V) : cr u v p + cr v w p + cr w u p = cr u v w := by unfold cr; grind
theorem quot {a b : Rat} (ha : 0 < a) (hb : 0 ≤ b) (hba : b ≤ a) : ∃ s, 0 ≤ s ∧ s ≤ 1 ∧ s * a = b := by
  refine ⟨b / a, ?_, ?_, by grind⟩
  · have hx : (b / a) * a = b := by grind
    generalize b / a = s at *
    by_cases hs : 0 ≤ s
    · exact hs
    · have := (mul_signs s a).2.2.1 (by grind) ha; grind
  · have hx : (b / a) * a = b := by grind
    generalize b / a = s at *
    by_cases hs : s ≤ 1
    · exact hs
    · have := (mul_signs (s - 1) a).1 (by grind) ha; grind
theorem on_side {u v w r : V} (h : 0 < cr u v w) (h1 : cr u v r = 0) (h2 : 0 ≤ cr v w r) (h3 : 0 ≤ cr w u r) : On (u, v) r := by
  have hs := cr_sum u v w r
  obtain ⟨s, s0, s1, s2⟩ := quot h h3 (by grind)
  have ex : cr u v w * (r.x - u.x) = cr w u r * (v.x - u.x) + cr u v r * (w.x - u.x) := by unfold cr; grind
  have ey : cr u v w * (r.y - u.y) = cr w u r * (v.y - u.y) + cr u v r * (w.y - u.y) := by unfold cr; grind
  rw [h1, ← s2] at ex ey
  generalize cr u v w = D at *
  refine ⟨s, s0, s1, ?_, ?_⟩
  · simp only []
    have : D * (r.x - u.x - s * (v.x - u.x)) = 0 := by grind
    grind
  · simp only []
    have : D * (r.y - u.y - s * (v.y - u.y)) = 0 := by grind
    grind
theorem on_side2 {u v w r : V} (h : 0 < cr u v w) (h1 : 0 ≤ cr u v r) (h2 : cr v w r = 0) (h3 : 0 ≤ cr w u r) : On (v, w) r :=
  on_side (u := v) (v := w) (w := u) (by rw [cr_rot u v w]; exact h) h2 h3 h1
/-- Where the way from a point of the triangle to one outside, but not beyond the third side, leaves the triangle. -/
theorem exit {u v w p b : V} (h : 0 < cr u v w) (hp : InT u v w p) (hb3 : 0 ≤ cr w u b) (hb : ¬ InT u v w b) :
    ∃ r, On (p, b) r ∧ (On (u, v) r ∨ On (v, w) r) ∧ (cr w u p ≤ cr w u r ∨ cr w u b ≤ cr w u r) := by
  obtain ⟨p1, p2, p3⟩ := hp
  have mk : ∀ s : Rat, 0 ≤ s → s ≤ 1 → ∃ r : V, On (p, b) r ∧ cr u v r = (1 - s) * cr u v p + s * cr u v b ∧ cr v w r = (1 - s) * cr v w p + s * cr v w b ∧ cr w u r = (1 - s) * cr w u p + s * cr w u b := by
    intro s h0 h1
    refine ⟨⟨p.x + s * (b.x - p.x), p.y + s * (b.y - p.y)⟩, ⟨s, h0, h1, rfl, rfl⟩, On.aff rfl rfl _ _, On.aff rfl rfl _ _, On.aff rfl rfl _ _⟩
  have root : ∀ e f : Rat, 0 ≤ e → f < 0 → ∃ t, 0 ≤ t ∧ t ≤ 1 ∧ (1 - t) * e + t * f = 0 := by
    intro e f he hf
    obtain ⟨t, t0, t1, t2⟩ := quot (a := e - f) (b := e) (by grind) he (by grind)
    exact ⟨t, t0, t1, by grind⟩
  have third : ∀ s : Rat, 0 ≤ s → s ≤ 1 → ∀ z : Rat, z = (1 - s) * cr w u p + s * cr w u b → 0 ≤ z ∧ (cr w u p ≤ z ∨ cr w u b ≤ z) := by
    intro s h0 h1 z hz
    refine ⟨by rw [hz]; exact lin_nonneg h0 h1 p3 hb3, ?_⟩
    rcases le_tot (cr w u p) (cr w u b) with k | k
    · left
      have := Rat.mul_nonneg h0 (show 0 ≤ cr w u b - cr w u p by grind)
      grind
    · right
      have := Rat.mul_nonneg (show 0 ≤ 1 - s by grind) (show 0 ≤ cr w u p - cr w u b by grind)
      grind
  by_cases b1 : cr u v b < 0
  · obtain ⟨t, t0, t1, t2⟩ := root _ _ p1 b1
    by_cases b2 : cr v w b < 0
    · obtain ⟨t', t0', t1', t2'⟩ := root _ _ p2 b2
      rcases le_tot t t' with k | k
      · obtain ⟨r, hr, e1, e2, e3⟩ := mk t t0 t1
        have h3 := third t t0 t1 _ e3
        have := Rat.mul_nonneg (show 0 ≤ t' - t by grind) (show 0 ≤ cr v w p - cr v w b by grind)
        exact ⟨r, hr, .inl (on_side h (by rw [e1, t2]) (by rw [e2]; grind) h3.1), h3.2⟩
      · obtain ⟨r, hr, e1, e2, e3⟩ := mk t' t0' t1'
        have h3 := third t' t0' t1' _ e3
        have := Rat.mul_nonneg (show 0 ≤ t - t' by grind) (show 0 ≤ cr u v p - cr u v b by grind)
        exact ⟨r, hr, .inr (on_side2 h (by rw [e1]; grind) (by rw [e2, t2']) h3.1), h3.2⟩
    · obtain ⟨r, hr, e1, e2, e3⟩ := mk t t0 t1
      have h3 := third t t0 t1 _ e3
      exact ⟨r, hr, .inl (on_side h (by rw [e1, t2]) (by rw [e2]; exact lin_nonneg t0 t1 p2 (by grind)) h3.1), h3.2⟩
  · have b2 : cr v w b < 0 := by
      by_cases b2 : cr v w b < 0
      · exact b2
      · exact absurd ⟨by grind, by grind, hb3⟩ hb
    obtain ⟨t', t0', t1', t2'⟩ := root _ _ p2 b2
    obtain ⟨r, hr, e1, e2, e3⟩ := mk t' t0' t1'
    have h3 := third t' t0' t1' _ e3
    exact ⟨r, hr, .inr (on_side2 h (by rw [e1]; exact lin_nonneg t0' t1' p1 (by grind)) (by rw [e2, t2']) h3.1), h3.2⟩

theorem cs_left (a b : V) : cs a b a = 0 := by
  have : cr a b a = 0 := by unfold cr; grind
  unfold cs; rw [this]; grind
theorem cs_right (a b : V) : cs a b b = 0 := by
  have : cr a b b = 0 := by unfold cr; grind
  unfold cs; rw [this]; grind
theorem wn_rot1 (q v : V) (r : List V) : wn q (poly (r ++ [v])) = wn q (poly (v :: r)) := by
  cases r with
  | nil => rfl
  | cons w r =>
    rw [List.cons_append, poly_rot, poly_two, wn_append]
    simp only [wn]
    omega
theorem wn_rot (q : V) (A B : List V) : wn q (poly (B ++ A)) = wn q (poly (A ++ B)) := by
  induction A generalizing B with
  | nil => rw [List.append_nil, List.nil_append]
  | cons a A ih =>
    have h1 := ih (B ++ [a])
    rw [List.append_assoc, ← List.append_assoc A B [a], wn_rot1] at h1
    exact h1
theorem IsRot.wn {l l' : List V} (h : IsRot l l') (q : V) : wn q (poly l') = wn q (poly l) := by
  obtain ⟨A, B, rfl, rfl⟩ := h
  exact wn_rot q A B
theorem lam_at (x y z : V) (m : List V) : lam (x :: y :: (m ++ [z])) = wn x (poly (x :: y :: (m ++ [z]))) + 1 - al x z y := by
  rw [lam_eq, poly_four, lamE]
  simp only [wn, wn_append, cs_left, cs_right]
  omega
theorem between_eq {a u p : V} (h1 : On (a, u) p) (h2 : On (p, a) u) (hne : a ≠ u) : p = u := by
  obtain ⟨t, t0, t1, t2, t3⟩ := h1
  obtain ⟨s, s0, s1, s2, s3⟩ := h2
  simp only [] at t2 t3 s2 s3
  rw [V.ne] at hne
  have hx : (u.x - a.x) * (1 - t * (1 - s)) = 0 := by grind
  have hy : (u.y - a.y) * (1 - t * (1 - s)) = 0 := by grind
  have ht : t * (1 - s) = 1 := by
    rcases hne with k | k <;> grind
  have h1 := Rat.mul_nonneg t0 s0
  have : t = 1 := by grind
  apply V.ext
  · rw [t2, this]; grind
  · rw [t3, this]; grind
theorem On.swap {a b p : V} (h : On (a, b) p) : On (b, a) p := by
  obtain ⟨t, t0, t1, t2, t3⟩ := h
  exact ⟨1 - t, by grind, by grind, by simp only [] at *; grind, by simp only [] at *; grind⟩
theorem On.part {a b p r : V} (h : On (a, b) p) (h2 : On (p, b) r) : On (a, b) r := by
  obtain ⟨t, t0, t1, t2, t3⟩ := h
  obtain ⟨s, s0, s1, s2, s3⟩ := h2
  simp only [] at t2 t3 s2 s3
  have k := Rat.mul_nonneg (show 0 ≤ 1 - t by grind) (show 0 ≤ 1 - s by grind)
  have k2 := Rat.mul_nonneg s0 (show 0 ≤ 1 - t by grind)
  refine ⟨t + s * (1 - t), by grind, by grind, ?_, ?_⟩
  · simp only []; rw [s2, t2]; grind
  · simp only []; rw [s3, t3]; grind
/-- What an edge that is none of the two at v may have in common with them. -/
theorem old_edges {v w u : V} {m : List V} (h : Simple (v :: w :: (m ++ [u]))) {a b : V} (hf : (a, b) ∈ edg w m u) :
    (∀ r, On (a, b) r → On (u, v) r → r = u ∧ b = u) ∧ (∀ r, On (a, b) r → On (v, w) r → r = w ∧ a = w) := by
  obtain ⟨n1, n2, n3, n4, n5, n6, _⟩ := nd_four h.2.1
  have hm := edg_mem hf
  simp only [] at hm
  have hav : a ≠ v := by
    rintro rfl
    rcases List.mem_cons.1 hm.1 with k | k
    · exact n1 k
    · exact n4 k
  have hbv : b ≠ v := by
    rintro rfl
    rcases List.mem_append.1 hm.2 with k | k
    · exact n4 k
    · exact n2 (List.mem_singleton.1 k)
  refine ⟨fun r h1 h2 => ?_, fun r h1 h2 => ?_⟩
  · have := h.2.2 (a, b) (by rw [poly_four]; simp [hf]) (u, v) (by rw [poly_four]; simp) (fun e => hbv (Prod.mk.inj e).2) r h1 h2
    simp only [] at this
    rcases this with ⟨k1, k2⟩ | ⟨k1, k2⟩
    · exact ⟨k2, by rw [← k1, k2]⟩
    · exact absurd (by rw [← k1, k2]) hav
  · have := h.2.2 (a, b) (by rw [poly_four]; simp [hf]) (v, w) (by rw [poly_four]; simp) (fun e => hav (Prod.mk.inj e).1) r h1 h2
    simp only [] at this
    rcases this with ⟨k1, k2⟩ | ⟨k1, k2⟩
    · exact absurd (by rw [← k1, k2]) hbv
    · exact ⟨k2, by rw [← k1, k2]⟩
/-- From a polygon without one vertex: its edges are old ones and the new one, which has to be looked at. -/
theorem simple_cut_of {v w u : V} {m : List V} (h : Simple (v :: w :: (m ++ [u]))) (hm : m ≠ [])
    (key : ∀ a b, (a, b) ∈ edg w m u → ∀ p, On (a, b) p → On (u, w) p → (p = b ∧ p = u) ∨ (p = a ∧ p = w)) : Simple (w :: (m ++ [u])) := by
  have hpl : poly (w :: (m ++ [u])) = edg w m u ++ [(u, w)] := by rw [poly, edg_append]; rfl
  refine ⟨?_, (List.nodup_cons.1 h.2.1).2, ?_⟩
  · cases m with
    | nil => exact absurd rfl hm
    | cons y m => simp
  · rw [hpl]
    rintro ⟨a, b⟩ he ⟨c, d⟩ hf hne p hp hq
    rcases List.mem_append.1 he with he | he
    · rcases List.mem_append.1 hf with hf | hf
      · exact h.2.2 (a, b) (by rw [poly_four]; simp [he]) (c, d) (by rw [poly_four]; simp [hf]) hne p hp hq
      · cases List.mem_singleton.1 hf
        exact key a b he p hp hq
    · cases List.mem_singleton.1 he
      rcases List.mem_append.1 hf with hf | hf
      · rcases key c d hf p hq hp with ⟨k1, k2⟩ | ⟨k1, k2⟩
        · exact .inr ⟨k2, k1⟩
        · exact .inl ⟨k2, k1⟩
      · cases List.mem_singleton.1 hf
        exact absurd rfl hne
theorem no_back {w u : V} {m : List V} (hm : m ≠ []) (hw : w ∉ m) (hu : u ∉ m) : (w, u) ∉ edg w m u := by
  cases m with
  | nil => exact absurd rfl hm
  | cons y m =>
    rw [edg]
    intro h
    rcases List.mem_cons.1 h with h | h
    · exact hu (by rw [(Prod.mk.inj h).2]; simp)
    · exact hw (edg_mem h).1
theorem cut_simple {v w u : V} {m : List V} (h : Simple (v :: w :: (m ++ [u]))) (hm : m ≠ []) (hD : 0 < cr u v w) (hfree : ∀ q ∈ m, ¬ InT u v w q) : Simple (w :: (m ++ [u])) := by
  refine simple_cut_of h hm ?_
  intro a b hf p hp hq
  obtain ⟨n1, n2, n3, n4, n5, n6, _⟩ := nd_four h.2.1
  obtain ⟨o1, o2⟩ := old_edges h hf
  have hmem := edg_mem hf
  simp only [] at hmem
  have hpT : InT u v w p := by
    obtain ⟨s, s0, s1, s2, s3⟩ := hq
    simp only [] at s2 s3
    have z1 : cr u v u = 0 := by unfold cr; grind
    have z2 : cr v w w = 0 := by unfold cr; grind
    have z3 : cr w u w = 0 := by unfold cr; grind
    have z4 : cr w u u = 0 := by unfold cr; grind
    have e1 : cr v w u = cr u v w := cr_rot u v w
    refine ⟨?_, ?_, ?_⟩
    · rw [On.aff s2 s3 u v]; exact lin_nonneg s0 s1 (by grind) (by grind)
    · rw [On.aff s2 s3 v w]; exact lin_nonneg s0 s1 (by grind) (by grind)
    · rw [On.aff s2 s3 w u]; exact lin_nonneg s0 s1 (by grind) (by grind)
  have hp0 : cr w u p = 0 := by have := hq.swap.cr0; exact this
  have toB : ¬ InT u v w b → 0 ≤ cr w u b → (p = b ∧ p = u) ∨ (p = a ∧ p = w) := by
    intro hb h3
    obtain ⟨r, hr, hr2, _⟩ := exit hD hpT h3 hb
    have hrf := hp.part hr
    rcases hr2 with k | k
    · obtain ⟨k1, k2⟩ := o1 r hrf k
      exact absurd ⟨by rw [k2]; unfold cr; grind, by rw [k2, cr_rot u v w]; grind, by rw [k2]; unfold cr; grind⟩ hb
    · obtain ⟨k1, k2⟩ := o2 r hrf k
      right
      subst k2
      have hne : b ≠ a := by
        rintro rfl
        exact hb ⟨by grind, by unfold cr; grind, by unfold cr; grind⟩
      rw [k1] at hr
      have := between_eq hp.swap hr hne
      exact ⟨this, this⟩
  have toA : ¬ InT u v w a → 0 ≤ cr w u a → (p = b ∧ p = u) ∨ (p = a ∧ p = w) := by
    intro ha h3
    obtain ⟨r, hr, hr2, _⟩ := exit hD hpT h3 ha
    have hrf := (hp.swap.part hr).swap
    rcases hr2 with k | k
    · obtain ⟨k1, k2⟩ := o1 r hrf k
      left
      subst k2
      have hne : a ≠ b := by
        rintro rfl
        exact ha ⟨by unfold cr; grind, by rw [cr_rot a v w]; grind, by unfold cr; grind⟩
      rw [k1] at hr
      have := between_eq hp hr hne
      exact ⟨this, this⟩
    · obtain ⟨k1, k2⟩ := o2 r hrf k
      exact absurd ⟨by rw [k2]; grind, by rw [k2]; unfold cr; grind, by rw [k2]; unfold cr; grind⟩ ha
  obtain ⟨t, t0, t1, t2, t3⟩ := hp
  have haff := On.aff t2 t3 w u
  simp only [] at haff t2 t3
  rw [hp0] at haff
  rcases List.mem_append.1 hmem.2 with hb | hb
  · have hbT := hfree b hb
    by_cases h3 : 0 ≤ cr w u b
    · exact toB hbT h3
    · rcases List.mem_cons.1 hmem.1 with ha | ha
      · -- a = w
        right
        have z : cr w u a = 0 := by rw [ha]; unfold cr; grind
        have ht : t = 0 := by
          rw [z] at haff
          have : t * cr w u b = 0 := by grind
          grind
        have : p = a := V.ext (by rw [t2, ht]; grind) (by rw [t3, ht]; grind)
        exact ⟨this, by rw [this, ha]⟩
      · by_cases h4 : 0 ≤ cr w u a
        · exact toA (hfree a ha) h4
        · exfalso
          have k1 := Rat.mul_nonneg t0 (show 0 ≤ - cr w u b by grind)
          have k2 := Rat.mul_nonneg (show 0 ≤ 1 - t by grind) (show 0 ≤ - cr w u a by grind)
          by_cases ht : t = 0
          · rw [ht] at haff; grind
          · have := Rat.mul_pos (show 0 < t by grind) (show 0 < - cr w u b by grind)
            grind
  · have hb := List.mem_singleton.1 hb
    rcases List.mem_cons.1 hmem.1 with ha | ha
    · exact absurd (by rw [ha, hb] at hf; exact hf) (no_back hm n5 n6)
    · by_cases h4 : 0 ≤ cr w u a
      · exact toA (hfree a ha) h4
      · left
        have z : cr w u b = 0 := by rw [hb]; unfold cr; grind
        have ht : t = 1 := by
          rw [z] at haff
          have : (1 - t) * cr w u a = 0 := by grind
          grind
        have : p = b := V.ext (by rw [t2, ht]; grind) (by rw [t3, ht]; grind)
        exact ⟨this, by rw [this, hb]⟩
/-- A vertex on the way between its neighbours. -/
def Flat (u v w : V) : Prop := ∃ s : Rat, 0 < s ∧ s < 1 ∧ v.x = u.x + s * (w.x - u.x) ∧ v.y = u.y + s * (w.y - u.y)
theorem flat_simple {v w u : V} {m : List V} (h : Simple (v :: w :: (m ++ [u]))) (hm : m ≠ []) (hF : Flat u v w) : Simple (w :: (m ++ [u])) := by
  refine simple_cut_of h hm ?_
  intro a b hf p hp hq
  obtain ⟨o1, o2⟩ := old_edges h hf
  obtain ⟨s, s0, s1, s2, s3⟩ := hF
  obtain ⟨t, t0, t1, t2, t3⟩ := hq
  simp only [] at t2 t3
  rcases le_tot t s with k | k
  · obtain ⟨r, r0, r1, r2⟩ := quot s0 t0 k
    have : On (u, v) p := ⟨r, r0, r1, by simp only []; rw [t2, s2, ← r2]; grind, by simp only []; rw [t3, s3, ← r2]; grind⟩
    obtain ⟨k1, k2⟩ := o1 p hp this
    exact .inl ⟨by rw [k1, k2], k1⟩
  · obtain ⟨r, r0, r1, r2⟩ := quot (a := 1 - s) (b := t - s) (by grind) (by grind) (by grind)
    have e : t = s + r * (1 - s) := by grind
    have : On (v, w) p := ⟨r, r0, r1, by simp only []; rw [t2, s2, e]; grind, by simp only []; rw [t3, s3, e]; grind⟩
    obtain ⟨k1, k2⟩ := o2 p hp this
    exact .inr ⟨by rw [k1, k2], k1⟩
theorem flat_cs {u v w : V} (h : Flat u v w) (x : V) : cs u v x + cs v w x + cs w u x = 0 := by
  obtain ⟨s, s0, s1, s2, s3⟩ := h
  have e1 : cr u v x = s * cr u w x := by unfold cr; rw [s2, s3]; grind
  have e2 : cr v w x = (1 - s) * cr u w x := by unfold cr; rw [s2, s3]; grind
  have e3 : cr w u x = - cr u w x := cr_swap u w x
  unfold cs
  rw [e1, e2, e3]
  generalize cr u w x = D
  have g1 := mul_signs s D
  have g2 := mul_signs (1 - s) D
  have hv : (u.y ≤ w.y → u.y ≤ v.y ∧ v.y ≤ w.y) ∧ (w.y ≤ u.y → w.y ≤ v.y ∧ v.y ≤ u.y) := by
    constructor
    · intro k
      have a := Rat.mul_nonneg (Rat.le_of_lt s0) (show 0 ≤ w.y - u.y by grind)
      have b := Rat.mul_nonneg (show 0 ≤ 1 - s by grind) (show 0 ≤ w.y - u.y by grind)
      grind
    · intro k
      have a := Rat.mul_nonneg (Rat.le_of_lt s0) (show 0 ≤ u.y - w.y by grind)
      have b := Rat.mul_nonneg (show 0 ≤ 1 - s by grind) (show 0 ≤ u.y - w.y by grind)
      grind
  have i1 : 0 < s * D ↔ 0 < D := by
    rcases tri D 0 with k | k | k
    · grind
    · rw [k, Rat.mul_zero]
    · grind
  have i2 : 0 < (1 - s) * D ↔ 0 < D := by
    rcases tri D 0 with k | k | k
    · grind
    · rw [k, Rat.mul_zero]
    · grind
  have i3 : s * D < 0 ↔ D < 0 := by
    rcases tri D 0 with k | k | k
    · grind
    · rw [k, Rat.mul_zero]
    · grind
  have i4 : (1 - s) * D < 0 ↔ D < 0 := by
    rcases tri D 0 with k | k | k
    · grind
    · rw [k, Rat.mul_zero]
    · grind
  clear g1 g2 e1 e2 e3 s2 s3
  generalize s * D = P1 at *
  generalize (1 - s) * D = P2 at *
  rcases le_tot u.y w.y with k | k
  · have := hv.1 k
    rcases tri D 0 with k2 | k2 | k2 <;> grind
  · have := hv.2 k
    rcases tri D 0 with k2 | k2 | k2 <;> grind
/-- The number stays if a vertex is cut off whose triangle has nothing to do with another vertex. -/
theorem lam_cut {v w u : V} {m : List V} (h : Simple (v :: w :: (m ++ [u]))) (h' : Simple (w :: (m ++ [u]))) {x : V} (hx : x ∈ m) (hc : cs u v x + cs v w x + cs w u x = 0) : lam (w :: (m ++ [u])) = lam (v :: w :: (m ++ [u])) := by
  obtain ⟨A, B, rfl⟩ := List.append_of_mem hx
  obtain ⟨y, R, hR⟩ : ∃ y R, B ++ [u] = y :: R := by
    cases B with
    | nil => exact ⟨u, [], rfl⟩
    | cons y B => exact ⟨y, B ++ [u], rfl⟩
  obtain ⟨S, z, hS⟩ : ∃ S z, w :: A = S ++ [z] := ⟨(w :: A).dropLast, (w :: A).getLast (by simp), by rw [List.dropLast_concat_getLast]⟩
  have r1 : IsRot (v :: w :: (A ++ x :: B ++ [u])) (x :: y :: ((R ++ v :: S) ++ [z])) := by
    refine ⟨v :: w :: A, x :: (B ++ [u]), by simp, ?_⟩
    rw [hR, hS]; simp
  have r2 : IsRot (w :: (A ++ x :: B ++ [u])) (x :: y :: ((R ++ S) ++ [z])) := by
    refine ⟨w :: A, x :: (B ++ [u]), by simp, ?_⟩
    rw [hR, hS]; simp
  rw [← (r1.simple h).2.1, ← (r2.simple h').2.1, lam_at, lam_at, r1.wn, r2.wn]
  have e1 : poly (w :: (A ++ x :: B ++ [u])) = edg w (A ++ x :: B) u ++ [(u, w)] := by rw [poly, edg_append]; rfl
  rw [e1, poly_four]
  simp only [wn, wn_append]
  have := cs_swap w u x
  omega

end Go.Proofs.YtdhakoecjmaebaaGreat.Geo
