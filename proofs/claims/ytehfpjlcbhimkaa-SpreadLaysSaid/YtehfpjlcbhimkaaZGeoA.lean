/-
  Plane geometry over the rationals: turns, crossings of a ray, two ways that have no point in common.
-/
namespace Go.Proofs.Ytehfpjlcbhimkaa.Geo
set_option linter.unusedVariables false
set_option linter.unusedSimpArgs false

structure V where
  x : Rat
  y : Rat

def cr (a b c : V) : Rat := (b.x - a.x) * (c.y - a.y) - (b.y - a.y) * (c.x - a.x)
/-- How the way from a to b crosses the ray from q to the right. -/
def cs (a b q : V) : Int := if a.y ≤ q.y ∧ q.y < b.y ∧ 0 < cr a b q then 1 else if b.y ≤ q.y ∧ q.y < a.y ∧ cr a b q < 0 then -1 else 0
def gg (p q r : V) : Int := if p.y < r.y ∧ r.y ≤ q.y ∧ cr p q r < 0 then 1 else if q.y < r.y ∧ r.y ≤ p.y ∧ cr q p r < 0 then -1 else 0

theorem le_tot (a b : Rat) : a ≤ b ∨ b ≤ a := Rat.le_total
theorem cr_swap (a b c : V) : cr b a c = - cr a b c := by unfold cr; grind
theorem cr_rot (a b c : V) : cr b c a = cr a b c := by unfold cr; grind
theorem cs_swap (a b q : V) : cs b a q = - cs a b q := by
  unfold cs
  rw [cr_swap a b q]
  grind
theorem gg_swap (p q r : V) : gg q p r = - gg p q r := by
  unfold gg
  grind
theorem neg_of {x k y : Rat} (hk : 0 ≤ k) (h : x * k = -y) (hy : 0 < y) : x < 0 := by
  by_cases h3 : 0 ≤ x
  · have := Rat.mul_nonneg h3 hk
    grind
  · grind
theorem pos_of {x k y : Rat} (hk : 0 ≤ k) (h : x * k = y) (hy : 0 < y) : 0 < x := by
  by_cases h3 : x ≤ 0
  · have := Rat.mul_nonneg (show 0 ≤ -x by grind) hk
    grind
  · grind
theorem sum_pos {x y k l : Rat} (hx : 0 < x) (hy : 0 < y) (hk : 0 ≤ k) (hl : 0 ≤ l) (h : 0 < k + l) : 0 < x * k + y * l := by
  have h1 := Rat.mul_nonneg (Rat.le_of_lt hx) hk
  have h2 := Rat.mul_nonneg (Rat.le_of_lt hy) hl
  rcases Rat.le_iff_lt_or_eq.1 hk with h3 | h3
  · have := Rat.mul_pos hx h3; grind
  · have := Rat.mul_pos hy (show 0 < l by grind); grind
/-- The signs that show that two ways have no point in common (or lie on one line). -/
def Dis (a b p q : V) : Prop := (0 < cr a b p ∧ 0 < cr a b q) ∨ (cr a b p < 0 ∧ cr a b q < 0) ∨ (0 < cr p q a ∧ 0 < cr p q b) ∨ (cr p q a < 0 ∧ cr p q b < 0) ∨ (cr a b p = 0 ∧ cr a b q = 0 ∧ cr p q a = 0 ∧ cr p q b = 0)

theorem Dis.symm {a b p q : V} (h : Dis a b p q) : Dis p q a b := by unfold Dis at *; grind
theorem Dis.swap1 {a b p q : V} (h : Dis a b p q) : Dis b a p q := by
  unfold Dis at *
  rw [cr_swap a b p, cr_swap a b q]; grind
theorem Dis.swap2 {a b p q : V} (h : Dis a b p q) : Dis a b q p := h.symm.swap1.symm

theorem flow_up {a b p q : V} (hab : a.y ≤ b.y) (hpq : p.y ≤ q.y) (h : Dis a b p q) : cs a b p - cs a b q = gg p q b - gg p q a := by
  have i1 : cr a b p * (q.y - p.y) = -(cr p q a * (b.y - p.y) + cr p q b * (p.y - a.y)) := by unfold cr; grind
  have i2 : cr a b q * (q.y - p.y) = -(cr p q a * (b.y - q.y) + cr p q b * (q.y - a.y)) := by unfold cr; grind
  have i3 : cr p q a * (b.y - a.y) = -(cr a b p * (q.y - a.y) + cr a b q * (a.y - p.y)) := by unfold cr; grind
  have i4 : cr p q b * (b.y - a.y) = -(cr a b p * (q.y - b.y) + cr a b q * (b.y - p.y)) := by unfold cr; grind
  unfold cs gg
  unfold Dis at h
  generalize cr a b p = A1 at *
  generalize cr a b q = A2 at *
  generalize cr p q a = Ea at *
  generalize cr p q b = Eb at *
  have key1 : a.y ≤ p.y → p.y < b.y → b.y ≤ q.y → (0 < A1 ↔ Eb < 0) := by
    intro h1 h2 h3
    rcases h with ⟨ha, hb⟩ | ⟨ha, hb⟩ | ⟨ha, hb⟩ | ⟨ha, hb⟩ | ⟨ha, hb, hc, hd⟩
    · have := neg_of (by grind) i4 (sum_pos ha hb (by grind) (by grind) (by grind)); grind
    · have := pos_of (x := Eb) (k := b.y - a.y) (by grind) (show _ = (-A1) * (q.y - b.y) + (-A2) * (b.y - p.y) by grind) (sum_pos (by grind) (by grind) (by grind) (by grind) (by grind)); grind
    · have := neg_of (by grind) i1 (sum_pos ha hb (by grind) (by grind) (by grind)); grind
    · have := pos_of (x := A1) (k := q.y - p.y) (by grind) (show _ = (-Ea) * (b.y - p.y) + (-Eb) * (p.y - a.y) by grind) (sum_pos (by grind) (by grind) (by grind) (by grind) (by grind)); grind
    · grind
  have key2 : a.y ≤ p.y → q.y < b.y → (0 < A1 ↔ 0 < A2) := by
    intro h1 h2
    rcases h with ⟨ha, hb⟩ | ⟨ha, hb⟩ | ⟨ha, hb⟩ | ⟨ha, hb⟩ | ⟨ha, hb, hc, hd⟩
    · grind
    · grind
    · have k1 := neg_of (by grind) i1 (sum_pos ha hb (by grind) (by grind) (by grind))
      have k2 := neg_of (by grind) i2 (sum_pos ha hb (by grind) (by grind) (by grind)); grind
    · have k1 := pos_of (x := A1) (k := q.y - p.y) (by grind) (show _ = (-Ea) * (b.y - p.y) + (-Eb) * (p.y - a.y) by grind) (sum_pos (by grind) (by grind) (by grind) (by grind) (by grind))
      have k2 := pos_of (x := A2) (k := q.y - p.y) (by grind) (show _ = (-Ea) * (b.y - q.y) + (-Eb) * (q.y - a.y) by grind) (sum_pos (by grind) (by grind) (by grind) (by grind) (by grind)); grind
    · grind
  have key3 : p.y < a.y → b.y ≤ q.y → (Ea < 0 ↔ Eb < 0) := by
    intro h1 h2
    rcases h with ⟨ha, hb⟩ | ⟨ha, hb⟩ | ⟨ha, hb⟩ | ⟨ha, hb⟩ | ⟨ha, hb, hc, hd⟩
    · have k1 := neg_of (by grind) i3 (sum_pos ha hb (by grind) (by grind) (by grind))
      have k2 := neg_of (by grind) i4 (sum_pos ha hb (by grind) (by grind) (by grind)); grind
    · have k1 := pos_of (x := Ea) (k := b.y - a.y) (by grind) (show _ = (-A1) * (q.y - a.y) + (-A2) * (a.y - p.y) by grind) (sum_pos (by grind) (by grind) (by grind) (by grind) (by grind))
      have k2 := pos_of (x := Eb) (k := b.y - a.y) (by grind) (show _ = (-A1) * (q.y - b.y) + (-A2) * (b.y - p.y) by grind) (sum_pos (by grind) (by grind) (by grind) (by grind) (by grind)); grind
    · grind
    · grind
    · grind
  have key4 : p.y < a.y → a.y ≤ q.y → q.y < b.y → (0 < A2 ↔ Ea < 0) := by
    intro h1 h2 h3
    rcases h with ⟨ha, hb⟩ | ⟨ha, hb⟩ | ⟨ha, hb⟩ | ⟨ha, hb⟩ | ⟨ha, hb, hc, hd⟩
    · have := neg_of (by grind) i3 (sum_pos ha hb (by grind) (by grind) (by grind)); grind
    · have := pos_of (x := Ea) (k := b.y - a.y) (by grind) (show _ = (-A1) * (q.y - a.y) + (-A2) * (a.y - p.y) by grind) (sum_pos (by grind) (by grind) (by grind) (by grind) (by grind)); grind
    · have := neg_of (by grind) i2 (sum_pos ha hb (by grind) (by grind) (by grind)); grind
    · have := pos_of (x := A2) (k := q.y - p.y) (by grind) (show _ = (-Ea) * (b.y - q.y) + (-Eb) * (q.y - a.y) by grind) (sum_pos (by grind) (by grind) (by grind) (by grind) (by grind)); grind
    · grind
  clear i1 i2 i3 i4 h
  rw [if_neg (show ¬ (b.y ≤ p.y ∧ p.y < a.y ∧ A1 < 0) by grind), if_neg (show ¬ (b.y ≤ q.y ∧ q.y < a.y ∧ A2 < 0) by grind),
    if_neg (show ¬ (q.y < b.y ∧ b.y ≤ p.y ∧ cr q p b < 0) by grind), if_neg (show ¬ (q.y < a.y ∧ a.y ≤ p.y ∧ cr q p a < 0) by grind)]
  rcases le_tot a.y p.y with h1 | h1
  · rcases le_tot b.y p.y with h2 | h2
    · grind
    · rcases le_tot b.y q.y with h3 | h3
      · grind
      · grind
  · grind

theorem flow {a b p q : V} (h : Dis a b p q) : cs a b p - cs a b q = gg p q b - gg p q a := by
  rcases le_tot a.y b.y with h1 | h1
  · rcases le_tot p.y q.y with h2 | h2
    · exact flow_up h1 h2 h
    · have := flow_up h1 h2 h.swap2
      rw [gg_swap p q, gg_swap p q] at this
      omega
  · rcases le_tot p.y q.y with h2 | h2
    · have := flow_up h1 h2 h.swap1
      rw [cs_swap a b, cs_swap a b] at this
      omega
    · have := flow_up h1 h2 h.swap1.swap2
      rw [cs_swap a b, cs_swap a b, gg_swap p q, gg_swap p q] at this
      omega

theorem tri (a b : Rat) : a < b ∨ a = b ∨ b < a := by grind
def upI (v p : V) : Int := if v.y < p.y ∨ (v.y = p.y ∧ p.x < v.x) then 1 else 0
/-- In the turn to the left that begins at the ray to the right, u comes before w, both seen from v. -/
def al (v u w : V) : Int := if (upI v u = 1 ∧ upI v w = 0) ∨ (upI v u = upI v w ∧ 0 < cr v u w) then 1 else 0
/-- Two ways that follow each other and have only their common end in common. -/
def NF (u v w : V) : Prop := u ≠ v ∧ w ≠ v ∧ (cr u v w = 0 → upI v u ≠ upI v w)
theorem V.ne {u v : V} : u ≠ v ↔ u.x ≠ v.x ∨ u.y ≠ v.y := by
  cases u; cases v; simp; grind
theorem mul_signs (x y : Rat) : (0 < x → 0 < y → 0 < x * y) ∧ (0 < x → y < 0 → x * y < 0) ∧ (x < 0 → 0 < y → x * y < 0) ∧ (x < 0 → y < 0 → 0 < x * y) := by
  refine ⟨Rat.mul_pos, fun h k => ?_, fun h k => ?_, fun h k => ?_⟩
  · have := Rat.mul_pos h (show 0 < -y by grind); grind
  · have := Rat.mul_pos (show 0 < -x by grind) k; grind
  · have := Rat.mul_pos (show 0 < -x by grind) (show 0 < -y by grind); grind
theorem upI_swap {u v : V} (h : u ≠ v) : upI u v = 1 - upI v u := by
  rw [V.ne] at h
  unfold upI
  grind
theorem corner_a {u v w : V} (h : NF u v w) : cs u v w - gg v w u = 1 - al v u w - upI v w := by
  obtain ⟨h1, h2, h3⟩ := h
  rw [V.ne] at h1 h2
  have e1 : cr v w u = cr u v w := cr_rot u v w
  have e2 : cr w v u = - cr u v w := by unfold cr; grind
  have e3 : cr v u w = - cr u v w := by unfold cr; grind
  have f1 : w.y = v.y → cr u v w = (v.y - u.y) * (v.x - w.x) := by intro h; unfold cr; rw [h]; grind
  have f2 : u.y = v.y → cr u v w = (v.x - u.x) * (w.y - v.y) := by intro h; unfold cr; rw [h]; grind
  have f3 : u.y = w.y → cr u v w = (v.y - u.y) * (u.x - w.x) := by intro h; unfold cr; rw [h]; grind
  have g1 := mul_signs (v.y - u.y) (v.x - w.x)
  have g2 := mul_signs (v.x - u.x) (w.y - v.y)
  have g3 := mul_signs (v.y - u.y) (u.x - w.x)
  unfold cs gg al
  rw [e1, e2, e3]
  generalize cr u v w = D at *
  unfold upI at *
  rcases tri u.y v.y with k1 | k1 | k1 <;> rcases tri w.y v.y with k2 | k2 | k2 <;> rcases tri D 0 with k3 | k3 | k3 <;> grind (splits := 30)
theorem corner_b {u v w : V} (h : NF u v w) : cs v w u - gg u v w = 1 - al v u w - upI u v := by
  have h' := h
  obtain ⟨h1, h2, h3⟩ := h
  rw [upI_swap h1]
  rw [V.ne] at h1 h2
  have e1 : cr v w u = cr u v w := cr_rot u v w
  have e2 : cr v u w = - cr u v w := by unfold cr; grind
  have f1 : w.y = v.y → cr u v w = (v.y - u.y) * (v.x - w.x) := by intro h; unfold cr; rw [h]; grind
  have f2 : u.y = v.y → cr u v w = (v.x - u.x) * (w.y - v.y) := by intro h; unfold cr; rw [h]; grind
  have f3 : u.y = w.y → cr u v w = (v.y - u.y) * (u.x - w.x) := by intro h; unfold cr; rw [h]; grind
  have g1 := mul_signs (v.y - u.y) (v.x - w.x)
  have g2 := mul_signs (v.x - u.x) (w.y - v.y)
  have g3 := mul_signs (v.y - u.y) (u.x - w.x)
  unfold cs gg al
  rw [e1, e2]
  generalize cr u v w = D at *
  unfold upI at *
  rcases tri u.y v.y with k1 | k1 | k1 <;> rcases tri w.y v.y with k2 | k2 | k2 <;> rcases tri D 0 with k3 | k3 | k3 <;> grind (splits := 30)

def On (e : V × V) (p : V) : Prop := ∃ s : Rat, 0 ≤ s ∧ s ≤ 1 ∧ p.x = e.1.x + s * (e.2.x - e.1.x) ∧ p.y = e.1.y + s * (e.2.y - e.1.y)
theorem V.ext {u v : V} (h1 : u.x = v.x) (h2 : u.y = v.y) : u = v := by cases u; cases v; simp_all
theorem On.left (a b : V) : On (a, b) a := ⟨0, by grind, by grind, by grind, by grind⟩
theorem On.right (a b : V) : On (a, b) b := ⟨1, by grind, by grind, by grind, by grind⟩
/-- Two ways without a common point have the signs of such, or lie on one line. -/
theorem dis_of {a b c d : V} (h : ∀ p, On (a, b) p → On (c, d) p → False) : Dis a b c d := by
  by_cases hd : Dis a b c d
  · exact hd
  exfalso
  have e1 : cr a b d - cr a b c = cr c d a - cr c d b := by unfold cr; grind
  have key : ∀ s t : Rat, s * (cr c d a - cr c d b) = cr c d a → t * (cr c d a - cr c d b) = - cr a b c → cr c d a - cr c d b ≠ 0 → 0 ≤ s → s ≤ 1 → 0 ≤ t → t ≤ 1 → False := by
    intro s t h1 h2 h0 s0 s1 t0 t1
    refine h ⟨a.x + s * (b.x - a.x), a.y + s * (b.y - a.y)⟩ ⟨s, s0, s1, rfl, rfl⟩ ⟨t, t0, t1, ?_, ?_⟩
    · have : (cr c d a - cr c d b) * ((a.x + s * (b.x - a.x)) - (c.x + t * (d.x - c.x))) = 0 := by
        have : (cr c d a - cr c d b) * ((a.x + s * (b.x - a.x)) - (c.x + t * (d.x - c.x))) = (cr c d a - cr c d b) * (a.x - c.x) + (s * (cr c d a - cr c d b)) * (b.x - a.x) - (t * (cr c d a - cr c d b)) * (d.x - c.x) := by grind
        rw [this, h1, h2]
        unfold cr
        grind
      simp only []
      grind
    · have : (cr c d a - cr c d b) * ((a.y + s * (b.y - a.y)) - (c.y + t * (d.y - c.y))) = 0 := by
        have : (cr c d a - cr c d b) * ((a.y + s * (b.y - a.y)) - (c.y + t * (d.y - c.y))) = (cr c d a - cr c d b) * (a.y - c.y) + (s * (cr c d a - cr c d b)) * (b.y - a.y) - (t * (cr c d a - cr c d b)) * (d.y - c.y) := by grind
        rw [this, h1, h2]
        unfold cr
        grind
      simp only []
      grind
  unfold Dis at hd
  generalize cr a b c = A at *
  generalize cr a b d = B at *
  generalize cr c d a = E at *
  generalize cr c d b = F at *
  clear h
  by_cases h0 : E - F = 0
  · grind
  · have quo : ∀ (x k : Rat), k ≠ 0 → (0 < k → 0 ≤ x ∧ x ≤ k) → (k < 0 → x ≤ 0 ∧ k ≤ x) → ∃ s, s * k = x ∧ 0 ≤ s ∧ s ≤ 1 := by
      intro x k hk h1 h2
      refine ⟨x / k, by grind, ?_⟩
      have hx : (x / k) * k = x := by grind
      generalize x / k = s at *
      rcases tri k 0 with k1 | k1 | k1
      · obtain ⟨h3, h4⟩ := h2 k1
        refine ⟨?_, ?_⟩
        · by_cases hs : 0 ≤ s
          · exact hs
          · have := (mul_signs s k).2.2.2 (by grind) k1; grind
        · by_cases hs : s ≤ 1
          · exact hs
          · have := (mul_signs (s - 1) k).2.1 (by grind) k1; grind
      · exact absurd k1 hk
      · obtain ⟨h3, h4⟩ := h1 k1
        refine ⟨?_, ?_⟩
        · by_cases hs : 0 ≤ s
          · exact hs
          · have := (mul_signs s k).2.2.1 (by grind) k1; grind
        · by_cases hs : s ≤ 1
          · exact hs
          · have := (mul_signs (s - 1) k).1 (by grind) k1; grind
    have n1 : ¬ (0 < E ∧ 0 < F) := fun k => hd (.inr (.inr (.inl k)))
    have n2 : ¬ (E < 0 ∧ F < 0) := fun k => hd (.inr (.inr (.inr (.inl k))))
    have n3 : ¬ (0 < A ∧ 0 < B) := fun k => hd (.inl k)
    have n4 : ¬ (A < 0 ∧ B < 0) := fun k => hd (.inr (.inl k))
    have key' := key
    clear hd key
    have o1 : 0 < E - F → 0 ≤ E ∧ E ≤ E - F := by clear quo key'; grind
    have o2 : E - F < 0 → E ≤ 0 ∧ E - F ≤ E := by clear quo key'; grind
    have o3 : 0 < E - F → 0 ≤ -A ∧ -A ≤ E - F := by clear quo key' o1 o2 n1 n2; intro k; grind
    have o4 : E - F < 0 → -A ≤ 0 ∧ E - F ≤ -A := by clear quo key' o1 o2 n1 n2; intro k; grind
    obtain ⟨s, s1, s2, s3⟩ := quo E (E - F) h0 o1 o2
    obtain ⟨t, t1, t2, t3⟩ := quo (-A) (E - F) h0 o3 o4
    exact key' s t s1 t1 h0 s2 s3 t2 t3

def edg : V → List V → V → List (V × V)
  | a, [], b => [(a, b)]
  | a, x :: l, b => (a, x) :: edg x l b
def wn (q : V) : List (V × V) → Int
  | [] => 0
  | e :: l => cs e.1 e.2 q + wn q l
theorem wn_append (q : V) (l m : List (V × V)) : wn q (l ++ m) = wn q l + wn q m := by
  induction l with
  | nil => simp [wn]
  | cons e l ih => simp only [List.cons_append, wn, ih]; omega
theorem edg_append (a x b : V) (l m : List V) : edg a (l ++ x :: m) b = edg a l x ++ edg x m b := by
  induction l generalizing a with
  | nil => rfl
  | cons y l ih => simp only [List.cons_append, edg, ih]
theorem edg_mem {a b : V} {l : List V} {e : V × V} (h : e ∈ edg a l b) : e.1 ∈ a :: l ∧ e.2 ∈ l ++ [b] := by
  induction l generalizing a with
  | nil => simp [edg] at h; subst h; simp
  | cons y l ih =>
    rw [edg] at h
    rcases List.mem_cons.1 h with rfl | h
    · simp
    · have := ih h
      exact ⟨List.mem_cons_of_mem _ this.1, by simp only [List.cons_append]; exact List.mem_cons_of_mem _ this.2⟩
theorem wn_flow {p q a b : V} {l : List V} (h : ∀ e ∈ edg a l b, Dis e.1 e.2 p q) : wn p (edg a l b) - wn q (edg a l b) = gg p q b - gg p q a := by
  induction l generalizing a with
  | nil =>
    have := flow (h (a, b) (by simp [edg]))
    simp only [edg, wn]
    simp only [] at this
    omega
  | cons x l ih =>
    have h1 := flow (h (a, x) (by simp [edg]))
    have h2 := ih (a := x) (fun e he => h e (by rw [edg]; exact List.mem_cons_of_mem _ he))
    simp only [edg, wn]
    simp only [] at h1
    omega
def poly : List V → List (V × V)
  | [] => []
  | v :: r => edg v r v
def Simple (l : List V) : Prop := 3 ≤ l.length ∧ l.Nodup ∧ ∀ e ∈ poly l, ∀ f ∈ poly l, e ≠ f → ∀ p, On e p → On f p → (p = e.2 ∧ p = f.1) ∨ (p = e.1 ∧ p = f.2)
theorem poly_rot (v w : V) (r : List V) : poly (w :: (r ++ [v])) = edg w r v ++ [(v, w)] := by rw [poly, edg_append]; rfl
theorem poly_two (v w : V) (r : List V) : poly (v :: w :: r) = (v, w) :: edg w r v := rfl
theorem mem_rot {v w : V} {r : List V} {e : V × V} : e ∈ poly (w :: (r ++ [v])) ↔ e ∈ poly (v :: w :: r) := by
  rw [poly_rot, poly_two]; simp only [List.mem_append, List.mem_cons, List.not_mem_nil, or_false]; exact Or.comm
theorem Simple.rot {v w : V} {r : List V} (h : Simple (v :: w :: r)) : Simple (w :: (r ++ [v])) := by
  obtain ⟨h1, h2, h3⟩ := h
  refine ⟨by simp at h1 ⊢; omega, ?_, fun e he f hf => h3 e (mem_rot.1 he) f (mem_rot.1 hf)⟩
  have : (w :: (r ++ [v])).Perm (v :: w :: r) := by
    rw [← List.cons_append]
    exact List.perm_append_comm
  exact this.nodup_iff.2 h2
theorem folded_on {u v w : V} (h1 : u ≠ v) (h2 : w ≠ v) (h : cr u v w = 0) (hu : upI v u = upI v w) : On (u, v) w ∨ On (v, w) u := by
  rw [V.ne] at h1 h2
  unfold upI at hu
  have hc : (v.x - u.x) * (w.y - u.y) = (v.y - u.y) * (w.x - u.x) := by unfold cr at h; grind
  have m1 : ∀ a b : Rat, 0 < a → 0 ≤ b → b ≤ a → ∃ s, 0 ≤ s ∧ s ≤ 1 ∧ s * a = b := by
    intro a b h1 h2 h3
    refine ⟨b / a, ?_, ?_, by grind⟩
    · have hx : (b / a) * a = b := by grind
      generalize b / a = s at *
      by_cases hs : 0 ≤ s
      · exact hs
      · have := (mul_signs s a).2.2.1 (by grind) h1; grind
    · have hx : (b / a) * a = b := by grind
      generalize b / a = s at *
      by_cases hs : s ≤ 1
      · exact hs
      · have := (mul_signs (s - 1) a).1 (by grind) h1; grind
  have pick : ∀ (du dw : Rat), du * (w.x - v.x) = dw * (u.x - v.x) → du * (w.y - v.y) = dw * (u.y - v.y) → 0 < du → 0 < dw → On (u, v) w ∨ On (v, w) u := by
    intro du dw e1 e2 k1 k2
    rcases le_tot dw du with k | k
    · obtain ⟨s, s0, s1, s2⟩ := m1 du dw k1 (by grind) k
      left
      refine ⟨1 - s, by grind, by grind, ?_, ?_⟩
      · simp only []
        have : du * ((w.x - v.x) - s * (u.x - v.x)) = 0 := by grind
        grind
      · simp only []
        have : du * ((w.y - v.y) - s * (u.y - v.y)) = 0 := by grind
        grind
    · obtain ⟨s, s0, s1, s2⟩ := m1 dw du k2 (by grind) k
      right
      refine ⟨s, by grind, by grind, ?_, ?_⟩
      · simp only []
        have : dw * ((u.x - v.x) - s * (w.x - v.x)) = 0 := by grind
        grind
      · simp only []
        have : dw * ((u.y - v.y) - s * (w.y - v.y)) = 0 := by grind
        grind
  rcases tri v.y u.y with k | k | k
  · have : v.y < w.y ∨ (v.y = w.y ∧ w.x < v.x) := by grind
    rcases this with k2 | ⟨k2, k3⟩
    · exact pick (u.y - v.y) (w.y - v.y) (by grind) (by grind) (by grind) (by grind)
    · exfalso
      have : (u.y - v.y) * (w.x - v.x) = 0 := by grind
      have := (mul_signs (u.y - v.y) (w.x - v.x)).2.1 (by grind) (by grind)
      grind
  · have k2 : v.y = w.y := by
      rcases tri v.y w.y with k2 | k2 | k2
      · exfalso
        have hux : u.x < v.x := by grind
        have : (u.x - v.x) * (w.y - v.y) = 0 := by grind
        have := (mul_signs (u.x - v.x) (w.y - v.y)).2.2.1 (by grind) (by grind)
        grind
      · exact k2
      · exfalso
        have hux : v.x < u.x := by grind
        have : (u.x - v.x) * (w.y - v.y) = 0 := by grind
        have := (mul_signs (u.x - v.x) (w.y - v.y)).2.1 (by grind) (by grind)
        grind
    rcases tri u.x v.x with k3 | k3 | k3
    · exact pick (v.x - u.x) (v.x - w.x) (by grind) (by grind) (by grind) (by grind)
    · grind
    · exact pick (u.x - v.x) (w.x - v.x) (by grind) (by grind) (by grind) (by grind)
  · have : w.y < v.y ∨ (v.y = w.y ∧ v.x < w.x) := by grind
    rcases this with k2 | ⟨k2, k3⟩
    · exact pick (v.y - u.y) (v.y - w.y) (by grind) (by grind) (by grind) (by grind)
    · exfalso
      have : (u.y - v.y) * (w.x - v.x) = 0 := by grind
      have := (mul_signs (u.y - v.y) (w.x - v.x)).2.2.1 (by grind) (by grind)
      grind

/-- The number that a simple polygon has all along its boundary, read at v, between u and w. -/
def lamE (v w : V) (m : List V) (u : V) : Int := wn v (edg w m u) + 1 - al v u w
theorem poly_four (v w u : V) (m : List V) : poly (v :: w :: (m ++ [u])) = (v, w) :: (edg w m u ++ [(u, v)]) := by rw [poly_two, edg_append]; rfl
theorem nd_four {v w u : V} {m : List V} (h : (v :: w :: (m ++ [u])).Nodup) : v ≠ w ∧ v ≠ u ∧ w ≠ u ∧ v ∉ m ∧ w ∉ m ∧ u ∉ m ∧ m.Nodup := by
  simp only [List.nodup_cons, List.mem_cons, List.mem_append, List.not_mem_nil, or_false, not_or, List.nodup_append] at h
  obtain ⟨⟨h1, h2, h3⟩, ⟨h4, h5⟩, h6, h7, h8⟩ := h
  exact ⟨h1, h3, h5, h2, h4, fun hu => h8 u hu u rfl rfl, h6⟩
theorem nf_of_simple {v w u : V} {m : List V} (h : Simple (v :: w :: (m ++ [u]))) : NF u v w := by
  obtain ⟨h1, h2, h3⟩ := h
  obtain ⟨n1, n2, n3, _⟩ := nd_four h2
  refine ⟨fun e => n2 e.symm, fun e => n1 e.symm, fun hc hu => ?_⟩
  have hne : ((u, v) : V × V) ≠ (v, w) := fun e => n2 (Prod.mk.inj e).1.symm
  rw [poly_four] at h3
  have k := h3 (u, v) (by simp) (v, w) (by simp) hne
  rcases folded_on (fun e => n2 e.symm) (fun e => n1 e.symm) hc hu with hh | hh
  · rcases k w hh (On.right _ _) with ⟨e, _⟩ | ⟨e, _⟩
    · exact n1 e.symm
    · exact n3 e
  · rcases k u (On.left _ _) hh with ⟨e, _⟩ | ⟨_, e⟩
    · exact n2 e.symm
    · exact n3 e.symm
theorem lam_rot {v w u x : V} {m m' : List V} (h : Simple (v :: w :: (m ++ [u]))) (hm : m ++ [u] = x :: m') : lamE v w m u = lamE w x m' v := by
  have a1 := corner_a (nf_of_simple h)
  have h' := h.rot
  have e1 : w :: (m ++ [u]) ++ [v] = w :: x :: (m' ++ [v]) := by rw [List.cons_append, hm]; rfl
  rw [show w :: (m ++ [u] ++ [v]) = w :: x :: (m' ++ [v]) from e1] at h'
  have a2 := corner_b (nf_of_simple h')
  unfold lamE
  cases m with
  | nil =>
    simp at hm
    obtain ⟨rfl, rfl⟩ := hm
    simp only [edg, wn]
    omega
  | cons y m'' =>
    simp at hm
    obtain ⟨rfl, rfl⟩ := hm
    obtain ⟨n1, n2, n3, n4, n5, n6, _⟩ := nd_four h.2.1
    have hdis : ∀ e ∈ edg y m'' u, Dis e.1 e.2 v w := by
      rintro ⟨e1, e2⟩ he
      have hmem := edg_mem he
      simp only [] at hmem
      apply dis_of
      intro p hp hq
      have hne : ((e1, e2) : V × V) ≠ (v, w) := by
        intro k
        cases k
        exact n4 hmem.1
      have := h.2.2 (e1, e2) (by rw [poly_four, edg]; simp [he]) (v, w) (by rw [poly_four]; simp) hne p hp hq
      simp only [] at this
      rcases this with ⟨k1, k2⟩ | ⟨k1, k2⟩
      · have hv : e2 = v := by rw [← k1, k2]
        rw [hv] at hmem
        rcases List.mem_append.1 hmem.2 with k | k
        · exact n4 (List.mem_cons_of_mem _ k)
        · exact n2 (List.mem_singleton.1 k)
      · have hv : e1 = w := by rw [← k1, k2]
        rw [hv] at hmem
        exact n5 hmem.1
    have hf := wn_flow hdis
    rw [edg_append]
    simp only [edg, wn, wn_append]
    omega
def IsTop (v : V) (l : List V) : Prop := ∀ p ∈ l, p ≠ v → upI v p = 0
def lam : List V → Int
  | v :: w :: x :: r => lamE v w ((x :: r).dropLast) ((x :: r).getLast (by simp))
  | _ => 0
theorem lam_eq (v w u : V) (m : List V) : lam (v :: w :: (m ++ [u])) = lamE v w m u := by
  cases m with
  | nil => rfl
  | cons y m =>
    have h1 : (y :: (m ++ [u])).dropLast = y :: m := by rw [← List.cons_append, List.dropLast_concat]
    have h2 : (y :: (m ++ [u])).getLast (by simp) = u := by rw [List.getLast_cons (by simp)]; simp
    show lamE v w (y :: (m ++ [u])).dropLast ((y :: (m ++ [u])).getLast (by simp)) = _
    rw [h1, h2]
def IsRot (l l' : List V) : Prop := ∃ A B, l = A ++ B ∧ l' = B ++ A
theorem form_of {l : List V} (h : 3 ≤ l.length) : ∃ v w m u, l = v :: w :: (m ++ [u]) := by
  match l, h with
  | v :: w :: x :: r, _ => exact ⟨v, w, (x :: r).dropLast, (x :: r).getLast (by simp), by rw [List.dropLast_concat_getLast]⟩
theorem rot_one {v : V} {r : List V} (h : Simple (v :: r)) : Simple (r ++ [v]) ∧ lam (r ++ [v]) = lam (v :: r) ∧ ∀ e, (e ∈ poly (r ++ [v]) ↔ e ∈ poly (v :: r)) := by
  obtain ⟨v', w, m, u, e⟩ := form_of h.1
  cases e
  refine ⟨h.rot, ?_, fun e => mem_rot⟩
  obtain ⟨x, m', hm⟩ : ∃ x m', m ++ [u] = x :: m' := by
    cases m with
    | nil => exact ⟨u, [], rfl⟩
    | cons y m => exact ⟨y, m ++ [u], rfl⟩
  rw [lam_eq, lam_rot h hm, List.cons_append, hm, List.cons_append, lam_eq]
theorem rot_all {A B : List V} (h : Simple (A ++ B)) : Simple (B ++ A) ∧ lam (B ++ A) = lam (A ++ B) ∧ ∀ e, (e ∈ poly (B ++ A) ↔ e ∈ poly (A ++ B)) := by
  induction A generalizing B with
  | nil => rw [List.nil_append] at h; rw [List.append_nil, List.nil_append]; exact ⟨h, rfl, fun e => Iff.rfl⟩
  | cons a A ih =>
    rw [List.cons_append] at h
    obtain ⟨h1, h2, h3⟩ := rot_one h
    rw [List.append_assoc] at h1 h2 h3
    obtain ⟨h4, h5, h6⟩ := ih h1
    rw [List.append_assoc] at h4 h5 h6
    exact ⟨h4, h5.trans h2, fun e => (h6 e).trans (h3 e)⟩
theorem IsRot.simple {l l' : List V} (h : IsRot l l') (hs : Simple l) : Simple l' ∧ lam l' = lam l ∧ ∀ e, (e ∈ poly l' ↔ e ∈ poly l) := by
  obtain ⟨A, B, rfl, rfl⟩ := h
  exact rot_all hs
theorem IsRot.symm {l l' : List V} (h : IsRot l l') : IsRot l' l := by
  obtain ⟨A, B, h1, h2⟩ := h
  exact ⟨B, A, h2, h1⟩
theorem IsRot.mem {l l' : List V} (h : IsRot l l') (p : V) : p ∈ l' ↔ p ∈ l := by
  obtain ⟨A, B, rfl, rfl⟩ := h
  simp [Or.comm]
theorem IsRot.len {l l' : List V} (h : IsRot l l') : l'.length = l.length := by
  obtain ⟨A, B, rfl, rfl⟩ := h
  simp; omega
/-- The closed triangle. -/
def InT (u v w p : V) : Prop := 0 ≤ cr u v p ∧ 0 ≤ cr v w p ∧ 0 ≤ cr w u p
theorem wn_rot1 (q v : V) (r : List V) : wn q (poly (r ++ [v])) = wn q (poly (v :: r)) := by
  cases r with
  | nil => rfl
  | cons w r =>
    rw [List.cons_append, poly_rot, poly_two, wn_append]
    simp only [wn]
    omega
theorem wn_rot (q : V) (A B : List V) : wn q (poly (B ++ A)) = wn q (poly (A ++ B)) := by
  induction A generalizing B with
  | nil => rw [List.append_nil, List.nil_append]
  | cons a A ih =>
    have h1 := ih (B ++ [a])
    rw [List.append_assoc, ← List.append_assoc A B [a], wn_rot1] at h1
    exact h1
theorem IsRot.wn {l l' : List V} (h : IsRot l l') (q : V) : wn q (poly l') = wn q (poly l) := by
  obtain ⟨A, B, rfl, rfl⟩ := h
  exact wn_rot q A B
theorem On.swap {a b p : V} (h : On (a, b) p) : On (b, a) p := by
  obtain ⟨t, t0, t1, t2, t3⟩ := h
  exact ⟨1 - t, by grind, by grind, by simp only [] at *; grind, by simp only [] at *; grind⟩
theorem On.part {a b p r : V} (h : On (a, b) p) (h2 : On (p, b) r) : On (a, b) r := by
  obtain ⟨t, t0, t1, t2, t3⟩ := h
  obtain ⟨s, s0, s1, s2, s3⟩ := h2
  simp only [] at t2 t3 s2 s3
  have k := Rat.mul_nonneg (show 0 ≤ 1 - t by grind) (show 0 ≤ 1 - s by grind)
  have k2 := Rat.mul_nonneg s0 (show 0 ≤ 1 - t by grind)
  refine ⟨t + s * (1 - t), by grind, by grind, ?_, ?_⟩
  · simp only []; rw [s2, t2]; grind
  · simp only []; rw [s3, t3]; grind
/-- What an edge that is none of the two at v may have in common with them. -/
theorem old_edges {v w u : V} {m : List V} (h : Simple (v :: w :: (m ++ [u]))) {a b : V} (hf : (a, b) ∈ edg w m u) :
    (∀ r, On (a, b) r → On (u, v) r → r = u ∧ b = u) ∧ (∀ r, On (a, b) r → On (v, w) r → r = w ∧ a = w) := by
  obtain ⟨n1, n2, n3, n4, n5, n6, _⟩ := nd_four h.2.1
  have hm := edg_mem hf
  simp only [] at hm
  have hav : a ≠ v := by
    rintro rfl
    rcases List.mem_cons.1 hm.1 with k | k
    · exact n1 k
    · exact n4 k
  have hbv : b ≠ v := by
    rintro rfl
    rcases List.mem_append.1 hm.2 with k | k
    · exact n4 k
    · exact n2 (List.mem_singleton.1 k)
  refine ⟨fun r h1 h2 => ?_, fun r h1 h2 => ?_⟩
  · have := h.2.2 (a, b) (by rw [poly_four]; simp [hf]) (u, v) (by rw [poly_four]; simp) (fun e => hbv (Prod.mk.inj e).2) r h1 h2
    simp only [] at this
    rcases this with ⟨k1, k2⟩ | ⟨k1, k2⟩
    · exact ⟨k2, by rw [← k1, k2]⟩
    · exact absurd (by rw [← k1, k2]) hav
  · have := h.2.2 (a, b) (by rw [poly_four]; simp [hf]) (v, w) (by rw [poly_four]; simp) (fun e => hav (Prod.mk.inj e).1) r h1 h2
    simp only [] at this
    rcases this with ⟨k1, k2⟩ | ⟨k1, k2⟩
    · exact absurd (by rw [← k1, k2]) hbv
    · exact ⟨k2, by rw [← k1, k2]⟩
end Go.Proofs.Ytehfpjlcbhimkaa.Geo
