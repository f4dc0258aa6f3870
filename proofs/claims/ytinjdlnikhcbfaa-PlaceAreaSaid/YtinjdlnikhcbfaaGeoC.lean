/-
  Plane geometry over the rationals: the number of turns of a triangle and of a simple polygon about a point; common points of two triangles.
-/
import Derived.Test.YtinjdlnikhcbfaaGeoB
namespace Go.Proofs.Ytinjdlnikhcbfaa.Geo
set_option linter.unusedVariables false
set_option linter.unusedSimpArgs false

/-- How a triangle turns about a point. -/
def ct (u v w q : V) : Int := cs u v q + cs v w q + cs w u q
theorem wn_cut (v w u : V) (m : List V) (q : V) : wn q (poly (v :: w :: (m ++ [u]))) = wn q (poly (w :: (m ++ [u]))) + ct u v w q := by
  have e1 : poly (w :: (m ++ [u])) = edg w m u ++ [(u, w)] := by rw [poly, edg_append]; rfl
  rw [poly_four, e1]
  unfold ct
  simp only [wn, wn_append]
  have := cs_swap w u q
  omega
/-- A triangle turns about a point once or not at all; about a point that it turns about it lies on every side. -/
theorem tri_01 {u v w q : V} (h : 0 < cr u v w) : (ct u v w q = 0 ∨ ct u v w q = 1) ∧ (ct u v w q = 1 → InT u v w q) := by
  by_cases hx : cr u v q < 0 ∨ cr v w q < 0 ∨ cr w u q < 0
  · have := tri_out h hx
    unfold ct
    omega
  · have hI : InT u v w q := by unfold InT; grind
    refine ⟨?_, fun _ => hI⟩
    obtain ⟨h1, h2, h3⟩ := hI
    unfold ct cs
    clear hx h
    generalize cr u v q = A at *
    generalize cr v w q = B at *
    generalize cr w u q = C at *
    generalize u.y = a at *
    generalize v.y = b at *
    generalize w.y = c at *
    generalize q.y = d at *
    by_cases k1 : a ≤ d <;> by_cases k2 : b ≤ d <;> by_cases k3 : c ≤ d <;> grind
theorem bary {u v w q : V} : cr v w q * u.y + cr w u q * v.y + cr u v q * w.y = cr u v w * q.y := by unfold cr; grind
theorem tri_in {u v w q : V} (h1 : 0 < cr u v q) (h2 : 0 < cr v w q) (h3 : 0 < cr w u q) : ct u v w q = 1 := by
  have hs := cr_sum u v w q
  have hb := bary (u := u) (v := v) (w := w) (q := q)
  have hd : 0 < cr u v w := by grind
  unfold ct cs
  -- not all low, not all high
  have hlow : ¬ (u.y ≤ q.y ∧ v.y ≤ q.y ∧ w.y ≤ q.y) := by
    rintro ⟨a, b, c⟩
    have m1 := Rat.mul_nonneg (Rat.le_of_lt h2) (show 0 ≤ q.y - u.y by grind)
    have m2 := Rat.mul_nonneg (Rat.le_of_lt h3) (show 0 ≤ q.y - v.y by grind)
    have m3 := Rat.mul_nonneg (Rat.le_of_lt h1) (show 0 ≤ q.y - w.y by grind)
    have z : cr v w q * (q.y - u.y) + cr w u q * (q.y - v.y) + cr u v q * (q.y - w.y) = 0 := by rw [← hs] at hb; grind
    have z1 : cr v w q * (q.y - u.y) = 0 := by grind
    have z2 : cr w u q * (q.y - v.y) = 0 := by grind
    have z3 : cr u v q * (q.y - w.y) = 0 := by grind
    have y1 : q.y - u.y = 0 := by grind
    have y2 : q.y - v.y = 0 := by grind
    have y3 : q.y - w.y = 0 := by grind
    unfold cr at hd
    grind
  have hhigh : ¬ (q.y < u.y ∧ q.y < v.y ∧ q.y < w.y) := by
    rintro ⟨a, b, c⟩
    have m1 := Rat.mul_pos h2 (show 0 < u.y - q.y by grind)
    have m2 := Rat.mul_pos h3 (show 0 < v.y - q.y by grind)
    have m3 := Rat.mul_pos h1 (show 0 < w.y - q.y by grind)
    have z : cr v w q * (u.y - q.y) + cr w u q * (v.y - q.y) + cr u v q * (w.y - q.y) = 0 := by rw [← hs] at hb; grind
    grind
  clear hb hd hs
  generalize cr u v q = A at *
  generalize cr v w q = B at *
  generalize cr w u q = C at *
  generalize u.y = a at *
  generalize v.y = b at *
  generalize w.y = c at *
  generalize q.y = d at *
  by_cases k1 : a ≤ d <;> by_cases k2 : b ≤ d <;> by_cases k3 : c ≤ d <;> grind

/-- q lies on no line through two of the points. -/
def Gen (q : V) (l : List V) : Prop := ∀ u ∈ l, ∀ w ∈ l, u ≠ w → cr u w q ≠ 0
theorem edg_ne : ∀ {l : List V} {x b : V}, (x :: l).Nodup → b ∉ x :: l → ∀ e ∈ edg x l b, e.1 ≠ e.2 := by
  intro l
  induction l with
  | nil => intro x b h hb e he; simp [edg] at he; subst he; simp at hb; exact fun k => hb k.symm
  | cons y l ih =>
    intro x b h hb e he
    rw [edg] at he
    rcases List.mem_cons.1 he with rfl | he
    · exact fun k => (List.nodup_cons.1 h).1 (by simp only [] at k; rw [k]; simp)
    · exact ih (List.nodup_cons.1 h).2 (fun k => hb (List.mem_cons_of_mem _ k)) e he
theorem poly_ne {l : List V} (h : l.Nodup) (h2 : 2 ≤ l.length) : ∀ e ∈ poly l, e.1 ≠ e.2 ∧ e.1 ∈ l ∧ e.2 ∈ l := by
  intro e he
  match l, h2 with
  | v :: x :: r, _ =>
    have hm := edg_mem (a := v) (l := x :: r) (b := v) he
    refine ⟨?_, hm.1, by have := hm.2; simp at this ⊢; grind⟩
    rw [poly_two] at he
    have hn := List.nodup_cons.1 h
    rcases List.mem_cons.1 he with rfl | he
    · exact fun k => hn.1 (by simp only [] at k; rw [k]; simp)
    · exact edg_ne hn.2 hn.1 e he
theorem Gen.off {q : V} {l : List V} (h : Gen q l) (hn : l.Nodup) (h2 : 2 ≤ l.length) : ∀ e ∈ poly l, ¬ On e q := by
  rintro ⟨a, b⟩ he ho
  obtain ⟨h1, h3, h4⟩ := poly_ne hn h2 _ he
  exact h a h3 b h4 h1 ho.cr0
/-- A simple polygon that runs to the left turns about a point once or not at all. -/
theorem wn_01 : ∀ (n : Nat) (l : List V), l.length = n → Simple l → lam l = 1 → ∀ q, Gen q l → wn q (poly l) = 0 ∨ wn q (poly l) = 1 := by
  intro n
  induction n with
  | zero => intro l h hs; rw [List.eq_nil_of_length_eq_zero h] at hs; simp [Simple] at hs
  | succ n ih =>
    intro l hlen hs hl q hq
    by_cases h3 : l.length = 3
    · obtain ⟨v, w, m, u, hr, hs0, ht, hl0⟩ := top_form hs
      have hm : m = [] := by
        have := hr.len
        simp at this
        exact List.eq_nil_of_length_eq_zero (by omega)
      subst hm
      rw [← hr.wn, wn_cut]
      rcases lam_top hs0 ht with k | k
      · have e : wn q (poly (w :: ([] ++ [u]))) = 0 := by
          have := cs_swap w u q
          simp only [poly, edg, wn, List.nil_append]
          omega
        have := (tri_01 (q := q) k.2).1
        rw [e]
        omega
      · rw [← hl0] at k; omega
    · have h4 : 4 ≤ l.length := by have := hs.1; omega
      obtain ⟨e, he⟩ : ∃ e, e ∈ poly l := by
        cases l with
        | nil => simp at h4
        | cons v r => cases r with
          | nil => simp at h4
          | cons w r => exact ⟨(v, w), by simp [poly, edg]⟩
      obtain ⟨i, ⟨b, m, a, hr, hD, hfree⟩, _⟩ := ears _ l rfl hs hl e he
      obtain ⟨k1, k2⟩ := ear_cut hs h4 hr hD hfree
      obtain ⟨r1, r2, _⟩ := hr.simple hs
      by_cases hin : InT a i b q
      · have := ear_sees r1 hD hfree hin (fun e he => by
          have hg : Gen q (i :: b :: (m ++ [a])) := fun x hx y hy hne => hq x ((hr.mem x).1 hx) y ((hr.mem y).1 hy) hne
          exact hg.off r1.2.1 (by simp) e he)
        rw [hr.wn, r2, hl] at this
        exact .inr this
      · have hz : ct a i b q = 0 := tri_out hD (by unfold InT at hin; grind)
        rw [← hr.wn, wn_cut, hz]
        have := ih (b :: (m ++ [a])) (by have := hr.len; simp at this ⊢; omega) k1 (by rw [k2, hl]) q (fun x hx y hy hne => hq x ((hr.mem x).1 (List.mem_cons_of_mem _ hx)) y ((hr.mem y).1 (List.mem_cons_of_mem _ hy)) hne)
        omega

/- A point that two triangles turn about: no line has them on its two sides. -/
/-- A polygon on one side of a line, and a point on the line: the ray sees nothing of it, if the line runs up (or to the left). -/
theorem half_line {a b x v : V} {l : List V} (h : ∀ p ∈ v :: l, 0 ≤ cr a b p) (hx : cr a b x = 0) (hup : a.y < b.y ∨ (a.y = b.y ∧ b.x < a.x)) : wn x (edg v l v) = 0 := by
  rcases hup with hup | ⟨hy, hxx⟩
  · -- all crossings lie to the left
    have key : ∀ e ∈ edg v l v, cs e.1 e.2 x = 0 := by
      rintro ⟨p, q⟩ he
      have hm := edg_mem he
      have h1 := h p hm.1
      have hq : q ∈ v :: l := by
        rcases List.mem_append.1 hm.2 with k | k
        · exact List.mem_cons_of_mem _ k
        · have k' : q = v := List.mem_singleton.1 k
          rw [k']; simp
      have h2 := h q hq
      have id : (b.y - a.y) * cr p q x = (q.y - p.y) * cr a b x + (x.y - q.y) * cr a b p + (p.y - x.y) * cr a b q := by unfold cr; grind
      rw [hx] at id
      simp only []
      unfold cs
      by_cases c1 : p.y ≤ x.y ∧ x.y < q.y
      · have m1 := Rat.mul_nonneg h1 (show 0 ≤ q.y - x.y by grind)
        have m2 := Rat.mul_nonneg h2 (show 0 ≤ x.y - p.y by grind)
        have m3 : (b.y - a.y) * cr p q x ≤ 0 := by grind
        have m4 : ¬ 0 < cr p q x := fun k => by have := Rat.mul_pos (show 0 < b.y - a.y by grind) k; grind
        grind
      · by_cases c2 : q.y ≤ x.y ∧ x.y < p.y
        · have m1 := Rat.mul_nonneg h1 (show 0 ≤ x.y - q.y by grind)
          have m2 := Rat.mul_nonneg h2 (show 0 ≤ p.y - x.y by grind)
          have m3 : 0 ≤ (b.y - a.y) * cr p q x := by grind
          have m4 : ¬ cr p q x < 0 := fun k => by have := (mul_signs (b.y - a.y) (cr p q x)).2.1 (by grind) k; grind
          grind
        · grind
    have : ∀ L : List (V × V), (∀ e ∈ L, cs e.1 e.2 x = 0) → wn x L = 0 := by
      intro L
      induction L with
      | nil => intro _; rfl
      | cons e L ih => intro hL; rw [wn, hL e (List.mem_cons_self ..), ih (fun f hf => hL f (List.mem_cons_of_mem _ hf))]; rfl
    exact this _ key
  · have hc : ∀ p : V, cr a b p = (b.x - a.x) * (p.y - a.y) := by intro p; unfold cr; rw [hy]; grind
    have hxy : x.y = a.y := by
      have := hc x
      rw [hx] at this
      have : (b.x - a.x) * (x.y - a.y) = 0 := by grind
      rcases Rat.mul_eq_zero.1 this with k | k <;> grind
    have hp : ∀ p ∈ v :: l, p.y ≤ x.y := by
      intro p hp
      have h1 := h p hp
      rw [hc p] at h1
      by_cases hh : p.y ≤ x.y
      · exact hh
      · have := (mul_signs (b.x - a.x) (p.y - a.y)).2.2.1 (by grind) (by grind); grind
    exact wn_low (hp v (by simp)) (hp v (by simp)) (fun p hq => hp p (by simp [hq]))
theorem ct_edg (u v w q : V) : wn q (edg u [v, w] u) = ct u v w q := by unfold ct; simp only [edg, wn]; omega
/-- Of two triangles that turn about one point, neither lies behind a side of the other. -/
theorem both_side {u v w d e f q : V} (h : 0 < cr u v w) (h1 : ct u v w q = 1) (h2 : ct d e f q = 1) : 0 < cr u v d ∨ 0 < cr u v e ∨ 0 < cr u v f := by
  by_cases hn : 0 < cr u v d ∨ 0 < cr u v e ∨ 0 < cr u v f
  · exact hn
  · exfalso
    have z1 : cr u v u = 0 := by unfold cr; grind
    have z2 : cr u v v = 0 := by unfold cr; grind
    have s : ∀ p, cr v u p = - cr u v p := fun p => cr_swap u v p
    have hT : ∀ p ∈ u :: [v, w], 0 ≤ cr u v p := by intro p hp; simp at hp; rcases hp with rfl | rfl | rfl <;> grind
    have hT' : ∀ p ∈ d :: [e, f], 0 ≤ cr v u p := by
      intro p hp
      have := s p
      simp at hp
      rcases hp with rfl | rfl | rfl <;> grind
    rcases tri (cr u v q) 0 with k | k | k
    · have := half_plane hT k
      rw [ct_edg] at this
      omega
    · have hne : u.y ≠ v.y ∨ u.x ≠ v.x := by
        by_cases h5 : u.y = v.y
        · by_cases h6 : u.x = v.x
          · unfold cr at h; rw [h5, h6] at h; grind
          · exact .inr h6
        · exact .inl h5
      by_cases hup : u.y < v.y ∨ (u.y = v.y ∧ v.x < u.x)
      · have := half_line hT k hup
        rw [ct_edg] at this
        omega
      · have hup' : v.y < u.y ∨ (v.y = u.y ∧ u.x < v.x) := by grind
        have := half_line (a := v) (b := u) hT' (by rw [s, k]; grind) hup'
        rw [ct_edg] at this
        omega
    · have := half_plane (a := v) (b := u) (x := q) hT' (by rw [s]; grind)
      rw [ct_edg] at this
      omega

/- Four open convex sets of which each three have a common point have one; so two triangles of which no side parts them. -/
def In (C : List (V × V)) (q : V) : Prop := ∀ e ∈ C, 0 < cr e.1 e.2 q
theorem sum4 {a b c d A B C D : Rat} (ha : 0 ≤ a) (hb : 0 ≤ b) (hc : 0 ≤ c) (hd : 0 ≤ d) (hA : a ≠ 0 → 0 < A) (hB : b ≠ 0 → 0 < B) (hC : c ≠ 0 → 0 < C) (hD : d ≠ 0 → 0 < D) (hs : 0 < a + b + c + d) : 0 < a * A + b * B + c * C + d * D := by
  have key : ∀ x X : Rat, 0 ≤ x → (x ≠ 0 → 0 < X) → 0 ≤ x * X ∧ (x ≠ 0 → 0 < x * X) := by
    intro x X hx hX
    by_cases h : x = 0
    · rw [h]; grind
    · have := Rat.mul_pos (show 0 < x by grind) (hX h)
      grind
  have k1 := key a A ha hA
  have k2 := key b B hb hB
  have k3 := key c C hc hC
  have k4 := key d D hd hD
  by_cases z1 : a = 0
  · by_cases z2 : b = 0
    · by_cases z3 : c = 0
      · have := k4.2 (by grind); grind
      · have := k3.2 z3; grind
    · have := k2.2 z2; grind
  · have := k1.2 z1; grind
def pp (x : Rat) : Rat := if 0 < x then x else 0
theorem pp_spec (x : Rat) : 0 ≤ pp x ∧ 0 ≤ pp (-x) ∧ pp x - pp (-x) = x ∧ (pp x = 0 ∨ pp (-x) = 0) := by unfold pp; grind
theorem comb {p1 p2 p3 p4 q : V} {a1 a2 a3 a4 : Rat} (hs : 0 < a1 + a2 + a3 + a4) (hx : (a1 + a2 + a3 + a4) * q.x = a1 * p1.x + a2 * p2.x + a3 * p3.x + a4 * p4.x) (hy : (a1 + a2 + a3 + a4) * q.y = a1 * p1.y + a2 * p2.y + a3 * p3.y + a4 * p4.y)
    (h1 : 0 ≤ a1) (h2 : 0 ≤ a2) (h3 : 0 ≤ a3) (h4 : 0 ≤ a4) {C : List (V × V)} (i1 : a1 ≠ 0 → In C p1) (i2 : a2 ≠ 0 → In C p2) (i3 : a3 ≠ 0 → In C p3) (i4 : a4 ≠ 0 → In C p4) : In C q := by
  intro e he
  have id : (a1 + a2 + a3 + a4) * cr e.1 e.2 q = a1 * cr e.1 e.2 p1 + a2 * cr e.1 e.2 p2 + a3 * cr e.1 e.2 p3 + a4 * cr e.1 e.2 p4 := by unfold cr; grind
  have := sum4 h1 h2 h3 h4 (fun k => i1 k e he) (fun k => i2 k e he) (fun k => i3 k e he) (fun k => i4 k e he) hs
  rw [← id] at this
  by_cases hp : 0 < cr e.1 e.2 q
  · exact hp
  · have := Rat.mul_nonneg (Rat.le_of_lt hs) (show 0 ≤ - cr e.1 e.2 q by grind)
    grind
theorem radon {A B C D : List (V × V)} {p1 p2 p3 p4 : V} (l1 l2 l3 l4 : Rat) (hz : l1 + l2 + l3 + l4 = 0) (hx : l1 * p1.x + l2 * p2.x + l3 * p3.x + l4 * p4.x = 0) (hy : l1 * p1.y + l2 * p2.y + l3 * p3.y + l4 * p4.y = 0) (hn : l1 ≠ 0 ∨ l2 ≠ 0 ∨ l3 ≠ 0 ∨ l4 ≠ 0)
    (a : In B p1 ∧ In C p1 ∧ In D p1) (b : In A p2 ∧ In C p2 ∧ In D p2) (c : In A p3 ∧ In B p3 ∧ In D p3) (d : In A p4 ∧ In B p4 ∧ In C p4) : ∃ q, In A q ∧ In B q ∧ In C q ∧ In D q := by
  obtain ⟨u1, v1, w1, z1⟩ := pp_spec l1
  obtain ⟨u2, v2, w2, z2⟩ := pp_spec l2
  obtain ⟨u3, v3, w3, z3⟩ := pp_spec l3
  obtain ⟨u4, v4, w4, z4⟩ := pp_spec l4
  generalize pp l1 = a1 at *
  generalize pp l2 = a2 at *
  generalize pp l3 = a3 at *
  generalize pp l4 = a4 at *
  generalize pp (-l1) = b1 at *
  generalize pp (-l2) = b2 at *
  generalize pp (-l3) = b3 at *
  generalize pp (-l4) = b4 at *
  have hS : a1 + a2 + a3 + a4 = b1 + b2 + b3 + b4 := by grind
  have hpos : 0 < a1 + a2 + a3 + a4 := by grind
  have hne : a1 + a2 + a3 + a4 ≠ 0 := by grind
  have ex : ∃ q : V, (a1 + a2 + a3 + a4) * q.x = a1 * p1.x + a2 * p2.x + a3 * p3.x + a4 * p4.x ∧ (a1 + a2 + a3 + a4) * q.y = a1 * p1.y + a2 * p2.y + a3 * p3.y + a4 * p4.y :=
    ⟨⟨(a1 * p1.x + a2 * p2.x + a3 * p3.x + a4 * p4.x) / (a1 + a2 + a3 + a4), (a1 * p1.y + a2 * p2.y + a3 * p3.y + a4 * p4.y) / (a1 + a2 + a3 + a4)⟩, by
      simp only []
      grind, by
      simp only []
      grind⟩
  obtain ⟨q, qx, qy⟩ := ex
  have qx' : (b1 + b2 + b3 + b4) * q.x = b1 * p1.x + b2 * p2.x + b3 * p3.x + b4 * p4.x := by rw [← hS, qx]; grind
  have qy' : (b1 + b2 + b3 + b4) * q.y = b1 * p1.y + b2 * p2.y + b3 * p3.y + b4 * p4.y := by rw [← hS, qy]; grind
  have hpos' : 0 < b1 + b2 + b3 + b4 := by rw [← hS]; exact hpos
  have ua : ∀ {C : List (V × V)}, (a1 ≠ 0 → In C p1) → (a2 ≠ 0 → In C p2) → (a3 ≠ 0 → In C p3) → (a4 ≠ 0 → In C p4) → In C q := fun i1 i2 i3 i4 => comb hpos qx qy u1 u2 u3 u4 i1 i2 i3 i4
  have ub : ∀ {C : List (V × V)}, (b1 ≠ 0 → In C p1) → (b2 ≠ 0 → In C p2) → (b3 ≠ 0 → In C p3) → (b4 ≠ 0 → In C p4) → In C q := fun i1 i2 i3 i4 => comb hpos' qx' qy' v1 v2 v3 v4 i1 i2 i3 i4
  refine ⟨q, ?_, ?_, ?_, ?_⟩
  · rcases z1 with z | z
    · exact ua (fun k => absurd z k) (fun _ => b.1) (fun _ => c.1) (fun _ => d.1)
    · exact ub (fun k => absurd z k) (fun _ => b.1) (fun _ => c.1) (fun _ => d.1)
  · rcases z2 with z | z
    · exact ua (fun _ => a.1) (fun k => absurd z k) (fun _ => c.2.1) (fun _ => d.2.1)
    · exact ub (fun _ => a.1) (fun k => absurd z k) (fun _ => c.2.1) (fun _ => d.2.1)
  · rcases z3 with z | z
    · exact ua (fun _ => a.2.1) (fun _ => b.2.1) (fun k => absurd z k) (fun _ => d.2.2)
    · exact ub (fun _ => a.2.1) (fun _ => b.2.1) (fun k => absurd z k) (fun _ => d.2.2)
  · rcases z4 with z | z
    · exact ua (fun _ => a.2.2) (fun _ => b.2.2) (fun _ => c.2.2) (fun k => absurd z k)
    · exact ub (fun _ => a.2.2) (fun _ => b.2.2) (fun _ => c.2.2) (fun k => absurd z k)
theorem helly4 {A B C D : List (V × V)} (a : ∃ p, In B p ∧ In C p ∧ In D p) (b : ∃ p, In A p ∧ In C p ∧ In D p) (c : ∃ p, In A p ∧ In B p ∧ In D p) (d : ∃ p, In A p ∧ In B p ∧ In C p) : ∃ q, In A q ∧ In B q ∧ In C q ∧ In D q := by
  obtain ⟨p1, a⟩ := a
  obtain ⟨p2, b⟩ := b
  obtain ⟨p3, c⟩ := c
  obtain ⟨p4, d⟩ := d
  by_cases h : cr p2 p3 p4 ≠ 0 ∨ cr p1 p3 p4 ≠ 0 ∨ cr p1 p2 p4 ≠ 0 ∨ cr p1 p2 p3 ≠ 0
  · exact radon (cr p2 p3 p4) (- cr p1 p3 p4) (cr p1 p2 p4) (- cr p1 p2 p3) (by unfold cr; grind) (by unfold cr; grind) (by unfold cr; grind) (by grind) a b c d
  · have h0 : cr p1 p2 p3 = 0 := by grind
    by_cases hx : p2.x - p3.x ≠ 0 ∨ p3.x - p1.x ≠ 0 ∨ p1.x - p2.x ≠ 0
    · exact radon (p2.x - p3.x) (p3.x - p1.x) (p1.x - p2.x) 0 (by grind) (by grind) (by unfold cr at h0; grind) (by grind) a b c d
    · by_cases hy : p2.y - p3.y ≠ 0 ∨ p3.y - p1.y ≠ 0 ∨ p1.y - p2.y ≠ 0
      · exact radon (p2.y - p3.y) (p3.y - p1.y) (p1.y - p2.y) 0 (by grind) (by unfold cr at h0; grind) (by grind) (by grind) a b c d
      · have e : p1 = p2 := V.ext (by grind) (by grind)
        subst e
        exact ⟨p1, b.1, a.1, a.2.1, a.2.2⟩
theorem In.app {A B : List (V × V)} {q : V} : In (A ++ B) q ↔ In A q ∧ In B q := by
  unfold In
  simp only [List.mem_append]
  exact ⟨fun h => ⟨fun e he => h e (.inl he), fun e he => h e (.inr he)⟩, fun h e he => he.elim (h.1 e) (h.2 e)⟩
theorem helly : ∀ (n : Nat) (Cs : List (List (V × V))), Cs.length = n → (∀ a ∈ Cs, ∀ b ∈ Cs, ∀ c ∈ Cs, ∃ q, In a q ∧ In b q ∧ In c q) → ∃ q, ∀ C ∈ Cs, In C q := by
  intro n
  induction n with
  | zero => intro Cs hn _; rw [List.eq_nil_of_length_eq_zero hn]; exact ⟨⟨0, 0⟩, fun C hC => by cases hC⟩
  | succ n ih =>
    intro Cs hn h
    match Cs, hn with
    | [A], _ =>
      obtain ⟨q, h1, _, _⟩ := h A (by simp) A (by simp) A (by simp)
      exact ⟨q, fun C hC => by rw [List.mem_singleton.1 hC]; exact h1⟩
    | A :: B :: R, hn =>
      have h4 : ∀ c ∈ R, ∀ d ∈ R, ∃ q, In A q ∧ In B q ∧ In c q ∧ In d q := fun c hc d hd =>
        helly4 (h B (by simp) c (by simp [hc]) d (by simp [hd])) (h A (by simp) c (by simp [hc]) d (by simp [hd])) (h A (by simp) B (by simp) d (by simp [hd])) (h A (by simp) B (by simp) c (by simp [hc]))
      have h2 : ∃ q, In A q ∧ In B q := by
        obtain ⟨q, k1, k2, _⟩ := h A (by simp) B (by simp) B (by simp)
        exact ⟨q, k1, k2⟩
      obtain ⟨q, hq⟩ := ih ((A ++ B) :: R) (by simp at hn ⊢; omega) (by
        intro a ha b hb c hc
        rcases List.mem_cons.1 ha with rfl | ha <;> rcases List.mem_cons.1 hb with rfl | hb <;> rcases List.mem_cons.1 hc with rfl | hc
        · obtain ⟨q, k1, k2⟩ := h2
          exact ⟨q, In.app.2 ⟨k1, k2⟩, In.app.2 ⟨k1, k2⟩, In.app.2 ⟨k1, k2⟩⟩
        · obtain ⟨q, k1, k2, k3, _⟩ := h4 c hc c hc
          exact ⟨q, In.app.2 ⟨k1, k2⟩, In.app.2 ⟨k1, k2⟩, k3⟩
        · obtain ⟨q, k1, k2, k3, _⟩ := h4 b hb b hb
          exact ⟨q, In.app.2 ⟨k1, k2⟩, k3, In.app.2 ⟨k1, k2⟩⟩
        · obtain ⟨q, k1, k2, k3, k4⟩ := h4 b hb c hc
          exact ⟨q, In.app.2 ⟨k1, k2⟩, k3, k4⟩
        · obtain ⟨q, k1, k2, k3, _⟩ := h4 a ha a ha
          exact ⟨q, k3, In.app.2 ⟨k1, k2⟩, In.app.2 ⟨k1, k2⟩⟩
        · obtain ⟨q, k1, k2, k3, k4⟩ := h4 a ha c hc
          exact ⟨q, k3, In.app.2 ⟨k1, k2⟩, k4⟩
        · obtain ⟨q, k1, k2, k3, k4⟩ := h4 a ha b hb
          exact ⟨q, k3, k4, In.app.2 ⟨k1, k2⟩⟩
        · exact h a (by simp [ha]) b (by simp [hb]) c (by simp [hc]))
      exact ⟨q, fun C hC => by
        rcases List.mem_cons.1 hC with rfl | hC
        · exact (In.app.1 (hq (C ++ B) (by simp))).1
        · rcases List.mem_cons.1 hC with rfl | hC
          · exact (In.app.1 (hq (A ++ C) (by simp))).2
          · exact hq C (by simp [hC])⟩
/-- The open triangle has points close to each of its vertices. -/
theorem tri_near {u v w a b p : V} (h : 0 < cr u v w) (hp : p = u ∨ p = v ∨ p = w) (hg : 0 < cr a b p) : ∃ q, 0 < cr u v q ∧ 0 < cr v w q ∧ 0 < cr w u q ∧ 0 < cr a b q := by
  have e1 : cr v w u = cr u v w := cr_rot u v w
  have e2 : cr w u v = cr u v w := by rw [cr_rot v w u, e1]
  have z1 : cr u v u = 0 := by unfold cr; grind
  have z2 : cr u v v = 0 := by unfold cr; grind
  have z3 : cr v w v = 0 := by unfold cr; grind
  have z4 : cr v w w = 0 := by unfold cr; grind
  have z5 : cr w u w = 0 := by unfold cr; grind
  have z6 : cr w u u = 0 := by unfold cr; grind
  -- the middle
  obtain ⟨m, mx, my⟩ : ∃ m : V, 3 * m.x = u.x + v.x + w.x ∧ 3 * m.y = u.y + v.y + w.y := ⟨⟨(u.x + v.x + w.x) / 3, (u.y + v.y + w.y) / 3⟩, by simp only []; grind, by simp only []; grind⟩
  have m1 : 3 * cr u v m = cr u v w := by unfold cr; grind
  have m2 : 3 * cr v w m = cr u v w := by unfold cr; grind
  have m3 : 3 * cr w u m = cr u v w := by unfold cr; grind
  have hc : 0 ≤ cr u v p ∧ 0 ≤ cr v w p ∧ 0 ≤ cr w u p := by rcases hp with rfl | rfl | rfl <;> grind
  -- how far
  obtain ⟨t, t0, t1, t2⟩ : ∃ t : Rat, 0 < t ∧ t < 1 ∧ 0 < (1 - t) * cr a b p + t * cr a b m := by
    by_cases hm : 0 ≤ cr a b m
    · refine ⟨1 / 2, by grind, by grind, ?_⟩
      grind
    · have hd : 0 < 2 * (cr a b p - cr a b m) := by grind
      have hne : 2 * (cr a b p - cr a b m) ≠ 0 := by grind
      have hT : (cr a b p / (2 * (cr a b p - cr a b m))) * (2 * (cr a b p - cr a b m)) = cr a b p := by grind
      generalize cr a b p / (2 * (cr a b p - cr a b m)) = t at hT
      have ht0 : 0 < t := by
        by_cases k : 0 < t
        · exact k
        · have := Rat.mul_nonneg (Rat.le_of_lt hd) (show 0 ≤ -t by grind); grind
      have ht1 : t < 1 := by
        by_cases k : t < 1
        · exact k
        · have := Rat.mul_nonneg (Rat.le_of_lt hd) (show 0 ≤ t - 1 by grind); grind
      exact ⟨t, ht0, ht1, by grind⟩
  refine ⟨⟨p.x + t * (m.x - p.x), p.y + t * (m.y - p.y)⟩, ?_, ?_, ?_, ?_⟩
  · rw [On.aff (a := p) (b := m) (s := t) rfl rfl]
    have := Rat.mul_nonneg (show 0 ≤ 1 - t by grind) hc.1
    have := Rat.mul_pos t0 (show 0 < cr u v m by grind)
    grind
  · rw [On.aff (a := p) (b := m) (s := t) rfl rfl]
    have := Rat.mul_nonneg (show 0 ≤ 1 - t by grind) hc.2.1
    have := Rat.mul_pos t0 (show 0 < cr v w m by grind)
    grind
  · rw [On.aff (a := p) (b := m) (s := t) rfl rfl]
    have := Rat.mul_nonneg (show 0 ≤ 1 - t by grind) hc.2.2
    have := Rat.mul_pos t0 (show 0 < cr w u m by grind)
    grind
  · rw [On.aff (a := p) (b := m) (s := t) rfl rfl]
    exact t2
/-- Two triangles, no side of which has the other one behind it, have a common inner point. -/
theorem sat {u v w d e f : V} (h : 0 < cr u v w) (h' : 0 < cr d e f) (k1 : ∃ p, (p = d ∨ p = e ∨ p = f) ∧ 0 < cr u v p) (k2 : ∃ p, (p = d ∨ p = e ∨ p = f) ∧ 0 < cr v w p) (k3 : ∃ p, (p = d ∨ p = e ∨ p = f) ∧ 0 < cr w u p)
    (l1 : ∃ p, (p = u ∨ p = v ∨ p = w) ∧ 0 < cr d e p) (l2 : ∃ p, (p = u ∨ p = v ∨ p = w) ∧ 0 < cr e f p) (l3 : ∃ p, (p = u ∨ p = v ∨ p = w) ∧ 0 < cr f d p) :
    ∃ q, 0 < cr u v q ∧ 0 < cr v w q ∧ 0 < cr w u q ∧ 0 < cr d e q ∧ 0 < cr e f q ∧ 0 < cr f d q := by
  have hS : ∀ g : V × V, g = (d, e) ∨ g = (e, f) ∨ g = (f, d) → ∃ q, 0 < cr u v q ∧ 0 < cr v w q ∧ 0 < cr w u q ∧ 0 < cr g.1 g.2 q := by
    rintro g (rfl | rfl | rfl)
    · obtain ⟨p, hp, hg⟩ := l1; exact tri_near h hp hg
    · obtain ⟨p, hp, hg⟩ := l2; exact tri_near h hp hg
    · obtain ⟨p, hp, hg⟩ := l3; exact tri_near h hp hg
  have hT : ∀ g : V × V, g = (u, v) ∨ g = (v, w) ∨ g = (w, u) → ∃ q, 0 < cr d e q ∧ 0 < cr e f q ∧ 0 < cr f d q ∧ 0 < cr g.1 g.2 q := by
    rintro g (rfl | rfl | rfl)
    · obtain ⟨p, hp, hg⟩ := k1; exact tri_near h' hp hg
    · obtain ⟨p, hp, hg⟩ := k2; exact tri_near h' hp hg
    · obtain ⟨p, hp, hg⟩ := k3; exact tri_near h' hp hg
  have one : ∀ {g : V × V} {q : V}, 0 < cr g.1 g.2 q → In [g] q := fun hq e he => by rw [List.mem_singleton.1 he]; exact hq
  have hs1 : ∀ {q : V}, (0 < cr u v q ∧ 0 < cr v w q ∧ 0 < cr w u q) → ∀ g, (g = (u, v) ∨ g = (v, w) ∨ g = (w, u)) → In [g] q := by
    rintro q ⟨c1, c2, c3⟩ g (rfl | rfl | rfl)
    · exact one c1
    · exact one c2
    · exact one c3
  have ht1 : ∀ {q : V}, (0 < cr d e q ∧ 0 < cr e f q ∧ 0 < cr f d q) → ∀ g, (g = (d, e) ∨ g = (e, f) ∨ g = (f, d)) → In [g] q := by
    rintro q ⟨c1, c2, c3⟩ g (rfl | rfl | rfl)
    · exact one c1
    · exact one c2
    · exact one c3
  obtain ⟨q, hq⟩ := helly 6 [[(u, v)], [(v, w)], [(w, u)], [(d, e)], [(e, f)], [(f, d)]] rfl (by
    intro A hA B hB C hC
    have cls : ∀ X ∈ [[(u, v)], [(v, w)], [(w, u)], [(d, e)], [(e, f)], [(f, d)]], (∃ g, X = [g] ∧ (g = (u, v) ∨ g = (v, w) ∨ g = (w, u))) ∨ (∃ g, X = [g] ∧ (g = (d, e) ∨ g = (e, f) ∨ g = (f, d))) := by
      intro X hX
      simp only [List.mem_cons, List.not_mem_nil, or_false] at hX
      rcases hX with rfl | rfl | rfl | rfl | rfl | rfl
      · exact .inl ⟨_, rfl, .inl rfl⟩
      · exact .inl ⟨_, rfl, .inr (.inl rfl)⟩
      · exact .inl ⟨_, rfl, .inr (.inr rfl)⟩
      · exact .inr ⟨_, rfl, .inl rfl⟩
      · exact .inr ⟨_, rfl, .inr (.inl rfl)⟩
      · exact .inr ⟨_, rfl, .inr (.inr rfl)⟩
    rcases cls A hA with ⟨a, rfl, ha⟩ | ⟨a, rfl, ha⟩ <;> rcases cls B hB with ⟨b, rfl, hb⟩ | ⟨b, rfl, hb⟩ <;> rcases cls C hC with ⟨c, rfl, hc⟩ | ⟨c, rfl, hc⟩
    · obtain ⟨q, c1, c2, c3, _⟩ := hS (d, e) (.inl rfl)
      exact ⟨q, hs1 ⟨c1, c2, c3⟩ a ha, hs1 ⟨c1, c2, c3⟩ b hb, hs1 ⟨c1, c2, c3⟩ c hc⟩
    · obtain ⟨q, c1, c2, c3, c4⟩ := hS c hc
      exact ⟨q, hs1 ⟨c1, c2, c3⟩ a ha, hs1 ⟨c1, c2, c3⟩ b hb, one c4⟩
    · obtain ⟨q, c1, c2, c3, c4⟩ := hS b hb
      exact ⟨q, hs1 ⟨c1, c2, c3⟩ a ha, one c4, hs1 ⟨c1, c2, c3⟩ c hc⟩
    · obtain ⟨q, c1, c2, c3, c4⟩ := hT a ha
      exact ⟨q, one c4, ht1 ⟨c1, c2, c3⟩ b hb, ht1 ⟨c1, c2, c3⟩ c hc⟩
    · obtain ⟨q, c1, c2, c3, c4⟩ := hS a ha
      exact ⟨q, one c4, hs1 ⟨c1, c2, c3⟩ b hb, hs1 ⟨c1, c2, c3⟩ c hc⟩
    · obtain ⟨q, c1, c2, c3, c4⟩ := hT b hb
      exact ⟨q, ht1 ⟨c1, c2, c3⟩ a ha, one c4, ht1 ⟨c1, c2, c3⟩ c hc⟩
    · obtain ⟨q, c1, c2, c3, c4⟩ := hT c hc
      exact ⟨q, ht1 ⟨c1, c2, c3⟩ a ha, ht1 ⟨c1, c2, c3⟩ b hb, one c4⟩
    · obtain ⟨q, c1, c2, c3, _⟩ := hT (u, v) (.inl rfl)
      exact ⟨q, ht1 ⟨c1, c2, c3⟩ a ha, ht1 ⟨c1, c2, c3⟩ b hb, ht1 ⟨c1, c2, c3⟩ c hc⟩)
  exact ⟨q, hq [(u, v)] (by simp) (u, v) (by simp), hq [(v, w)] (by simp) (v, w) (by simp), hq [(w, u)] (by simp) (w, u) (by simp), hq [(d, e)] (by simp) (d, e) (by simp), hq [(e, f)] (by simp) (e, f) (by simp), hq [(f, d)] (by simp) (f, d) (by simp)⟩

end Go.Proofs.Ytinjdlnikhcbfaa.Geo
