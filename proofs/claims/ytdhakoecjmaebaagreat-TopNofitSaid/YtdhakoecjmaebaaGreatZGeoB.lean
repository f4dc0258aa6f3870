/-
  Plane geometry over the rationals: every simple polygon that runs to the left has an ear off each of its edges; its area is positive.
-/
import Derived.Test.YtdhakoecjmaebaaGreatZGeoA
namespace Go.Proofs.YtdhakoecjmaebaaGreat.Geo
set_option linter.unusedVariables false
set_option linter.unusedSimpArgs false

theorem see {v w u q : V} {m : List V} (hd : ∀ e ∈ edg w m u, Dis e.1 e.2 q v) (h1 : NF u v q) (h2 : NF q v w) :
    wn q (poly (v :: w :: (m ++ [u]))) = lamE v w m u + al v u w - al v u q - al v q w := by
  have hf := wn_flow hd
  have a1 := corner_a h1
  have a2 := corner_b h2
  have hs := gg_swap q v u
  have hu := upI_swap (u := q) (v := v) h1.2.1
  rw [poly_four, lamE]
  simp only [wn, wn_append]
  omega
theorem al_in {i a b q : V} (h : 0 < cr a i b) (h1 : 0 < cr a i q) (h2 : 0 < cr i b q) : al i a b = al i a q + al i q b := by
  have e1 : cr i a b = - cr a i b := cr_swap a i b
  have e2 : cr i a q = - cr a i q := cr_swap a i q
  have e3 : cr i q b = - cr i b q := by unfold cr; grind
  have ex : cr a i b * (q.x - i.x) = cr a i q * (b.x - i.x) + cr i b q * (a.x - i.x) := by unfold cr; grind
  have ey : cr a i b * (q.y - i.y) = cr a i q * (b.y - i.y) + cr i b q * (a.y - i.y) := by unfold cr; grind
  have up : upI i a = 1 → upI i b = 1 → upI i q = 1 := by
    unfold upI
    intro ha hb
    have ha : i.y < a.y ∨ (i.y = a.y ∧ a.x < i.x) := by grind
    have hb : i.y < b.y ∨ (i.y = b.y ∧ b.x < i.x) := by grind
    rw [if_pos]
    rcases ha with ha | ⟨ha, ha'⟩ <;> rcases hb with hb | ⟨hb, hb'⟩
    · left
      have k := sum_pos h1 h2 (k := b.y - i.y) (l := a.y - i.y) (by grind) (by grind) (by grind)
      have := pos_of (x := q.y - i.y) (k := cr a i b) (by grind) (show (q.y - i.y) * cr a i b = _ by grind) k
      grind
    · left
      have k := sum_pos h1 h2 (k := b.y - i.y) (l := a.y - i.y) (by grind) (by grind) (by grind)
      have := pos_of (x := q.y - i.y) (k := cr a i b) (by grind) (show (q.y - i.y) * cr a i b = _ by grind) k
      grind
    · left
      have k := sum_pos h1 h2 (k := b.y - i.y) (l := a.y - i.y) (by grind) (by grind) (by grind)
      have := pos_of (x := q.y - i.y) (k := cr a i b) (by grind) (show (q.y - i.y) * cr a i b = _ by grind) k
      grind
    · right
      have k := sum_pos h1 h2 (k := i.x - b.x) (l := i.x - a.x) (by grind) (by grind) (by grind)
      have k2 := pos_of (x := i.x - q.x) (k := cr a i b) (by grind) (show (i.x - q.x) * cr a i b = _ by grind) k
      have k3 : cr a i b * (q.y - i.y) = 0 := by rw [ey, ← ha, ← hb]; grind
      have : q.y - i.y = 0 := by grind
      grind
  have dn : upI i a = 0 → upI i b = 0 → upI i q = 0 := by
    unfold upI
    intro ha hb
    have ha : a.y < i.y ∨ (i.y = a.y ∧ i.x ≤ a.x) := by grind
    have hb : b.y < i.y ∨ (i.y = b.y ∧ i.x ≤ b.x) := by grind
    rw [if_neg]
    rcases ha with ha | ⟨ha, ha'⟩ <;> rcases hb with hb | ⟨hb, hb'⟩
    · have k := sum_pos h1 h2 (k := i.y - b.y) (l := i.y - a.y) (by grind) (by grind) (by grind)
      have := pos_of (x := i.y - q.y) (k := cr a i b) (by grind) (show (i.y - q.y) * cr a i b = _ by grind) k
      grind
    · have k := sum_pos h1 h2 (k := i.y - b.y) (l := i.y - a.y) (by grind) (by grind) (by grind)
      have := pos_of (x := i.y - q.y) (k := cr a i b) (by grind) (show (i.y - q.y) * cr a i b = _ by grind) k
      grind
    · have k := sum_pos h1 h2 (k := i.y - b.y) (l := i.y - a.y) (by grind) (by grind) (by grind)
      have := pos_of (x := i.y - q.y) (k := cr a i b) (by grind) (show (i.y - q.y) * cr a i b = _ by grind) k
      grind
    · have k1 := Rat.mul_nonneg (Rat.le_of_lt h1) (show 0 ≤ b.x - i.x by grind)
      have k2 := Rat.mul_nonneg (Rat.le_of_lt h2) (show 0 ≤ a.x - i.x by grind)
      have k3 : cr a i b * (q.y - i.y) = 0 := by rw [ey, ← ha, ← hb]; grind
      have hy : q.y - i.y = 0 := by grind
      have hx : 0 ≤ q.x - i.x := by
        by_cases hh : 0 ≤ q.x - i.x
        · exact hh
        · have := (mul_signs (cr a i b) (q.x - i.x)).2.1 h (by grind)
          grind
      grind
  have := upI_01 i a
  have := upI_01 i b
  have := upI_01 i q
  unfold al
  rw [e1, e2, e3]
  clear ex ey e1 e2 e3
  generalize upI i a = ua at *
  generalize upI i b = ub at *
  generalize upI i q = uq at *
  grind
/-- A point of the triangle of an ear is inside the polygon. -/
theorem ear_sees {i a b q : V} {m : List V} (h : Simple (i :: b :: (m ++ [a]))) (hD : 0 < cr a i b) (hfree : ∀ x ∈ m, ¬ InT a i b x) (hq : InT a i b q) (hoff : ∀ e ∈ poly (i :: b :: (m ++ [a])), ¬ On e q) :
    wn q (poly (i :: b :: (m ++ [a]))) = lam (i :: b :: (m ++ [a])) := by
  obtain ⟨n1, n2, n3, n4, n5, n6, _⟩ := nd_four h.2.1
  have q1 : 0 < cr a i q := by
    rcases Rat.le_iff_lt_or_eq.1 hq.1 with k | k
    · exact k
    · exact absurd (on_side hD k.symm hq.2.1 hq.2.2) (hoff _ (by rw [poly_four]; simp))
  have q2 : 0 < cr i b q := by
    rcases Rat.le_iff_lt_or_eq.1 hq.2.1 with k | k
    · exact k
    · exact absurd (on_side2 hD hq.1 k.symm hq.2.2) (hoff _ (by rw [poly_four]; simp))
  have hqi : q ≠ i := by
    rintro rfl
    have : cr a q q = 0 := by unfold cr; grind
    grind
  have hdis : ∀ e ∈ edg b m a, Dis e.1 e.2 q i := by
    rintro ⟨c, d⟩ hf
    apply dis_of
    intro p hp hpq
    simp only [] at hp
    obtain ⟨o1, o2⟩ := old_edges h hf
    have hmem := edg_mem hf
    simp only [] at hmem
    obtain ⟨s, s0, s1, s2, s3⟩ := hpq
    simp only [] at s2 s3
    have z1 : cr a i i = 0 := by unfold cr; grind
    have z2 : cr i b i = 0 := by unfold cr; grind
    have z3 : cr b a i = cr a i b := by unfold cr; grind
    have hpT : InT a i b p := by
      refine ⟨?_, ?_, ?_⟩
      · rw [On.aff s2 s3 a i]; exact lin_nonneg s0 s1 (by grind) (by grind)
      · rw [On.aff s2 s3 i b]; exact lin_nonneg s0 s1 (by grind) (by grind)
      · rw [On.aff s2 s3 b a]; exact lin_nonneg s0 s1 hq.2.2 (by grind)
    have hb3 : cr b a p = 0 → False := by
      intro hz
      have e := On.aff s2 s3 b a
      rw [hz, z3] at e
      have k1 := Rat.mul_nonneg (show 0 ≤ 1 - s by grind) hq.2.2
      have hs : s = 0 := by
        by_cases hs : s = 0
        · exact hs
        · have := Rat.mul_pos (show 0 < s by grind) hD
          grind
      have : p = q := V.ext (by rw [s2, hs]; grind) (by rw [s3, hs]; grind)
      rw [this] at hp
      exact hoff (c, d) (by rw [poly_four]; simp [hf]) hp
    have hne0 : p ≠ b := by
      rintro rfl
      have := On.cr0 (a := q) (b := i) ⟨s, s0, s1, s2, s3⟩
      rw [← cr_rot q i p] at this
      grind
    have hne1 : p ≠ a := by
      rintro rfl
      have := On.cr0 (a := q) (b := i) ⟨s, s0, s1, s2, s3⟩
      have e : cr p i q = - cr q i p := by unfold cr; grind
      grind
    have hab : cr b a a = 0 := by unfold cr; grind
    have haa : cr b a b = 0 := by unfold cr; grind
    obtain ⟨t, t0, t1, t2, t3⟩ := id hp
    have haff := On.aff t2 t3 b a
    simp only [] at haff
    have hT : cr b a p ≤ cr b a d ∨ cr b a p ≤ cr b a c := by
      by_cases k : cr b a p ≤ cr b a d
      · exact .inl k
      · right
        by_cases k2 : cr b a p ≤ cr b a c
        · exact k2
        · exfalso
          have k3 := Rat.mul_nonneg t0 (show 0 ≤ cr b a p - cr b a d by grind)
          have k4 := Rat.mul_nonneg (show 0 ≤ 1 - t by grind) (show 0 ≤ cr b a p - cr b a c by grind)
          by_cases ht : t = 0
          · rw [ht] at haff; grind
          · have := Rat.mul_pos (show 0 < t by grind) (show 0 < cr b a p - cr b a d by grind)
            grind
    rcases hT with k | k
    · by_cases hdT : InT a i b d
      · rcases List.mem_append.1 hmem.2 with k2 | k2
        · exact hfree d k2 hdT
        · rw [List.mem_singleton.1 k2, hab] at k
          exact hb3 (by have := hpT.2.2; grind)
      · obtain ⟨r, hr, hr2, _⟩ := exit hD hpT (by have := hpT.2.2; grind) hdT
        have hrf := hp.part hr
        rcases hr2 with k2 | k2
        · obtain ⟨_, k3⟩ := o1 r hrf k2
          exact hdT ⟨by rw [k3]; unfold cr; grind, by rw [k3, cr_rot a i b]; grind, by rw [k3]; unfold cr; grind⟩
        · obtain ⟨k3, k4⟩ := o2 r hrf k2
          subst k4
          have hne : d ≠ c := by
            rintro rfl
            exact hdT ⟨by grind, by unfold cr; grind, by unfold cr; grind⟩
          rw [k3] at hr
          exact hne0 (between_eq hp.swap hr hne)
    · by_cases hcT : InT a i b c
      · rcases List.mem_cons.1 hmem.1 with k2 | k2
        · rw [k2, haa] at k
          exact hb3 (by have := hpT.2.2; grind)
        · exact hfree c k2 hcT
      · obtain ⟨r, hr, hr2, _⟩ := exit hD hpT (by have := hpT.2.2; grind) hcT
        have hrf := (hp.swap.part hr).swap
        rcases hr2 with k2 | k2
        · obtain ⟨k3, k4⟩ := o1 r hrf k2
          subst k4
          have hne : c ≠ d := by
            rintro rfl
            exact hcT ⟨by unfold cr; grind, by rw [cr_rot c i b]; grind, by unfold cr; grind⟩
          rw [k3] at hr
          exact hne1 (between_eq hp hr hne)
        · obtain ⟨_, k3⟩ := o2 r hrf k2
          exact hcT ⟨by rw [k3]; grind, by rw [k3]; unfold cr; grind, by rw [k3]; unfold cr; grind⟩
  rw [see hdis ⟨fun e => n2 e.symm, hqi, fun e => by grind⟩ ⟨hqi, fun e => n1 e.symm, fun e => by
    have : cr q i b = cr i b q := by unfold cr; grind
    grind⟩, lam_eq, al_in hD q1 q2]
  omega

def Ear (l : List V) (i : V) : Prop := ∃ b m a, IsRot l (i :: b :: (m ++ [a])) ∧ 0 < cr a i b ∧ ∀ q ∈ m, ¬ InT a i b q
theorem split_unique {i : V} : ∀ {A A' B B' : List V}, i ∉ A → i ∉ A' → A ++ i :: B = A' ++ i :: B' → A = A' ∧ B = B' := by
  intro A
  induction A with
  | nil =>
    intro A' B B' _ h2 h
    cases A' with
    | nil => simp at h; exact ⟨rfl, h⟩
    | cons a A' => simp at h; exact absurd (by rw [h.1]; simp) h2
  | cons a A ih =>
    intro A' B B' h1 h2 h
    cases A' with
    | nil => simp at h; exact absurd (by rw [h.1]; simp) h1
    | cons a' A' =>
      simp only [List.cons_append, List.cons.injEq] at h
      obtain ⟨rfl, h⟩ := h
      obtain ⟨rfl, rfl⟩ := ih (fun k => h1 (by simp [k])) (fun k => h2 (by simp [k])) h
      exact ⟨rfl, rfl⟩
theorem rot_split {l : List V} {i : V} {r : List V} (h : IsRot l (i :: r)) : ∃ A B, l = A ++ i :: B ∧ r = B ++ A := by
  obtain ⟨A, B, h1, h2⟩ := h
  cases B with
  | nil => simp at h2 h1; subst h2; exact ⟨[], r, by simp [h1], by simp⟩
  | cons b B =>
    simp only [List.cons_append, List.cons.injEq] at h2
    obtain ⟨rfl, rfl⟩ := h2
    exact ⟨A, B, h1, rfl⟩
theorem rot_at {A B : List V} {i : V} {r : List V} (hn : (A ++ i :: B).Nodup) (h : IsRot (A ++ i :: B) (i :: r)) : r = B ++ A := by
  obtain ⟨A', B', h1, rfl⟩ := rot_split h
  have n1 : i ∉ A := by
    intro k
    exact (List.nodup_append.1 hn).2.2 i k i (by simp) rfl
  have n2 : i ∉ A' := by
    rw [h1] at hn
    intro k
    exact (List.nodup_append.1 hn).2.2 i k i (by simp) rfl
  obtain ⟨rfl, rfl⟩ := split_unique n1 n2 h1
  rfl
/-- An ear of a part of a polygon is one of the polygon, if no vertex of the rest lies in its triangle. -/
theorem ear_insert {f g : V} {Q C : List V} {i : V} (hn : (f :: (Q ++ [g])).Nodup) (he : Ear (f :: (Q ++ [g])) i) (hf : i ≠ f) (hg : i ≠ g)
    (hC : ∀ a b m, IsRot (f :: (Q ++ [g])) (i :: b :: (m ++ [a])) → 0 < cr a i b → (∀ q ∈ m, ¬ InT a i b q) → ∀ q ∈ C, ¬ InT a i b q) : Ear (f :: (Q ++ [g]) ++ C) i := by
  obtain ⟨b, m, a, hr, hD, hfree⟩ := he
  have hC' := hC a b m hr hD hfree
  have hi : i ∈ Q := by
    have := (hr.mem i).1 (by simp)
    simp only [List.mem_cons, List.mem_append, List.not_mem_nil, or_false] at this
    rcases this with k | k | k
    · exact absurd k hf
    · exact k
    · exact absurd k hg
  obtain ⟨S, T, rfl⟩ := List.append_of_mem hi
  have e1 : f :: (S ++ i :: T ++ [g]) = (f :: S) ++ i :: (T ++ [g]) := by simp
  rw [e1] at hr hn
  have hrr := rot_at hn hr
  obtain ⟨y, R, hR⟩ : ∃ y R, T ++ [g] = y :: R := by
    cases T with
    | nil => exact ⟨g, [], rfl⟩
    | cons y T => exact ⟨y, T ++ [g], rfl⟩
  obtain ⟨S', z, hS⟩ : ∃ S' z, f :: S = S' ++ [z] := ⟨(f :: S).dropLast, (f :: S).getLast (by simp), by rw [List.dropLast_concat_getLast]⟩
  rw [hR, hS, List.cons_append, ← List.append_assoc] at hrr
  simp only [List.cons.injEq] at hrr
  obtain ⟨rfl, hrr⟩ := hrr
  obtain ⟨rfl, hz⟩ := List.append_inj' hrr rfl
  simp at hz
  subst hz
  refine ⟨b, R ++ C ++ S', a, ⟨f :: S, i :: (T ++ [g]) ++ C, by rw [e1]; simp, ?_⟩, hD, ?_⟩
  · rw [hS, hR]; simp
  · intro q hq
    simp only [List.mem_append] at hq
    rcases hq with (hq | hq) | hq
    · exact hfree q (by simp [hq])
    · exact hC' q hq
    · exact hfree q (by simp [hq])
theorem walk_same {F : V → Int} {u : V} : ∀ {x : V} {L : List V}, (∀ e ∈ edg x L u, F e.1 = F e.2) → ∀ q ∈ x :: (L ++ [u]), F q = F u := by
  intro x L
  induction L generalizing x with
  | nil =>
    intro h q hq
    simp at hq
    rcases hq with rfl | rfl
    · exact h (q, u) (by simp [edg])
    · rfl
  | cons y L ih =>
    intro h q hq
    have ih' := ih (x := y) (fun e he => h e (by rw [edg]; exact List.mem_cons_of_mem _ he))
    rcases List.mem_cons.1 hq with rfl | hq
    · have h1 := h (q, y) (by simp [edg])
      simp only [] at h1
      rw [h1]
      exact ih' y (by simp)
    · exact ih' q hq
section
variable {v w u z : V} {A B : List V}
/-- All that is known of a way from the topmost vertex v to z within the polygon. -/
structure Chord (v w u z : V) (A B : List V) : Prop where
  simple : Simple (v :: w :: (A ++ z :: B ++ [u]))
  top : IsTop v (v :: w :: (A ++ z :: B ++ [u]))
  left : 0 < cr u v z
  right : 0 < cr v w z
  turn : 0 < cr u v w
  only : ∀ a b, (a, b) ∈ poly (v :: w :: (A ++ z :: B ++ [u])) → ∀ p, On (a, b) p → On (v, z) p → p = v ∨ p = z

theorem Chord.poly_eq : poly (v :: w :: (A ++ z :: B ++ [u])) = (v, w) :: (edg w A z ++ edg z B u ++ [(u, v)]) := by
  rw [poly_four, edg_append]
theorem Chord.nd (h : Chord v w u z A B) : v ≠ w ∧ v ∉ A ∧ v ≠ z ∧ v ∉ B ∧ v ≠ u ∧ w ∉ A ∧ w ≠ z ∧ w ∉ B ∧ w ≠ u ∧ z ∉ A ∧ z ∉ B ∧ z ≠ u ∧ u ∉ A ∧ u ∉ B ∧ (∀ p ∈ A, p ∉ B) := by
  have hn := h.simple.2.1
  obtain ⟨n1, n2, n3, n4, n5, n6, n7⟩ := nd_four hn
  simp only [List.mem_append, List.mem_cons, not_or] at n4 n5 n6
  rw [List.nodup_append] at n7
  obtain ⟨_, n8, n9⟩ := n7
  refine ⟨n1, n4.1, n4.2.1, n4.2.2, n2, n5.1, n5.2.1, n5.2.2, n3, fun k => n9 z k z (by simp) rfl, (List.nodup_cons.1 n8).1, fun k => n6.2.1 k.symm, n6.1, n6.2.2, fun p hp hq => n9 p hp p (by simp [hq]) rfl⟩
theorem Chord.on_z (h : Chord v w u z A B) {a b : V} (hf : (a, b) ∈ poly (v :: w :: (A ++ z :: B ++ [u]))) (hz : On (a, b) z) : a = z ∨ b = z := by
  obtain ⟨y, hy⟩ : ∃ y, (z, y) ∈ edg z B u := by
    cases B with
    | nil => exact ⟨u, by simp [edg]⟩
    | cons y B => exact ⟨y, by simp [edg]⟩
  by_cases k : (a, b) = (z, y)
  · left; exact (Prod.mk.inj k).1
  · have := h.simple.2.2 (a, b) hf (z, y) (by rw [Chord.poly_eq]; simp [hy]) k z hz (On.left _ _)
    simp only [] at this
    rcases this with ⟨k1, _⟩ | ⟨k1, _⟩
    · exact .inr k1.symm
    · exact .inl k1.symm
theorem Chord.on_v (h : Chord v w u z A B) {a b : V} (hf : (a, b) ∈ edg w A z ++ edg z B u) : ¬ On (a, b) v := by
  intro hv
  have hf' : (a, b) ∈ edg w (A ++ z :: B) u := by rw [edg_append]; exact hf
  have := (old_edges h.simple hf').1 v hv (On.right _ _)
  exact h.nd.2.2.2.2.1 this.1
/-- A vertex of the polygon has a way of its own. -/
theorem Chord.own (h : Chord v w u z A B) {q : V} (hq : q ∈ w :: (A ++ z :: B ++ [u])) : ∃ y, (q, y) ∈ poly (v :: w :: (A ++ z :: B ++ [u])) := by
  have key : ∀ (L : List V) (a b : V), q ∈ a :: L → ∃ y, (q, y) ∈ edg a L b := by
    intro L
    induction L with
    | nil => intro a b hq; simp at hq; subst hq; exact ⟨b, by simp [edg]⟩
    | cons x L ih =>
      intro a b hq
      rcases List.mem_cons.1 hq with rfl | hq
      · exact ⟨x, by simp [edg]⟩
      · obtain ⟨y, hy⟩ := ih x b hq
        exact ⟨y, by rw [edg]; exact List.mem_cons_of_mem _ hy⟩
  obtain ⟨y, hy⟩ := key (w :: (A ++ z :: B ++ [u])) v v (List.mem_cons_of_mem _ hq)
  exact ⟨y, hy⟩
theorem Chord.on_end (h : Chord v w u z A B) {q a b : V} (hq : q ∈ w :: (A ++ z :: B ++ [u])) (hf : (a, b) ∈ poly (v :: w :: (A ++ z :: B ++ [u]))) (hon : On (a, b) q) : a = q ∨ b = q := by
  obtain ⟨y, hy⟩ := h.own hq
  by_cases k : (a, b) = (q, y)
  · left; exact (Prod.mk.inj k).1
  · have := h.simple.2.2 (a, b) hf (q, y) hy k q hon (On.left _ _)
    simp only [] at this
    rcases this with ⟨k1, _⟩ | ⟨k1, _⟩
    · exact .inr k1.symm
    · exact .inl k1.symm
theorem new_edge {l : List (V × V)} {e0 : V × V} (hl : ∀ e ∈ l, ∀ f ∈ l, e ≠ f → ∀ p, On e p → On f p → (p = e.2 ∧ p = f.1) ∨ (p = e.1 ∧ p = f.2))
    (key : ∀ e ∈ l, ∀ p, On e p → On e0 p → (p = e.2 ∧ p = e0.1) ∨ (p = e.1 ∧ p = e0.2)) {l' : List (V × V)} (hm : ∀ e ∈ l', e ∈ l ∨ e = e0) :
    ∀ e ∈ l', ∀ f ∈ l', e ≠ f → ∀ p, On e p → On f p → (p = e.2 ∧ p = f.1) ∨ (p = e.1 ∧ p = f.2) := by
  intro e he f hf hne p hp hq
  rcases hm e he with h1 | rfl
  · rcases hm f hf with h2 | rfl
    · exact hl e h1 f h2 hne p hp hq
    · exact key e h1 p hp hq
  · rcases hm f hf with h2 | rfl
    · rcases key f h2 p hq hp with ⟨k1, k2⟩ | ⟨k1, k2⟩
      · exact .inr ⟨k2, k1⟩
      · exact .inl ⟨k2, k1⟩
    · exact absurd rfl hne
theorem Chord.first (h : Chord v w u z A B) : Simple (v :: w :: (A ++ [z])) := by
  have hnd := h.nd
  obtain ⟨k1, k2, k3, k4, k5, k6, k7, k8, k9, k10, k11, k12, k13, k14, k15⟩ := hnd
  refine ⟨by simp, ?_, ?_⟩
  · refine h.simple.2.1.sublist ?_
    refine List.Sublist.cons_cons _ (List.Sublist.cons_cons _ ?_)
    rw [show A ++ z :: B ++ [u] = (A ++ [z]) ++ (B ++ [u]) by simp]
    exact List.sublist_append_left _ _
  · rw [poly_four]
    refine new_edge (l := (v, w) :: edg w A z) (e0 := (z, v)) ?_ ?_ ?_
    · intro e he f hf
      refine h.simple.2.2 e ?_ f ?_
      · rw [Chord.poly_eq]; simp only [List.mem_cons, List.mem_append] at he ⊢; rcases he with he | he <;> simp [he]
      · rw [Chord.poly_eq]; simp only [List.mem_cons, List.mem_append] at hf ⊢; rcases hf with hf | hf <;> simp [hf]
    · rintro ⟨a, b⟩ he p hp hq
      have hin : (a, b) ∈ poly (v :: w :: (A ++ z :: B ++ [u])) := by
        rw [Chord.poly_eq]; simp only [List.mem_cons, List.mem_append] at he ⊢; rcases he with he | he <;> simp [he]
      rcases h.only a b hin p hp hq.swap with rfl | rfl
      · right
        rcases List.mem_cons.1 he with he | he
        · exact ⟨(Prod.mk.inj he).1.symm, rfl⟩
        · exact absurd hp (h.on_v (by simp [he]))
      · left
        rcases h.on_z hin hp with k | k
        · exfalso
          rcases List.mem_cons.1 he with he | he
          · exact k3 ((Prod.mk.inj he).1.symm.trans k)
          · have := (edg_mem he).1
            simp only [k, List.mem_cons] at this
            rcases this with q | q
            · exact k7 q.symm
            · exact k10 q
        · exact ⟨k.symm, rfl⟩
    · intro e he
      simp only [List.mem_cons, List.mem_append, List.not_mem_nil, or_false] at he ⊢
      rcases he with he | he | he <;> simp [he]
theorem Chord.second (h : Chord v w u z A B) : Simple (v :: z :: (B ++ [u])) := by
  have hnd := h.nd
  obtain ⟨k1, k2, k3, k4, k5, k6, k7, k8, k9, k10, k11, k12, k13, k14, k15⟩ := hnd
  refine ⟨by simp, ?_, ?_⟩
  · refine h.simple.2.1.sublist ?_
    refine List.Sublist.cons_cons _ ?_
    rw [show w :: (A ++ z :: B ++ [u]) = (w :: A) ++ (z :: (B ++ [u])) by simp]
    exact List.sublist_append_right _ _
  · rw [poly_four]
    refine new_edge (l := edg z B u ++ [(u, v)]) (e0 := (v, z)) ?_ ?_ ?_
    · intro e he f hf
      refine h.simple.2.2 e ?_ f ?_
      · rw [Chord.poly_eq]; simp only [List.mem_cons, List.mem_append, List.not_mem_nil, or_false] at he ⊢; rcases he with he | he <;> simp [he]
      · rw [Chord.poly_eq]; simp only [List.mem_cons, List.mem_append, List.not_mem_nil, or_false] at hf ⊢; rcases hf with hf | hf <;> simp [hf]
    · rintro ⟨a, b⟩ he p hp hq
      have hin : (a, b) ∈ poly (v :: w :: (A ++ z :: B ++ [u])) := by
        rw [Chord.poly_eq]; simp only [List.mem_cons, List.mem_append, List.not_mem_nil, or_false] at he ⊢; rcases he with he | he <;> simp [he]
      rcases h.only a b hin p hp hq with rfl | rfl
      · left
        rcases List.mem_append.1 he with he | he
        · exact absurd hp (h.on_v (by simp [he]))
        · exact ⟨(Prod.mk.inj (List.mem_singleton.1 he)).2.symm, rfl⟩
      · right
        rcases h.on_z hin hp with k | k
        · exact ⟨k.symm, rfl⟩
        · exfalso
          rcases List.mem_append.1 he with he | he
          · have := (edg_mem he).2
            simp only [k, List.mem_append, List.mem_singleton] at this
            rcases this with q | q
            · exact k11 q
            · exact k12 q
          · exact k3 ((Prod.mk.inj (List.mem_singleton.1 he)).2.symm.trans k)
    · intro e he
      simp only [List.mem_cons, List.mem_append, List.not_mem_nil, or_false] at he ⊢
      rcases he with he | he | he <;> simp [he]
theorem Chord.down (h : Chord v w u z A B) {p : V} (hp : p ∈ w :: (A ++ z :: B ++ [u])) : upI v p = 0 := by
  refine h.top p (List.mem_cons_of_mem _ hp) ?_
  rintro rfl
  exact (List.nodup_cons.1 h.simple.2.1).1 hp
theorem Chord.lam_first (h : Chord v w u z A B) : lam (v :: w :: (A ++ [z])) = 1 := by
  have ht : IsTop v (v :: w :: (A ++ [z])) := by
    intro p hp hne
    refine h.top p ?_ hne
    simp only [List.mem_cons, List.mem_append, List.not_mem_nil, or_false] at hp ⊢
    rcases hp with hp | hp | hp | hp <;> simp [hp]
  have hr : 0 < cr z v w := by rw [← cr_rot z v w]; exact h.right
  rw [lam_eq]
  rcases lam_top h.first ht with k | k
  · exact k.1
  · grind
theorem Chord.lam_second (h : Chord v w u z A B) : lam (v :: z :: (B ++ [u])) = 1 := by
  have ht : IsTop v (v :: z :: (B ++ [u])) := by
    intro p hp hne
    refine h.top p ?_ hne
    simp only [List.mem_cons, List.mem_append, List.not_mem_nil, or_false] at hp ⊢
    rcases hp with hp | hp | hp | hp <;> simp [hp]
  have hr := h.left
  rw [lam_eq]
  rcases lam_top h.second ht with k | k
  · exact k.1
  · grind
/-- The rest of the polygon lies outside of its first part. -/
theorem Chord.out_first (h : Chord v w u z A B) : ∀ q ∈ B ++ [u], wn q (poly (v :: w :: (A ++ [z]))) = 0 := by
  have hnd := h.nd
  obtain ⟨k1, k2, k3, k4, k5, k6, k7, k8, k9, k10, k11, k12, k13, k14, k15⟩ := hnd
  have d1 := h.down (p := w) (by simp)
  have d2 := h.down (p := u) (by simp)
  have d3 := h.down (p := z) (by simp)
  have c1 := h.left
  have c2 := h.right
  have c3 := h.turn
  have hu : wn u (poly (v :: w :: (A ++ [z]))) = 0 := by
    have e1 : cr z v u = - cr u v z := by unfold cr; grind
    rw [see (q := u) ?_ ⟨fun e => k3 e.symm, fun e => k5 e.symm, fun e => by grind⟩ ⟨fun e => k5 e.symm, fun e => k1 e.symm, fun e => by grind⟩]
    · have hl := h.lam_first
      rw [lam_eq] at hl
      have e2 : cr v z w = - cr v w z := by unfold cr; grind
      have e3 : cr v z u = cr u v z := by unfold cr; grind
      have e4 : cr v u w = - cr u v w := by unfold cr; grind
      rw [hl]
      unfold al
      rw [d1, d2, d3, e2, e3, e4]
      grind
    · rintro ⟨a, b⟩ he
      apply dis_of
      intro p hp hq
      have hf : (a, b) ∈ edg w (A ++ z :: B) u := by rw [edg_append]; simp [he]
      have := ((old_edges h.simple hf).1 p hp hq).2
      have hm := (edg_mem he).2
      simp only [this, List.mem_append, List.mem_singleton] at hm
      rcases hm with q | q
      · exact k13 q
      · exact k12 q.symm
  cases hB : B with
  | nil => intro q hq; simp at hq; rw [hq]; exact hu
  | cons b B' =>
    intro q hq
    rw [← hu]
    refine walk_same (F := fun q => wn q (poly (v :: w :: (A ++ [z])))) (x := b) (L := B') ?_ q (by simpa using hq)
    rintro ⟨x, y⟩ he
    have hm := edg_mem he
    simp only [] at hm
    have hx : x ∈ B := by rw [hB]; exact hm.1
    have hy : y ∈ B ∨ y = u := by
      rcases List.mem_append.1 hm.2 with k | k
      · left; rw [hB]; exact List.mem_cons_of_mem _ k
      · right; exact List.mem_singleton.1 k
    have hin : (x, y) ∈ poly (v :: w :: (A ++ z :: B ++ [u])) := by
      rw [Chord.poly_eq, hB, edg]; simp [he]
    have hin2 : (x, y) ∈ edg w A z ++ edg z B u := by rw [hB, edg]; simp [he]
    refine closed_flow (l := w :: (A ++ [z])) ?_
    rintro ⟨a, b'⟩ hf
    apply dis_of
    intro p hp hq
    simp only [] at hp hq
    have hf' : (a, b') ∈ (v, w) :: (edg w A z ++ [(z, v)]) := by rw [← poly_four]; exact hf
    simp only [List.mem_cons, List.mem_append, List.not_mem_nil, or_false] at hf'
    have chord : ∀ p, On (z, v) p → On (x, y) p → False := by
      intro p hp hq
      rcases h.only x y hin p hq hp.swap with rfl | rfl
      · exact h.on_v hin2 hq
      · rcases h.on_z hin hq with k | k
        · exact k11 (k ▸ hx)
        · rcases hy with hy | hy
          · exact k11 (k ▸ hy)
          · exact k12 (k.symm.trans hy)
    have old : (a, b') ∈ (v, w) :: edg w A z → False := by
      intro hf
      have hin3 : (a, b') ∈ poly (v :: w :: (A ++ z :: B ++ [u])) := by
        rw [Chord.poly_eq]; simp only [List.mem_cons, List.mem_append] at hf ⊢; rcases hf with hf | hf <;> simp [hf]
      have ha : a = v ∨ a = w ∨ a ∈ A := by
        rcases List.mem_cons.1 hf with k | k
        · exact .inl (Prod.mk.inj k).1
        · right; simpa using (edg_mem k).1
      have hb : b' = w ∨ b' ∈ A ∨ b' = z := by
        rcases List.mem_cons.1 hf with k | k
        · exact .inl (Prod.mk.inj k).2
        · right; simpa using (edg_mem k).2
      have hxa : x ≠ a := by
        rintro rfl
        rcases ha with rfl | rfl | ha
        · exact k4 hx
        · exact k8 hx
        · exact k15 x ha hx
      have := h.simple.2.2 (a, b') hin3 (x, y) hin (fun e => hxa (Prod.mk.inj e).1.symm) p hp hq
      simp only [] at this
      rcases this with ⟨q1, q2⟩ | ⟨q1, q2⟩
      · have e : b' = x := q1.symm.trans q2
        rcases hb with rfl | hb | rfl
        · exact k8 (e ▸ hx)
        · exact k15 _ hb (e ▸ hx)
        · exact k11 (e ▸ hx)
      · have e : a = y := q1.symm.trans q2
        rcases hy with hy | hy
        · rcases ha with rfl | rfl | ha
          · exact k4 (e ▸ hy)
          · exact k8 (e ▸ hy)
          · exact k15 _ ha (e ▸ hy)
        · rcases ha with rfl | rfl | ha
          · exact k5 (e.trans hy)
          · exact k9 (e.trans hy)
          · exact k13 ((e.trans hy) ▸ ha)
    rcases hf' with hf' | hf' | hf'
    · exact old (by simp [hf'])
    · exact old (by simp [hf'])
    · rw [(Prod.mk.inj hf').1, (Prod.mk.inj hf').2] at hp
      exact chord p hp hq
theorem Chord.out_second (h : Chord v w u z A B) : ∀ q ∈ w :: A, wn q (poly (v :: z :: (B ++ [u]))) = 0 := by
  have hnd := h.nd
  obtain ⟨k1, k2, k3, k4, k5, k6, k7, k8, k9, k10, k11, k12, k13, k14, k15⟩ := hnd
  have d1 := h.down (p := w) (by simp)
  have d2 := h.down (p := u) (by simp)
  have d3 := h.down (p := z) (by simp)
  have c1 := h.left
  have c2 := h.right
  have c3 := h.turn
  have hu : wn w (poly (v :: z :: (B ++ [u]))) = 0 := by
    have e1 : cr w v z = - cr v w z := by unfold cr; grind
    rw [see (q := w) ?_ ⟨fun e => k5 e.symm, fun e => k1 e.symm, fun e => by grind⟩ ⟨fun e => k1 e.symm, fun e => k3 e.symm, fun e => by grind⟩]
    · have hl := h.lam_second
      rw [lam_eq] at hl
      have e2 : cr v u z = - cr u v z := by unfold cr; grind
      have e4 : cr v u w = - cr u v w := by unfold cr; grind
      rw [hl]
      unfold al
      rw [d1, d2, d3, e2, e4]
      grind
    · rintro ⟨a, b⟩ he
      apply dis_of
      intro p hp hq
      have hf : (a, b) ∈ edg w (A ++ z :: B) u := by rw [edg_append]; simp [he]
      have := ((old_edges h.simple hf).2 p hp hq.swap).2
      have hm := (edg_mem he).1
      simp only [this, List.mem_cons] at hm
      rcases hm with q | q
      · exact k7 q
      · exact k8 q
  cases hA : A with
  | nil => intro q hq; simp at hq; rw [hq]; exact hu
  | cons b0 A0 =>
    obtain ⟨A', b, hAb⟩ : ∃ A' b, A = A' ++ [b] := ⟨A.dropLast, A.getLast (by rw [hA]; simp), by rw [List.dropLast_concat_getLast]⟩
    rw [← hA]
    intro q hq
    have hall := walk_same (F := fun q => wn q (poly (v :: z :: (B ++ [u])))) (u := b) (x := w) (L := A') ?_
    · have hw := hall w (by simp)
      have hq' := hall q (by rw [hAb] at hq; simpa using hq)
      exact hq'.trans (hw.symm.trans hu)
    rintro ⟨x, y⟩ he
    have hm := edg_mem he
    simp only [] at hm
    have hx : x = w ∨ x ∈ A := by
      rcases List.mem_cons.1 hm.1 with k | k
      · exact .inl k
      · right; rw [hAb]; simp [k]
    have hy : y ∈ A := by rw [hAb]; exact hm.2
    have hedg : edg w A z = edg w A' b ++ [(b, z)] := by rw [hAb, edg_append]; rfl
    have hin : (x, y) ∈ poly (v :: w :: (A ++ z :: B ++ [u])) := by
      rw [Chord.poly_eq, hedg]; simp [he]
    have hin2 : (x, y) ∈ edg w A z ++ edg z B u := by rw [hedg]; simp [he]
    refine closed_flow (l := z :: (B ++ [u])) ?_
    rintro ⟨a, b'⟩ hf
    apply dis_of
    intro p hp hq
    simp only [] at hp hq
    have hf' : (a, b') ∈ (v, z) :: (edg z B u ++ [(u, v)]) := by rw [← poly_four]; exact hf
    simp only [List.mem_cons, List.mem_append, List.not_mem_nil, or_false] at hf'
    have chord : ∀ p, On (v, z) p → On (x, y) p → False := by
      intro p hp hq
      rcases h.only x y hin p hq hp with rfl | rfl
      · exact h.on_v hin2 hq
      · rcases h.on_z hin hq with k | k
        · rcases hx with hx | hx
          · exact k7 (hx.symm.trans k)
          · exact k10 (k ▸ hx)
        · exact k10 (k ▸ hy)
    have old : (a, b') ∈ edg z B u ++ [(u, v)] → False := by
      intro hf
      have hin3 : (a, b') ∈ poly (v :: w :: (A ++ z :: B ++ [u])) := by
        rw [Chord.poly_eq]; simp only [List.mem_cons, List.mem_append, List.not_mem_nil, or_false] at hf ⊢; rcases hf with hf | hf <;> simp [hf]
      have ha : a = z ∨ a ∈ B ∨ a = u := by
        rcases List.mem_append.1 hf with k | k
        · have := (edg_mem k).1
          simp only [List.mem_cons] at this
          rcases this with q | q
          · exact .inl q
          · exact .inr (.inl q)
        · exact .inr (.inr (Prod.mk.inj (List.mem_singleton.1 k)).1)
      have hb : b' ∈ B ∨ b' = u ∨ b' = v := by
        rcases List.mem_append.1 hf with k | k
        · have := (edg_mem k).2
          simp only [List.mem_append, List.mem_singleton] at this
          rcases this with q | q
          · exact .inl q
          · exact .inr (.inl q)
        · exact .inr (.inr (Prod.mk.inj (List.mem_singleton.1 k)).2)
      have hxa : x ≠ a := by
        rintro rfl
        rcases hx with rfl | hx
        · rcases ha with q | q | q
          · exact k7 q
          · exact k8 q
          · exact k9 q
        · rcases ha with q | q | q
          · exact k10 (q ▸ hx)
          · exact k15 x hx q
          · exact k13 (q ▸ hx)
      have := h.simple.2.2 (a, b') hin3 (x, y) hin (fun e => hxa (Prod.mk.inj e).1.symm) p hp hq
      simp only [] at this
      rcases this with ⟨q1, q2⟩ | ⟨q1, q2⟩
      · have e : b' = x := q1.symm.trans q2
        rcases hx with hx | hx
        · rcases hb with q | q | q
          · exact k8 (hx ▸ e ▸ q)
          · exact k9 (hx.symm.trans (e.symm.trans q))
          · exact k1 ((hx.symm.trans (e.symm.trans q)).symm)
        · rcases hb with q | q | q
          · exact k15 x hx (e ▸ q)
          · exact k13 ((e.symm.trans q) ▸ hx)
          · exact k2 ((e.symm.trans q) ▸ hx)
      · have e : a = y := q1.symm.trans q2
        rcases ha with q | q | q
        · exact k10 ((e.symm.trans q) ▸ hy)
        · exact k15 y hy (e ▸ q)
        · exact k13 ((e.symm.trans q) ▸ hy)
    rcases hf' with hf' | hf' | hf'
    · rw [(Prod.mk.inj hf').1, (Prod.mk.inj hf').2] at hp
      exact chord p hp hq
    · exact old (by simp [hf'])
    · exact old (by simp [hf'])
end

theorem IsRot.trans {l l' l'' : List V} (h : IsRot l l') (k : IsRot l' l'') : IsRot l l'' := by
  obtain ⟨A, B, rfl, rfl⟩ := h
  obtain ⟨C, D, h1, rfl⟩ := k
  rcases List.append_eq_append_iff.1 h1 with ⟨E, rfl, rfl⟩ | ⟨E, rfl, rfl⟩
  · exact ⟨E, D ++ B, by simp, by simp⟩
  · exact ⟨A ++ C, E, by simp, by simp⟩
theorem Ear.rot {l l' : List V} {i : V} (h : IsRot l l') (he : Ear l i) : Ear l' i := by
  obtain ⟨b, m, a, hr, h1, h2⟩ := he
  exact ⟨b, m, a, h.symm.trans hr, h1, h2⟩
theorem Ear.mem {l : List V} {i : V} (he : Ear l i) : i ∈ l := by
  obtain ⟨b, m, a, hr, _⟩ := he
  exact (hr.mem i).1 (by simp)
theorem ear_in {l : List V} (hs : Simple l) (hl : lam l = 1) {q : V} (hw : wn q (poly l) = 0) (hoff : ∀ e ∈ poly l, ¬ On e q) {i a b : V} {m : List V} (hr : IsRot l (i :: b :: (m ++ [a]))) (hD : 0 < cr a i b) (hfree : ∀ x ∈ m, ¬ InT a i b x) : ¬ InT a i b q := by
  intro hq
  obtain ⟨h1, h2, h3⟩ := hr.simple hs
  have := ear_sees h1 hD hfree hq (fun e he => hoff e ((h3 e).1 he))
  rw [hr.wn, hw, h2, hl] at this
  omega
section
variable {v w u z : V} {A B : List V}
theorem Chord.off_first (h : Chord v w u z A B) : ∀ q ∈ B ++ [u], ∀ e ∈ poly (v :: w :: (A ++ [z])), ¬ On e q := by
  obtain ⟨k1, k2, k3, k4, k5, k6, k7, k8, k9, k10, k11, k12, k13, k14, k15⟩ := h.nd
  rintro q hq ⟨a, b⟩ he hon
  have hqm : q ∈ w :: (A ++ z :: B ++ [u]) := by
    simp only [List.mem_cons, List.mem_append, List.not_mem_nil, or_false] at hq ⊢
    rcases hq with hq | hq <;> simp [hq]
  have hq' : q ∈ B ∨ q = u := by simpa using hq
  rw [poly_four] at he
  simp only [List.mem_cons, List.mem_append, List.not_mem_nil, or_false] at he
  have old : (a, b) ∈ (v, w) :: edg w A z → False := by
    intro hf
    have hin3 : (a, b) ∈ poly (v :: w :: (A ++ z :: B ++ [u])) := by
      rw [Chord.poly_eq]; simp only [List.mem_cons, List.mem_append] at hf ⊢; rcases hf with hf | hf <;> simp [hf]
    have ha : a = v ∨ a = w ∨ a ∈ A := by
      rcases List.mem_cons.1 hf with k | k
      · exact .inl (Prod.mk.inj k).1
      · right; simpa using (edg_mem k).1
    have hb : b = w ∨ b ∈ A ∨ b = z := by
      rcases List.mem_cons.1 hf with k | k
      · exact .inl (Prod.mk.inj k).2
      · right; simpa using (edg_mem k).2
    rcases h.on_end hqm hin3 hon with rfl | rfl
    · rcases hq' with q1 | q1 <;> rcases ha with q2 | q2 | q2
      · exact k4 (q2 ▸ q1)
      · exact k8 (q2 ▸ q1)
      · exact k15 _ q2 q1
      · exact k5 (q2.symm.trans q1)
      · exact k9 (q2.symm.trans q1)
      · exact k13 (q1 ▸ q2)
    · rcases hq' with q1 | q1 <;> rcases hb with q2 | q2 | q2
      · exact k8 (q2 ▸ q1)
      · exact k15 _ q2 q1
      · exact k11 (q2 ▸ q1)
      · exact k9 (q2.symm.trans q1)
      · exact k13 (q1 ▸ q2)
      · exact k12 (q2.symm.trans q1)
  rcases he with he | he | he
  · exact old (by simp [he])
  · exact old (by simp [he])
  · rw [(Prod.mk.inj he).1, (Prod.mk.inj he).2] at hon
    obtain ⟨y, hy⟩ := h.own hqm
    rcases h.only q y hy q (On.left _ _) hon.swap with q2 | q2
    · rcases hq' with q1 | q1
      · exact k4 (q2 ▸ q1)
      · exact k5 (q2.symm.trans q1)
    · rcases hq' with q1 | q1
      · exact k11 (q2 ▸ q1)
      · exact k12 (q2.symm.trans q1)
theorem Chord.off_second (h : Chord v w u z A B) : ∀ q ∈ w :: A, ∀ e ∈ poly (v :: z :: (B ++ [u])), ¬ On e q := by
  obtain ⟨k1, k2, k3, k4, k5, k6, k7, k8, k9, k10, k11, k12, k13, k14, k15⟩ := h.nd
  rintro q hq ⟨a, b⟩ he hon
  have hq' : q = w ∨ q ∈ A := by simpa using hq
  have hqm : q ∈ w :: (A ++ z :: B ++ [u]) := by
    simp only [List.mem_cons, List.mem_append, List.not_mem_nil, or_false] at hq ⊢
    rcases hq with hq | hq <;> simp [hq]
  rw [poly_four] at he
  simp only [List.mem_cons, List.mem_append, List.not_mem_nil, or_false] at he
  have old : (a, b) ∈ edg z B u ++ [(u, v)] → False := by
    intro hf
    have hin3 : (a, b) ∈ poly (v :: w :: (A ++ z :: B ++ [u])) := by
      rw [Chord.poly_eq]; simp only [List.mem_cons, List.mem_append, List.not_mem_nil, or_false] at hf ⊢; rcases hf with hf | hf <;> simp [hf]
    have ha : a = z ∨ a ∈ B ∨ a = u := by
      rcases List.mem_append.1 hf with k | k
      · have := (edg_mem k).1
        simp only [List.mem_cons] at this
        rcases this with q | q
        · exact .inl q
        · exact .inr (.inl q)
      · exact .inr (.inr (Prod.mk.inj (List.mem_singleton.1 k)).1)
    have hb : b ∈ B ∨ b = u ∨ b = v := by
      rcases List.mem_append.1 hf with k | k
      · have := (edg_mem k).2
        simp only [List.mem_append, List.mem_singleton] at this
        rcases this with q | q
        · exact .inl q
        · exact .inr (.inl q)
      · exact .inr (.inr (Prod.mk.inj (List.mem_singleton.1 k)).2)
    rcases h.on_end hqm hin3 hon with rfl | rfl
    · rcases hq' with q1 | q1 <;> rcases ha with q2 | q2 | q2
      · exact k7 (q1.symm.trans q2)
      · exact k8 (q1 ▸ q2)
      · exact k9 (q1.symm.trans q2)
      · exact k10 (q2 ▸ q1)
      · exact k15 _ q1 q2
      · exact k13 (q2 ▸ q1)
    · rcases hq' with q1 | q1 <;> rcases hb with q2 | q2 | q2
      · exact k8 (q1 ▸ q2)
      · exact k9 (q1.symm.trans q2)
      · exact k1 (q2.symm.trans q1)
      · exact k15 _ q1 q2
      · exact k13 (q2 ▸ q1)
      · exact k2 (q2 ▸ q1)
  rcases he with he | he | he
  · rw [(Prod.mk.inj he).1, (Prod.mk.inj he).2] at hon
    obtain ⟨y, hy⟩ := h.own hqm
    rcases h.only q y hy q (On.left _ _) hon with q2 | q2
    · rcases hq' with q1 | q1
      · exact k1 (q2.symm.trans q1)
      · exact k2 (q2 ▸ q1)
    · rcases hq' with q1 | q1
      · exact k7 (q1.symm.trans q2)
      · exact k10 (q2 ▸ q1)
  · exact old (by simp [he])
  · exact old (by simp [he])
end
theorem far_exists {P : V → Prop} (F : V → Rat) (hP : ∀ x, Decidable (P x)) : ∀ m : List V, (∃ x ∈ m, P x) → ∃ z ∈ m, P z ∧ ∀ x ∈ m, P x → F x ≤ F z := by
  intro m
  induction m with
  | nil => rintro ⟨x, hx, _⟩; cases hx
  | cons y m ih =>
    rintro ⟨x, hx, hpx⟩
    by_cases hm : ∃ x ∈ m, P x
    · obtain ⟨z, hz, hpz, hmax⟩ := ih hm
      by_cases hy : P y
      · rcases le_tot (F y) (F z) with k | k
        · refine ⟨z, by simp [hz], hpz, fun x hx hp => ?_⟩
          rcases List.mem_cons.1 hx with rfl | hx
          · exact k
          · exact hmax x hx hp
        · refine ⟨y, by simp, hy, fun x hx hp => ?_⟩
          rcases List.mem_cons.1 hx with rfl | hx
          · exact Rat.le_refl
          · exact Rat.le_trans (hmax x hx hp) k
      · refine ⟨z, by simp [hz], hpz, fun x hx hp => ?_⟩
        rcases List.mem_cons.1 hx with rfl | hx
        · exact absurd hp hy
        · exact hmax x hx hp
    · rcases List.mem_cons.1 hx with rfl | hx
      · refine ⟨x, by simp, hpx, fun y hy hp => ?_⟩
        rcases List.mem_cons.1 hy with rfl | hy
        · exact Rat.le_refl
        · exact absurd ⟨y, hy, hp⟩ hm
      · exact absurd ⟨x, hx, hpx⟩ hm
theorem chord_of {v w u z : V} {A B : List V} (h : Simple (v :: w :: (A ++ z :: B ++ [u]))) (ht : IsTop v (v :: w :: (A ++ z :: B ++ [u]))) (hD : 0 < cr u v w) (hz : InT u v w z)
    (hmax : ∀ x ∈ A ++ z :: B, InT u v w x → cr w u x ≤ cr w u z) : Chord v w u z A B := by
  obtain ⟨n1, n2, n3, n4, n5, n6, _⟩ := nd_four h.2.1
  obtain ⟨y, hy⟩ : ∃ y, (z, y) ∈ edg w (A ++ z :: B) u := by
    rw [edg_append]
    cases B with
    | nil => exact ⟨u, by simp [edg]⟩
    | cons y B => exact ⟨y, by simp [edg]⟩
  obtain ⟨y1, y2⟩ := old_edges h hy
  have hl : 0 < cr u v z := by
    rcases Rat.le_iff_lt_or_eq.1 hz.1 with k | k
    · exact k
    · exact absurd (y1 z (On.left _ _) (on_side hD k.symm hz.2.1 hz.2.2)).1 (fun e => n6 (by rw [← e]; simp))
  have hr : 0 < cr v w z := by
    rcases Rat.le_iff_lt_or_eq.1 hz.2.1 with k | k
    · exact k
    · exact absurd (y2 z (On.left _ _) (on_side2 hD hz.1 k.symm hz.2.2)).1 (fun e => n5 (by rw [← e]; simp))
  refine ⟨h, ht, hl, hr, hD, ?_⟩
  intro a b hf p hp hq
  by_cases hpv : p = v
  · exact .inl hpv
  by_cases hpz : p = z
  · exact .inr hpz
  exfalso
  obtain ⟨s, s0, s1, s2, s3⟩ := hq
  simp only [] at s2 s3
  have hs0 : 0 < s := by
    by_cases k : s = 0
    · exact absurd (V.ext (by rw [s2, k]; grind) (by rw [s3, k]; grind)) hpv
    · grind
  have hs1 : s < 1 := by
    by_cases k : s = 1
    · exact absurd (V.ext (by rw [s2, k]; grind) (by rw [s3, k]; grind)) hpz
    · grind
  have z1 : cr u v v = 0 := by unfold cr; grind
  have z2 : cr v w v = 0 := by unfold cr; grind
  have z3 : cr w u v = cr u v w := by unfold cr; grind
  have z4 : cr w u u = 0 := by unfold cr; grind
  have z5 : cr w u w = 0 := by unfold cr; grind
  have sum := cr_sum u v w z
  have p1 : 0 < cr u v p := by
    rw [On.aff s2 s3 u v, z1]
    have := Rat.mul_pos hs0 hl
    grind
  have p2 : 0 < cr v w p := by
    rw [On.aff s2 s3 v w, z2]
    have := Rat.mul_pos hs0 hr
    grind
  have p3 : cr w u z < cr w u p := by
    rw [On.aff s2 s3 w u, z3]
    have := Rat.mul_pos (show 0 < 1 - s by grind) (show 0 < cr u v w - cr w u z by grind)
    grind
  have hz3 := hz.2.2
  have hpT : InT u v w p := ⟨by grind, by grind, by grind⟩
  rw [poly_four] at hf
  simp only [List.mem_cons, List.mem_append, List.not_mem_nil, or_false] at hf
  have hf' : (a, b) ∈ edg w (A ++ z :: B) u := by
    rcases hf with k | k | k
    · rw [(Prod.mk.inj k).1, (Prod.mk.inj k).2] at hp
      have := hp.cr0
      grind
    · exact k
    · rw [(Prod.mk.inj k).1, (Prod.mk.inj k).2] at hp
      have := hp.cr0
      grind
  obtain ⟨o1, o2⟩ := old_edges h hf'
  have hmem := edg_mem hf'
  simp only [] at hmem
  have toX : ∀ x, ¬ InT u v w x → cr w u p ≤ cr w u x → (∀ r, On (p, x) r → On (a, b) r) → False := by
    intro x hx hle hsub
    obtain ⟨r, hr1, hr2, hr3⟩ := exit hD hpT (by grind) hx
    rcases hr2 with k | k
    · have := (o1 r (hsub r hr1) k).1
      rw [this] at hr3
      grind
    · have := (o2 r (hsub r hr1) k).1
      rw [this] at hr3
      grind
  obtain ⟨t, t0, t1, t2, t3⟩ := id hp
  have haff := On.aff t2 t3 w u
  simp only [] at haff
  have hT : cr w u p ≤ cr w u b ∨ cr w u p ≤ cr w u a := by
    by_cases k : cr w u p ≤ cr w u b
    · exact .inl k
    · right
      by_cases k2 : cr w u p ≤ cr w u a
      · exact k2
      · exfalso
        have k3 := Rat.mul_nonneg t0 (show 0 ≤ cr w u p - cr w u b by grind)
        have k4 := Rat.mul_nonneg (show 0 ≤ 1 - t by grind) (show 0 ≤ cr w u p - cr w u a by grind)
        by_cases ht : t = 0
        · rw [ht] at haff; grind
        · have := Rat.mul_pos (show 0 < t by grind) (show 0 < cr w u p - cr w u b by grind)
          grind
  rcases hT with k | k
  · by_cases hb : InT u v w b
    · rcases List.mem_append.1 hmem.2 with k2 | k2
      · have := hmax b k2 hb; grind
      · rw [List.mem_singleton.1 k2] at k; grind
    · exact toX b hb k (fun r hr => hp.part hr)
  · by_cases ha : InT u v w a
    · rcases List.mem_cons.1 hmem.1 with k2 | k2
      · rw [k2] at k; grind
      · have := hmax a k2 ha; grind
    · exact toX a ha k (fun r hr => (hp.swap.part hr).swap)
open Classical in
/-- A simple polygon that runs to the left has an ear off each of its edges. -/
theorem ears : ∀ (n : Nat) (l : List V), l.length = n → Simple l → lam l = 1 → ∀ e ∈ poly l, ∃ i, Ear l i ∧ i ≠ e.1 ∧ i ≠ e.2 := by
  intro n
  induction n using Nat.strongRecOn with
  | _ n ih =>
    intro l hlen hs hl e he
    obtain ⟨v, hv, ht⟩ := top_exists (l := l) (by rintro rfl; simp [Simple] at hs)
    obtain ⟨r, hr⟩ := IsRot.to hv
    obtain ⟨hs0, hl0, hp0⟩ := hr.simple hs
    have ht0 : IsTop v (v :: r) := fun p hp hne => ht p ((hr.mem p).1 hp) hne
    have hlen0 := hr.len
    obtain ⟨v', w, m, u, hvr⟩ := form_of hs0.1
    cases hvr
    have he0 := (hp0 e).2 he
    rw [hl] at hl0
    suffices hgoal : ∃ i, Ear (v :: w :: (m ++ [u])) i ∧ i ≠ e.1 ∧ i ≠ e.2 by
      obtain ⟨i, hi, h1, h2⟩ := hgoal
      exact ⟨i, Ear.rot hr.symm hi, h1, h2⟩
    clear he hp0 hr hs hl hv ht
    obtain ⟨n1, n2, n3, n4, n5, n6, _⟩ := nd_four hs0.2.1
    have hD : 0 < cr u v w := by
      rcases lam_top hs0 ht0 with k | k
      · exact k.2
      · rw [lam_eq] at hl0; omega
    by_cases hm : m = []
    · subst hm
      have e1 : cr v w u = cr u v w := cr_rot u v w
      have e2 : cr w u v = cr u v w := by rw [cr_rot v w u, e1]
      rw [poly_four] at he0
      simp [edg] at he0
      rcases he0 with rfl | rfl | rfl
      · exact ⟨u, ⟨v, [], w, ⟨[v, w], [u], by simp, by simp⟩, by rw [e2]; exact hD, by simp⟩, fun e => n2 e.symm, fun e => n3 e.symm⟩
      · exact ⟨v, ⟨w, [], u, ⟨[], [v, w, u], by simp, by simp⟩, hD, by simp⟩, n1, n2⟩
      · exact ⟨w, ⟨u, [], v, ⟨[v], [w, u], by simp, by simp⟩, by rw [e1]; exact hD, by simp⟩, n3, fun e => n1 e.symm⟩
    · by_cases hfree : ∀ q ∈ m, ¬ InT u v w q
      · by_cases hve : v ≠ e.1 ∧ v ≠ e.2
        · exact ⟨v, ⟨w, m, u, ⟨[], _, by simp; rfl, by simp⟩, hD, hfree⟩, hve⟩
        · have hs1 := cut_simple hs0 hm hD hfree
          obtain ⟨x, hx⟩ := List.exists_mem_of_ne_nil m hm
          have hcx : cs u v x + cs v w x + cs w u x = 0 := by
            refine tri_out hD ?_
            have := hfree x hx
            unfold InT at this
            grind
          have hl1 := lam_cut hs0 hs1 hx hcx
          rw [hl0] at hl1
          have hpl : poly (w :: (m ++ [u])) = edg w m u ++ [(u, w)] := by rw [poly, edg_append]; rfl
          obtain ⟨i, hi, h1, h2⟩ := ih (w :: (m ++ [u])).length (by rw [← hlen, ← hlen0]; simp) _ rfl hs1 hl1 (u, w) (by rw [hpl]; simp)
          simp only [] at h1 h2
          have hoff : ∀ e ∈ poly (w :: (m ++ [u])), ¬ On e v := by
            rw [hpl]
            rintro ⟨a, b⟩ hab hon
            rcases List.mem_append.1 hab with k | k
            · exact n2 ((old_edges hs0 k).1 v hon (On.right _ _)).1
            · cases List.mem_singleton.1 k
              have := hon.cr0
              have e3 : cr u w v = - cr u v w := by unfold cr; grind
              grind
          have hy : ∀ p ∈ w :: (m ++ [u]), p.y ≤ v.y := by
            intro p hp
            refine up0_y (ht0 p (List.mem_cons_of_mem _ hp) ?_)
            rintro rfl
            exact (List.nodup_cons.1 hs0.2.1).1 hp
          have hw : wn v (poly (w :: (m ++ [u]))) = 0 := wn_low (hy w (by simp)) (hy w (by simp)) (fun p hp => hy p (List.mem_cons_of_mem _ hp))
          have hE := ear_insert (C := [v]) hs1.2.1 hi h2 h1 (by
            intro a b M hr hd hf q hq
            rw [List.mem_singleton.1 hq]
            exact ear_in hs1 hl1 hw hoff hr hd hf)
          have hiv : i ≠ v := by
            rintro rfl
            exact (List.nodup_cons.1 hs0.2.1).1 hi.mem
          refine ⟨i, Ear.rot ⟨w :: (m ++ [u]), [v], rfl, by simp⟩ hE, ?_⟩
          have hev : e = (v, w) ∨ e = (u, v) := by
            rw [poly_four] at he0
            simp only [List.mem_cons, List.mem_append, List.not_mem_nil, or_false] at he0
            rcases he0 with k | k | k
            · exact .inl k
            · exfalso
              apply hve
              have hk := edg_mem k
              refine ⟨?_, ?_⟩
              · intro q
                rw [← q] at hk
                rcases List.mem_cons.1 hk.1 with q2 | q2
                · exact n1 q2
                · exact n4 q2
              · intro q
                rw [← q] at hk
                rcases List.mem_append.1 hk.2 with q2 | q2
                · exact n4 q2
                · exact n2 (List.mem_singleton.1 q2)
            · exact .inr k
          rcases hev with rfl | rfl
          · exact ⟨hiv, h2⟩
          · exact ⟨h1, hiv⟩
      · have hex : ∃ x ∈ m, InT u v w x := by
          by_cases k : ∃ x ∈ m, InT u v w x
          · exact k
          · exact absurd (fun q hq hin => k ⟨q, hq, hin⟩) hfree
        obtain ⟨z, hzm, hzT, hmax⟩ := far_exists (P := InT u v w) (cr w u) (fun x => Classical.propDecidable _) m hex
        obtain ⟨A, B, rfl⟩ := List.append_of_mem hzm
        have hch := chord_of hs0 ht0 hD hzT hmax
        obtain ⟨k1, k2, k3, k4, k5, k6, k7, k8, k9, k10, k11, k12, k13, k14, k15⟩ := hch.nd
        rw [Chord.poly_eq] at he0
        have hsplit : e ∈ (v, w) :: edg w A z ∨ e ∈ edg z B u ++ [(u, v)] := by
          simp only [List.mem_cons, List.mem_append, List.not_mem_nil, or_false] at he0 ⊢
          rcases he0 with k | (k | k) | k <;> simp [k]
        rcases hsplit with hsp | hsp
        · -- the edge is on the first way: an ear of the second part
          have hs2 := hch.second
          have hl2 := hch.lam_second
          obtain ⟨i, hi, h1, h2⟩ := ih (v :: z :: (B ++ [u])).length (by rw [← hlen, ← hlen0]; simp; omega) _ rfl hs2 hl2 (v, z) (by rw [poly_four]; simp)
          simp only [] at h1 h2
          have hrot : IsRot (v :: z :: (B ++ [u])) (z :: ((B ++ [u]) ++ [v])) := ⟨[v], z :: (B ++ [u]), by simp, by simp⟩
          have hi' := Ear.rot hrot hi
          obtain ⟨hs3, hl3, hp3⟩ := hrot.simple hs2
          have hE := ear_insert (C := w :: A) hs3.2.1 hi' h2 h1 (by
            intro a b M hr hd hf q hq
            refine ear_in hs3 (by rw [hl3]; exact hl2) ?_ ?_ hr hd hf
            · rw [hrot.wn]; exact hch.out_second q hq
            · intro e he; exact hch.off_second q hq e ((hp3 e).1 he))
          refine ⟨i, Ear.rot ⟨z :: ((B ++ [u])), v :: w :: A, by simp, by simp⟩ hE, ?_⟩
          have him : i ∈ B ∨ i = u := by
            have := hi.mem
            simp only [List.mem_cons, List.mem_append, List.not_mem_nil, or_false] at this
            rcases this with q | q | q | q
            · exact absurd q h1
            · exact absurd q h2
            · exact .inl q
            · exact .inr q
          have hend : (e.1 = v ∨ e.1 = w ∨ e.1 ∈ A) ∧ (e.2 = w ∨ e.2 ∈ A ∨ e.2 = z) := by
            rcases List.mem_cons.1 hsp with rfl | k
            · exact ⟨.inl rfl, .inl rfl⟩
            · have := edg_mem k
              exact ⟨.inr (by simpa using this.1), .inr (by simpa using this.2)⟩
          refine ⟨?_, ?_⟩
          · intro q
            rcases hend.1 with q2 | q2 | q2 <;> rw [← q] at q2
            · exact h1 q2
            · rcases him with q3 | q3
              · exact k8 (q2 ▸ q3)
              · exact k9 (q2.symm.trans q3)
            · rcases him with q3 | q3
              · exact k15 i q2 q3
              · exact k13 (q3 ▸ q2)
          · intro q
            rcases hend.2 with q2 | q2 | q2 <;> rw [← q] at q2
            · rcases him with q3 | q3
              · exact k8 (q2 ▸ q3)
              · exact k9 (q2.symm.trans q3)
            · rcases him with q3 | q3
              · exact k15 i q2 q3
              · exact k13 (q3 ▸ q2)
            · exact h2 q2
        · have hs2 := hch.first
          have hl2 := hch.lam_first
          obtain ⟨i, hi, h1, h2⟩ := ih (v :: w :: (A ++ [z])).length (by rw [← hlen, ← hlen0]; simp) _ rfl hs2 hl2 (z, v) (by rw [poly_four]; simp)
          simp only [] at h1 h2
          have hE := ear_insert (f := v) (Q := w :: A) (g := z) (C := B ++ [u]) hs2.2.1 hi h2 h1 (by
            intro a b M hr hd hf q hq
            exact ear_in hs2 hl2 (hch.out_first q hq) (hch.off_first q hq) hr hd hf)
          refine ⟨i, by simpa using hE, ?_⟩
          have him : i = w ∨ i ∈ A := by
            have := hi.mem
            simp only [List.mem_cons, List.mem_append, List.not_mem_nil, or_false] at this
            rcases this with q | q | q | q
            · exact absurd q h2
            · exact .inl q
            · exact .inr q
            · exact absurd q h1
          have hend : (e.1 = z ∨ e.1 ∈ B ∨ e.1 = u) ∧ (e.2 ∈ B ∨ e.2 = u ∨ e.2 = v) := by
            rcases List.mem_append.1 hsp with k | k
            · have := edg_mem k
              simp only [List.mem_cons, List.mem_append, List.not_mem_nil, or_false] at this
              refine ⟨?_, ?_⟩
              · rcases this.1 with q | q
                · exact .inl q
                · exact .inr (.inl q)
              · rcases this.2 with q | q
                · exact .inl q
                · exact .inr (.inl q)
            · rw [List.mem_singleton.1 k]
              exact ⟨.inr (.inr rfl), .inr (.inr rfl)⟩
          refine ⟨?_, ?_⟩
          · intro q
            rcases hend.1 with q2 | q2 | q2 <;> rw [← q] at q2
            · exact h1 q2
            · rcases him with q3 | q3
              · exact k8 (q3 ▸ q2)
              · exact k15 i q3 q2
            · rcases him with q3 | q3
              · exact k9 (q3.symm.trans q2)
              · exact k13 (q2 ▸ q3)
          · intro q
            rcases hend.2 with q2 | q2 | q2 <;> rw [← q] at q2
            · rcases him with q3 | q3
              · exact k8 (q3 ▸ q2)
              · exact k15 i q3 q2
            · rcases him with q3 | q3
              · exact k9 (q3.symm.trans q2)
              · exact k13 (q2 ▸ q3)
            · exact h2 q2

theorem flat_of {u v w : V} (h : NF u v w) (hc : cr u v w = 0) : Flat u v w := by
  obtain ⟨h1, h2, h3⟩ := h
  have hu := h3 hc
  rw [V.ne] at h1 h2
  unfold upI at hu
  have hcr : (v.x - u.x) * (w.y - v.y) = (v.y - u.y) * (w.x - v.x) := by unfold cr at hc; grind
  have pick : ∀ (p q : Rat), 0 < p → 0 < q → q * (v.x - u.x) = p * (w.x - v.x) → q * (v.y - u.y) = p * (w.y - v.y) → Flat u v w := by
    intro p q hp hq e1 e2
    obtain ⟨s, s0, s1, s2⟩ := quot (a := p + q) (b := p) (by grind) (by grind) (by grind)
    have hs0 : 0 < s := by
      by_cases k : s = 0
      · rw [k] at s2; grind
      · grind
    have hs1 : s < 1 := by
      by_cases k : s = 1
      · rw [k] at s2; grind
      · grind
    refine ⟨s, hs0, hs1, ?_, ?_⟩
    · have : (p + q) * (v.x - u.x - s * (w.x - u.x)) = 0 := by grind
      grind
    · have : (p + q) * (v.y - u.y - s * (w.y - u.y)) = 0 := by grind
      grind
  have k1 := mul_signs (v.x - u.x) (w.y - v.y)
  have k2 := mul_signs (v.y - u.y) (w.x - v.x)
  rcases tri u.y v.y with k | k | k
  · have hw : v.y < w.y ∨ (v.y = w.y ∧ w.x < v.x) := by grind
    rcases hw with hw | ⟨hw, hw'⟩
    · exact pick (v.y - u.y) (w.y - v.y) (by grind) (by grind) (by grind) (by grind)
    · exfalso; rw [hw] at hcr; grind
  · have hwy : w.y = v.y := by
      rcases tri w.y v.y with q | q | q
      · exfalso; rcases tri u.x v.x with q2 | q2 | q2 <;> grind
      · exact q
      · exfalso; rcases tri u.x v.x with q2 | q2 | q2 <;> grind
    rcases tri u.x v.x with q2 | q2 | q2
    · exact pick (v.x - u.x) (w.x - v.x) (by grind) (by grind) (by grind) (by grind)
    · grind
    · exact pick (u.x - v.x) (v.x - w.x) (by grind) (by grind) (by grind) (by grind)
  · have hw : w.y < v.y ∨ (v.y = w.y ∧ v.x < w.x) := by grind
    rcases hw with hw | ⟨hw, hw'⟩
    · exact pick (u.y - v.y) (v.y - w.y) (by grind) (by grind) (by grind) (by grind)
    · exfalso; rw [hw] at hcr; grind
theorem edg_rev {a b : V} {l : List V} {x y : V} : (x, y) ∈ edg a l.reverse b ↔ (y, x) ∈ edg b l a := by
  induction l generalizing b with
  | nil => simp [edg, and_comm]
  | cons c l ih =>
    rw [List.reverse_cons, edg_append]
    simp only [edg, List.mem_append, List.mem_cons, List.not_mem_nil, or_false, ih, Prod.mk.injEq]
    grind
theorem IsRot.rev {l l' : List V} (h : IsRot l l') : IsRot l.reverse l'.reverse := by
  obtain ⟨A, B, rfl, rfl⟩ := h
  exact ⟨B.reverse, A.reverse, by simp, by simp⟩
theorem simple_rev0 {v : V} {r : List V} (h : Simple (v :: r)) : Simple (v :: r.reverse) := by
  refine ⟨by simpa using h.1, ?_, ?_⟩
  · have := h.2.1
    simp only [List.nodup_cons, List.mem_reverse] at this ⊢
    exact ⟨this.1, (List.reverse_perm r).nodup_iff.2 this.2⟩
  · rintro ⟨a, b⟩ he ⟨c, d⟩ hf hne p hp hq
    have he' : (b, a) ∈ poly (v :: r) := edg_rev.1 he
    have hf' : (d, c) ∈ poly (v :: r) := edg_rev.1 hf
    have := h.2.2 (b, a) he' (d, c) hf' (fun e => hne (by cases e; rfl)) p hp.swap hq.swap
    simp only [] at this ⊢
    rcases this with ⟨k1, k2⟩ | ⟨k1, k2⟩
    · exact .inr ⟨k1, k2⟩
    · exact .inl ⟨k1, k2⟩
theorem simple_rev {l : List V} (h : Simple l) : Simple l.reverse := by
  cases l with
  | nil => exact h
  | cons v r => exact (IsRot.simple (l := v :: r.reverse) ⟨[v], r.reverse, by simp, by simp⟩ (simple_rev0 h)).1
theorem top_form {l : List V} (h : Simple l) : ∃ v w m u, IsRot l (v :: w :: (m ++ [u])) ∧ Simple (v :: w :: (m ++ [u])) ∧ IsTop v (v :: w :: (m ++ [u])) ∧ lam l = lamE v w m u := by
  obtain ⟨v, hv, ht⟩ := top_exists (l := l) (by rintro rfl; simp [Simple] at h)
  obtain ⟨r, hr⟩ := IsRot.to hv
  obtain ⟨hs0, hl0, hp0⟩ := hr.simple h
  have ht0 : IsTop v (v :: r) := fun p hp hne => ht p ((hr.mem p).1 hp) hne
  obtain ⟨v', w, m, u, hvr⟩ := form_of hs0.1
  cases hvr
  exact ⟨v, w, m, u, hr, hs0, ht0, by rw [← hl0, lam_eq]⟩
theorem lam_01 {l : List V} (h : Simple l) : lam l = 0 ∨ lam l = 1 := by
  obtain ⟨v, w, m, u, hr, hs, ht, hl⟩ := top_form h
  rcases lam_top hs ht with k | k
  · right; rw [hl]; exact k.1
  · left; rw [hl]; exact k.1
theorem lam_rev {l : List V} (h : Simple l) : lam l.reverse = 1 - lam l := by
  obtain ⟨v, w, m, u, hr, hs, ht, hl⟩ := top_form h
  have hs2 : Simple (v :: u :: (m.reverse ++ [w])) := by
    have := simple_rev0 hs
    simpa using this
  have hrot : IsRot l.reverse (v :: u :: (m.reverse ++ [w])) := hr.rev.trans ⟨u :: (m.reverse ++ [w]), [v], by simp, by simp⟩
  have ht2 : IsTop v (v :: u :: (m.reverse ++ [w])) := by
    intro p hp hne
    refine ht p ?_ hne
    simp only [List.mem_cons, List.mem_append, List.mem_reverse, List.not_mem_nil, or_false] at hp ⊢
    rcases hp with hp | hp | hp | hp <;> simp [hp]
  rw [hl, ← (hrot.simple (simple_rev h)).2.1, lam_eq]
  have e : cr w v u = - cr u v w := by unfold cr; grind
  rcases lam_top hs ht with k | k <;> rcases lam_top hs2 ht2 with k' | k'
  · grind
  · omega
  · omega
  · grind
def ar : List (V × V) → Rat
  | [] => 0
  | e :: l => (e.1.x * e.2.y - e.1.y * e.2.x) + ar l
theorem ar_append (l m : List (V × V)) : ar (l ++ m) = ar l + ar m := by
  induction l with
  | nil => simp [ar]; grind
  | cons e l ih => simp only [List.cons_append, ar, ih]; grind
theorem ar_rot1 (v : V) (r : List V) : ar (poly (r ++ [v])) = ar (poly (v :: r)) := by
  cases r with
  | nil => rfl
  | cons w r =>
    rw [List.cons_append, poly_rot, poly_two, ar_append]
    simp only [ar]
    grind
theorem ar_rot (A B : List V) : ar (poly (B ++ A)) = ar (poly (A ++ B)) := by
  induction A generalizing B with
  | nil => rw [List.append_nil, List.nil_append]
  | cons a A ih =>
    have h1 := ih (B ++ [a])
    rw [List.append_assoc, ← List.append_assoc A B [a], ar_rot1] at h1
    exact h1
theorem IsRot.ar {l l' : List V} (h : IsRot l l') : ar (poly l') = ar (poly l) := by
  obtain ⟨A, B, rfl, rfl⟩ := h
  exact ar_rot A B
theorem ar_cut (v w u : V) (m : List V) : ar (poly (v :: w :: (m ++ [u]))) = ar (poly (w :: (m ++ [u]))) + cr u v w := by
  have e1 : poly (w :: (m ++ [u])) = edg w m u ++ [(u, w)] := by rw [poly, edg_append]; rfl
  rw [poly_four, e1]
  simp only [ar, ar_append]
  unfold cr
  grind
theorem ar_edg_rev (a b : V) (l : List V) : ar (edg a l.reverse b) = - ar (edg b l a) := by
  induction l generalizing b with
  | nil => simp only [List.reverse_nil, edg, ar]; grind
  | cons c l ih =>
    rw [List.reverse_cons, edg_append, ar_append, ih]
    simp only [edg, ar]
    grind
theorem ar_rev (l : List V) : ar (poly l.reverse) = - ar (poly l) := by
  cases l with
  | nil => simp [poly, ar]
  | cons v r =>
    rw [List.reverse_cons, ar_rot1]
    exact ar_edg_rev v v r
/-- An ear, cut off. -/
theorem ear_cut {l : List V} (h : Simple l) (h4 : 4 ≤ l.length) {i b a : V} {m : List V} (hr : IsRot l (i :: b :: (m ++ [a]))) (hD : 0 < cr a i b) (hfree : ∀ q ∈ m, ¬ InT a i b q) :
    Simple (b :: (m ++ [a])) ∧ lam (b :: (m ++ [a])) = lam l := by
  obtain ⟨h1, h2, _⟩ := hr.simple h
  have hm : m ≠ [] := by
    rintro rfl
    have := hr.len
    simp at this
    omega
  have hs := cut_simple h1 hm hD hfree
  obtain ⟨x, hx⟩ := List.exists_mem_of_ne_nil m hm
  have hcx : cs a i x + cs i b x + cs b a x = 0 := by
    refine tri_out hD ?_
    have := hfree x hx
    unfold InT at this
    grind
  exact ⟨hs, (lam_cut h1 hs hx hcx).trans h2⟩
/-- A straight vertex, cut off. -/
theorem flat_cut {l : List V} (h : Simple l) (h4 : 4 ≤ l.length) {i b a : V} {m : List V} (hr : IsRot l (i :: b :: (m ++ [a]))) (hD : cr a i b = 0) :
    Simple (b :: (m ++ [a])) ∧ lam (b :: (m ++ [a])) = lam l := by
  obtain ⟨h1, h2, _⟩ := hr.simple h
  have hm : m ≠ [] := by
    rintro rfl
    have := hr.len
    simp at this
    omega
  have hF := flat_of (nf_of_simple h1) hD
  have hs := flat_simple h1 hm hF
  obtain ⟨x, hx⟩ := List.exists_mem_of_ne_nil m hm
  exact ⟨hs, (lam_cut h1 hs hx (flat_cs hF x)).trans h2⟩
theorem ar_pos : ∀ (n : Nat) (l : List V), l.length = n → Simple l → lam l = 1 → 0 < ar (poly l) := by
  intro n
  induction n with
  | zero => intro l h hs; rw [List.eq_nil_of_length_eq_zero h] at hs; simp [Simple] at hs
  | succ n ih =>
    intro l hlen hs hl
    by_cases h3 : l.length = 3
    · obtain ⟨v, w, m, u, hr, hs0, ht, hl0⟩ := top_form hs
      have hm : m = [] := by
        have := hr.len
        simp at this
        exact List.eq_nil_of_length_eq_zero (by omega)
      subst hm
      rw [← hr.ar, ar_cut]
      rcases lam_top hs0 ht with k | k
      · have := k.2
        have e : ar (poly (w :: ([] ++ [u]))) = 0 := by simp [poly, edg, ar]; grind
        rw [e]; grind
      · rw [← hl0] at k; omega
    · have h4 : 4 ≤ l.length := by have := hs.1; omega
      obtain ⟨e, he⟩ : ∃ e, e ∈ poly l := by
        cases l with
        | nil => simp at h4
        | cons v r => cases r with
          | nil => simp at h4
          | cons w r => exact ⟨(v, w), by simp [poly, edg]⟩
      obtain ⟨i, ⟨b, m, a, hr, hD, hfree⟩, _⟩ := ears _ l rfl hs hl e he
      obtain ⟨k1, k2⟩ := ear_cut hs h4 hr hD hfree
      have := ih (b :: (m ++ [a])) (by have := hr.len; simp at this ⊢; omega) k1 (by rw [k2, hl])
      rw [← hr.ar, ar_cut]
      grind
theorem ar_neg {l : List V} (hs : Simple l) (hl : lam l = 0) : ar (poly l) < 0 := by
  have := ar_pos _ l.reverse rfl (simple_rev hs) (by rw [lam_rev hs, hl]; rfl)
  rw [ar_rev] at this
  grind

end Go.Proofs.YtdhakoecjmaebaaGreat.Geo
