/-
  Plane geometry over the rationals: every simple polygon that runs to the left has an ear off each of its edges; its area is positive.
-/
import Derived.Test.YtehfpjlcbhimkaaZGeoA
namespace Go.Proofs.Ytehfpjlcbhimkaa.Geo
set_option linter.unusedVariables false
set_option linter.unusedSimpArgs false

def Ear (l : List V) (i : V) : Prop := ∃ b m a, IsRot l (i :: b :: (m ++ [a])) ∧ 0 < cr a i b ∧ ∀ q ∈ m, ¬ InT a i b q
section
variable {v w u z : V} {A B : List V}
/-- All that is known of a way from the topmost vertex v to z within the polygon. -/
structure Chord (v w u z : V) (A B : List V) : Prop where
  simple : Simple (v :: w :: (A ++ z :: B ++ [u]))
  top : IsTop v (v :: w :: (A ++ z :: B ++ [u]))
  left : 0 < cr u v z
  right : 0 < cr v w z
  turn : 0 < cr u v w
  only : ∀ a b, (a, b) ∈ poly (v :: w :: (A ++ z :: B ++ [u])) → ∀ p, On (a, b) p → On (v, z) p → p = v ∨ p = z

theorem Chord.poly_eq : poly (v :: w :: (A ++ z :: B ++ [u])) = (v, w) :: (edg w A z ++ edg z B u ++ [(u, v)]) := by
  rw [poly_four, edg_append]
theorem Chord.nd (h : Chord v w u z A B) : v ≠ w ∧ v ∉ A ∧ v ≠ z ∧ v ∉ B ∧ v ≠ u ∧ w ∉ A ∧ w ≠ z ∧ w ∉ B ∧ w ≠ u ∧ z ∉ A ∧ z ∉ B ∧ z ≠ u ∧ u ∉ A ∧ u ∉ B ∧ (∀ p ∈ A, p ∉ B) := by
  have hn := h.simple.2.1
  obtain ⟨n1, n2, n3, n4, n5, n6, n7⟩ := nd_four hn
  simp only [List.mem_append, List.mem_cons, not_or] at n4 n5 n6
  rw [List.nodup_append] at n7
  obtain ⟨_, n8, n9⟩ := n7
  refine ⟨n1, n4.1, n4.2.1, n4.2.2, n2, n5.1, n5.2.1, n5.2.2, n3, fun k => n9 z k z (by simp) rfl, (List.nodup_cons.1 n8).1, fun k => n6.2.1 k.symm, n6.1, n6.2.2, fun p hp hq => n9 p hp p (by simp [hq]) rfl⟩
theorem Chord.on_z (h : Chord v w u z A B) {a b : V} (hf : (a, b) ∈ poly (v :: w :: (A ++ z :: B ++ [u]))) (hz : On (a, b) z) : a = z ∨ b = z := by
  obtain ⟨y, hy⟩ : ∃ y, (z, y) ∈ edg z B u := by
    cases B with
    | nil => exact ⟨u, by simp [edg]⟩
    | cons y B => exact ⟨y, by simp [edg]⟩
  by_cases k : (a, b) = (z, y)
  · left; exact (Prod.mk.inj k).1
  · have := h.simple.2.2 (a, b) hf (z, y) (by rw [Chord.poly_eq]; simp [hy]) k z hz (On.left _ _)
    simp only [] at this
    rcases this with ⟨k1, _⟩ | ⟨k1, _⟩
    · exact .inr k1.symm
    · exact .inl k1.symm
theorem Chord.on_v (h : Chord v w u z A B) {a b : V} (hf : (a, b) ∈ edg w A z ++ edg z B u) : ¬ On (a, b) v := by
  intro hv
  have hf' : (a, b) ∈ edg w (A ++ z :: B) u := by rw [edg_append]; exact hf
  have := (old_edges h.simple hf').1 v hv (On.right _ _)
  exact h.nd.2.2.2.2.1 this.1
/-- A vertex of the polygon has a way of its own. -/
theorem Chord.own (h : Chord v w u z A B) {q : V} (hq : q ∈ w :: (A ++ z :: B ++ [u])) : ∃ y, (q, y) ∈ poly (v :: w :: (A ++ z :: B ++ [u])) := by
  have key : ∀ (L : List V) (a b : V), q ∈ a :: L → ∃ y, (q, y) ∈ edg a L b := by
    intro L
    induction L with
    | nil => intro a b hq; simp at hq; subst hq; exact ⟨b, by simp [edg]⟩
    | cons x L ih =>
      intro a b hq
      rcases List.mem_cons.1 hq with rfl | hq
      · exact ⟨x, by simp [edg]⟩
      · obtain ⟨y, hy⟩ := ih x b hq
        exact ⟨y, by rw [edg]; exact List.mem_cons_of_mem _ hy⟩
  obtain ⟨y, hy⟩ := key (w :: (A ++ z :: B ++ [u])) v v (List.mem_cons_of_mem _ hq)
  exact ⟨y, hy⟩
theorem new_edge {l : List (V × V)} {e0 : V × V} (hl : ∀ e ∈ l, ∀ f ∈ l, e ≠ f → ∀ p, On e p → On f p → (p = e.2 ∧ p = f.1) ∨ (p = e.1 ∧ p = f.2))
    (key : ∀ e ∈ l, ∀ p, On e p → On e0 p → (p = e.2 ∧ p = e0.1) ∨ (p = e.1 ∧ p = e0.2)) {l' : List (V × V)} (hm : ∀ e ∈ l', e ∈ l ∨ e = e0) :
    ∀ e ∈ l', ∀ f ∈ l', e ≠ f → ∀ p, On e p → On f p → (p = e.2 ∧ p = f.1) ∨ (p = e.1 ∧ p = f.2) := by
  intro e he f hf hne p hp hq
  rcases hm e he with h1 | rfl
  · rcases hm f hf with h2 | rfl
    · exact hl e h1 f h2 hne p hp hq
    · exact key e h1 p hp hq
  · rcases hm f hf with h2 | rfl
    · rcases key f h2 p hq hp with ⟨k1, k2⟩ | ⟨k1, k2⟩
      · exact .inr ⟨k2, k1⟩
      · exact .inl ⟨k2, k1⟩
    · exact absurd rfl hne
theorem Chord.first (h : Chord v w u z A B) : Simple (v :: w :: (A ++ [z])) := by
  have hnd := h.nd
  obtain ⟨k1, k2, k3, k4, k5, k6, k7, k8, k9, k10, k11, k12, k13, k14, k15⟩ := hnd
  refine ⟨by simp, ?_, ?_⟩
  · refine h.simple.2.1.sublist ?_
    refine List.Sublist.cons_cons _ (List.Sublist.cons_cons _ ?_)
    rw [show A ++ z :: B ++ [u] = (A ++ [z]) ++ (B ++ [u]) by simp]
    exact List.sublist_append_left _ _
  · rw [poly_four]
    refine new_edge (l := (v, w) :: edg w A z) (e0 := (z, v)) ?_ ?_ ?_
    · intro e he f hf
      refine h.simple.2.2 e ?_ f ?_
      · rw [Chord.poly_eq]; simp only [List.mem_cons, List.mem_append] at he ⊢; rcases he with he | he <;> simp [he]
      · rw [Chord.poly_eq]; simp only [List.mem_cons, List.mem_append] at hf ⊢; rcases hf with hf | hf <;> simp [hf]
    · rintro ⟨a, b⟩ he p hp hq
      have hin : (a, b) ∈ poly (v :: w :: (A ++ z :: B ++ [u])) := by
        rw [Chord.poly_eq]; simp only [List.mem_cons, List.mem_append] at he ⊢; rcases he with he | he <;> simp [he]
      rcases h.only a b hin p hp hq.swap with rfl | rfl
      · right
        rcases List.mem_cons.1 he with he | he
        · exact ⟨(Prod.mk.inj he).1.symm, rfl⟩
        · exact absurd hp (h.on_v (by simp [he]))
      · left
        rcases h.on_z hin hp with k | k
        · exfalso
          rcases List.mem_cons.1 he with he | he
          · exact k3 ((Prod.mk.inj he).1.symm.trans k)
          · have := (edg_mem he).1
            simp only [k, List.mem_cons] at this
            rcases this with q | q
            · exact k7 q.symm
            · exact k10 q
        · exact ⟨k.symm, rfl⟩
    · intro e he
      simp only [List.mem_cons, List.mem_append, List.not_mem_nil, or_false] at he ⊢
      rcases he with he | he | he <;> simp [he]
end

theorem IsRot.trans {l l' l'' : List V} (h : IsRot l l') (k : IsRot l' l'') : IsRot l l'' := by
  obtain ⟨A, B, rfl, rfl⟩ := h
  obtain ⟨C, D, h1, rfl⟩ := k
  rcases List.append_eq_append_iff.1 h1 with ⟨E, rfl, rfl⟩ | ⟨E, rfl, rfl⟩
  · exact ⟨E, D ++ B, by simp, by simp⟩
  · exact ⟨A ++ C, E, by simp, by simp⟩
theorem Ear.rot {l l' : List V} {i : V} (h : IsRot l l') (he : Ear l i) : Ear l' i := by
  obtain ⟨b, m, a, hr, h1, h2⟩ := he
  exact ⟨b, m, a, h.symm.trans hr, h1, h2⟩
theorem Ear.mem {l : List V} {i : V} (he : Ear l i) : i ∈ l := by
  obtain ⟨b, m, a, hr, _⟩ := he
  exact (hr.mem i).1 (by simp)
section
variable {v w u z : V} {A B : List V}
end
end Go.Proofs.Ytehfpjlcbhimkaa.Geo
