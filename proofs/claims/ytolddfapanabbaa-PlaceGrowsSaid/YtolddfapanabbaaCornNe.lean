/-
  A simple polygon turns somewhere.
-/
import Derived.Test.YtolddfapanabbaaNormP
namespace Go.Proofs.Ytolddfapanabbaa
open Go.RowKit
set_option linter.unusedSimpArgs false
set_option linter.unusedVariables false

theorem sq_nonneg (x : Int) : 0 ≤ x * x := by
  rcases Int.le_total 0 x with h | h
  · exact Int.mul_nonneg h h
  · have := Int.mul_nonneg (show 0 ≤ -x by omega) (show 0 ≤ -x by omega)
    rwa [Int.neg_mul_neg] at this
theorem sq_zero {x : Int} (h : x * x = 0) : x = 0 := by
  rcases Int.mul_eq_zero.1 h with h | h <;> exact h
theorem vec_pos {x y : Int} (h : x ≠ 0 ∨ y ≠ 0) : 0 < x * x + y * y := by
  have a := sq_nonneg x
  have b := sq_nonneg y
  rcases Int.lt_or_eq_of_le (show 0 ≤ x * x + y * y by omega) with k | k
  · exact k
  · have a' : x = 0 := sq_zero (by omega)
    have b' : y = 0 := sq_zero (by omega)
    rcases h with h | h <;> contradiction
theorem pos_of_mul {a b : Int} (hb : 0 < b) (h : 0 < a * b) : 0 < a := by
  rcases Int.lt_or_le 0 a with k | k
  · exact k
  · have := Int.mul_nonneg (show 0 ≤ -a by omega) (Int.le_of_lt hb)
    rw [Int.neg_mul] at this
    omega
theorem vec_step (ux uy vx vy wx wy : Int) (h1 : ux * vy - uy * vx = 0) (h2 : 0 < ux * vx + uy * vy) (h3 : vx * wy - vy * wx = 0) (h4 : 0 ≤ vx * wx + vy * wy) (hw : wx ≠ 0 ∨ wy ≠ 0) : ux * wy - uy * wx = 0 ∧ 0 < ux * wx + uy * wy := by
  have hv0 : vx ≠ 0 ∨ vy ≠ 0 := by
    rcases Classical.em (vx = 0) with a | a
    · rcases Classical.em (vy = 0) with b | b
      · subst a b; simp at h2
      · exact .inr b
    · exact .inl a
  have hv := vec_pos hv0
  have hww := vec_pos hw
  have e1 : (ux * wy - uy * wx) * (vx * vx + vy * vy) = (ux * vy - uy * vx) * (vx * wx + vy * wy) + (ux * vx + uy * vy) * (vx * wy - vy * wx) := by grind
  have e2 : (ux * wx + uy * wy) * (vx * vx + vy * vy) = (ux * vx + uy * vy) * (vx * wx + vy * wy) - (ux * vy - uy * vx) * (vx * wy - vy * wx) := by grind
  have e3 : (vx * vx + vy * vy) * (wx * wx + wy * wy) = (vx * wx + vy * wy) * (vx * wx + vy * wy) + (vx * wy - vy * wx) * (vx * wy - vy * wx) := by grind
  rw [h1, h3] at e1 e2
  rw [h3] at e3
  have h5 : 0 < vx * wx + vy * wy := by
    rcases Int.lt_or_eq_of_le h4 with k | k
    · exact k
    · rw [← k] at e3
      have := Int.mul_pos hv hww
      simp at e3
      omega
  constructor
  · simp only [Int.zero_mul, Int.mul_zero, Int.add_zero] at e1
    rcases Int.mul_eq_zero.1 e1 with k | k
    · exact k
    · omega
  · have := Int.mul_pos h2 h5
    simp only [Int.zero_mul, Int.sub_zero] at e2
    exact pos_of_mul hv (by omega)

theorem cornGo_nil (ps : List Pt) : ∀ f i acc, cornGo ps f i acc = [] → acc = [] ∧ ∀ k, i ≤ k → k < i + f → bendI ps k = 0 := by
  intro f
  induction f with
  | zero => intro i acc h; exact ⟨h, fun k h1 h2 => by omega⟩
  | succ f ih =>
    intro i acc h
    rw [cornGo] at h
    obtain ⟨h1, h2⟩ := ih _ _ h
    split at h1
    · rename_i hb
      refine ⟨h1, fun k k1 k2 => ?_⟩
      rcases Nat.lt_or_ge i k with hh | hh
      · exact h2 k (by omega) (by omega)
      · rw [show k = i by omega]; exact hb
    · simp at h1
theorem outerGo_true (ps : List Pt) : ∀ f i, outerGo ps f i = true → ∀ k, i ≤ k → k < i + f → foldedP (gp ps k) (gp ps ((k + 1) % ps.length)) (gp ps ((k + 2) % ps.length)) = false ∧ innerGo ps k (ps.length - (k + 2)) (k + 2) = false := by
  intro f
  induction f with
  | zero => intro i h k k1 k2; omega
  | succ f ih =>
    intro i h k k1 k2
    rw [outerGo] at h
    split at h
    · cases h
    · split at h
      · cases h
      · rename_i a b
        rcases Nat.lt_or_ge i k with hh | hh
        · exact ih (i + 1) h k (by omega) (by omega)
        · rw [show k = i by omega]; exact ⟨by simpa using a, by simpa using b⟩
theorem dupGo_false (l : List Pt) : ∀ pre, dupGo pre l = false → ∀ i j (hi : i < l.length) (hj : j < l.length), i < j → l[i] ≠ l[j] := by
  have key : ∀ (l : List Pt) (pre : List Pt), dupGo pre l = false → ∀ p ∈ pre, p ∉ l := by
    intro l
    induction l with
    | nil => intro pre h p hp; simp
    | cons q l ih =>
      intro pre h p hp
      rw [dupGo] at h
      split at h
      · cases h
      · rename_i hq
        intro hm
        rcases List.mem_cons.1 hm with rfl | hm
        · exact hq hp
        · exact ih _ h p (by simp [hp]) hm
  induction l with
  | nil => intro pre h i j hi; simp at hi
  | cons q l ih =>
    intro pre h i j hi hj hij
    rw [dupGo] at h
    split at h
    · cases h
    · cases j with
      | zero => omega
      | succ j =>
        cases i with
        | zero =>
          intro he
          exact key l (pre ++ [q]) h q (by simp) (by simp at he; rw [he]; exact List.getElem_mem _)
        | succ i =>
          exact ih _ h i j (by simpa using hi) (by simpa using hj) (by omega)

theorem simple_of_check {ps : List Pt} (h : checkI ps = 0) : simpleB ps = true ∧ 3 ≤ ps.length ∧ ps.length ≤ 40 := by
  unfold checkI at h
  split at h
  · cases h
  · split at h
    · cases h
    · split at h
      · cases h
      · split at h
        · exact ⟨by assumption, by omega, by omega⟩
        · cases h
theorem distinct_of_simple {ps : List Pt} (h : simpleB ps = true) {i j : Nat} (hi : i < ps.length) (hj : j < ps.length) (hne : i ≠ j) : gp ps i ≠ gp ps j := by
  unfold simpleB at h
  split at h
  · cases h
  · rename_i hd
    have hd' : dupGo [] ps = false := by simpa using hd
    rw [gp_eq hi, gp_eq hj]
    rcases Nat.lt_or_ge i j with k | k
    · exact dupGo_false ps [] hd' i j hi hj k
    · exact fun e => dupGo_false ps [] hd' j i hj hi (by omega) e.symm

theorem corners_ne {ps : List Pt} (h : checkI ps = 0) : 0 < (cornersOf ps).length := by
  obtain ⟨hs, h3, h40⟩ := simple_of_check h
  rcases Nat.eq_zero_or_pos (cornersOf ps).length with h0 | h0
  case inr => exact h0
  exfalso
  have hnil : cornersOf ps = [] := List.eq_nil_of_length_eq_zero h0
  obtain ⟨_, hb⟩ := cornGo_nil ps _ _ _ hnil
  have ho : outerGo ps ps.length 0 = true := by
    have hs' := hs
    unfold simpleB at hs'
    split at hs'
    · cases hs'
    · exact hs'
  have hfold := outerGo_true ps _ _ ho
  -- the ways from vertex to vertex
  have step : ∀ k, k < ps.length → ((gp ps 1).x - (gp ps 0).x) * ((gp ps ((k + 1) % ps.length)).y - (gp ps k).y) - ((gp ps 1).y - (gp ps 0).y) * ((gp ps ((k + 1) % ps.length)).x - (gp ps k).x) = 0 ∧
      0 < ((gp ps 1).x - (gp ps 0).x) * ((gp ps ((k + 1) % ps.length)).x - (gp ps k).x) + ((gp ps 1).y - (gp ps 0).y) * ((gp ps ((k + 1) % ps.length)).y - (gp ps k).y) := by
    intro k
    induction k with
    | zero =>
      intro _
      rw [show (0 + 1) % ps.length = 1 from Nat.mod_eq_of_lt (by omega)]
      refine ⟨by grind, vec_pos ?_⟩
      have hd := distinct_of_simple hs (i := 0) (j := 1) (by omega) (by omega) (by omega)
      rw [Ne, pt_eq] at hd
      omega
    | succ k ih =>
      intro hk
      obtain ⟨i1, i2⟩ := ih (by omega)
      have hm : (k + 1) % ps.length = k + 1 := Nat.mod_eq_of_lt hk
      rw [hm] at i1 i2
      have hbend := hb (k + 1) (by omega) (by omega)
      unfold bendI crossP at hbend
      rw [show (k + 1 + ps.length - 1) % ps.length = k by rw [show k + 1 + ps.length - 1 = k + ps.length by omega, Nat.add_mod_right]; exact Nat.mod_eq_of_lt (by omega)] at hbend
      have hf := (hfold k (by omega) (by omega)).1
      rw [hm, show k + 2 = k + 1 + 1 by omega] at hf
      unfold foldedP foldedB at hf
      rw [hbend] at hf
      have hd := distinct_of_simple hs (i := k + 1) (j := (k + 1 + 1) % ps.length) (by omega) (Nat.mod_lt _ (by omega)) (by
        rcases Nat.lt_or_ge (k + 1 + 1) ps.length with q | q
        · rw [Nat.mod_eq_of_lt q]; omega
        · rw [show k + 1 + 1 = ps.length by omega, Nat.mod_self]; omega)
      rw [Ne, pt_eq] at hd
      generalize gp ps ((k + 1 + 1) % ps.length) = c at *
      generalize gp ps (k + 1) = b at *
      generalize gp ps k = a at *
      generalize (gp ps 1).x - (gp ps 0).x = ux at *
      generalize (gp ps 1).y - (gp ps 0).y = uy at *
      unfold crossI at hbend
      simp only [decide_true, Bool.true_and, decide_eq_false_iff_not, Int.not_lt] at hf
      refine vec_step ux uy (b.x - a.x) (b.y - a.y) (c.x - b.x) (c.y - b.y) i1 i2 (by grind) (by grind) (by omega)
  -- along the first way all vertices come one behind the other
  have mono : ∀ k, k < ps.length → ((gp ps 1).x - (gp ps 0).x) * (gp ps 0).x + ((gp ps 1).y - (gp ps 0).y) * (gp ps 0).y ≤ ((gp ps 1).x - (gp ps 0).x) * (gp ps k).x + ((gp ps 1).y - (gp ps 0).y) * (gp ps k).y := by
    intro k
    induction k with
    | zero => intro _; exact Int.le_refl _
    | succ k ih =>
      intro hk
      have i1 := ih (by omega)
      have i2 := (step k (by omega)).2
      rw [Nat.mod_eq_of_lt hk] at i2
      simp only [Int.mul_sub] at i2
      omega
  have last := (step (ps.length - 1) (by omega)).2
  rw [show ps.length - 1 + 1 = ps.length by omega, Nat.mod_self] at last
  have m := mono (ps.length - 1) (by omega)
  simp only [Int.mul_sub] at last
  omega

end Go.Proofs.Ytolddfapanabbaa
