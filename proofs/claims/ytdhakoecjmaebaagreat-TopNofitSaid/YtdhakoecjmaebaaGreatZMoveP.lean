/-
  Moving all points by one vector changes nothing that polygon.Check (but for the limit), triangle.Split and overlap.Overlap say.
-/
import Derived.Test.YtdhakoecjmaebaaGreatZGeoT
import Derived.Test.YtdhakoecjmaebaaGreatZHits
import Derived.Test.YtdhakoecjmaebaaGreatZPl
namespace Go.Proofs.YtdhakoecjmaebaaGreat
open Go.RowKit
set_option linter.unusedSimpArgs false
set_option linter.unusedVariables false

section
variable (d : Pt)
theorem mv_inj {a b : Pt} : mvP d a = mvP d b ↔ a = b := by
  constructor
  · intro h
    obtain ⟨ax, ay⟩ := a
    obtain ⟨bx, bY⟩ := b
    unfold mvP at h
    simp only [Pt.mk.injEq] at h ⊢
    omega
  · rintro rfl; rfl
theorem gpT {l : List Pt} {j : Nat} (h : j < l.length) : gp (l.map (mvP d)) j = mvP d (gp l j) := by
  rw [gp_eq (by simpa using h), gp_eq h]
  simp
theorem crossT (a b c : Pt) : crossP (mvP d a) (mvP d b) (mvP d c) = crossP a b c := by unfold crossP crossI mvP; grind
theorem crossIT (a b c : Pt) : crossI (a.x + d.x) (a.y + d.y) (b.x + d.x) (b.y + d.y) (c.x + d.x) (c.y + d.y) = crossI a.x a.y b.x b.y c.x c.y := by unfold crossI; grind
theorem bendT {l : List Pt} {i : Nat} (h : i < l.length) : bendI (l.map (mvP d)) i = bendI l i := by
  unfold bendI
  rw [List.length_map, gpT d (Nat.mod_lt _ (by omega)), gpT d h, gpT d (Nat.mod_lt _ (by omega)), crossT]
theorem onT (a b q : Pt) : onB (a.x + d.x) (a.y + d.y) (b.x + d.x) (b.y + d.y) (q.x + d.x) (q.y + d.y) = onB a.x a.y b.x b.y q.x q.y := by
  unfold onB
  rw [crossIT]
  have e1 : (min (a.x + d.x) (b.x + d.x) ≤ q.x + d.x) = (min a.x b.x ≤ q.x) := propext (by omega)
  have e2 : (q.x + d.x ≤ max (a.x + d.x) (b.x + d.x)) = (q.x ≤ max a.x b.x) := propext (by omega)
  have e3 : (min (a.y + d.y) (b.y + d.y) ≤ q.y + d.y) = (min a.y b.y ≤ q.y) := propext (by omega)
  have e4 : (q.y + d.y ≤ max (a.y + d.y) (b.y + d.y)) = (q.y ≤ max a.y b.y) := propext (by omega)
  simp only [e1, e2, e3, e4]
theorem meetT (a b c e : Pt) : meetP (mvP d a) (mvP d b) (mvP d c) (mvP d e) = meetP a b c e := by
  unfold meetP mvP meetB partedB
  simp only [onT, crossIT]
theorem foldedT (a b c : Pt) : foldedP (mvP d a) (mvP d b) (mvP d c) = foldedP a b c := by
  unfold foldedP mvP foldedB
  simp only [crossIT]
  have e1 : a.x + d.x - (b.x + d.x) = a.x - b.x := by omega
  have e2 : c.x + d.x - (b.x + d.x) = c.x - b.x := by omega
  have e3 : a.y + d.y - (b.y + d.y) = a.y - b.y := by omega
  have e4 : c.y + d.y - (b.y + d.y) = c.y - b.y := by omega
  rw [e1, e2, e3, e4]
theorem dupT : ∀ (l pre : List Pt), dupGo (pre.map (mvP d)) (l.map (mvP d)) = dupGo pre l := by
  intro l
  induction l with
  | nil => intro pre; rfl
  | cons p l ih =>
    intro pre
    rw [List.map_cons, dupGo, dupGo]
    have e : mvP d p ∈ pre.map (mvP d) ↔ p ∈ pre := by
      rw [List.mem_map]
      constructor
      · rintro ⟨q, hq, h⟩; rw [mv_inj] at h; subst h; exact hq
      · intro h; exact ⟨p, h, rfl⟩
    have := ih (pre ++ [p])
    rw [List.map_append] at this
    by_cases h : p ∈ pre
    · rw [if_pos (e.2 h), if_pos h]
    · rw [if_neg (fun k => h (e.1 k)), if_neg h]; exact this
theorem innerT {l : List Pt} {i : Nat} (hi : i < l.length) : ∀ f k, k + f ≤ l.length → innerGo (l.map (mvP d)) i f k = innerGo l i f k := by
  intro f
  induction f with
  | zero => intro k _; rfl
  | succ f ih =>
    intro k hk
    rw [innerGo, innerGo, List.length_map, gpT d hi, gpT d (Nat.mod_lt _ (by omega)), gpT d (show k < l.length by omega), gpT d (Nat.mod_lt _ (by omega)), meetT, ih (k + 1) (by omega)]
theorem outerT {l : List Pt} : ∀ f i, i + f ≤ l.length → outerGo (l.map (mvP d)) f i = outerGo l f i := by
  intro f
  induction f with
  | zero => intro k _; rfl
  | succ f ih =>
    intro i hi
    rw [outerGo, outerGo, List.length_map, gpT d (show i < l.length by omega), gpT d (Nat.mod_lt _ (by omega)), gpT d (Nat.mod_lt _ (by omega)), foldedT, ih (i + 1) (by omega)]
    by_cases h2 : i + 2 ≤ l.length
    · rw [innerT d (by omega) _ _ (by omega)]
    · rw [show l.length - (i + 2) = 0 by omega]; rfl
theorem simpleT (l : List Pt) : simpleB (l.map (mvP d)) = simpleB l := by
  unfold simpleB
  have := dupT d l []
  rw [List.map_nil] at this
  rw [this, List.length_map, outerT d _ _ (by omega)]
theorem checkT {l : List Pt} (h : checkI l = 0) (ho : ∀ p ∈ l, outsideB (p.x + d.x) (p.y + d.y) = false) : checkI (l.map (mvP d)) = 0 := by
  unfold checkI at h ⊢
  rw [List.length_map, simpleT]
  have e : (l.map (mvP d)).any (fun p => outsideB p.x p.y) = false := by
    rw [List.any_eq_false]
    intro p hp
    obtain ⟨q, hq, rfl⟩ := List.mem_map.1 hp
    have := ho q hq
    simp only [mvP]
    simp [this]
  rw [e]
  split at h
  · cases h
  · rename_i h1
    rw [if_neg h1]
    split at h
    · cases h
    · rename_i h2
      rw [if_neg h2]
      split at h
      · cases h
      · simpa using h
theorem areaT_go {l : List Pt} (hl : 0 < l.length) : ∀ f i s s', i + f ≤ l.length →
    areaGo (l.map (mvP d)) f i s' = areaGo l f i s + (s' - s) + d.y * ((gp l (i % l.length)).x - (gp l ((i + f) % l.length)).x) + d.x * ((gp l ((i + f) % l.length)).y - (gp l (i % l.length)).y) := by
  intro f
  induction f with
  | zero => intro i s s' _; rw [areaGo, areaGo, Nat.add_zero]; grind
  | succ f ih =>
    intro i s s' hi
    rw [areaGo, areaGo, List.length_map, gpT d (show i < l.length by omega), gpT d (Nat.mod_lt _ hl)]
    rw [ih (i + 1) (s + ((gp l i).x * (gp l ((i + 1) % l.length)).y - (gp l i).y * (gp l ((i + 1) % l.length)).x)) _ (by omega)]
    rw [Nat.mod_eq_of_lt (show i < l.length by omega), show i + 1 + f = i + (f + 1) by omega]
    generalize gp l i = a
    generalize gp l ((i + 1) % l.length) = b
    generalize gp l ((i + (f + 1)) % l.length) = c
    unfold mvP
    simp only []
    grind
theorem areaT {l : List Pt} (hl : 0 < l.length) : areaI (l.map (mvP d)) = areaI l := by
  unfold areaI
  rw [List.length_map, areaT_go d hl _ _ 0 0 (by omega), Nat.zero_add, Nat.mod_self, Nat.zero_mod]
  grind
theorem cornT {l : List Pt} : ∀ f i acc, i + f ≤ l.length → cornGo (l.map (mvP d)) f i (acc.map (mvP d)) = (cornGo l f i acc).map (mvP d) := by
  intro f
  induction f with
  | zero => intro i acc _; rfl
  | succ f ih =>
    intro i acc hi
    rw [cornGo, cornGo, bendT d (show i < l.length by omega), gpT d (show i < l.length by omega), ← ih (i + 1) _ (by omega)]
    by_cases h : bendI l i = 0
    · rw [if_pos h, if_pos h]
    · rw [if_neg h, if_neg h, List.map_append]; rfl
theorem ccwT {l : List Pt} (hl : 0 < l.length) : ccwOf (l.map (mvP d)) = (ccwOf l).map (mvP d) := by
  have hc : cornersOf (l.map (mvP d)) = (cornersOf l).map (mvP d) := by
    have := cornT d (l := l) l.length 0 [] (by omega)
    unfold cornersOf
    rw [List.length_map]
    exact this
  unfold ccwOf
  rw [areaT d hl, hc, rev_reverse, rev_reverse]
  split
  · rw [List.map_reverse]
  · rfl
theorem lessT (a b : Pt) : lessP (mvP d a) (mvP d b) = lessP a b := by
  unfold lessP mvP
  simp only []
  have e1 : (a.x + d.x < b.x + d.x) = (a.x < b.x) := propext (by omega)
  have e2 : (a.x + d.x = b.x + d.x) = (a.x = b.x) := propext (by omega)
  have e3 : (a.y + d.y < b.y + d.y) = (a.y < b.y) := propext (by omega)
  simp only [e1, e2, e3]
theorem leastT {l : List Pt} : ∀ f i m, i + f ≤ l.length → m < l.length → leastGo (l.map (mvP d)) f i m = leastGo l f i m := by
  intro f
  induction f with
  | zero => intro i m _ _; rfl
  | succ f ih =>
    intro i m hi hm
    rw [leastGo, leastGo, gpT d (show i < l.length by omega), gpT d hm, lessT]
    refine ih (i + 1) _ (by omega) ?_
    split <;> omega
theorem rotT (l : List Pt) : rotOf (l.map (mvP d)) = (rotOf l).map (mvP d) := by
  unfold rotOf leastOf
  rw [List.length_map]
  rcases Nat.eq_zero_or_pos l.length with h | h
  · rw [List.eq_nil_of_length_eq_zero h]; rfl
  · rw [leastT d _ _ _ (by omega) h, List.map_append, List.map_drop, List.map_take]
theorem normalT {l : List Pt} (hl : 0 < l.length) : normalOf (l.map (mvP d)) = (normalOf l).map (mvP d) := by
  unfold normalOf
  rw [ccwT d hl, rotT]
theorem holdsT (a b c q : Pt) : holdsI (mvP d a) (mvP d b) (mvP d c) (mvP d q) = holdsI a b c q := by
  unfold holdsI
  simp only [crossT]
theorem freeGoT (a b c : Pt) : ∀ l : List Pt, freeGo (mvP d a) (mvP d b) (mvP d c) (l.map (mvP d)) = freeGo a b c l := by
  intro l
  induction l with
  | nil => rfl
  | cons q l ih =>
    rw [List.map_cons, freeGo, freeGo, holdsT, ih]
    simp only [ne_eq, mv_inj]
theorem freeT {l : List Pt} {i : Nat} (h : i < l.length) : freeB (l.map (mvP d)) i = freeB l i := by
  unfold freeB
  rw [bendT d h, List.length_map, gpT d (Nat.mod_lt _ (by omega)), gpT d h, gpT d (Nat.mod_lt _ (by omega)), freeGoT]
theorem first_congr {t t' : Nat → Bool} : ∀ f k, (∀ j, k ≤ j → j < k + f → t j = t' j) → firstGo t f k = firstGo t' f k := by
  intro f
  induction f with
  | zero => intro k _; rfl
  | succ f ih =>
    intro k h
    rw [firstGo, firstGo, h k (by omega) (by omega), ih (k + 1) (fun j h1 h2 => h j (by omega) (by omega))]
theorem straightT (l : List Pt) : straightAt (l.map (mvP d)) = straightAt l := by
  unfold straightAt
  rw [List.length_map]
  exact first_congr _ _ (fun j _ h => by rw [bendT d (by omega)])
theorem freeAtT (l : List Pt) : freeAt (l.map (mvP d)) = freeAt l := by
  unfold freeAt
  rw [List.length_map]
  exact first_congr _ _ (fun j _ h => freeT d (by omega))
theorem eraseT (l : List Pt) (i : Nat) : (l.map (mvP d)).eraseIdx i = (l.eraseIdx i).map (mvP d) := by
  rw [List.eraseIdx_eq_take_drop_succ, List.eraseIdx_eq_take_drop_succ, List.map_append, List.map_take, List.map_drop]
theorem splitGoT : ∀ f (l : List Pt) (acc : List (List Pt)), splitGo f (l.map (mvP d)) (acc.map (List.map (mvP d))) = (splitGo f l acc).map (List.map (List.map (mvP d))) := by
  intro f
  induction f with
  | zero => intro l acc; rw [splitGo, splitGo]; simp
  | succ f ih =>
    intro l acc
    rw [splitGo, splitGo, List.length_map, straightT, freeAtT]
    split
    · simp
    · rename_i h3
      split
      · rw [eraseT, ih]
      · split
        · rename_i hf
          rcases free_bd l with k | ⟨j, k1, k2, _⟩
          · omega
          · have ht : triOf (l.map (mvP d)) (freeAt l).toNat = (triOf l (freeAt l).toNat).map (mvP d) := by
              rw [k2, Int.toNat_natCast]
              unfold triOf
              rw [List.length_map, gpT d (Nat.mod_lt _ (by omega)), gpT d k1, gpT d (Nat.mod_lt _ (by omega))]
              rfl
            rw [eraseT, ht, ← ih, List.map_append]
            rfl
        · rfl
theorem splitT {l : List Pt} (h : checkI l = 0) (h' : checkI (l.map (mvP d)) = 0) : splitR (l.map (mvP d)) = ((splitR l).1.map (List.map (mvP d)), (splitR l).2) := by
  have hl : 0 < l.length := by
    unfold checkI at h
    split at h
    · cases h
    · split at h
      · cases h
      · omega
  have hs : splitOf (l.map (mvP d)) = (splitOf l).map (List.map (List.map (mvP d))) := by
    unfold splitOf
    rw [normalT d hl, List.length_map]
    exact splitGoT d _ _ []
  unfold splitR
  rw [if_pos h, if_pos h', hs]
  cases splitOf l <;> rfl
theorem mostT (p q : Pt) : ∀ (l : List Pt) (m : Int), mostGo (mvP d p) (mvP d q) (l.map (mvP d)) m = mostGo p q l m := by
  intro l
  induction l with
  | nil => intro m; rfl
  | cons v l ih =>
    intro m
    rw [List.map_cons, mostGo, mostGo, ih]
    have : crossI (mvP d p).x (mvP d p).y (mvP d q).x (mvP d q).y (mvP d v).x (mvP d v).y = crossI p.x p.y q.x q.y v.x v.y := crossIT d p q v
    rw [this]
theorem reachT {a b : List Pt} : ∀ f i m, i + f ≤ a.length → reachGo (a.map (mvP d)) (b.map (mvP d)) f i m = reachGo a b f i m := by
  intro f
  induction f with
  | zero => intro i m _; rfl
  | succ f ih =>
    intro i m hi
    rw [reachGo, reachGo, List.length_map, gpT d (show i < a.length by omega), gpT d (Nat.mod_lt _ (by omega)), mostT, ih (i + 1) _ (by omega)]
theorem contactT (a b : List Pt) : contactI (a.map (mvP d)) (b.map (mvP d)) = contactI a b := by
  unfold contactI reachI
  rw [List.length_map, List.length_map, reachT d _ _ _ (by omega), reachT d _ _ _ (by omega)]
end

end Go.Proofs.YtdhakoecjmaebaaGreat
