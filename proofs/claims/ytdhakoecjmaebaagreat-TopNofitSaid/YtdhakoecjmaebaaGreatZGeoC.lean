/-
  slices.SortFunc at zones, by their beginnings: the row holds a permutation, sorted; nothing else turned. Rows of a table.
-/
import Derived.Test.YtdhakoecjmaebaaGreatZSprQ
import Derived.Test.YtdhakoecjmaebaaGreatZRefT
import Derived.Test.YtdhakoecjmaebaaGreatZGeoB
namespace Go.Proofs.YtdhakoecjmaebaaGreat
open Go.RowKit Go.Shelf Go.Lib Go.Sort
set_option linter.unusedSimpArgs false
set_option linter.unusedVariables false

instance instPt : Inhabited Pt := ⟨⟨0, 0⟩⟩
theorem flatK_list (l : List Pt) : (flatK pt2 2 l.toArray).toList = l.flatMap pt2 := by
  have hl : (l.flatMap pt2).length = l.length * 2 := flat_len pt2_len l
  refine List.ext_getElem? fun t => ?_
  by_cases ht : t < l.length * 2
  · have h1 : t / 2 < l.length := by omega
    have e1 : (flatK pt2 2 l.toArray)[t]! = (pt2 l.toArray[t / 2]!)[t % 2]! := get_flatK pt2 2 l.toArray t (by simpa using ht)
    have e2 : l.toArray[t / 2]! = l[t / 2] := by simp [h1]
    have hsz : t < (flatK pt2 2 l.toArray).size := by simpa using ht
    have e3 : (flatK pt2 2 l.toArray).toList[t]? = some (flatK pt2 2 l.toArray)[t]! := by
      rw [Array.getElem?_toList, Array.getElem?_eq_getElem hsz, getElem!_pos _ t hsz]
    rw [e3, e1, e2]
    have h2 : (pt2 (l[t / 2]'h1))[t % 2]? = some ((pt2 (l[t / 2]'h1))[t % 2]!) := by
      have : t % 2 < (pt2 (l[t / 2]'h1)).length := by rw [pt2_len]; omega
      rw [List.getElem?_eq_getElem this, getElem!_pos (pt2 (l[t / 2]'h1)) (t % 2) this]
    have := flat_at pt2_len (List.getElem?_eq_getElem h1) h2
    rw [show t / 2 * 2 + t % 2 = t by omega] at this
    exact this.symm
  · rw [List.getElem?_eq_none (by rw [Array.length_toList, size_flatK]; simp; omega), List.getElem?_eq_none (by rw [hl]; omega)]
theorem own_holds {w : World} {base g cap : Nat} {E : TypeId} {l : List Pt} (h : OwnR w base E 2 pt2 (.slice (some ⟨g, 0, none⟩) l.length cap) l) : HoldsK pt2 2 w g 0 l.toArray := by
  intro j hj
  have hj' : j < l.length * 2 := by simpa using hj
  have hown : w.ownsRow base E 2 (.slice (some ⟨g, 0, none⟩) l.length cap) l.length (l.flatMap pt2) := h
  refine ⟨?_, by rw [Nat.zero_add]; exact hown.frozenAt j⟩
  rw [Nat.zero_add, hown.cellAt j hj', ← flatK_list, Array.getElem?_toList, Array.getElem?_eq_getElem hj, getElem!_pos (flatK pt2 2 l.toArray) j hj]
  rfl
theorem heap_put (w : World) (blk off : Nat) (d : Array Value) (k : Nat) : (putRow id w blk off d).heap[k]? = if blk = k then (w.heap[k]?).map (onCells (putCells id off d)) else w.heap[k]? := by
  unfold putRow mapBlock
  simp only [Array.getElem?_modify]
theorem size_put (w : World) (blk off : Nat) (d : Array Value) : (putRow id w blk off d).heap.size = w.heap.size := by
  unfold putRow mapBlock
  simp
theorem sort_grown (w : World) (g n : Nat) (d : Array Pt) (os : Array Obj) (hg : g < w.heap.size) : w.grownBy (sortWorldK pt2 2 w g 0 n d os) (some g) := by
  refine ⟨rfl, rfl, rfl, ?_, fun k hk hne => ?_⟩
  · have : (putRow id (Sort.ahead w n) g 0 (flatK pt2 2 d)).heap.size = w.heap.size := size_put _ _ _ _
    show w.heap.size ≤ ((putRow id (Sort.ahead w n) g 0 (flatK pt2 2 d)).heap ++ os).size
    rw [Array.size_append, this]
    omega
  · have hs : k < (putRow id (Sort.ahead w n) g 0 (flatK pt2 2 d)).heap.size := by rw [size_put]; exact hk
    show (grow (putRow id (Sort.ahead w n) g 0 (flatK pt2 2 d)) os).heap[k]? = _
    rw [heap_grow_old _ _ hs, heap_put, if_neg (fun e => hne (by rw [e]))]
    rfl
theorem sort_own {w : World} {base g cap n : Nat} {E : TypeId} {l m : List Pt} (os : Array Obj) (h : OwnR w base E 2 pt2 (.slice (some ⟨g, 0, none⟩) l.length cap) l) (hm : m.length = l.length) :
    OwnR (sortWorldK pt2 2 w g 0 n m.toArray os) base E 2 pt2 (.slice (some ⟨g, 0, none⟩) l.length cap) m := by
  rcases h.2 with ⟨h1, _⟩ | ⟨g', cap', cur, hv, hb, hg, hnc, hcm, hcs, htake⟩
  · cases h1
  cases hv
  have hlt : g < w.heap.size := by
    rcases Nat.lt_or_ge g w.heap.size with k | k
    · exact k
    · rw [Array.getElem?_eq_none k] at hg; cases hg
  refine ⟨by rw [flat_len pt2_len], .inr ⟨g, cap, putCells id 0 (flatK pt2 2 m.toArray) cur, by rw [hm], hb, ?_, by omega, hcm, by unfold putCells; rw [Array.size_mapIdx]; exact hcs, ?_⟩⟩
  · have hs : g < (putRow id (Sort.ahead w n) g 0 (flatK pt2 2 m.toArray)).heap.size := by rw [size_put]; exact hlt
    show (grow (putRow id (Sort.ahead w n) g 0 (flatK pt2 2 m.toArray)) os).heap[g]? = _
    rw [heap_grow_old _ _ hs, heap_put, if_pos rfl]
    show (w.heap[g]?).map _ = _
    rw [hg]
    rfl
  · rw [← flatK_list]
    refine List.ext_getElem? fun t => ?_
    rw [List.getElem?_take]
    have hcl : l.length * 2 ≤ cap * 2 := by omega
    split
    · rename_i ht
      have ht2 : t < cur.size := by rw [hcs]; omega
      have ht3 : t < (flatK pt2 2 m.toArray).size := by rw [size_flatK]; simpa using ht
      rw [Array.getElem?_toList, Array.getElem?_toList, Array.getElem?_eq_getElem ht3]
      unfold putCells
      rw [Array.getElem?_mapIdx, Array.getElem?_eq_getElem ht2]
      simp only [Option.map_some, Nat.zero_le, Nat.zero_add, true_and, ht3, if_true, Nat.sub_zero, id]
      rw [getElem!_pos _ t ht3]
    · rename_i ht
      rw [List.getElem?_eq_none]
      rw [Array.length_toList, size_flatK]
      simpa using ht

/- Rows of a table: each its own list. -/
theorem OwnR.ofBlock {α : Type} {cells : α → List Value} {sz : Nat} {w w' : World} {base : Nat} {E : TypeId} {v : Value} {l : List α} (h : OwnR w base E sz cells v l) (hb : ∀ g, v.ownBlock = some g → w'.heap[g]? = w.heap[g]?) : OwnR w' base E sz cells v l := by
  refine ⟨h.1, ?_⟩
  rcases h.2 with ⟨h1, h2⟩ | ⟨g, cap, cur, hv, hbg, hg, r⟩
  · exact .inl ⟨h1, h2⟩
  · exact .inr ⟨g, cap, cur, hv, hbg, (hb g (by rw [hv]; rfl)).trans hg, r⟩
/-- Block T holds n rows of zones; row j lies in a block of its own, behind T. -/
structure ZTab (w : World) (T n : Nat) (vs : Nat → Value) (f : Nat → List Pt) : Prop where
  row : w.rowIs T 188 n vs
  own : ∀ j, j < n → OwnR w (T + 1) 190 2 pt2 (vs j) (f j)
  apart : ∀ i j, i < n → j < n → i ≠ j → ∀ g, (vs i).ownBlock = some g → (vs j).ownBlock ≠ some g
theorem ZTab.later {w w' : World} {T n : Nat} {vs : Nat → Value} {f : Nat → List Pt} (h : ZTab w T n vs f) (k : Later w w') : ZTab w' T n vs f :=
  ⟨rowIs_later h.row k, fun j hj => (h.own j hj).later k, h.apart⟩
/-- One row's block turned. -/
theorem ZTab.turned {w w' : World} {T n r : Nat} {vs : Nat → Value} {f : Nat → List Pt} (h : ZTab w T n vs f) (hr : r < n) (hg : w.grownBy w' (vs r).ownBlock) : w'.rowIs T 188 n vs ∧ ∀ j, j < n → j ≠ r → OwnR w' (T + 1) 190 2 pt2 (vs j) (f j) := by
  refine ⟨h.row.of_block (hg.block T h.row.lt (fun e => ?_)), fun j hj hne => (h.own j hj).ofBlock fun g hgj => hg.block g ((World.ownsRow.lt (h.own j hj) g hgj).2) (fun e => ?_)⟩
  · have := (World.ownsRow.lt (h.own r hr) T e.symm).1
    omega
  · exact h.apart j r hj hr hne g hgj e.symm
/-- One row grew by append; its new slice is laid into the table. -/
theorem ZTab.put {w w' : World} {T n r : Nat} {vs : Nat → Value} {f : Nat → List Pt} {v : Value} {l : List Pt} (h : ZTab w T n vs f) (hr : r < n) (hg : w.grownBy w' (vs r).ownBlock) (hv : OwnR w' (T + 1) 190 2 pt2 v l)
    (hf : v.ownBlock = (vs r).ownBlock ∨ ∃ g, v.ownBlock = some g ∧ w.heap.size ≤ g) : ZTab (w'.setCell ⟨T, r, none⟩ v) T n (fun j => if j = r then v else vs j) (fun j => if j = r then l else f j) := by
  obtain ⟨h1, h2⟩ := h.turned hr hg
  have far : ∀ (u : Value) (m : List Pt), OwnR w' (T + 1) 190 2 pt2 u m → OwnR (w'.setCell ⟨T, r, none⟩ v) (T + 1) 190 2 pt2 u m := by
    intro u m hu
    refine hu.ofBlock fun g hgu => Below.heap_setCell w' ⟨T, r, none⟩ v g ?_
    have := (World.ownsRow.lt hu g hgu).1
    simp only [ne_eq]
    omega
  have key : ∀ j, j < n → j ≠ r → ∀ g, (vs j).ownBlock = some g → v.ownBlock ≠ some g := by
    intro j hj hne g hgj e
    rcases hf with k | ⟨g', k1, k2⟩
    · rw [k] at e
      exact h.apart j r hj hr hne g hgj e
    · rw [k1] at e
      cases e
      have := (World.ownsRow.lt (h.own j hj) _ hgj).2
      omega
  refine ⟨h1.set r v, fun j hj => ?_, fun i j hi hj hij g hgi => ?_⟩
  · by_cases e : j = r
    · rw [if_pos e, if_pos e]; exact far _ _ hv
    · rw [if_neg e, if_neg e]; exact far _ _ (h2 j hj e)
  · by_cases e : i = r
    · rw [if_pos e] at hgi
      rw [if_neg (by omega)]
      intro k
      exact key j hj (by omega) g k hgi
    · rw [if_neg e] at hgi
      by_cases e' : j = r
      · rw [if_pos e']; exact key i hi e g hgi
      · rw [if_neg e']; exact h.apart i j hi hj hij g hgi
end Go.Proofs.YtdhakoecjmaebaaGreat
/-
  Plane geometry over the rationals: the number of turns of a triangle and of a simple polygon about a point; common points of two triangles.
-/
namespace Go.Proofs.YtdhakoecjmaebaaGreat.Geo
set_option linter.unusedVariables false
set_option linter.unusedSimpArgs false

/-- How a triangle turns about a point. -/
def ct (u v w q : V) : Int := cs u v q + cs v w q + cs w u q
theorem wn_cut (v w u : V) (m : List V) (q : V) : wn q (poly (v :: w :: (m ++ [u]))) = wn q (poly (w :: (m ++ [u]))) + ct u v w q := by
  have e1 : poly (w :: (m ++ [u])) = edg w m u ++ [(u, w)] := by rw [poly, edg_append]; rfl
  rw [poly_four, e1]
  unfold ct
  simp only [wn, wn_append]
  have := cs_swap w u q
  omega
/-- A triangle turns about a point once or not at all; about a point that it turns about it lies on every side. -/
theorem tri_01 {u v w q : V} (h : 0 < cr u v w) : (ct u v w q = 0 ∨ ct u v w q = 1) ∧ (ct u v w q = 1 → InT u v w q) := by
  by_cases hx : cr u v q < 0 ∨ cr v w q < 0 ∨ cr w u q < 0
  · have := tri_out h hx
    unfold ct
    omega
  · have hI : InT u v w q := by unfold InT; grind
    refine ⟨?_, fun _ => hI⟩
    obtain ⟨h1, h2, h3⟩ := hI
    unfold ct cs
    clear hx h
    generalize cr u v q = A at *
    generalize cr v w q = B at *
    generalize cr w u q = C at *
    generalize u.y = a at *
    generalize v.y = b at *
    generalize w.y = c at *
    generalize q.y = d at *
    by_cases k1 : a ≤ d <;> by_cases k2 : b ≤ d <;> by_cases k3 : c ≤ d <;> grind
/-- q lies on no line through two of the points. -/
def Gen (q : V) (l : List V) : Prop := ∀ u ∈ l, ∀ w ∈ l, u ≠ w → cr u w q ≠ 0
theorem edg_ne : ∀ {l : List V} {x b : V}, (x :: l).Nodup → b ∉ x :: l → ∀ e ∈ edg x l b, e.1 ≠ e.2 := by
  intro l
  induction l with
  | nil => intro x b h hb e he; simp [edg] at he; subst he; simp at hb; exact fun k => hb k.symm
  | cons y l ih =>
    intro x b h hb e he
    rw [edg] at he
    rcases List.mem_cons.1 he with rfl | he
    · exact fun k => (List.nodup_cons.1 h).1 (by simp only [] at k; rw [k]; simp)
    · exact ih (List.nodup_cons.1 h).2 (fun k => hb (List.mem_cons_of_mem _ k)) e he
theorem poly_ne {l : List V} (h : l.Nodup) (h2 : 2 ≤ l.length) : ∀ e ∈ poly l, e.1 ≠ e.2 ∧ e.1 ∈ l ∧ e.2 ∈ l := by
  intro e he
  match l, h2 with
  | v :: x :: r, _ =>
    have hm := edg_mem (a := v) (l := x :: r) (b := v) he
    refine ⟨?_, hm.1, by have := hm.2; simp at this ⊢; grind⟩
    rw [poly_two] at he
    have hn := List.nodup_cons.1 h
    rcases List.mem_cons.1 he with rfl | he
    · exact fun k => hn.1 (by simp only [] at k; rw [k]; simp)
    · exact edg_ne hn.2 hn.1 e he
theorem Gen.off {q : V} {l : List V} (h : Gen q l) (hn : l.Nodup) (h2 : 2 ≤ l.length) : ∀ e ∈ poly l, ¬ On e q := by
  rintro ⟨a, b⟩ he ho
  obtain ⟨h1, h3, h4⟩ := poly_ne hn h2 _ he
  exact h a h3 b h4 h1 ho.cr0
/-- A simple polygon that runs to the left turns about a point once or not at all. -/
theorem wn_01 : ∀ (n : Nat) (l : List V), l.length = n → Simple l → lam l = 1 → ∀ q, Gen q l → wn q (poly l) = 0 ∨ wn q (poly l) = 1 := by
  intro n
  induction n with
  | zero => intro l h hs; rw [List.eq_nil_of_length_eq_zero h] at hs; simp [Simple] at hs
  | succ n ih =>
    intro l hlen hs hl q hq
    by_cases h3 : l.length = 3
    · obtain ⟨v, w, m, u, hr, hs0, ht, hl0⟩ := top_form hs
      have hm : m = [] := by
        have := hr.len
        simp at this
        exact List.eq_nil_of_length_eq_zero (by omega)
      subst hm
      rw [← hr.wn, wn_cut]
      rcases lam_top hs0 ht with k | k
      · have e : wn q (poly (w :: ([] ++ [u]))) = 0 := by
          have := cs_swap w u q
          simp only [poly, edg, wn, List.nil_append]
          omega
        have := (tri_01 (q := q) k.2).1
        rw [e]
        omega
      · rw [← hl0] at k; omega
    · have h4 : 4 ≤ l.length := by have := hs.1; omega
      obtain ⟨e, he⟩ : ∃ e, e ∈ poly l := by
        cases l with
        | nil => simp at h4
        | cons v r => cases r with
          | nil => simp at h4
          | cons w r => exact ⟨(v, w), by simp [poly, edg]⟩
      obtain ⟨i, ⟨b, m, a, hr, hD, hfree⟩, _⟩ := ears _ l rfl hs hl e he
      obtain ⟨k1, k2⟩ := ear_cut hs h4 hr hD hfree
      obtain ⟨r1, r2, _⟩ := hr.simple hs
      by_cases hin : InT a i b q
      · have := ear_sees r1 hD hfree hin (fun e he => by
          have hg : Gen q (i :: b :: (m ++ [a])) := fun x hx y hy hne => hq x ((hr.mem x).1 hx) y ((hr.mem y).1 hy) hne
          exact hg.off r1.2.1 (by simp) e he)
        rw [hr.wn, r2, hl] at this
        exact .inr this
      · have hz : ct a i b q = 0 := tri_out hD (by unfold InT at hin; grind)
        rw [← hr.wn, wn_cut, hz]
        have := ih (b :: (m ++ [a])) (by have := hr.len; simp at this ⊢; omega) k1 (by rw [k2, hl]) q (fun x hx y hy hne => hq x ((hr.mem x).1 (List.mem_cons_of_mem _ hx)) y ((hr.mem y).1 (List.mem_cons_of_mem _ hy)) hne)
        omega

/- A point that two triangles turn about: no line has them on its two sides. -/
/-- A polygon on one side of a line, and a point on the line: the ray sees nothing of it, if the line runs up (or to the left). -/
theorem half_line {a b x v : V} {l : List V} (h : ∀ p ∈ v :: l, 0 ≤ cr a b p) (hx : cr a b x = 0) (hup : a.y < b.y ∨ (a.y = b.y ∧ b.x < a.x)) : wn x (edg v l v) = 0 := by
  rcases hup with hup | ⟨hy, hxx⟩
  · -- all crossings lie to the left
    have key : ∀ e ∈ edg v l v, cs e.1 e.2 x = 0 := by
      rintro ⟨p, q⟩ he
      have hm := edg_mem he
      have h1 := h p hm.1
      have hq : q ∈ v :: l := by
        rcases List.mem_append.1 hm.2 with k | k
        · exact List.mem_cons_of_mem _ k
        · have k' : q = v := List.mem_singleton.1 k
          rw [k']; simp
      have h2 := h q hq
      have id : (b.y - a.y) * cr p q x = (q.y - p.y) * cr a b x + (x.y - q.y) * cr a b p + (p.y - x.y) * cr a b q := by unfold cr; grind
      rw [hx] at id
      simp only []
      unfold cs
      by_cases c1 : p.y ≤ x.y ∧ x.y < q.y
      · have m1 := Rat.mul_nonneg h1 (show 0 ≤ q.y - x.y by grind)
        have m2 := Rat.mul_nonneg h2 (show 0 ≤ x.y - p.y by grind)
        have m3 : (b.y - a.y) * cr p q x ≤ 0 := by grind
        have m4 : ¬ 0 < cr p q x := fun k => by have := Rat.mul_pos (show 0 < b.y - a.y by grind) k; grind
        grind
      · by_cases c2 : q.y ≤ x.y ∧ x.y < p.y
        · have m1 := Rat.mul_nonneg h1 (show 0 ≤ x.y - q.y by grind)
          have m2 := Rat.mul_nonneg h2 (show 0 ≤ p.y - x.y by grind)
          have m3 : 0 ≤ (b.y - a.y) * cr p q x := by grind
          have m4 : ¬ cr p q x < 0 := fun k => by have := (mul_signs (b.y - a.y) (cr p q x)).2.1 (by grind) k; grind
          grind
        · grind
    have : ∀ L : List (V × V), (∀ e ∈ L, cs e.1 e.2 x = 0) → wn x L = 0 := by
      intro L
      induction L with
      | nil => intro _; rfl
      | cons e L ih => intro hL; rw [wn, hL e (List.mem_cons_self ..), ih (fun f hf => hL f (List.mem_cons_of_mem _ hf))]; rfl
    exact this _ key
  · have hc : ∀ p : V, cr a b p = (b.x - a.x) * (p.y - a.y) := by intro p; unfold cr; rw [hy]; grind
    have hxy : x.y = a.y := by
      have := hc x
      rw [hx] at this
      have : (b.x - a.x) * (x.y - a.y) = 0 := by grind
      rcases Rat.mul_eq_zero.1 this with k | k <;> grind
    have hp : ∀ p ∈ v :: l, p.y ≤ x.y := by
      intro p hp
      have h1 := h p hp
      rw [hc p] at h1
      by_cases hh : p.y ≤ x.y
      · exact hh
      · have := (mul_signs (b.x - a.x) (p.y - a.y)).2.2.1 (by grind) (by grind); grind
    exact wn_low (hp v (by simp)) (hp v (by simp)) (fun p hq => hp p (by simp [hq]))
theorem ct_edg (u v w q : V) : wn q (edg u [v, w] u) = ct u v w q := by unfold ct; simp only [edg, wn]; omega
/-- Of two triangles that turn about one point, neither lies behind a side of the other. -/
theorem both_side {u v w d e f q : V} (h : 0 < cr u v w) (h1 : ct u v w q = 1) (h2 : ct d e f q = 1) : 0 < cr u v d ∨ 0 < cr u v e ∨ 0 < cr u v f := by
  by_cases hn : 0 < cr u v d ∨ 0 < cr u v e ∨ 0 < cr u v f
  · exact hn
  · exfalso
    have z1 : cr u v u = 0 := by unfold cr; grind
    have z2 : cr u v v = 0 := by unfold cr; grind
    have s : ∀ p, cr v u p = - cr u v p := fun p => cr_swap u v p
    have hT : ∀ p ∈ u :: [v, w], 0 ≤ cr u v p := by intro p hp; simp at hp; rcases hp with rfl | rfl | rfl <;> grind
    have hT' : ∀ p ∈ d :: [e, f], 0 ≤ cr v u p := by
      intro p hp
      have := s p
      simp at hp
      rcases hp with rfl | rfl | rfl <;> grind
    rcases tri (cr u v q) 0 with k | k | k
    · have := half_plane hT k
      rw [ct_edg] at this
      omega
    · have hne : u.y ≠ v.y ∨ u.x ≠ v.x := by
        by_cases h5 : u.y = v.y
        · by_cases h6 : u.x = v.x
          · unfold cr at h; rw [h5, h6] at h; grind
          · exact .inr h6
        · exact .inl h5
      by_cases hup : u.y < v.y ∨ (u.y = v.y ∧ v.x < u.x)
      · have := half_line hT k hup
        rw [ct_edg] at this
        omega
      · have hup' : v.y < u.y ∨ (v.y = u.y ∧ u.x < v.x) := by grind
        have := half_line (a := v) (b := u) hT' (by rw [s, k]; grind) hup'
        rw [ct_edg] at this
        omega
    · have := half_plane (a := v) (b := u) (x := q) hT' (by rw [s]; grind)
      rw [ct_edg] at this
      omega

/- Four open convex sets of which each three have a common point have one; so two triangles of which no side parts them. -/
end Go.Proofs.YtdhakoecjmaebaaGreat.Geo
