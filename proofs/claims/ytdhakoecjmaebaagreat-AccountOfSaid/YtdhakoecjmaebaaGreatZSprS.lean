/-
 slices.SortFunc at zones, by their beginnings: the row holds a permutation, sorted; nothing else turned. Rows of a table.
-/
import Derived.Test.YtdhakoecjmaebaaGreatZSplP
import Derived.Test.YtdhakoecjmaebaaGreatZSprW
import Derived.Test.YtdhakoecjmaebaaGreatZRefT
namespace Go.Proofs.YtdhakoecjmaebaaGreat
open Go.RowKit Go.Shelf Go.Lib Go.Sort
set_option linter.unusedSimpArgs false
set_option linter.unusedVariables false
instance instPt : Inhabited Pt := ⟨⟨0, 0⟩⟩
set_option maxHeartbeats 1000000 in
theorem used_cmp (x y : Pt) (W : World) : Calls Tryz.prog 120 #[.agg #[.int .i64 x.x, .int .i64 x.y], .agg #[.int .i64 y.x, .int .i64 y.y]] W fun e w' => e = .returned (.int .i64 (Lib.compareInt x.x y.x)) ∧ ∃ q os', w' = grow (W.drewN q) os' := by
 have hcon := fun W' => AnyG.cmp_Compare_int cmpInt x.x y.x W'
 change ∀ W', Calls Tryz.prog 95 _ _ _ at hcon
 generalize Lib.compareInt x.x y.x = r at hcon ⊢
 go_enter Tryz.func120, Tryz.ntmps120
 go_wp2_with (go_at_call 95; refine (hcon _).mono ?_; rintro e w' ⟨rfl, rfl⟩)
 go_ret
 exact ⟨rfl, 0, _, by rw [alloc_eq_grow, alloc_eq_grow, grow_grow]; rfl⟩
theorem used_lays (blk off size : Nat) (w : World) : CmpLays Tryz.prog 120 #[] pt2 2 (fun x y => Lib.compareInt x.x y.x) blk off size w :=
 fun _ _ _ _ x y => used_cmp x y _
theorem used_lt (x y : Pt) : ltOf (fun x y : Pt => Lib.compareInt x.x y.x) x y = decide (x.x < y.x) := by
 unfold ltOf Lib.compareInt
 by_cases h1 : x.x < y.x
 ·simp [h1]
 ·by_cases h2 : y.x < x.x <;> simp [h1, h2]
theorem used_swo : SWO (ltOf fun x y : Pt => Lib.compareInt x.x y.x) where
 irrefl x := by rw [used_lt]; simp
 trans x y z h1 h2 := by rw [used_lt] at *; simp at *; omega
 ntrans x y z h1 h2 := by rw [used_lt] at *; simp at *; omega
theorem flatK_list (l : List Pt) : (flatK pt2 2 l.toArray).toList = l.flatMap pt2 := by
 have hl : (l.flatMap pt2).length = l.length * 2 := flat_len pt2_len l
 refine List.ext_getElem? fun t => ?_
 by_cases ht : t < l.length * 2
 ·have h1 : t / 2 < l.length := by omega
  have e1 : (flatK pt2 2 l.toArray)[t]! = (pt2 l.toArray[t / 2]!)[t % 2]! := get_flatK pt2 2 l.toArray t (by simpa using ht)
  have e2 : l.toArray[t / 2]! = l[t / 2] := by simp [h1]
  have hsz : t < (flatK pt2 2 l.toArray).size := by simpa using ht
  have e3 : (flatK pt2 2 l.toArray).toList[t]? = some (flatK pt2 2 l.toArray)[t]! := by
   rw [Array.getElem?_toList, Array.getElem?_eq_getElem hsz, getElem!_pos _ t hsz]
  rw [e3, e1, e2]
  have h2 : (pt2 (l[t / 2]'h1))[t % 2]? = some ((pt2 (l[t / 2]'h1))[t % 2]!) := by
   have : t % 2 < (pt2 (l[t / 2]'h1)).length := by rw [pt2_len]; omega
   rw [List.getElem?_eq_getElem this, getElem!_pos (pt2 (l[t / 2]'h1)) (t % 2) this]
  have := flat_at pt2_len (List.getElem?_eq_getElem h1) h2
  rw [show t / 2 * 2 + t % 2 = t by omega] at this
  exact this.symm
 ·rw [List.getElem?_eq_none (by rw [Array.length_toList, size_flatK]; simp; omega), List.getElem?_eq_none (by rw [hl]; omega)]
theorem own_holds {w : World} {base g cap : Nat} {E : TypeId} {l : List Pt} (h : OwnR w base E 2 pt2 (.slice (some ⟨g, 0, none⟩) l.length cap) l) : HoldsK pt2 2 w g 0 l.toArray := by
 intro j hj
 have hj' : j < l.length * 2 := by simpa using hj
 have hown : w.ownsRow base E 2 (.slice (some ⟨g, 0, none⟩) l.length cap) l.length (l.flatMap pt2) := h
 refine ⟨?_, by rw [Nat.zero_add]; exact hown.frozenAt j⟩
 rw [Nat.zero_add, hown.cellAt j hj', ← flatK_list, Array.getElem?_toList, Array.getElem?_eq_getElem hj, getElem!_pos (flatK pt2 2 l.toArray) j hj]
 rfl
theorem heap_put (w : World) (blk off : Nat) (d : Array Value) (k : Nat) : (putRow id w blk off d).heap[k]? = if blk = k then (w.heap[k]?).map (onCells (putCells id off d)) else w.heap[k]? := by
 unfold putRow mapBlock
 simp only [Array.getElem?_modify]
theorem size_put (w : World) (blk off : Nat) (d : Array Value) : (putRow id w blk off d).heap.size = w.heap.size := by
 unfold putRow mapBlock
 simp
theorem sort_grown (w : World) (g n : Nat) (d : Array Pt) (os : Array Obj) (hg : g < w.heap.size) : w.grownBy (sortWorldK pt2 2 w g 0 n d os) (some g) := by
 refine ⟨rfl, rfl, rfl, ?_, fun k hk hne => ?_⟩
 ·have : (putRow id (Sort.ahead w n) g 0 (flatK pt2 2 d)).heap.size = w.heap.size := size_put _ _ _ _
  show w.heap.size ≤ ((putRow id (Sort.ahead w n) g 0 (flatK pt2 2 d)).heap ++ os).size
  rw [Array.size_append, this]
  omega
 ·have hs : k < (putRow id (Sort.ahead w n) g 0 (flatK pt2 2 d)).heap.size := by rw [size_put]; exact hk
  show (grow (putRow id (Sort.ahead w n) g 0 (flatK pt2 2 d)) os).heap[k]? = _
  rw [heap_grow_old _ _ hs, heap_put, if_neg (fun e => hne (by rw [e]))]
  rfl
theorem sort_own {w : World} {base g cap n : Nat} {E : TypeId} {l m : List Pt} (os : Array Obj) (h : OwnR w base E 2 pt2 (.slice (some ⟨g, 0, none⟩) l.length cap) l) (hm : m.length = l.length) :
  OwnR (sortWorldK pt2 2 w g 0 n m.toArray os) base E 2 pt2 (.slice (some ⟨g, 0, none⟩) l.length cap) m := by
 rcases h.2 with ⟨h1, _⟩ | ⟨g', cap', cur, hv, hb, hg, hnc, hcm, hcs, htake⟩
 ·cases h1
 cases hv
 have hlt : g < w.heap.size := by
  rcases Nat.lt_or_ge g w.heap.size with k | k
  ·exact k
  ·rw [Array.getElem?_eq_none k] at hg; cases hg
 refine ⟨by rw [flat_len pt2_len], .inr ⟨g, cap, putCells id 0 (flatK pt2 2 m.toArray) cur, by rw [hm], hb, ?_, by omega, hcm, by unfold putCells; rw [Array.size_mapIdx]; exact hcs, ?_⟩⟩
 ·have hs : g < (putRow id (Sort.ahead w n) g 0 (flatK pt2 2 m.toArray)).heap.size := by rw [size_put]; exact hlt
  show (grow (putRow id (Sort.ahead w n) g 0 (flatK pt2 2 m.toArray)) os).heap[g]? = _
  rw [heap_grow_old _ _ hs, heap_put, if_pos rfl]
  show (w.heap[g]?).map _ = _
  rw [hg]
  rfl
 ·rw [← flatK_list]
  refine List.ext_getElem? fun t => ?_
  rw [List.getElem?_take]
  have hcl : l.length * 2 ≤ cap * 2 := by omega
  split
  ·rename_i ht
   have ht2 : t < cur.size := by rw [hcs]; omega
   have ht3 : t < (flatK pt2 2 m.toArray).size := by rw [size_flatK]; simpa using ht
   rw [Array.getElem?_toList, Array.getElem?_toList, Array.getElem?_eq_getElem ht3]
   unfold putCells
   rw [Array.getElem?_mapIdx, Array.getElem?_eq_getElem ht2]
   simp only [Option.map_some, Nat.zero_le, Nat.zero_add, true_and, ht3, if_true, Nat.sub_zero, id]
   rw [getElem!_pos _ t ht3]
  ·rename_i ht
   rw [List.getElem?_eq_none]
   rw [Array.length_toList, size_flatK]
   simpa using ht
def SortPost (base g cap : Nat) (l : List Pt) (w : World) (e : Ending) (w' : World) : Prop :=
 e = .returned (.tuple #[]) ∧ ∃ m : List Pt, m.Perm l ∧ (m.Pairwise fun a b => a.x ≤ b.x) ∧ OwnR w' base 190 2 pt2 (.slice (some ⟨g, 0, none⟩) l.length cap) m ∧ w.grownBy w' (some g)
theorem sort_zones (base g cap : Nat) (l : List Pt) (w : World) (h : OwnR w base 190 2 pt2 (.slice (some ⟨g, 0, none⟩) l.length cap) l) (hl : l.length ≤ 65536) :
  Calls Tryz.prog 119 #[.slice (some ⟨g, 0, none⟩) l.length cap, .func (.func 120) #[] #[]] w (SortPost base g cap l w) := by
 have eg : ∀ args w, (callFunc 120 args).run Tryz.prog w = .ok (.enter 120 args) w := enters_of Tryz.func120 (by kernel_rfl) rfl
 have hlt : g < w.heap.size := (World.ownsRow.lt h g rfl).2
 have hcon := AnyQ.slices_SortFunc sortZn 2 Tryz.isAgg190 Tryz.sizeOf190 pt2 pt2_len pt2_one (fun x y => Lib.compareInt x.x y.x) used_swo 120 #[] g 0 cap l.toArray w eg (used_lays g 0 _ w) (own_holds h) hlt (by simp; omega)
 change Calls Tryz.prog 119 _ _ _ at hcon
 rw [List.size_toArray] at hcon
 refine hcon.mono ?_
 rintro e w' ⟨rfl, d', n, os, hp, hs, rfl⟩
 obtain ⟨p1, p2, p3⟩ := hp
 have hsz : d'.size = l.length := by simpa using p1
 refine ⟨rfl, d'.toList, ?_, ?_, ?_, sort_grown w g n d' os hlt⟩
 ·rw [show d'.extract 0 l.length = d' by rw [← hsz]; exact Array.extract_size, show l.toArray.extract 0 l.length = l.toArray by rw [show l.length = l.toArray.size from List.size_toArray.symm]; exact Array.extract_size] at p3
  exact p3
 ·rw [List.pairwise_iff_getElem]
  intro i j hi hj hij
  have hi' : i < d'.size := by simpa using hi
  have hj' : j < d'.size := by simpa using hj
  have := hs i j (Nat.zero_le _) hij (by omega)
  rw [used_lt, getElem!_pos d' i hi', getElem!_pos d' j hj'] at this
  simp only [Array.getElem_toList]
  have := of_decide_eq_false this
  omega
 ·have := sort_own (n := n) (m := d'.toList) os h (by simpa using hsz)
  exact this
theorem OwnR.ofBlock {α : Type} {cells : α → List Value} {sz : Nat} {w w' : World} {base : Nat} {E : TypeId} {v : Value} {l : List α} (h : OwnR w base E sz cells v l) (hb : ∀ g, v.ownBlock = some g → w'.heap[g]? = w.heap[g]?) : OwnR w' base E sz cells v l := by
 refine ⟨h.1, ?_⟩
 rcases h.2 with ⟨h1, h2⟩ | ⟨g, cap, cur, hv, hbg, hg, r⟩
 ·exact .inl ⟨h1, h2⟩
 ·exact .inr ⟨g, cap, cur, hv, hbg, (hb g (by rw [hv]; rfl)).trans hg, r⟩
structure ZTab (w : World) (T n : Nat) (vs : Nat → Value) (f : Nat → List Pt) : Prop where
 row : w.rowIs T 188 n vs
 own : ∀ j, j < n → OwnR w (T + 1) 190 2 pt2 (vs j) (f j)
 apart : ∀ i j, i < n → j < n → i ≠ j → ∀ g, (vs i).ownBlock = some g → (vs j).ownBlock ≠ some g
theorem ZTab.later {w w' : World} {T n : Nat} {vs : Nat → Value} {f : Nat → List Pt} (h : ZTab w T n vs f) (k : Later w w') : ZTab w' T n vs f :=
 ⟨rowIs_later h.row k, fun j hj => (h.own j hj).later k, h.apart⟩
theorem ZTab.turned {w w' : World} {T n r : Nat} {vs : Nat → Value} {f : Nat → List Pt} (h : ZTab w T n vs f) (hr : r < n) (hg : w.grownBy w' (vs r).ownBlock) : w'.rowIs T 188 n vs ∧ ∀ j, j < n → j ≠ r → OwnR w' (T + 1) 190 2 pt2 (vs j) (f j) := by
 refine ⟨h.row.of_block (hg.block T h.row.lt (fun e => ?_)), fun j hj hne => (h.own j hj).ofBlock fun g hgj => hg.block g ((World.ownsRow.lt (h.own j hj) g hgj).2) (fun e => ?_)⟩
 ·have := (World.ownsRow.lt (h.own r hr) T e.symm).1
  omega
 ·exact h.apart j r hj hr hne g hgj e.symm
theorem ZTab.put {w w' : World} {T n r : Nat} {vs : Nat → Value} {f : Nat → List Pt} {v : Value} {l : List Pt} (h : ZTab w T n vs f) (hr : r < n) (hg : w.grownBy w' (vs r).ownBlock) (hv : OwnR w' (T + 1) 190 2 pt2 v l)
  (hf : v.ownBlock = (vs r).ownBlock ∨ ∃ g, v.ownBlock = some g ∧ w.heap.size ≤ g) : ZTab (w'.setCell ⟨T, r, none⟩ v) T n (fun j => if j = r then v else vs j) (fun j => if j = r then l else f j) := by
 obtain ⟨h1, h2⟩ := h.turned hr hg
 have far : ∀ (u : Value) (m : List Pt), OwnR w' (T + 1) 190 2 pt2 u m → OwnR (w'.setCell ⟨T, r, none⟩ v) (T + 1) 190 2 pt2 u m := by
  intro u m hu
  refine hu.ofBlock fun g hgu => Below.heap_setCell w' ⟨T, r, none⟩ v g ?_
  have := (World.ownsRow.lt hu g hgu).1
  simp only [ne_eq]
  omega
 have key : ∀ j, j < n → j ≠ r → ∀ g, (vs j).ownBlock = some g → v.ownBlock ≠ some g := by
  intro j hj hne g hgj e
  rcases hf with k | ⟨g', k1, k2⟩
  ·rw [k] at e
   exact h.apart j r hj hr hne g hgj e
  ·rw [k1] at e
   cases e
   have := (World.ownsRow.lt (h.own j hj) _ hgj).2
   omega
 refine ⟨h1.set r v, fun j hj => ?_, fun i j hi hj hij g hgi => ?_⟩
 ·by_cases e : j = r
  ·rw [if_pos e, if_pos e]; exact far _ _ hv
  ·rw [if_neg e, if_neg e]; exact far _ _ (h2 j hj e)
 ·by_cases e : i = r
  ·rw [if_pos e] at hgi
   rw [if_neg (by omega)]
   intro k
   exact key j hj (by omega) g k hgi
  ·rw [if_neg e] at hgi
   by_cases e' : j = r
   ·rw [if_pos e']; exact key i hi e g hgi
   ·rw [if_neg e']; exact h.apart i j hi hj hij g hgi
theorem ZTab.sort {w w' : World} {T n r : Nat} {vs : Nat → Value} {f : Nat → List Pt} {l : List Pt} (h : ZTab w T n vs f) (hr : r < n) (hg : w.grownBy w' (vs r).ownBlock) (hv : OwnR w' (T + 1) 190 2 pt2 (vs r) l) : ZTab w' T n vs (fun j => if j = r then l else f j) := by
 obtain ⟨h1, h2⟩ := h.turned hr hg
 refine ⟨h1, fun j hj => ?_, h.apart⟩
 by_cases e : j = r
 ·subst e; rw [if_pos rfl]; exact hv
 ·rw [if_neg e]; exact h2 j hj e
end Go.Proofs.YtdhakoecjmaebaaGreat
