/-
  Words for the walk of triangle.Split: the triangles so far, the polygon that is left, one vertex taken out.
  What stays as it is when triangle.Split takes a vertex out.
  Plain facts on the normal form: how long it is, that its points are the polygon's, that a simple polygon has a corner.
  A simple polygon turns somewhere.
  The walk of triangle.Split.
  triangle.Split at every list of points.
-/
import Derived.Test.YtdhakoecjmaebaaGreatZNorm
import Derived.Test.YtdhakoecjmaebaaGreatZFree
import Derived.Laws.EntriesVeiled
import Derived.Deep.LoopGhost
/- Words for the walk of triangle.Split: the triangles so far, the polygon that is left, one vertex taken out. -/
namespace Go.Proofs.YtdhakoecjmaebaaGreat
open Go.RowKit
set_option linter.unusedSimpArgs false
set_option linter.unusedVariables false

def triOf (l : List Pt) (j : Nat) : List Pt := [gp l ((j + l.length - 1) % l.length), gp l j, gp l ((j + 1) % l.length)]
def straightAt (l : List Pt) : Int := firstGo (fun k => decide (bendI l k = 0)) l.length 0
def freeAt (l : List Pt) : Int := firstGo (freeB l) l.length 0
/-- triangle.Split, from the normal form on: none if no vertex can be cut off. -/
def splitGo : Nat → List Pt → List (List Pt) → Option (List (List Pt))
  | 0, l, acc => some (acc ++ [l])
  | f + 1, l, acc =>
    if l.length ≤ 3 then some (acc ++ [l])
    else if 0 ≤ straightAt l then splitGo f (l.eraseIdx (straightAt l).toNat) acc
    else if 0 ≤ freeAt l then splitGo f (l.eraseIdx (freeAt l).toNat) (acc ++ [triOf l (freeAt l).toNat])
    else none
def splitOf (ps : List Pt) : Option (List (List Pt)) := splitGo (normalOf ps).length (normalOf ps) []

theorem first_bd (t : Nat → Bool) : ∀ f k, firstGo t f k = -1 ∨ ∃ j, k ≤ j ∧ j < k + f ∧ firstGo t f k = (j : Int) ∧ t j = true := by
  intro f
  induction f with
  | zero => intro k; exact .inl rfl
  | succ f ih =>
    intro k
    rw [firstGo]
    split
    · exact .inr ⟨k, by omega, by omega, rfl, by assumption⟩
    · rcases ih (k + 1) with h | ⟨j, h1, h2, h3, h4⟩
      · exact .inl h
      · exact .inr ⟨j, by omega, by omega, h3, h4⟩
theorem straight_bd (l : List Pt) : straightAt l = -1 ∨ ∃ j, j < l.length ∧ straightAt l = (j : Int) := by
  rcases first_bd (fun k => decide (bendI l k = 0)) l.length 0 with h | ⟨j, _, h2, h3, _⟩
  · exact .inl h
  · exact .inr ⟨j, by omega, h3⟩
theorem free_bd (l : List Pt) : freeAt l = -1 ∨ ∃ j, j < l.length ∧ freeAt l = (j : Int) ∧ freeB l j = true := by
  rcases first_bd (freeB l) l.length 0 with h | ⟨j, _, h2, h3, h4⟩
  · exact .inl h
  · exact .inr ⟨j, by omega, h3, h4⟩

theorem split_small {f : Nat} {l : List Pt} {acc : List (List Pt)} (h : l.length ≤ 3) : splitGo f l acc = some (acc ++ [l]) := by
  cases f with
  | zero => rfl
  | succ f => rw [splitGo, if_pos h]
theorem split_straight_step {f j : Nat} {l : List Pt} {acc : List (List Pt)} (h : ¬ l.length ≤ 3) (hf : l.length ≤ f + 3) (hs : straightAt l = (j : Int)) :
    ∃ f', f = f' + 1 ∧ splitGo f l acc = splitGo f' (l.eraseIdx j) acc := by
  obtain ⟨f', rfl⟩ : ∃ f', f = f' + 1 := ⟨f - 1, by omega⟩
  exact ⟨f', rfl, by rw [splitGo, if_neg h, hs, if_pos (by omega)]; rfl⟩
theorem split_free_step {f j : Nat} {l : List Pt} {acc : List (List Pt)} (h : ¬ l.length ≤ 3) (hf : l.length ≤ f + 3) (hs : straightAt l = -1) (ht : freeAt l = (j : Int)) :
    ∃ f', f = f' + 1 ∧ splitGo f l acc = splitGo f' (l.eraseIdx j) (acc ++ [triOf l j]) := by
  obtain ⟨f', rfl⟩ : ∃ f', f = f' + 1 := ⟨f - 1, by omega⟩
  exact ⟨f', rfl, by rw [splitGo, if_neg h, hs, if_neg (by omega), ht, if_pos (by omega)]; rfl⟩
theorem split_none {f : Nat} {l : List Pt} {acc : List (List Pt)} (h : ¬ l.length ≤ 3) (hf : l.length ≤ f + 3) (hs : straightAt l = -1) (ht : freeAt l = -1) : splitGo f l acc = none := by
  obtain ⟨f', rfl⟩ : ∃ f', f = f' + 1 := ⟨f - 1, by omega⟩
  rw [splitGo, if_neg h, hs, if_neg (by omega), ht, if_neg (by omega)]

/-- A triangle in a block of its own from base on. -/
def TriV (w : World) (base : Nat) (v : Value) (t : List Pt) : Prop := ∃ (g : Nat) (a b c : Pt), t = [a, b, c] ∧ v = .slice (some ⟨g, 0, none⟩) 3 3 ∧ base ≤ g ∧
  Blk w g 29 #[.int .i64 a.x, .int .i64 a.y, .int .i64 b.x, .int .i64 b.y, .int .i64 c.x, .int .i64 c.y]
def TriVs (w : World) (base : Nat) : List Value → List (List Pt) → Prop
  | [], [] => True
  | v :: vs, ps :: pss => TriV w base v ps ∧ TriVs w base vs pss
  | _, _ => False
theorem TriV.poly {w : World} {base : Nat} {v : Value} {t : List Pt} (h : TriV w base v t) : PolyV w v t := by
  obtain ⟨g, a, b, c, rfl, rfl, _, hb⟩ := h
  exact ⟨_, _, rfl, by simp, by unfold maxLen; omega, fun _ => ⟨g, 0, rfl, pts_three hb⟩⟩
theorem TriVs.keep {w w' : World} {base : Nat} {vs : List Value} {pss : List (List Pt)} (h : TriVs w base vs pss)
    (k : ∀ g cs, base ≤ g → Blk w g 29 cs → Blk w' g 29 cs) : TriVs w' base vs pss := by
  induction vs generalizing pss with
  | nil => cases pss with
    | nil => trivial
    | cons => exact h.elim
  | cons v vs ih => cases pss with
    | nil => exact h.elim
    | cons ps pss =>
      refine ⟨?_, ih h.2⟩
      obtain ⟨g, a, b, c, e1, e2, e3, hb⟩ := h.1
      exact ⟨g, a, b, c, e1, e2, e3, k _ _ e3 hb⟩
theorem TriVs.snoc {w : World} {base : Nat} {vs : List Value} {pss : List (List Pt)} {v : Value} {ps : List Pt} (h : TriVs w base vs pss) (k : TriV w base v ps) : TriVs w base (vs ++ [v]) (pss ++ [ps]) := by
  induction vs generalizing pss with
  | nil => cases pss with
    | nil => exact ⟨k, trivial⟩
    | cons => exact h.elim
  | cons u vs ih => cases pss with
    | nil => exact h.elim
    | cons ps pss => exact ⟨h.1, ih h.2⟩
theorem TriVs.polys {w : World} {base : Nat} {vs : List Value} {pss : List (List Pt)} (h : TriVs w base vs pss) : PolyVs w vs pss := by
  induction vs generalizing pss with
  | nil => cases pss with
    | nil => trivial
    | cons => exact h.elim
  | cons v vs ih => cases pss with
    | nil => exact h.elim
    | cons ps pss => exact ⟨h.1.poly, ih h.2⟩
theorem TriVs.one {w : World} {base : Nat} {vs : List Value} {pss : List (List Pt)} (h : TriVs w base vs pss) : ∀ u ∈ vs, u.oneCell' = true := by
  induction vs generalizing pss with
  | nil => intro u hu; cases hu
  | cons v vs ih => cases pss with
    | nil => exact h.elim
    | cons ps pss =>
      intro u hu
      rcases List.mem_cons.1 hu with rfl | hu
      · obtain ⟨g, a, b, c, _, rfl, _⟩ := h.1; rfl
      · exact ih h.2 u hu

/-- The row of what is left, as an array of cells. -/
theorem Own.row {w : World} {base g N : Nat} {l : List Pt} (h : Own w base (.slice (some ⟨g, 0, none⟩) l.length N) l) :
    ∃ cur : Array Value, w.heap[g]? = some (.cells cur 29 (0, 0)) ∧ base ≤ g ∧ l.length ≤ N ∧ N ≤ maxLen ∧ cur.size = N * 2 ∧ cur.toList.take (l.length * 2) = flat l := by
  rcases h.2 with ⟨h1, _⟩ | ⟨g', cap, cur, hv, hb, hg, h1, h2, h3, h4⟩
  · cases h1
  · cases hv
    exact ⟨cur, hg, hb, h1, h2, h3, h4⟩
theorem flat_take (l : List Pt) (i : Nat) : flat (l.take i) = (flat l).take (i * 2) := by
  induction l generalizing i with
  | nil => simp [flat]
  | cons p l ih =>
    cases i with
    | zero => simp [flat]
    | succ i =>
      rw [show (i + 1) * 2 = i * 2 + 1 + 1 by omega]
      simp [flat, ih]
/-- copy(left[i:], left[i+1:]) and left[:len(left)-1] take vertex i out. -/
theorem Own.erase {w : World} {base g N i : Nat} {l : List Pt} {cur : Array Value} (hi : i < l.length) (hg : w.heap[g]? = some (.cells cur 29 (0, 0))) (hb : base ≤ g) (hN : l.length ≤ N) (hm : N ≤ maxLen) (hs : cur.size = N * 2) (ht : cur.toList.take (l.length * 2) = flat l) :
    Own (w.setRow g (cur.toList.take (i * 2) ++ flat (l.drop (i + 1)) ++ cur.toList.drop (i * 2 + (flat (l.drop (i + 1))).length)).toArray) base (.slice (some ⟨g, 0, none⟩) (l.length - 1) N) (l.eraseIdx i) := by
  have hel : (l.eraseIdx i).length = l.length - 1 := by rw [List.length_eraseIdx, if_pos hi]
  have hfl : (flat (l.drop (i + 1))).length = (l.length - (i + 1)) * 2 := by rw [flat_length, List.length_drop]
  refine ⟨by rw [flat_length], .inr ⟨g, N, _, by rw [hel], hb, setRow_heap w g cur _ 29 _ hg, by omega, hm, ?_, ?_⟩⟩
  · simp only [List.size_toArray, List.length_append, List.length_take, List.length_drop, hfl, Array.length_toList, hs]
    omega
  · have e1 : cur.toList.take (i * 2) = flat (l.take i) := by
      rw [flat_take, ← ht, List.take_take]
      congr 1
      omega
    rw [e1, List.eraseIdx_eq_take_drop_succ, flat_append]
    have hlen : (flat (l.take i) ++ flat (l.drop (i + 1))).length = (l.take i ++ l.drop (i + 1)).length * 2 := by
      rw [← flat_append, flat_length]
    exact List.take_left' hlen

end Go.Proofs.YtdhakoecjmaebaaGreat

/- What stays as it is when triangle.Split takes a vertex out. -/
namespace Go.Proofs.YtdhakoecjmaebaaGreat
open Go.RowKit
set_option linter.unusedSimpArgs false
set_option linter.unusedVariables false

theorem owns_block {w w' : World} {base : Nat} {e : TypeId} {size n : Nat} {v : Value} {xs : List Value} (h : w.ownsRow base e size v n xs) (k : ∀ g, base ≤ g → g < w.heap.size → w'.heap[g]? = w.heap[g]?) : w'.ownsRow base e size v n xs := by
  refine ⟨h.1, ?_⟩
  rcases h.2 with ⟨h1, h2⟩ | ⟨g, cap, cur, hv, hb, hg, r⟩
  · exact .inl ⟨h1, h2⟩
  · exact .inr ⟨g, cap, cur, hv, hb, (k g hb (by
      rcases Nat.lt_or_ge g w.heap.size with hlt | hge
      · exact hlt
      · rw [Array.getElem?_eq_none hge] at hg; cases hg)).trans hg, r⟩

/-- The world behind the vertex's removal: row B anew, the variable in block Lv anew. -/
structure Cut (w w' : World) (B Lv : Nat) : Prop where
  block : ∀ g, g ≠ B → g ≠ Lv → w'.heap[g]? = w.heap[g]?
theorem Cut.mk' (w : World) (B Lv o : Nat) (cs : Array Value) (u : Value) : Cut w ((w.setRow B cs).setCell ⟨Lv, o, none⟩ u) B Lv :=
  ⟨fun g h1 h2 => (Below.heap_setCell (w.setRow B cs) ⟨Lv, o, none⟩ u g h2).trans (setRow_other w B g cs h1)⟩
theorem Cut.owns {w w' : World} {B Lv base : Nat} (h : Cut w w' B Lv) (hB : B < base) (hL : Lv < base) {e : TypeId} {size n : Nat} {v : Value} {xs : List Value} (k : w.ownsRow base e size v n xs) : w'.ownsRow base e size v n xs :=
  owns_block k (fun g hg _ => h.block g (by omega) (by omega))
theorem Cut.tris {w w' : World} {B Lv base : Nat} (h : Cut w w' B Lv) (hB : B < base) (hL : Lv < base) {vs : List Value} {pss : List (List Pt)} (k : TriVs w base vs pss) : TriVs w' base vs pss :=
  k.keep (fun g cs hg hb => (h.block g (by omega) (by omega)).trans hb)
theorem Cut.cell {w w' : World} {B Lv : Nat} (h : Cut w w' B Lv) {g o : Nat} {v : Value} (h1 : g ≠ B) (h2 : g ≠ Lv) (k : w.cell? ⟨g, o, none⟩ = some v) : w'.cell? ⟨g, o, none⟩ = some v :=
  (World.cell?_of_block (a := ⟨g, o, none⟩) (h.block g h1 h2)).trans k
theorem Own.far {w : World} {base B N Lv o : Nat} {l : List Pt} {u : Value} {n : Nat} (h : Own w base (.slice (some ⟨B, 0, none⟩) n N) l) (hne : B ≠ Lv) : Own (w.setCell ⟨Lv, o, none⟩ u) base (.slice (some ⟨B, 0, none⟩) n N) l := by
  refine ⟨h.1, ?_⟩
  rcases h.2 with ⟨h1, h2⟩ | ⟨g, cap, cur, hv, hb, hg, r⟩
  · exact .inl ⟨h1, h2⟩
  · cases hv
    exact .inr ⟨B, _, cur, rfl, hb, (Below.heap_setCell w ⟨Lv, o, none⟩ u B hne).trans hg, r⟩
theorem owns_later {w w' : World} {base : Nat} {e : TypeId} {size n : Nat} {v : Value} {xs : List Value} (h : w.ownsRow base e size v n xs) (k : Later w w') : w'.ownsRow base e size v n xs :=
  owns_block h (fun g _ hg => k.block g hg)
theorem TriVs.later {w w' : World} {base : Nat} {vs : List Value} {pss : List (List Pt)} (h : TriVs w base vs pss) (k : Later w w') : TriVs w' base vs pss :=
  h.keep (fun g cs _ hb => hb.later k)
theorem gp_erase {l : List Pt} {i : Nat} (h : AllIn l) : AllIn (l.eraseIdx i) := by
  intro j
  unfold gp
  by_cases hj : j < (l.eraseIdx i).length
  · rw [List.getD_eq_getElem?_getD, List.getElem?_eq_getElem hj, Option.getD_some]
    have hm : (l.eraseIdx i)[j] ∈ l := List.mem_of_mem_eraseIdx (List.getElem_mem hj)
    obtain ⟨k, hk, he⟩ := List.getElem_of_mem hm
    rw [← he, ← gp_eq hk]
    exact h k
  · rw [List.getD_eq_getElem?_getD, List.getElem?_eq_none (by omega), Option.getD_none]
    rfl
/-- The sources' cells of what is moved. -/
theorem drop_cells {w : World} {B j : Nat} {l : List Pt} (h : PtsAt w B 0 l) : ∀ i u, (flat (l.drop (j + 1)))[i]? = some u → w.cell? ((⟨B, (j + 1) * 2, none⟩ : Addr).add i) = some u := by
  refine src_cells (A := some ⟨B, (j + 1) * 2, none⟩) (l := l.drop (j + 1)) (fun _ => ⟨B, (j + 1) * 2, rfl, ?_⟩) _ rfl
  intro i p hi
  rw [List.getElem?_drop] at hi
  obtain ⟨z1, z2⟩ := h _ _ hi
  rw [show 0 + (j + 1 + i) * 2 = (j + 1) * 2 + i * 2 by omega] at z1 z2
  exact ⟨z1, z2⟩
theorem drop_len {l : List Pt} {j : Nat} (h : j < l.length) : (flat (l.drop (j + 1))).length = Nat.min (l.length - (j + 1)) (l.length - j) * 2 := by
  rw [flat_length, List.length_drop, show Nat.min (l.length - (j + 1)) (l.length - j) = l.length - (j + 1) from Nat.min_eq_left (by omega)]

theorem own_ne {w : World} {base : Nat} {e t : TypeId} {size n g : Nat} {v : Value} {xs : List Value} {cs : Array Value} (h : w.ownsRow base e size v n xs) (hg : Blk w g t cs) (hne : e ≠ t) : some g ≠ v.ownBlock := by
  rcases h.2 with ⟨rfl, _⟩ | ⟨g', cap, cur, rfl, _, hh, _⟩
  · simp [Value.ownBlock]
  · intro he
    have : g = g' := by simpa [Value.ownBlock] using he
    subst this
    unfold Blk at hg
    rw [hg] at hh
    cases hh
    exact hne rfl
theorem TriVs.grown {w w' : World} {base : Nat} {vs : List Value} {pss : List (List Pt)} {row : Option Nat} (h : TriVs w base vs pss) (hg : w.grownBy w' row) (hne : ∀ g cs, Blk w g 29 cs → some g ≠ row) : TriVs w' base vs pss :=
  h.keep (fun g cs _ hb => (hg.block g hb.lt (hne g cs hb)).trans hb)
theorem grown_cell {w w' : World} {row : Option Nat} {g o : Nat} {v : Value} (hg : w.grownBy w' row) (hne : some g ≠ row) (h : w.cell? ⟨g, o, none⟩ = some v) : w'.cell? ⟨g, o, none⟩ = some v := hg.cell h hne
theorem Own.grown {w w' : World} {base B N n : Nat} {l : List Pt} {row : Option Nat} (h : Own w base (.slice (some ⟨B, 0, none⟩) n N) l) (hg : w.grownBy w' row) (hne : some B ≠ row) : Own w' base (.slice (some ⟨B, 0, none⟩) n N) l := by
  refine ⟨h.1, ?_⟩
  rcases h.2 with ⟨h1, h2⟩ | ⟨g, cap, cur, hv, hb, hh, r⟩
  · exact .inl ⟨h1, h2⟩
  · cases hv
    exact .inr ⟨B, _, cur, rfl, hb, (hg.block B (by
      rcases Nat.lt_or_ge B w.heap.size with hlt | hge
      · exact hlt
      · rw [Array.getElem?_eq_none hge] at hh; cases hh) hne).trans hh, r⟩
theorem polys_of_owns {w : World} {base n : Nat} {v : Value} {vs : List Value} {pss : List (List Pt)} (h : w.ownsRow base 28 1 v n vs) (hp : PolyVs w vs pss) (hn : n = pss.length) (h0 : 0 < n) : ∃ A c, v = .slice A pss.length c ∧ pss.length ≤ c ∧ Polys w A pss := by
  rcases h.2 with ⟨_, h2⟩ | ⟨g, cap, cur, hv, hb, hh, hnc, hcm, hcs, htk⟩
  · omega
  · subst hv
    refine ⟨_, cap, by rw [hn], by omega, fun _ => ⟨g, 0, rfl, fun i ps hi => ?_⟩⟩
    obtain ⟨v, hv, hpv⟩ := hp.get hi
    have hlt : i < pss.length := by
      rcases Nat.lt_or_ge i pss.length with hh | hh
      · exact hh
      · rw [List.getElem?_eq_none hh] at hi; cases hi
    exact ⟨v, by rw [Nat.zero_add, h.cellAt i (by omega)]; exact hv, hpv⟩
theorem Own.poly {w : World} {base B N : Nat} {l : List Pt} (h : Own w base (.slice (some ⟨B, 0, none⟩) l.length N) l) : PolyV w (.slice (some ⟨B, 0, none⟩) l.length N) l := by
  obtain ⟨A, c, e, h1, h2, h3, _⟩ := h.form
  cases e
  exact ⟨_, _, rfl, h1, h2, h3⟩

end Go.Proofs.YtdhakoecjmaebaaGreat

/- Plain facts on the normal form: how long it is, that its points are the polygon's, that a simple polygon has a corner. -/
namespace Go.Proofs.YtdhakoecjmaebaaGreat
open Go.RowKit
set_option linter.unusedSimpArgs false
set_option linter.unusedVariables false

theorem cornGo_all {Q : Pt → Prop} (ps : List Pt) (hps : ∀ j, Q (gp ps j)) : ∀ f i acc, (∀ p ∈ acc, Q p) → ∀ p ∈ cornGo ps f i acc, Q p := by
  intro f
  induction f with
  | zero => intro i acc h; exact h
  | succ f ih =>
    intro i acc h
    rw [cornGo]
    apply ih
    split
    · exact h
    · intro p hp
      rcases List.mem_append.1 hp with hp | hp
      · exact h p hp
      · rw [List.mem_singleton.1 hp]; exact hps i
theorem cornGo_len (ps : List Pt) : ∀ f i acc, (cornGo ps f i acc).length ≤ acc.length + f := by
  intro f
  induction f with
  | zero => intro i acc; simp [cornGo]
  | succ f ih =>
    intro i acc
    rw [cornGo]
    have := ih (i + 1) (if bendI ps i = 0 then acc else acc ++ [gp ps i])
    split at this
    · rename_i h; rw [if_pos h]; omega
    · rename_i h; rw [if_neg h]; simp at this; omega
theorem gp_all {Q : Pt → Prop} {l : List Pt} (h0 : Q ⟨0, 0⟩) (h : ∀ p ∈ l, Q p) (j : Nat) : Q (gp l j) := by
  by_cases hj : j < l.length
  · rw [gp_eq hj]; exact h _ (List.getElem_mem hj)
  · unfold gp
    rw [List.getD_eq_getElem?_getD, List.getElem?_eq_none (by omega), Option.getD_none]
    exact h0
theorem revGo_all {Q : Pt → Prop} (h0 : Q ⟨0, 0⟩) : ∀ f i j l, (∀ p ∈ l, Q p) → ∀ p ∈ revGo f i j l, Q p := by
  intro f
  induction f with
  | zero => intro i j l h; exact h
  | succ f ih =>
    intro i j l h
    rw [revGo]
    split
    · apply ih
      intro p hp
      rcases List.mem_or_eq_of_mem_set hp with hp | rfl
      · rcases List.mem_or_eq_of_mem_set hp with hp | rfl
        · exact h p hp
        · exact gp_all h0 h _
      · exact gp_all h0 h _
    · exact h
theorem revGo_len : ∀ f i j l, (revGo f i j l).length = l.length := by
  intro f
  induction f with
  | zero => intro i j l; rfl
  | succ f ih =>
    intro i j l
    rw [revGo]
    split
    · rw [ih]; simp
    · rfl
theorem ccw_len (ps : List Pt) : (ccwOf ps).length = (cornersOf ps).length := by
  unfold ccwOf revOf
  split
  · exact revGo_len _ _ _ _
  · rfl
theorem rot_len (l : List Pt) : (rotOf l).length = l.length := by
  unfold rotOf
  simp
  omega
theorem normal_len (ps : List Pt) : (normalOf ps).length = (cornersOf ps).length := by rw [normalOf, rot_len, ccw_len]
theorem corners_le (ps : List Pt) : (cornersOf ps).length ≤ ps.length := by
  have := cornGo_len ps ps.length 0 []
  simpa [cornersOf] using this
theorem normal_all {Q : Pt → Prop} (h0 : Q ⟨0, 0⟩) (ps : List Pt) (h : ∀ p ∈ ps, Q p) : ∀ p ∈ normalOf ps, Q p := by
  have h1 : ∀ p ∈ cornersOf ps, Q p := cornGo_all ps (gp_all h0 h) _ _ _ (by intro p hp; cases hp)
  have h2 : ∀ p ∈ ccwOf ps, Q p := by
    unfold ccwOf
    split
    · exact revGo_all h0 _ _ _ _ h1
    · exact h1
  intro p hp
  unfold normalOf rotOf at hp
  rcases List.mem_append.1 hp with hp | hp
  · exact h2 p (List.mem_of_mem_drop hp)
  · exact h2 p (List.mem_of_mem_take hp)
theorem normal_in {ps : List Pt} (h : checkI ps = 0) : AllIn (normalOf ps) := by
  have h1 : ∀ p ∈ ps, outP p = false := by
    unfold checkI at h
    split at h
    · cases h
    · split at h
      · cases h
      · split at h
        · cases h
        · rename_i h'
          intro p hp
          have h'' : ps.any (fun p => outsideB p.x p.y) = false := by simpa using h'
          rw [List.any_eq_false] at h''
          simpa [outP] using h'' p hp
  exact gp_all (Q := fun p => outP p = false) rfl (normal_all (Q := fun p => outP p = false) rfl ps h1)

end Go.Proofs.YtdhakoecjmaebaaGreat

/- A simple polygon turns somewhere. -/
namespace Go.Proofs.YtdhakoecjmaebaaGreat
open Go.RowKit
set_option linter.unusedSimpArgs false
set_option linter.unusedVariables false

theorem sq_nonneg (x : Int) : 0 ≤ x * x := by
  rcases Int.le_total 0 x with h | h
  · exact Int.mul_nonneg h h
  · have := Int.mul_nonneg (show 0 ≤ -x by omega) (show 0 ≤ -x by omega)
    rwa [Int.neg_mul_neg] at this
theorem sq_zero {x : Int} (h : x * x = 0) : x = 0 := by
  rcases Int.mul_eq_zero.1 h with h | h <;> exact h
theorem vec_pos {x y : Int} (h : x ≠ 0 ∨ y ≠ 0) : 0 < x * x + y * y := by
  have a := sq_nonneg x
  have b := sq_nonneg y
  rcases Int.lt_or_eq_of_le (show 0 ≤ x * x + y * y by omega) with k | k
  · exact k
  · have a' : x = 0 := sq_zero (by omega)
    have b' : y = 0 := sq_zero (by omega)
    rcases h with h | h <;> contradiction
theorem pos_of_mul {a b : Int} (hb : 0 < b) (h : 0 < a * b) : 0 < a := by
  rcases Int.lt_or_le 0 a with k | k
  · exact k
  · have := Int.mul_nonneg (show 0 ≤ -a by omega) (Int.le_of_lt hb)
    rw [Int.neg_mul] at this
    omega
theorem vec_step (ux uy vx vy wx wy : Int) (h1 : ux * vy - uy * vx = 0) (h2 : 0 < ux * vx + uy * vy) (h3 : vx * wy - vy * wx = 0) (h4 : 0 ≤ vx * wx + vy * wy) (hw : wx ≠ 0 ∨ wy ≠ 0) : ux * wy - uy * wx = 0 ∧ 0 < ux * wx + uy * wy := by
  have hv0 : vx ≠ 0 ∨ vy ≠ 0 := by
    rcases Classical.em (vx = 0) with a | a
    · rcases Classical.em (vy = 0) with b | b
      · subst a b; simp at h2
      · exact .inr b
    · exact .inl a
  have hv := vec_pos hv0
  have hww := vec_pos hw
  have e1 : (ux * wy - uy * wx) * (vx * vx + vy * vy) = (ux * vy - uy * vx) * (vx * wx + vy * wy) + (ux * vx + uy * vy) * (vx * wy - vy * wx) := by grind
  have e2 : (ux * wx + uy * wy) * (vx * vx + vy * vy) = (ux * vx + uy * vy) * (vx * wx + vy * wy) - (ux * vy - uy * vx) * (vx * wy - vy * wx) := by grind
  have e3 : (vx * vx + vy * vy) * (wx * wx + wy * wy) = (vx * wx + vy * wy) * (vx * wx + vy * wy) + (vx * wy - vy * wx) * (vx * wy - vy * wx) := by grind
  rw [h1, h3] at e1 e2
  rw [h3] at e3
  have h5 : 0 < vx * wx + vy * wy := by
    rcases Int.lt_or_eq_of_le h4 with k | k
    · exact k
    · rw [← k] at e3
      have := Int.mul_pos hv hww
      simp at e3
      omega
  constructor
  · simp only [Int.zero_mul, Int.mul_zero, Int.add_zero] at e1
    rcases Int.mul_eq_zero.1 e1 with k | k
    · exact k
    · omega
  · have := Int.mul_pos h2 h5
    simp only [Int.zero_mul, Int.sub_zero] at e2
    exact pos_of_mul hv (by omega)

theorem cornGo_nil (ps : List Pt) : ∀ f i acc, cornGo ps f i acc = [] → acc = [] ∧ ∀ k, i ≤ k → k < i + f → bendI ps k = 0 := by
  intro f
  induction f with
  | zero => intro i acc h; exact ⟨h, fun k h1 h2 => by omega⟩
  | succ f ih =>
    intro i acc h
    rw [cornGo] at h
    obtain ⟨h1, h2⟩ := ih _ _ h
    split at h1
    · rename_i hb
      refine ⟨h1, fun k k1 k2 => ?_⟩
      rcases Nat.lt_or_ge i k with hh | hh
      · exact h2 k (by omega) (by omega)
      · rw [show k = i by omega]; exact hb
    · simp at h1
theorem outerGo_true (ps : List Pt) : ∀ f i, outerGo ps f i = true → ∀ k, i ≤ k → k < i + f → foldedP (gp ps k) (gp ps ((k + 1) % ps.length)) (gp ps ((k + 2) % ps.length)) = false ∧ innerGo ps k (ps.length - (k + 2)) (k + 2) = false := by
  intro f
  induction f with
  | zero => intro i h k k1 k2; omega
  | succ f ih =>
    intro i h k k1 k2
    rw [outerGo] at h
    split at h
    · cases h
    · split at h
      · cases h
      · rename_i a b
        rcases Nat.lt_or_ge i k with hh | hh
        · exact ih (i + 1) h k (by omega) (by omega)
        · rw [show k = i by omega]; exact ⟨by simpa using a, by simpa using b⟩
theorem dupGo_false (l : List Pt) : ∀ pre, dupGo pre l = false → ∀ i j (hi : i < l.length) (hj : j < l.length), i < j → l[i] ≠ l[j] := by
  have key : ∀ (l : List Pt) (pre : List Pt), dupGo pre l = false → ∀ p ∈ pre, p ∉ l := by
    intro l
    induction l with
    | nil => intro pre h p hp; simp
    | cons q l ih =>
      intro pre h p hp
      rw [dupGo] at h
      split at h
      · cases h
      · rename_i hq
        intro hm
        rcases List.mem_cons.1 hm with rfl | hm
        · exact hq hp
        · exact ih _ h p (by simp [hp]) hm
  induction l with
  | nil => intro pre h i j hi; simp at hi
  | cons q l ih =>
    intro pre h i j hi hj hij
    rw [dupGo] at h
    split at h
    · cases h
    · cases j with
      | zero => omega
      | succ j =>
        cases i with
        | zero =>
          intro he
          exact key l (pre ++ [q]) h q (by simp) (by simp at he; rw [he]; exact List.getElem_mem _)
        | succ i =>
          exact ih _ h i j (by simpa using hi) (by simpa using hj) (by omega)

theorem simple_of_check {ps : List Pt} (h : checkI ps = 0) : simpleB ps = true ∧ 3 ≤ ps.length ∧ ps.length ≤ 40 := by
  unfold checkI at h
  split at h
  · cases h
  · split at h
    · cases h
    · split at h
      · cases h
      · split at h
        · exact ⟨by assumption, by omega, by omega⟩
        · cases h
theorem distinct_of_simple {ps : List Pt} (h : simpleB ps = true) {i j : Nat} (hi : i < ps.length) (hj : j < ps.length) (hne : i ≠ j) : gp ps i ≠ gp ps j := by
  unfold simpleB at h
  split at h
  · cases h
  · rename_i hd
    have hd' : dupGo [] ps = false := by simpa using hd
    rw [gp_eq hi, gp_eq hj]
    rcases Nat.lt_or_ge i j with k | k
    · exact dupGo_false ps [] hd' i j hi hj k
    · exact fun e => dupGo_false ps [] hd' j i hj hi (by omega) e.symm

theorem corners_ne {ps : List Pt} (h : checkI ps = 0) : 0 < (cornersOf ps).length := by
  obtain ⟨hs, h3, h40⟩ := simple_of_check h
  rcases Nat.eq_zero_or_pos (cornersOf ps).length with h0 | h0
  case inr => exact h0
  exfalso
  have hnil : cornersOf ps = [] := List.eq_nil_of_length_eq_zero h0
  obtain ⟨_, hb⟩ := cornGo_nil ps _ _ _ hnil
  have ho : outerGo ps ps.length 0 = true := by
    have hs' := hs
    unfold simpleB at hs'
    split at hs'
    · cases hs'
    · exact hs'
  have hfold := outerGo_true ps _ _ ho
  -- the ways from vertex to vertex
  have step : ∀ k, k < ps.length → ((gp ps 1).x - (gp ps 0).x) * ((gp ps ((k + 1) % ps.length)).y - (gp ps k).y) - ((gp ps 1).y - (gp ps 0).y) * ((gp ps ((k + 1) % ps.length)).x - (gp ps k).x) = 0 ∧
      0 < ((gp ps 1).x - (gp ps 0).x) * ((gp ps ((k + 1) % ps.length)).x - (gp ps k).x) + ((gp ps 1).y - (gp ps 0).y) * ((gp ps ((k + 1) % ps.length)).y - (gp ps k).y) := by
    intro k
    induction k with
    | zero =>
      intro _
      rw [show (0 + 1) % ps.length = 1 from Nat.mod_eq_of_lt (by omega)]
      refine ⟨by grind, vec_pos ?_⟩
      have hd := distinct_of_simple hs (i := 0) (j := 1) (by omega) (by omega) (by omega)
      rw [Ne, pt_eq] at hd
      omega
    | succ k ih =>
      intro hk
      obtain ⟨i1, i2⟩ := ih (by omega)
      have hm : (k + 1) % ps.length = k + 1 := Nat.mod_eq_of_lt hk
      rw [hm] at i1 i2
      have hbend := hb (k + 1) (by omega) (by omega)
      unfold bendI crossP at hbend
      rw [show (k + 1 + ps.length - 1) % ps.length = k by rw [show k + 1 + ps.length - 1 = k + ps.length by omega, Nat.add_mod_right]; exact Nat.mod_eq_of_lt (by omega)] at hbend
      have hf := (hfold k (by omega) (by omega)).1
      rw [hm, show k + 2 = k + 1 + 1 by omega] at hf
      unfold foldedP foldedB at hf
      rw [hbend] at hf
      have hd := distinct_of_simple hs (i := k + 1) (j := (k + 1 + 1) % ps.length) (by omega) (Nat.mod_lt _ (by omega)) (by
        rcases Nat.lt_or_ge (k + 1 + 1) ps.length with q | q
        · rw [Nat.mod_eq_of_lt q]; omega
        · rw [show k + 1 + 1 = ps.length by omega, Nat.mod_self]; omega)
      rw [Ne, pt_eq] at hd
      generalize gp ps ((k + 1 + 1) % ps.length) = c at *
      generalize gp ps (k + 1) = b at *
      generalize gp ps k = a at *
      generalize (gp ps 1).x - (gp ps 0).x = ux at *
      generalize (gp ps 1).y - (gp ps 0).y = uy at *
      unfold crossI at hbend
      simp only [decide_true, Bool.true_and, decide_eq_false_iff_not, Int.not_lt] at hf
      refine vec_step ux uy (b.x - a.x) (b.y - a.y) (c.x - b.x) (c.y - b.y) i1 i2 (by grind) (by grind) (by omega)
  -- along the first way all vertices come one behind the other
  have mono : ∀ k, k < ps.length → ((gp ps 1).x - (gp ps 0).x) * (gp ps 0).x + ((gp ps 1).y - (gp ps 0).y) * (gp ps 0).y ≤ ((gp ps 1).x - (gp ps 0).x) * (gp ps k).x + ((gp ps 1).y - (gp ps 0).y) * (gp ps k).y := by
    intro k
    induction k with
    | zero => intro _; exact Int.le_refl _
    | succ k ih =>
      intro hk
      have i1 := ih (by omega)
      have i2 := (step k (by omega)).2
      rw [Nat.mod_eq_of_lt hk] at i2
      simp only [Int.mul_sub] at i2
      omega
  have last := (step (ps.length - 1) (by omega)).2
  rw [show ps.length - 1 + 1 = ps.length by omega, Nat.mod_self] at last
  have m := mono (ps.length - 1) (by omega)
  simp only [Int.mul_sub] at last
  omega

end Go.Proofs.YtdhakoecjmaebaaGreat

/- The walk of triangle.Split. -/
namespace Go.Proofs.YtdhakoecjmaebaaGreat
open Go.RowKit
set_option linter.unusedSimpArgs false
set_option linter.unusedVariables false

theorem run_make_rows {P : Program} (t e : TypeId) (i : TypeInfo) (z : Value) (ht : P.underlying t = some (.slice e)) (hi : P.info? e = some i) (hz : i.zero = some z)
    (n : Nat) (hbytes : i.bytes * n ≤ 281474976710656) (h63 : n ≤ 9223372036854775807) (w : World) :
    (Instr.makeSlice t (.int .i64 (n : Int)) (.int .i64 (n : Int))).run P w = .ok (.slice (some ⟨w.heap.size, 0, none⟩) n n) (w.alloc (.cells (madeCells z.cells (n * i.size)) e)) := by
  have hb : (i.bytes : Int) * (n : Int) ≤ 281474976710656 := by
    have h : ((i.bytes * n : Nat) : Int) ≤ 281474976710656 := by omega
    rwa [Int.natCast_mul] at h
  have hr := run_make (P := P) w t e i z ht hi hz .i64 .i64 n n (by omega) (by omega) hb (by omega)
  simp only [Int.toNat_natCast] at hr
  exact hr

def SplitPost (r : Option (List (List Pt))) (w : World) (e : Ending) (w' : World) : Prop :=
  match r with
  | some ts => ∃ A c, e = .returned (.tuple #[.slice A ts.length c, .int .i64 0]) ∧ ts.length ≤ c ∧ Polys w' A ts ∧ Later w w'
  | none => e = .returned (.tuple #[.slice none 0 0, .int .i64 11]) ∧ Later w w'

theorem info_poly : (Tryz.prog.info? 28).map (fun i => (i.zero, i.size, i.bytes)) = some (some (.slice none 0 0), 1, 24) := by kernel_rfl
theorem new_one (w : World) (x : Value) (t : TypeId) : ∀ j u, ([x] : List Value)[j]? = some u → (w.alloc (.cells #[x] t)).cell? ((⟨w.heap.size, 0, none⟩ : Addr).add j) = some u := by
  intro j u hu
  have h := Blk.new w t #[x]
  rcases j with _ | j
  · simp at hu; subst hu; exact h.cell 0
  · simp at hu
set_option maxHeartbeats 4000000 in
set_option maxRecDepth 100000 in
theorem triangle_Split_ok (A : Option Addr) (c : Nat) (ps : List Pt) (w : World) (hcap : ps.length ≤ c) (hp : Pts w A ps) (hok : checkI ps = 0) (hne : 0 < (cornersOf ps).length)
    (hN0 : 0 < (normalOf ps).length) (hN : (normalOf ps).length ≤ 40) (hin : AllIn (normalOf ps)) :
    Calls Tryz.prog 63 #[.slice A ps.length c] w (SplitPost (splitOf ps) w) := by
  have HN := Lib.hid (polygon_Normal_ok A c ps w hcap hp hok hne)
  have HS := Lib.hid (show splitOf ps = splitGo (normalOf ps).length (normalOf ps) [] from rfl)
  generalize normalOf ps = L at *
  obtain ⟨i0, hi, hz0, hz1, hz2⟩ := info_parts info_spot
  have hmk := fun W => run_make_rows (P := Tryz.prog) 28 29 i0 _ Tryz.underlying28 hi hz0 L.length (by rw [hz2]; omega) (by omega) W
  rw [hz1] at hmk
  have hmz : (madeCells (Value.agg #[Value.int IntKind.i64 0, Value.int IntKind.i64 0]).cells (L.length * 2)).size = L.length * 2 := by simp [madeCells]
  generalize madeCells (Value.agg #[Value.int IntKind.i64 0, Value.int IntKind.i64 0]).cells (L.length * 2) = Z at *
  go_enter Tryz.func63, Tryz.ntmps63
  go_upto_region 5 with (first | (go_at_call 101; refine HN.out.mono ?_; rintro e w1 ⟨A1, c1, rfl, q1, q2, q3, hb1⟩))
  refine name_world (fun W hW => ?_)
  obtain ⟨b1, o1, rfl, hat1⟩ := q3 hN0
  have hlW : Later w W := by rw [hW]; exact (by repeat' (first | exact Later.refl _ | assumption | refine Later.drew ?_ | refine Later.drewN ?_ _ | refine Later.alloc ?_ _ | refine Later.put ?_ (by omega) _ | refine Later.trans ?_ (by assumption)))
  have hl1W : Later w1 W := by rw [hW]; exact (by repeat' (first | exact Later.refl _ | assumption | refine Later.drew ?_ | refine Later.drewN ?_ _ | refine Later.alloc ?_ _ | refine Later.put ?_ (by omega) _ | refine Later.trans ?_ (by assumption)))
  have hrow : W.heap[w1.heap.size]? = some (.cells Z 29 (0, 0)) := by rw [hW]; exact (Blk.new w1 29 Z).alloc _
  have hvar : Blk W (w1.heap.size + 1) 28 #[.slice (some ⟨w1.heap.size, 0, none⟩) L.length L.length] := by rw [hW]; exact Blk.new1 _ _ _ _
  have hv0 : W.cell? ⟨w1.heap.size + 1, 0, none⟩ = some (.slice (some ⟨w1.heap.size, 0, none⟩) L.length L.length) := hvar.cell 0
  have hz1' : w.heap.size ≤ w1.heap.size := hb1.size
  clear hW hmk
  have hcp := run_copy_rowN (P := Tryz.prog) W 28 28 3 29 2 w1.heap.size 0 L.length L.length ⟨b1, o1, none⟩ L.length c1 Z 29 (flat L) Tryz.underlying28 (by rw [hi]; simp [hz1]) hrow (by rw [flat_length]; simp) (src_cells (A := some ⟨b1, o1, none⟩) (l := L) (fun _ => ⟨b1, o1, rfl, hat1.later hl1W⟩) _ rfl) (by rw [flat_length, hmz]; omega) (flat_one L)
  have hown2 : Own (W.setRow w1.heap.size (Z.toList.take 0 ++ flat L ++ Z.toList.drop (0 + (flat L).length)).toArray) w.heap.size (.slice (some ⟨w1.heap.size, 0, none⟩) L.length L.length) L := by
    refine ⟨flat_length L, .inr ⟨w1.heap.size, L.length, _, rfl, hz1', setRow_heap W w1.heap.size Z _ 29 _ hrow, Nat.le_refl _, by unfold maxLen; omega, ?_, ?_⟩⟩
    · simp [flat_length, hmz]
    · rw [List.take_zero, List.nil_append]
      exact List.take_left' (flat_length L)
  have hvar2 : Blk (W.setRow w1.heap.size (Z.toList.take 0 ++ flat L ++ Z.toList.drop (0 + (flat L).length)).toArray) (w1.heap.size + 1) 28 #[.slice (some ⟨w1.heap.size, 0, none⟩) L.length L.length] := (setRow_other W w1.heap.size (w1.heap.size + 1) _ (by omega)).trans hvar
  have hlw2 : Later w (W.setRow w1.heap.size (Z.toList.take 0 ++ flat L ++ Z.toList.drop (0 + (flat L).length)).toArray) := hlW.setRow hz1' _
  generalize W.setRow w1.heap.size (Z.toList.take 0 ++ flat L ++ Z.toList.drop (0 + (flat L).length)).toArray = W2 at *
  have Hcp := Lib.hid hcp
  clear hcp hvar hrow hmz
  go_upto_region 9 with (refine wpList_copy_run (o := ⟨some 28, _, _, _, _, _⟩) _ rfl (.tmp 26) (.tmp 27) 28 28 rfl _ _ rfl rfl _ _ Hcp.out ?_)
  refine name_world (fun W3 hW3 => ?_)
  have hl3 : Later W2 W3 := by rw [hW3]; exact (by repeat' (first | exact Later.refl _ | assumption | refine Later.drew ?_ | refine Later.drewN ?_ _ | refine Later.alloc ?_ _ | refine Later.put ?_ (by omega) _ | refine Later.trans ?_ (by assumption)))
  have hown3 := hown2.later hl3
  have hvar3 := hvar2.later hl3
  have hcor3 : VarCorner W3 W2.heap.size (w1.heap.size + 1) := by rw [hW3]; exact (Blk.new W2 175 _).cell 0
  have hlw3 : Later w W3 := hlw2.trans hl3
  have hB3 : w1.heap.size + 1 < W3.heap.size := hvar3.lt
  have hC3 : W2.heap.size < W3.heap.size := World.block_lt_of_cell? _ _ hcor3
  have hBC : w1.heap.size + 1 < W2.heap.size := hvar2.lt
  clear hW3 hl3 hown2 hvar2 hlw2 Hcp hlW hl1W hv0 hat1 q1 q2 q3 hb1 HN
  go_wp2
  go_loopg [10] L.length (fun k v wr => ∃ (f : Nat) (l : List Pt) (acc : List (List Pt)) (vs : List Value), l.length = k ∧ splitOf ps = splitGo f l acc ∧ l.length ≤ f + 3 ∧ l.length ≤ L.length ∧ 0 < l.length ∧ AllIn l ∧ acc.length + l.length ≤ 40 ∧
      wr.ownsRow W3.heap.size 28 1 v vs.length vs ∧ TriVs wr W3.heap.size vs acc ∧ vs.length = acc.length ∧ Blk wr (w1.heap.size + 1) 28 #[.slice (some ⟨w1.heap.size, 0, none⟩) l.length L.length] ∧
      Own wr w.heap.size (.slice (some ⟨w1.heap.size, 0, none⟩) l.length L.length) l ∧ VarCorner wr W2.heap.size (w1.heap.size + 1) ∧ Later w wr ∧ W3.heap.size ≤ wr.heap.size)
  case atStart => exact ⟨L.length, L, [], [], rfl, HS.out, by omega, by omega, hN0, hin, by simpa using hN, World.ownsRow_nil _ _ _ _, trivial, rfl, hvar3, hown3, hcor3, hlw3, Nat.le_refl _⟩
  case round =>
    clear hown3 hvar3 hcor3 hlw3 hin
    obtain ⟨f, l, acc, vs, rfl, he, hf, hlL, hl0, hin, hal, hrw, htri, hvl, hvar, hown, hcor, hlw, hsz⟩ := hrel
    have hv0 : wr.cell? ⟨w1.heap.size + 1, 0, none⟩ = some (.slice (some ⟨w1.heap.size, 0, none⟩) l.length L.length) := hvar.cell 0
    have He := Lib.hid he
    have Hrw := Lib.hid hrw
    have Htri := Lib.hid htri
    have Hvl := Lib.hid hvl
    clear he hrw htri hvl
    by_cases h3 : l.length ≤ 3
    · have hsp : splitOf ps = some (acc ++ [l]) := by rw [He.out]; exact split_small h3
      have Hsp := Lib.hid hsp
      clear hsp
      obtain ⟨i1, hi1, hy0, hy1, hy2⟩ := info_parts info_poly
      have a63 : vs.length + 1 ≤ maxLen := by have := Hvl.out; unfold maxLen; omega
      have a47 : (vs.length + 1) * 24 ≤ 140737488355328 := by have := Hvl.out; omega
      have Hnw := Lib.hid (new_one wr (.slice (some ⟨w1.heap.size, 0, none⟩) l.length L.length) 28)
      have hl3 : ¬ (3 : Int) < (l.length : Int) := by omega
      go_wp2_with (at_builtin; refine wpList_append_own _ rfl (.tmp 74) (.tmp 76) 63 rfl W3.heap.size 28 i1 (.slice none 0 0) 1 24 Tryz.underlying63 hi1 hy0 hy1 hy2 rfl (by decide) _ vs.length vs rfl (World.ownsRow.alloc Hrw.out _) ⟨wr.heap.size, 0, none⟩ 1 1 [.slice (some ⟨w1.heap.size, 0, none⟩) l.length L.length] rfl rfl Hnw.out (by intro u hu; simp at hu; subst hu; rfl) a63 a47 (Nat.le_trans hsz (by simp)) ?_; intro v' w5 hown5 hgr5 _)
      go_ret2
      have hgr : (wr.alloc (.cells #[.slice (some ⟨w1.heap.size, 0, none⟩) l.length L.length] 28)).grownBy w5 u10.ownBlock := hgr5
      clear hgr5
      have hob := World.ownsRow.lt Hrw.out
      have hnB : some w1.heap.size ≠ u10.ownBlock := fun e => by have := (hob _ e.symm).1; omega
      have ht5 := (Htri.out.later ((Later.refl _).alloc _)).grown hgr (fun g cs hb => own_ne (World.ownsRow.alloc Hrw.out _) hb (by decide))
      have hp5 := (((hown.later ((Later.refl _).alloc _)).grown hgr hnB).poly)
      obtain ⟨A9, c9, e9, hc9, hP9⟩ := polys_of_owns hown5 (ht5.polys.snoc hp5) (by have := Hvl.out; simp; omega) (by omega)
      have hl5 : Later w w5 := Below.grown (hlw.alloc _) hgr (hlw.alloc _).size (fun g hg => by have := (hob _ hg).1; omega)
      rw [Hsp.out]
      exact ⟨A9, c9, by rw [← e9]; rfl, hc9, hP9, hl5⟩
    · have hg3 : (3 : Int) < (l.length : Int) := by omega
      have hvp : VarPts wr (w1.heap.size + 1) l := ⟨w1.heap.size, L.length, hv0, hlL, hown.at0 hl0⟩
      have hsm : AllSm l := fun j => out_sm (hin j)
      have Hfs := Lib.hid (show ∀ i W, i < l.length → Later wr W → Calls Tryz.prog 103 #[.int .i64 (i : Nat), .pointer (some ⟨W2.heap.size, 0, none⟩)] W (Ret (.bool (decide (bendI l i = 0))) W) from
        fun i W hi hW => split_straight W2.heap.size (w1.heap.size + 1) i l W (by omega) hi (hvp.later hW) (hW.cell hcor) hsm)
      have hF1 := triangle_first_straight l.length W2.heap.size (fun i => decide (bendI l i = 0)) wr (by omega) Hfs
      rw [show firstGo (fun i => decide (bendI l i = 0)) l.length 0 = straightAt l from rfl] at hF1
      have HF1 := Lib.hid hF1
      clear hF1 Hfs
      rcases straight_bd l with hst | ⟨j, hj, hst⟩
      · rw [hst] at HF1
        have Hst := Lib.hid hst
        clear hst
        have Hff := Lib.hid (show ∀ i W, i < l.length → Later wr W → Calls Tryz.prog 105 #[.int .i64 (i : Nat), .pointer (some ⟨W2.heap.size, 0, none⟩), .pointer (some ⟨w1.heap.size + 1, 0, none⟩)] W (Ret (.bool (freeB l i)) W) from
          fun i W hi hW => split_free W2.heap.size (w1.heap.size + 1) i l W (by omega) hi (hvp.later hW) (hW.cell hcor) hin)
        have HF2 := Lib.hid (show ∀ W, Later wr W → Calls Tryz.prog 107 #[.int .i64 l.length, .func (.func 105) #[] #[.pointer (some ⟨W2.heap.size, 0, none⟩), .pointer (some ⟨w1.heap.size + 1, 0, none⟩)]] W (Ret (.int .i64 (freeAt l)) W) from
          fun W hW => triangle_first_free l.length W2.heap.size (w1.heap.size + 1) (freeB l) W (by omega) (Lib.hid (fun i W' hi hW' => Hff.out i W' hi (hW.trans hW'))))
        clear Hff
        rcases free_bd l with hfr | ⟨j, hj, hfr, _⟩
        · have hsp := split_none (acc := acc) h3 hf Hst.out hfr
          rw [hfr] at HF2
          have Hsp := Lib.hid hsp
          clear hsp hfr
          go_upto_region 13 with (first | (go_at_call 107; refine HF1.out.mono ?_; rintro e w3 ⟨rfl, hb3⟩; have hv3 := hb3.cell hv0))
          go_wp2_with (first | (go_at_call 107; refine (HF2.out _ hb3).mono ?_; rintro e w5 ⟨rfl, hb5⟩))
          go_ret2
          rw [He.out, Hsp.out]
          exact ⟨rfl, (by repeat' (first | exact Later.refl _ | assumption | refine Later.drew ?_ | refine Later.drewN ?_ _ | refine Later.alloc ?_ _ | refine Later.put ?_ (by omega) _ | refine Later.trans ?_ (by assumption)))⟩
        · obtain ⟨f', hf', hsp⟩ := split_free_step (acc := acc) h3 hf Hst.out hfr
          rw [hfr] at HF2
          have Hf' := Lib.hid hf'
          have Hsp := Lib.hid hsp
          clear hf' hsp hfr
          obtain ⟨i1, hi1, hy0, hy1, hy2⟩ := info_parts info_poly
          have a63 : vs.length + 1 ≤ maxLen := by have := Hvl.out; unfold maxLen; omega
          have a47 : (vs.length + 1) * 24 ≤ 140737488355328 := by have := Hvl.out; omega
          go_upto_region 13 with (first | (go_at_call 107; refine HF1.out.mono ?_; rintro e w3 ⟨rfl, hb3⟩; have hv3 := hb3.cell hv0))
          go_upto_region 16 with (first | (go_at_call 107; refine (HF2.out _ hb3).mono ?_; rintro e w5 ⟨rfl, hb5⟩; have hv5 := hb5.cell hv3))
          have hL5 := hb3.trans hb5
          have hcor5 : w5.cell? ⟨W2.heap.size, 0, none⟩ = some (.func (.func 102) #[] #[.pointer (some ⟨w1.heap.size + 1, 0, none⟩)]) := hL5.cell hcor
          have Hcn := Lib.hid (split_corner (w1.heap.size + 1) j l w5 (by omega) hj (hvp.later hL5))
          generalize hpa : gp l ((j + l.length - 1) % l.length) = a at *
          generalize hpb : gp l j = b at *
          generalize hpc : gp l ((j + 1) % l.length) = cc at *
          have htri : triOf l j = [a, b, cc] := by rw [triOf, hpa, hpb, hpc]
          have Htr := Lib.hid htri
          clear htri hpa hpb hpc
          go_upto_region 17 with (first | (go_at_call 102; refine Hcn.out.mono ?_; rintro e w6 ⟨rfl, hb6⟩))
          refine name_world (fun W7 hW7 => ?_)
          have x1 : W7.cell? ⟨w6.heap.size, 0, none⟩ = some (.int .i64 a.x) := by rw [hW7]; simp [go_sem]
          have x2 : W7.cell? ⟨w6.heap.size, 1, none⟩ = some (.int .i64 a.y) := by rw [hW7]; simp [go_sem]
          have x3 : W7.cell? ⟨w6.heap.size + 1, 0, none⟩ = some (.int .i64 b.x) := by rw [hW7]; simp [go_sem]
          have x4 : W7.cell? ⟨w6.heap.size + 1, 1, none⟩ = some (.int .i64 b.y) := by rw [hW7]; simp [go_sem]
          have x5 : W7.cell? ⟨w6.heap.size + 1 + 1, 0, none⟩ = some (.int .i64 cc.x) := by rw [hW7]; simp [go_sem]
          have x6 : W7.cell? ⟨w6.heap.size + 1 + 1, 1, none⟩ = some (.int .i64 cc.y) := by rw [hW7]; simp [go_sem]
          have hL7 : Later wr W7 := by rw [hW7]; exact (by repeat' (first | exact Later.refl _ | assumption | refine Later.drew ?_ | refine Later.drewN ?_ _ | refine Later.alloc ?_ _ | refine Later.put ?_ (by omega) _ | refine Later.trans ?_ (by assumption)))
          clear hW7
          have hsz7 : W3.heap.size ≤ W7.heap.size := Nat.le_trans hsz hL7.size
          obtain ⟨six, hsix⟩ : ∃ six : Obj, six = .cells #[.int .i64 a.x, .int .i64 a.y, .int .i64 b.x, .int .i64 b.y, .int .i64 cc.x, .int .i64 cc.y] 29 := ⟨_, rfl⟩
          have hL8 : Later wr ((W7.alloc (.cells #[.int .i64 a.x, .int .i64 a.y, .int .i64 b.x, .int .i64 b.y, .int .i64 cc.x, .int .i64 cc.y] 29)).alloc (.cells #[.slice (some ⟨W7.heap.size, 0, none⟩) 3 3] 28)) := (hL7.alloc _).alloc _
          have hrw8 := owns_later Hrw.out hL8
          have hnw := new_one (W7.alloc (.cells #[.int .i64 a.x, .int .i64 a.y, .int .i64 b.x, .int .i64 b.y, .int .i64 cc.x, .int .i64 cc.y] 29)) (.slice (some ⟨W7.heap.size, 0, none⟩) 3 3) 28
          rw [World.size_alloc] at hnw
          have Hnw := Lib.hid hnw
          have Hrw8 := Lib.hid hrw8
          clear hnw hrw8 hsix
          go_upto_region 18 with (at_builtin; refine wpList_append_own _ rfl (.tmp 54) (.tmp 59) 63 rfl W3.heap.size 28 i1 (.slice none 0 0) 1 24 Tryz.underlying63 hi1 hy0 hy1 hy2 rfl (by decide) _ vs.length vs rfl Hrw8.out ⟨W7.heap.size + 1, 0, none⟩ 1 1 [.slice (some ⟨W7.heap.size, 0, none⟩) 3 3] rfl rfl Hnw.out (by intro u hu; simp at hu; subst hu; rfl) a63 a47 (Nat.le_trans hsz hL8.size) ?_; intro v' w4 hown' hgrow _)
          have hgr : ((W7.alloc (.cells #[.int .i64 a.x, .int .i64 a.y, .int .i64 b.x, .int .i64 b.y, .int .i64 cc.x, .int .i64 cc.y] 29)).alloc (.cells #[.slice (some ⟨W7.heap.size, 0, none⟩) 3 3] 28)).grownBy w4 u10.ownBlock := hgrow
          clear hgrow
          have hob := World.ownsRow.lt Hrw.out
          have hnB : some w1.heap.size ≠ u10.ownBlock := fun e => by have := (hob _ e.symm).1; omega
          have hnL : some (w1.heap.size + 1) ≠ u10.ownBlock := fun e => by have := (hob _ e.symm).1; omega
          have hnC : some W2.heap.size ≠ u10.ownBlock := fun e => by have := (hob _ e.symm).1; omega
          have hown4 := (hown.later hL8).grown hgr hnB
          have hvar4 : Blk w4 (w1.heap.size + 1) 28 #[.slice (some ⟨w1.heap.size, 0, none⟩) l.length L.length] := (hgr.block _ (hvar.later hL8).lt hnL).trans (hvar.later hL8)
          have hcor4 : VarCorner w4.drew W2.heap.size (w1.heap.size + 1) := grown_cell (grown_drew hgr) hnC (hL8.cell hcor)
          have htri4 : TriVs w4.drew W3.heap.size (vs ++ [Value.slice (some ⟨W7.heap.size, 0, none⟩) 3 3]) (acc ++ [triOf l j]) :=
            ((Htri.out.later hL8).snoc ⟨W7.heap.size, a, b, cc, Htr.out, rfl, hsz7, (Blk.new _ _ _).alloc _⟩).grown (grown_drew hgr) (fun g cs hb => own_ne Hrw8.out hb (by decide))
          have hrw4 : w4.drew.ownsRow W3.heap.size 28 1 v' (vs ++ [Value.slice (some ⟨W7.heap.size, 0, none⟩) 3 3]).length (vs ++ [Value.slice (some ⟨W7.heap.size, 0, none⟩) 3 3]) := by rw [List.length_append]; exact hown'
          have hvl4 : (vs ++ [Value.slice (some ⟨W7.heap.size, 0, none⟩) 3 3]).length = (acc ++ [triOf l j]).length := by have := Hvl.out; simp; omega
          have hW4 : Later w w4 := Below.grown (hlw.trans hL8) hgr (hlw.trans hL8).size (fun g hg => by have := (hob _ hg).1; omega)
          have hz4 : W3.heap.size ≤ w4.heap.size := Nat.le_trans (Nat.le_trans hsz hL8.size) hgr.size
          have hv4 : w4.cell? ⟨w1.heap.size + 1, 0, none⟩ = some (.slice (some ⟨w1.heap.size, 0, none⟩) l.length L.length) := hvar4.cell 0
          clear hown' hgr hob hnB hnL hnC hL8 hL7 x1 x2 x3 x4 x5 x6 hb3 hb5 hb6 hv3 hv5 hcor5 hL5 Hcn Hrw8 Hnw HF1 HF2
          obtain ⟨cur, hg4, hbB, hlN, hNm, hcs, htk⟩ := hown4.row
          have ho4 := Own.erase hj (show w4.drew.heap[w1.heap.size]? = _ from hg4) hbB hlN hNm hcs htk
          have hp4 : PtsAt w4.drew w1.heap.size 0 l := hown4.at0 hl0
          have hw1 : IntKind.i64.wrap ((j : Int) + 1) = (j : Int) + 1 := IntWalk.i64_in _ (by omega)
          have j1 : (0 : Int) ≤ (j : Int) ∧ (j : Int) ≤ (l.length : Int) := by omega
          have j2 : (0 : Int) ≤ (j : Int) + 1 ∧ (j : Int) + 1 ≤ (l.length : Int) := by omega
          have j3 : (l.length : Int) ≤ (L.length : Int) := by omega
          have j4 : ¬ L.length = j := by omega
          have j5 : ((j : Int) + 1).toNat = j + 1 := by omega
          have hfit : j * 2 + (flat (l.drop (j + 1))).length ≤ cur.size := by rw [flat_length, List.length_drop, hcs]; omega
          have hsrc : ∀ SA : Addr, (SA = ⟨w1.heap.size, (j + 1) * 2, none⟩ ∨ l.length = j + 1) → ∀ i u, (flat (l.drop (j + 1)))[i]? = some u → w4.drew.cell? (SA.add i) = some u := by
            intro SA h i u hu
            rcases h with rfl | h
            · exact drop_cells hp4 i u hu
            · rw [List.drop_eq_nil_of_le (by omega)] at hu; simp [flat] at hu
          have hrun : ∀ SA : Addr, (SA = ⟨w1.heap.size, (j + 1) * 2, none⟩ ∨ l.length = j + 1) → (Builtin.copy_ #[28, 28] 3 #[.slice (some ⟨w1.heap.size, j * 2, none⟩) (l.length - j) (L.length - j), .slice (some SA) (l.length - (j + 1)) (L.length - (j + 1))]).run Tryz.prog w4.drew =
              .ok (goInt (Nat.min (l.length - (j + 1)) (l.length - j))) (w4.drew.setRow w1.heap.size (cur.toList.take (j * 2) ++ flat (l.drop (j + 1)) ++ cur.toList.drop (j * 2 + (flat (l.drop (j + 1))).length)).toArray) := fun SA h =>
            run_copy_rowN (P := Tryz.prog) w4.drew 28 28 3 29 2 w1.heap.size (j * 2) (l.length - j) (L.length - j) SA (l.length - (j + 1)) (L.length - (j + 1)) cur 29 (flat (l.drop (j + 1))) Tryz.underlying28 (by rw [hi]; simp [hz1]) hg4 (drop_len hj) (hsrc SA h) hfit (flat_one _)
          have hcut := fun u => Cut.mk' w4.drew w1.heap.size (w1.heap.size + 1) 0 (cur.toList.take (j * 2) ++ flat (l.drop (j + 1)) ++ cur.toList.drop (j * 2 + (flat (l.drop (j + 1))).length)).toArray u
          have hv5 : Blk (w4.drew.setRow w1.heap.size (cur.toList.take (j * 2) ++ flat (l.drop (j + 1)) ++ cur.toList.drop (j * 2 + (flat (l.drop (j + 1))).length)).toArray) (w1.heap.size + 1) 28 #[.slice (some ⟨w1.heap.size, 0, none⟩) l.length L.length] := (setRow_other w4.drew w1.heap.size (w1.heap.size + 1) _ (by omega)).trans hvar4.drew
          have hl5 : Later w (w4.drew.setRow w1.heap.size (cur.toList.take (j * 2) ++ flat (l.drop (j + 1)) ++ cur.toList.drop (j * 2 + (flat (l.drop (j + 1))).length)).toArray) := hW4.drew.setRow hbB _
          have hz5 : W3.heap.size ≤ (w4.drew.setRow w1.heap.size (cur.toList.take (j * 2) ++ flat (l.drop (j + 1)) ++ cur.toList.drop (j * 2 + (flat (l.drop (j + 1))).length)).toArray).heap.size := by
            simp [World.setRow]; omega
          generalize w4.drew.setRow w1.heap.size (cur.toList.take (j * 2) ++ flat (l.drop (j + 1)) ++ cur.toList.drop (j * 2 + (flat (l.drop (j + 1))).length)).toArray = W5 at *
          have c5 : W5.cell? ⟨w1.heap.size + 1, 0, none⟩ = some (.slice (some ⟨w1.heap.size, 0, none⟩) l.length L.length) := hv5.cell 0
          have f5 := hv5.frozen 0
          have hrw5 := fun u => (hcut u).owns (base := W3.heap.size) (by omega) (by omega) hrw4
          have htr5 := fun u => (hcut u).tris (base := W3.heap.size) (by omega) (by omega) htri4
          have hco5 := fun u => (hcut u).cell (g := W2.heap.size) (o := 0) (by omega) (by omega) hcor4
          have Hrun := Lib.hid hrun
          have Hrw5 := Lib.hid hrw5
          have Htr5 := Lib.hid htr5
          have Hco5 := Lib.hid hco5
          have hel : (l.eraseIdx j).length = l.length - 1 := by rw [List.length_eraseIdx, if_pos hj]
          have Hel := Lib.hid hel
          have Hvl4 := Lib.hid hvl4
          clear hrun hrw5 htr5 hco5 hcut hsrc hfit hel hrw4 htri4 hvl4 hp4 hcs htk hg4
          have j6 : (0 : Int) ≤ (l.length : Int) - 1 ∧ (l.length : Int) - 1 ≤ (L.length : Int) := by omega
          have j7 : ((l.length : Int) - 1).toNat = l.length - 1 := by omega
          by_cases hq : L.length = j + 1
          · go_region_held3 (fun w' : World => w'.cell? ⟨w1.heap.size + 1, 0, none⟩ = some (.slice (some ⟨w1.heap.size, 0, none⟩) l.length L.length)) (first | assumption | exact (Later.refl _).drew.cell hv4)
              (first | (refine step_copy_run (o := ⟨some 68, _, _, _, _, _⟩) _ rfl (.tmp 63) (.tmp 67) 28 28 rfl _ _ rfl rfl _ _ (Hrun.out _ (.inr (by omega))) ?_))
            have Hq := Lib.hid hq
            clear hq
            go_wp2
            go_roundg (l.length - 1)
            case measure => omega
            case rel => exact ⟨f', l.eraseIdx j, acc ++ [triOf l j], vs ++ [Value.slice (some ⟨W7.heap.size, 0, none⟩) 3 3], Hel.out, by rw [He.out, Hsp.out], by rw [Hel.out]; have := Hf'.out; omega, by rw [Hel.out]; omega, by rw [Hel.out]; omega, gp_erase hin, by rw [Hel.out]; first | omega | (simp; omega), Hrw5.out _, Htr5.out _, Hvl4.out, by rw [Hel.out]; exact hv5.set_ 0 _, by rw [Hel.out]; exact ho4.far (by omega), Hco5.out _, hl5.put (by omega) _, by simpa [World.setCell] using hz5⟩
          · go_region_held3 (fun w' : World => w'.cell? ⟨w1.heap.size + 1, 0, none⟩ = some (.slice (some ⟨w1.heap.size, 0, none⟩) l.length L.length)) (first | assumption | exact (Later.refl _).drew.cell hv4)
              (first | (refine step_copy_run (o := ⟨some 68, _, _, _, _, _⟩) _ rfl (.tmp 63) (.tmp 67) 28 28 rfl _ _ rfl rfl _ _ (Hrun.out _ (.inl rfl)) ?_))
            go_wp2
            go_roundg (l.length - 1)
            case measure => omega
            case rel => exact ⟨f', l.eraseIdx j, acc ++ [triOf l j], vs ++ [Value.slice (some ⟨W7.heap.size, 0, none⟩) 3 3], Hel.out, by rw [He.out, Hsp.out], by rw [Hel.out]; have := Hf'.out; omega, by rw [Hel.out]; omega, by rw [Hel.out]; omega, gp_erase hin, by rw [Hel.out]; first | omega | (simp; omega), Hrw5.out _, Htr5.out _, Hvl4.out, by rw [Hel.out]; exact hv5.set_ 0 _, by rw [Hel.out]; exact ho4.far (by omega), Hco5.out _, hl5.put (by omega) _, by simpa [World.setCell] using hz5⟩
      · obtain ⟨f', hf', hsp⟩ := split_straight_step (acc := acc) h3 hf hst
        rw [hst] at HF1
        have Hst := Lib.hid hst
        have Hf' := Lib.hid hf'
        have Hsp := Lib.hid hsp
        clear hst hf' hsp
        go_upto_region 18 with (first | (go_at_call 107; refine HF1.out.mono ?_; rintro e w4 ⟨rfl, hb4⟩; have hv4 := hb4.cell hv0))
        have hrw4 := owns_later Hrw.out hb4.drew
        have htri4 := Htri.out.later hb4.drew
        have hvl4 := Hvl.out
        have hW4 : Later w w4 := hlw.trans hb4
        have hown4 := hown.later hb4
        have hvar4 := hvar.later hb4
        have hcor4 : VarCorner w4.drew W2.heap.size (w1.heap.size + 1) := hb4.drew.cell hcor
        have hz4 : W3.heap.size ≤ w4.heap.size := Nat.le_trans hsz hb4.size
        obtain ⟨cur, hg4, hbB, hlN, hNm, hcs, htk⟩ := hown4.row
        have ho4 := Own.erase hj (show w4.drew.heap[w1.heap.size]? = _ from hg4) hbB hlN hNm hcs htk
        have hp4 : PtsAt w4.drew w1.heap.size 0 l := hown4.at0 hl0
        have hw1 : IntKind.i64.wrap ((j : Int) + 1) = (j : Int) + 1 := IntWalk.i64_in _ (by omega)
        have j1 : (0 : Int) ≤ (j : Int) ∧ (j : Int) ≤ (l.length : Int) := by omega
        have j2 : (0 : Int) ≤ (j : Int) + 1 ∧ (j : Int) + 1 ≤ (l.length : Int) := by omega
        have j3 : (l.length : Int) ≤ (L.length : Int) := by omega
        have j4 : ¬ L.length = j := by omega
        have j5 : ((j : Int) + 1).toNat = j + 1 := by omega
        have hfit : j * 2 + (flat (l.drop (j + 1))).length ≤ cur.size := by rw [flat_length, List.length_drop, hcs]; omega
        have hsrc : ∀ SA : Addr, (SA = ⟨w1.heap.size, (j + 1) * 2, none⟩ ∨ l.length = j + 1) → ∀ i u, (flat (l.drop (j + 1)))[i]? = some u → w4.drew.cell? (SA.add i) = some u := by
          intro SA h i u hu
          rcases h with rfl | h
          · exact drop_cells hp4 i u hu
          · rw [List.drop_eq_nil_of_le (by omega)] at hu; simp [flat] at hu
        have hrun : ∀ SA : Addr, (SA = ⟨w1.heap.size, (j + 1) * 2, none⟩ ∨ l.length = j + 1) → (Builtin.copy_ #[28, 28] 3 #[.slice (some ⟨w1.heap.size, j * 2, none⟩) (l.length - j) (L.length - j), .slice (some SA) (l.length - (j + 1)) (L.length - (j + 1))]).run Tryz.prog w4.drew =
            .ok (goInt (Nat.min (l.length - (j + 1)) (l.length - j))) (w4.drew.setRow w1.heap.size (cur.toList.take (j * 2) ++ flat (l.drop (j + 1)) ++ cur.toList.drop (j * 2 + (flat (l.drop (j + 1))).length)).toArray) := fun SA h =>
          run_copy_rowN (P := Tryz.prog) w4.drew 28 28 3 29 2 w1.heap.size (j * 2) (l.length - j) (L.length - j) SA (l.length - (j + 1)) (L.length - (j + 1)) cur 29 (flat (l.drop (j + 1))) Tryz.underlying28 (by rw [hi]; simp [hz1]) hg4 (drop_len hj) (hsrc SA h) hfit (flat_one _)
        have hcut := fun u => Cut.mk' w4.drew w1.heap.size (w1.heap.size + 1) 0 (cur.toList.take (j * 2) ++ flat (l.drop (j + 1)) ++ cur.toList.drop (j * 2 + (flat (l.drop (j + 1))).length)).toArray u
        have hv5 : Blk (w4.drew.setRow w1.heap.size (cur.toList.take (j * 2) ++ flat (l.drop (j + 1)) ++ cur.toList.drop (j * 2 + (flat (l.drop (j + 1))).length)).toArray) (w1.heap.size + 1) 28 #[.slice (some ⟨w1.heap.size, 0, none⟩) l.length L.length] := (setRow_other w4.drew w1.heap.size (w1.heap.size + 1) _ (by omega)).trans hvar4.drew
        have hl5 : Later w (w4.drew.setRow w1.heap.size (cur.toList.take (j * 2) ++ flat (l.drop (j + 1)) ++ cur.toList.drop (j * 2 + (flat (l.drop (j + 1))).length)).toArray) := hW4.drew.setRow hbB _
        have hz5 : W3.heap.size ≤ (w4.drew.setRow w1.heap.size (cur.toList.take (j * 2) ++ flat (l.drop (j + 1)) ++ cur.toList.drop (j * 2 + (flat (l.drop (j + 1))).length)).toArray).heap.size := by
          simp [World.setRow]; omega
        generalize w4.drew.setRow w1.heap.size (cur.toList.take (j * 2) ++ flat (l.drop (j + 1)) ++ cur.toList.drop (j * 2 + (flat (l.drop (j + 1))).length)).toArray = W5 at *
        have c5 : W5.cell? ⟨w1.heap.size + 1, 0, none⟩ = some (.slice (some ⟨w1.heap.size, 0, none⟩) l.length L.length) := hv5.cell 0
        have f5 := hv5.frozen 0
        have hrw5 := fun u => (hcut u).owns (base := W3.heap.size) (by omega) (by omega) hrw4
        have htr5 := fun u => (hcut u).tris (base := W3.heap.size) (by omega) (by omega) htri4
        have hco5 := fun u => (hcut u).cell (g := W2.heap.size) (o := 0) (by omega) (by omega) hcor4
        have Hrun := Lib.hid hrun
        have Hrw5 := Lib.hid hrw5
        have Htr5 := Lib.hid htr5
        have Hco5 := Lib.hid hco5
        have hel : (l.eraseIdx j).length = l.length - 1 := by rw [List.length_eraseIdx, if_pos hj]
        have Hel := Lib.hid hel
        have Hvl4 := Lib.hid hvl4
        clear hrun hrw5 htr5 hco5 hcut hsrc hfit hel hrw4 htri4 hvl4 hp4 hcs htk hg4
        have j6 : (0 : Int) ≤ (l.length : Int) - 1 ∧ (l.length : Int) - 1 ≤ (L.length : Int) := by omega
        have j7 : ((l.length : Int) - 1).toNat = l.length - 1 := by omega
        by_cases hq : L.length = j + 1
        · go_region_held3 (fun w' : World => w'.cell? ⟨w1.heap.size + 1, 0, none⟩ = some (.slice (some ⟨w1.heap.size, 0, none⟩) l.length L.length)) (first | assumption | exact (Later.refl _).drew.cell hv4)
            (first | (refine step_copy_run (o := ⟨some 68, _, _, _, _, _⟩) _ rfl (.tmp 63) (.tmp 67) 28 28 rfl _ _ rfl rfl _ _ (Hrun.out _ (.inr (by omega))) ?_))
          have Hq := Lib.hid hq
          clear hq
          go_wp2
          go_roundg (l.length - 1)
          case measure => omega
          case rel => exact ⟨f', l.eraseIdx j, acc, vs, Hel.out, by rw [He.out, Hsp.out], by rw [Hel.out]; have := Hf'.out; omega, by rw [Hel.out]; omega, by rw [Hel.out]; omega, gp_erase hin, by rw [Hel.out]; first | omega | (simp; omega), Hrw5.out _, Htr5.out _, Hvl4.out, by rw [Hel.out]; exact hv5.set_ 0 _, by rw [Hel.out]; exact ho4.far (by omega), Hco5.out _, hl5.put (by omega) _, by simpa [World.setCell] using hz5⟩
        · go_region_held3 (fun w' : World => w'.cell? ⟨w1.heap.size + 1, 0, none⟩ = some (.slice (some ⟨w1.heap.size, 0, none⟩) l.length L.length)) (first | assumption | exact (Later.refl _).drew.cell hv4)
            (first | (refine step_copy_run (o := ⟨some 68, _, _, _, _, _⟩) _ rfl (.tmp 63) (.tmp 67) 28 28 rfl _ _ rfl rfl _ _ (Hrun.out _ (.inl rfl)) ?_))
          go_wp2
          go_roundg (l.length - 1)
          case measure => omega
          case rel => exact ⟨f', l.eraseIdx j, acc, vs, Hel.out, by rw [He.out, Hsp.out], by rw [Hel.out]; have := Hf'.out; omega, by rw [Hel.out]; omega, by rw [Hel.out]; omega, gp_erase hin, by rw [Hel.out]; first | omega | (simp; omega), Hrw5.out _, Htr5.out _, Hvl4.out, by rw [Hel.out]; exact hv5.set_ 0 _, by rw [Hel.out]; exact ho4.far (by omega), Hco5.out _, hl5.put (by omega) _, by simpa [World.setCell] using hz5⟩

end Go.Proofs.YtdhakoecjmaebaaGreat

/- triangle.Split at every list of points. -/
namespace Go.Proofs.YtdhakoecjmaebaaGreat
open Go.RowKit
set_option linter.unusedSimpArgs false
set_option linter.unusedVariables false

/-- What triangle.Split returns: the triangles and the error. -/
def splitR (ps : List Pt) : List (List Pt) × Int :=
  if checkI ps = 0 then (match splitOf ps with | some ts => (ts, 0) | none => ([], 11)) else ([], checkI ps)
def SplitPost2 (r : List (List Pt) × Int) (w : World) (e : Ending) (w' : World) : Prop :=
  ∃ A c, e = .returned (.tuple #[.slice A r.1.length c, .int .i64 r.2]) ∧ r.1.length ≤ c ∧ Polys w' A r.1 ∧ Later w w'

set_option maxHeartbeats 1000000 in
theorem polygon_Normal_err (A : Option Addr) (c : Nat) (ps : List Pt) (w : World) (hn : ps.length ≤ 1099511627776) (hcap : ps.length ≤ c) (hp : Pts w A ps) (hok : checkI ps ≠ 0) :
    Calls Tryz.prog 101 #[.slice A ps.length c] w (Ret (.tuple #[.slice none 0 0, .int .i64 (checkI ps)]) w) := by
  have hC := polygon_Check A c ps w hn hcap hp
  generalize checkI ps = e0 at *
  have h0 : (e0 != 0) = true := by simpa using hok
  have HC := Lib.hid hC
  clear hC hok
  go_enter Tryz.func101, Tryz.ntmps101
  go_wp2_with (first | (go_at_call 27; refine HC.out.mono ?_; rintro e w1 ⟨rfl, hb1⟩))
  go_ret2
  exact ⟨rfl, hb1⟩

set_option maxHeartbeats 1000000 in
theorem triangle_Split_err (A : Option Addr) (c : Nat) (ps : List Pt) (w : World) (hn : ps.length ≤ 1099511627776) (hcap : ps.length ≤ c) (hp : Pts w A ps) (hok : checkI ps ≠ 0) :
    Calls Tryz.prog 63 #[.slice A ps.length c] w (Ret (.tuple #[.slice none 0 0, .int .i64 (checkI ps)]) w) := by
  have hC := polygon_Normal_err A c ps w hn hcap hp hok
  generalize checkI ps = e0 at *
  have h0 : (e0 != 0) = true := by simpa using hok
  have HC := Lib.hid hC
  clear hC hok
  go_enter Tryz.func63, Tryz.ntmps63
  go_wp2_with (first | (go_at_call 101; refine HC.out.mono ?_; rintro e w1 ⟨rfl, hb1⟩))
  go_ret2
  exact ⟨rfl, hb1⟩

theorem polys_nil (w : World) (A : Option Addr) : Polys w A [] := fun h => by simp at h

theorem triangle_Split (A : Option Addr) (c : Nat) (ps : List Pt) (w : World) (hn : ps.length ≤ 1099511627776) (hcap : ps.length ≤ c) (hp : Pts w A ps) :
    Calls Tryz.prog 63 #[.slice A ps.length c] w (SplitPost2 (splitR ps) w) := by
  unfold splitR
  by_cases hok : checkI ps = 0
  · rw [if_pos hok]
    have hne := corners_ne hok
    have hlen := normal_len ps
    have hle := corners_le ps
    have h40 := (simple_of_check hok).2.2
    refine (triangle_Split_ok A c ps w hcap hp hok hne (by omega) (by omega) (normal_in hok)).mono ?_
    intro e w' h
    cases hs : splitOf ps with
    | none =>
      rw [hs] at h
      exact ⟨none, 0, h.1, Nat.le_refl _, polys_nil _ _, h.2⟩
    | some ts =>
      rw [hs] at h
      exact h
  · rw [if_neg hok]
    refine (triangle_Split_err A c ps w hn hcap hp hok).mono ?_
    intro e w' h
    exact ⟨none, 0, h.1, Nat.le_refl _, polys_nil _ _, h.2⟩

theorem eraseIdx_all {Q : Pt → Prop} {l : List Pt} {i : Nat} (h : ∀ p ∈ l, Q p) : ∀ p ∈ l.eraseIdx i, Q p := fun p hp => h p (List.mem_of_mem_eraseIdx hp)
theorem splitGo_all {Q : Pt → Prop} (h0 : Q ⟨0, 0⟩) : ∀ f l acc ts, (∀ p ∈ l, Q p) → (∀ t ∈ acc, ∀ p ∈ t, Q p) → splitGo f l acc = some ts → ∀ t ∈ ts, ∀ p ∈ t, Q p := by
  have last : ∀ (l : List Pt) (acc ts : List (List Pt)), (∀ p ∈ l, Q p) → (∀ t ∈ acc, ∀ p ∈ t, Q p) → some (acc ++ [l]) = some ts → ∀ t ∈ ts, ∀ p ∈ t, Q p := by
    intro l acc ts hl ha he t ht
    cases he
    rcases List.mem_append.1 ht with ht | ht
    · exact ha t ht
    · rw [List.mem_singleton.1 ht]; exact hl
  intro f
  induction f with
  | zero => intro l acc ts hl ha he; exact last l acc ts hl ha he
  | succ f ih =>
    intro l acc ts hl ha he
    rw [splitGo] at he
    split at he
    · exact last l acc ts hl ha he
    · split at he
      · exact ih _ _ _ (eraseIdx_all hl) ha he
      · split at he
        · refine ih _ _ _ (eraseIdx_all hl) ?_ he
          intro t ht
          rcases List.mem_append.1 ht with ht | ht
          · exact ha t ht
          · rw [List.mem_singleton.1 ht]
            intro p hp
            simp only [triOf, List.mem_cons, List.not_mem_nil, or_false] at hp
            rcases hp with rfl | rfl | rfl <;> exact gp_all h0 hl _
        · cases he
theorem splitGo_len : ∀ f l acc ts, l.length ≤ 40 → (∀ t ∈ acc, t.length ≤ 40) → splitGo f l acc = some ts → ∀ t ∈ ts, t.length ≤ 40 := by
  have last : ∀ (l : List Pt) (acc ts : List (List Pt)), l.length ≤ 40 → (∀ t ∈ acc, t.length ≤ 40) → some (acc ++ [l]) = some ts → ∀ t ∈ ts, t.length ≤ 40 := by
    intro l acc ts hl ha he t ht
    cases he
    rcases List.mem_append.1 ht with ht | ht
    · exact ha t ht
    · rw [List.mem_singleton.1 ht]; exact hl
  have el : ∀ (l : List Pt) (i : Nat), l.length ≤ 40 → (l.eraseIdx i).length ≤ 40 := by
    intro l i h
    rw [List.length_eraseIdx]
    split <;> omega
  intro f
  induction f with
  | zero => intro l acc ts hl ha he; exact last l acc ts hl ha he
  | succ f ih =>
    intro l acc ts hl ha he
    rw [splitGo] at he
    split at he
    · exact last l acc ts hl ha he
    · split at he
      · exact ih _ _ _ (el _ _ hl) ha he
      · split at he
        · refine ih _ _ _ (el _ _ hl) ?_ he
          intro t ht
          rcases List.mem_append.1 ht with ht | ht
          · exact ha t ht
          · rw [List.mem_singleton.1 ht]; simp [triOf]
        · cases he
theorem splitR_sm (ps : List Pt) : ∀ t ∈ (splitR ps).1, AllSm t ∧ t.length ≤ 40 := by
  unfold splitR
  by_cases hok : checkI ps = 0
  · rw [if_pos hok]
    cases hs : splitOf ps with
    | none => intro t ht; cases ht
    | some ts =>
      intro t ht
      have hin : ∀ p ∈ normalOf ps, outP p = false := by
        intro p hp
        obtain ⟨k, hk, he⟩ := List.getElem_of_mem hp
        rw [← he, ← gp_eq hk]
        exact normal_in hok k
      have hlen := normal_len ps
      have hle := corners_le ps
      have h40 := (simple_of_check hok).2.2
      have h1 := splitGo_all (Q := fun p => outP p = false) rfl _ _ _ ts hin (by intro t ht; cases ht) hs t ht
      exact ⟨fun j => out_sm (gp_all (Q := fun p => outP p = false) rfl h1 j), splitGo_len _ _ _ ts (by omega) (by intro t ht; cases ht) hs t ht⟩
  · rw [if_neg hok]
    intro t ht; cases ht

end Go.Proofs.YtdhakoecjmaebaaGreat
