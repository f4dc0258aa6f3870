/-
  Words for the walk of triangle.Split: the triangles so far, the polygon that is left, one vertex taken out.
  What stays as it is when triangle.Split takes a vertex out.
  Plain facts on the normal form: how long it is, that its points are the polygon's, that a simple polygon has a corner.
  A simple polygon turns somewhere.
  The walk of triangle.Split.
  triangle.Split at every list of points.
-/
import Derived.Test.YtdhakoecjmaebaaNorm
import Derived.Test.YtdhakoecjmaebaaFree
import Derived.Laws.EntriesVeiled
import Derived.Deep.LoopGhost
/- Words for the walk of triangle.Split: the triangles so far, the polygon that is left, one vertex taken out. -/
namespace Go.Proofs.Ytdhakoecjmaebaa
open Go.RowKit
set_option linter.unusedSimpArgs false
set_option linter.unusedVariables false

def triOf (l : List Pt) (j : Nat) : List Pt := [gp l ((j + l.length - 1) % l.length), gp l j, gp l ((j + 1) % l.length)]
def straightAt (l : List Pt) : Int := firstGo (fun k => decide (bendI l k = 0)) l.length 0
def freeAt (l : List Pt) : Int := firstGo (freeB l) l.length 0
/-- triangle.Split, from the normal form on: none if no vertex can be cut off. -/
def splitGo : Nat → List Pt → List (List Pt) → Option (List (List Pt))
  | 0, l, acc => some (acc ++ [l])
  | f + 1, l, acc =>
    if l.length ≤ 3 then some (acc ++ [l])
    else if 0 ≤ straightAt l then splitGo f (l.eraseIdx (straightAt l).toNat) acc
    else if 0 ≤ freeAt l then splitGo f (l.eraseIdx (freeAt l).toNat) (acc ++ [triOf l (freeAt l).toNat])
    else none
def splitOf (ps : List Pt) : Option (List (List Pt)) := splitGo (normalOf ps).length (normalOf ps) []

theorem first_bd (t : Nat → Bool) : ∀ f k, firstGo t f k = -1 ∨ ∃ j, k ≤ j ∧ j < k + f ∧ firstGo t f k = (j : Int) ∧ t j = true := by
  intro f
  induction f with
  | zero => intro k; exact .inl rfl
  | succ f ih =>
    intro k
    rw [firstGo]
    split
    · exact .inr ⟨k, by omega, by omega, rfl, by assumption⟩
    · rcases ih (k + 1) with h | ⟨j, h1, h2, h3, h4⟩
      · exact .inl h
      · exact .inr ⟨j, by omega, by omega, h3, h4⟩
theorem straight_bd (l : List Pt) : straightAt l = -1 ∨ ∃ j, j < l.length ∧ straightAt l = (j : Int) := by
  rcases first_bd (fun k => decide (bendI l k = 0)) l.length 0 with h | ⟨j, _, h2, h3, _⟩
  · exact .inl h
  · exact .inr ⟨j, by omega, h3⟩
theorem free_bd (l : List Pt) : freeAt l = -1 ∨ ∃ j, j < l.length ∧ freeAt l = (j : Int) ∧ freeB l j = true := by
  rcases first_bd (freeB l) l.length 0 with h | ⟨j, _, h2, h3, h4⟩
  · exact .inl h
  · exact .inr ⟨j, by omega, h3, h4⟩

theorem split_small {f : Nat} {l : List Pt} {acc : List (List Pt)} (h : l.length ≤ 3) : splitGo f l acc = some (acc ++ [l]) := by
  cases f with
  | zero => rfl
  | succ f => rw [splitGo, if_pos h]
theorem split_straight_step {f j : Nat} {l : List Pt} {acc : List (List Pt)} (h : ¬ l.length ≤ 3) (hf : l.length ≤ f + 3) (hs : straightAt l = (j : Int)) :
    ∃ f', f = f' + 1 ∧ splitGo f l acc = splitGo f' (l.eraseIdx j) acc := by
  obtain ⟨f', rfl⟩ : ∃ f', f = f' + 1 := ⟨f - 1, by omega⟩
  exact ⟨f', rfl, by rw [splitGo, if_neg h, hs, if_pos (by omega)]; rfl⟩
theorem split_free_step {f j : Nat} {l : List Pt} {acc : List (List Pt)} (h : ¬ l.length ≤ 3) (hf : l.length ≤ f + 3) (hs : straightAt l = -1) (ht : freeAt l = (j : Int)) :
    ∃ f', f = f' + 1 ∧ splitGo f l acc = splitGo f' (l.eraseIdx j) (acc ++ [triOf l j]) := by
  obtain ⟨f', rfl⟩ : ∃ f', f = f' + 1 := ⟨f - 1, by omega⟩
  exact ⟨f', rfl, by rw [splitGo, if_neg h, hs, if_neg (by omega), ht, if_pos (by omega)]; rfl⟩
theorem split_none {f : Nat} {l : List Pt} {acc : List (List Pt)} (h : ¬ l.length ≤ 3) (hf : l.length ≤ f + 3) (hs : straightAt l = -1) (ht : freeAt l = -1) : splitGo f l acc = none := by
  obtain ⟨f', rfl⟩ : ∃ f', f = f' + 1 := ⟨f - 1, by omega⟩
  rw [splitGo, if_neg h, hs, if_neg (by omega), ht, if_neg (by omega)]

/-- A triangle in a block of its own from base on. -/
def TriV (w : World) (base : Nat) (v : Value) (t : List Pt) : Prop := ∃ (g : Nat) (a b c : Pt), t = [a, b, c] ∧ v = .slice (some ⟨g, 0, none⟩) 3 3 ∧ base ≤ g ∧
  Blk w g 68 #[.int .i64 a.x, .int .i64 a.y, .int .i64 b.x, .int .i64 b.y, .int .i64 c.x, .int .i64 c.y]
def TriVs (w : World) (base : Nat) : List Value → List (List Pt) → Prop
  | [], [] => True
  | v :: vs, ps :: pss => TriV w base v ps ∧ TriVs w base vs pss
  | _, _ => False
theorem TriV.poly {w : World} {base : Nat} {v : Value} {t : List Pt} (h : TriV w base v t) : PolyV w v t := by
  obtain ⟨g, a, b, c, rfl, rfl, _, hb⟩ := h
  exact ⟨_, _, rfl, by simp, by unfold maxLen; omega, fun _ => ⟨g, 0, rfl, pts_three hb⟩⟩
theorem TriVs.keep {w w' : World} {base : Nat} {vs : List Value} {pss : List (List Pt)} (h : TriVs w base vs pss)
    (k : ∀ g cs, base ≤ g → Blk w g 68 cs → Blk w' g 68 cs) : TriVs w' base vs pss := by
  induction vs generalizing pss with
  | nil => cases pss with
    | nil => trivial
    | cons => exact h.elim
  | cons v vs ih => cases pss with
    | nil => exact h.elim
    | cons ps pss =>
      refine ⟨?_, ih h.2⟩
      obtain ⟨g, a, b, c, e1, e2, e3, hb⟩ := h.1
      exact ⟨g, a, b, c, e1, e2, e3, k _ _ e3 hb⟩
theorem TriVs.snoc {w : World} {base : Nat} {vs : List Value} {pss : List (List Pt)} {v : Value} {ps : List Pt} (h : TriVs w base vs pss) (k : TriV w base v ps) : TriVs w base (vs ++ [v]) (pss ++ [ps]) := by
  induction vs generalizing pss with
  | nil => cases pss with
    | nil => exact ⟨k, trivial⟩
    | cons => exact h.elim
  | cons u vs ih => cases pss with
    | nil => exact h.elim
    | cons ps pss => exact ⟨h.1, ih h.2⟩
theorem TriVs.polys {w : World} {base : Nat} {vs : List Value} {pss : List (List Pt)} (h : TriVs w base vs pss) : PolyVs w vs pss := by
  induction vs generalizing pss with
  | nil => cases pss with
    | nil => trivial
    | cons => exact h.elim
  | cons v vs ih => cases pss with
    | nil => exact h.elim
    | cons ps pss => exact ⟨h.1.poly, ih h.2⟩
theorem TriVs.one {w : World} {base : Nat} {vs : List Value} {pss : List (List Pt)} (h : TriVs w base vs pss) : ∀ u ∈ vs, u.oneCell' = true := by
  induction vs generalizing pss with
  | nil => intro u hu; cases hu
  | cons v vs ih => cases pss with
    | nil => exact h.elim
    | cons ps pss =>
      intro u hu
      rcases List.mem_cons.1 hu with rfl | hu
      · obtain ⟨g, a, b, c, _, rfl, _⟩ := h.1; rfl
      · exact ih h.2 u hu

/-- The row of what is left, as an array of cells. -/
theorem Own.row {w : World} {base g N : Nat} {l : List Pt} (h : Own w base (.slice (some ⟨g, 0, none⟩) l.length N) l) :
    ∃ cur : Array Value, w.heap[g]? = some (.cells cur 68 (0, 0)) ∧ base ≤ g ∧ l.length ≤ N ∧ N ≤ maxLen ∧ cur.size = N * 2 ∧ cur.toList.take (l.length * 2) = flat l := by
  rcases h.2 with ⟨h1, _⟩ | ⟨g', cap, cur, hv, hb, hg, h1, h2, h3, h4⟩
  · cases h1
  · cases hv
    exact ⟨cur, hg, hb, h1, h2, h3, h4⟩
theorem flat_take (l : List Pt) (i : Nat) : flat (l.take i) = (flat l).take (i * 2) := by
  induction l generalizing i with
  | nil => simp [flat]
  | cons p l ih =>
    cases i with
    | zero => simp [flat]
    | succ i =>
      rw [show (i + 1) * 2 = i * 2 + 1 + 1 by omega]
      simp [flat, ih]
theorem flat_drop (l : List Pt) (i : Nat) : flat (l.drop i) = (flat l).drop (i * 2) := by
  induction l generalizing i with
  | nil => simp [flat]
  | cons p l ih =>
    cases i with
    | zero => simp [flat]
    | succ i =>
      rw [show (i + 1) * 2 = i * 2 + 1 + 1 by omega]
      simp [flat, ih]
/-- copy(left[i:], left[i+1:]) and left[:len(left)-1] take vertex i out. -/
theorem Own.erase {w : World} {base g N i : Nat} {l : List Pt} {cur : Array Value} (hi : i < l.length) (hg : w.heap[g]? = some (.cells cur 68 (0, 0))) (hb : base ≤ g) (hN : l.length ≤ N) (hm : N ≤ maxLen) (hs : cur.size = N * 2) (ht : cur.toList.take (l.length * 2) = flat l) :
    Own (w.setRow g (cur.toList.take (i * 2) ++ flat (l.drop (i + 1)) ++ cur.toList.drop (i * 2 + (flat (l.drop (i + 1))).length)).toArray) base (.slice (some ⟨g, 0, none⟩) (l.length - 1) N) (l.eraseIdx i) := by
  have hel : (l.eraseIdx i).length = l.length - 1 := by rw [List.length_eraseIdx, if_pos hi]
  have hfl : (flat (l.drop (i + 1))).length = (l.length - (i + 1)) * 2 := by rw [flat_length, List.length_drop]
  refine ⟨by rw [flat_length], .inr ⟨g, N, _, by rw [hel], hb, setRow_heap w g cur _ 68 _ hg, by omega, hm, ?_, ?_⟩⟩
  · simp only [List.size_toArray, List.length_append, List.length_take, List.length_drop, hfl, Array.length_toList, hs]
    omega
  · have e1 : cur.toList.take (i * 2) = flat (l.take i) := by
      rw [flat_take, ← ht, List.take_take]
      congr 1
      omega
    rw [e1, List.eraseIdx_eq_take_drop_succ, flat_append]
    have hlen : (flat (l.take i) ++ flat (l.drop (i + 1))).length = (l.take i ++ l.drop (i + 1)).length * 2 := by
      rw [← flat_append, flat_length]
    exact List.take_left' hlen

end Go.Proofs.Ytdhakoecjmaebaa

/- What stays as it is when triangle.Split takes a vertex out. -/
namespace Go.Proofs.Ytdhakoecjmaebaa
open Go.RowKit
set_option linter.unusedSimpArgs false
set_option linter.unusedVariables false

theorem owns_block {w w' : World} {base : Nat} {e : TypeId} {size n : Nat} {v : Value} {xs : List Value} (h : w.ownsRow base e size v n xs) (k : ∀ g, base ≤ g → g < w.heap.size → w'.heap[g]? = w.heap[g]?) : w'.ownsRow base e size v n xs := by
  refine ⟨h.1, ?_⟩
  rcases h.2 with ⟨h1, h2⟩ | ⟨g, cap, cur, hv, hb, hg, r⟩
  · exact .inl ⟨h1, h2⟩
  · exact .inr ⟨g, cap, cur, hv, hb, (k g hb (by
      rcases Nat.lt_or_ge g w.heap.size with hlt | hge
      · exact hlt
      · rw [Array.getElem?_eq_none hge] at hg; cases hg)).trans hg, r⟩

/-- The world behind the vertex's removal: row B anew, the variable in block Lv anew. -/
structure Cut (w w' : World) (B Lv : Nat) : Prop where
  block : ∀ g, g ≠ B → g ≠ Lv → w'.heap[g]? = w.heap[g]?
theorem Cut.mk' (w : World) (B Lv o : Nat) (cs : Array Value) (u : Value) : Cut w ((w.setRow B cs).setCell ⟨Lv, o, none⟩ u) B Lv :=
  ⟨fun g h1 h2 => (Below.heap_setCell (w.setRow B cs) ⟨Lv, o, none⟩ u g h2).trans (setRow_other w B g cs h1)⟩
theorem Cut.owns {w w' : World} {B Lv base : Nat} (h : Cut w w' B Lv) (hB : B < base) (hL : Lv < base) {e : TypeId} {size n : Nat} {v : Value} {xs : List Value} (k : w.ownsRow base e size v n xs) : w'.ownsRow base e size v n xs :=
  owns_block k (fun g hg _ => h.block g (by omega) (by omega))
theorem Cut.tris {w w' : World} {B Lv base : Nat} (h : Cut w w' B Lv) (hB : B < base) (hL : Lv < base) {vs : List Value} {pss : List (List Pt)} (k : TriVs w base vs pss) : TriVs w' base vs pss :=
  k.keep (fun g cs hg hb => (h.block g (by omega) (by omega)).trans hb)
theorem Cut.cell {w w' : World} {B Lv : Nat} (h : Cut w w' B Lv) {g o : Nat} {v : Value} (h1 : g ≠ B) (h2 : g ≠ Lv) (k : w.cell? ⟨g, o, none⟩ = some v) : w'.cell? ⟨g, o, none⟩ = some v :=
  (World.cell?_of_block (a := ⟨g, o, none⟩) (h.block g h1 h2)).trans k
theorem Own.far {w : World} {base B N Lv o : Nat} {l : List Pt} {u : Value} {n : Nat} (h : Own w base (.slice (some ⟨B, 0, none⟩) n N) l) (hne : B ≠ Lv) : Own (w.setCell ⟨Lv, o, none⟩ u) base (.slice (some ⟨B, 0, none⟩) n N) l := by
  refine ⟨h.1, ?_⟩
  rcases h.2 with ⟨h1, h2⟩ | ⟨g, cap, cur, hv, hb, hg, r⟩
  · exact .inl ⟨h1, h2⟩
  · cases hv
    exact .inr ⟨B, _, cur, rfl, hb, (Below.heap_setCell w ⟨Lv, o, none⟩ u B hne).trans hg, r⟩
theorem owns_later {w w' : World} {base : Nat} {e : TypeId} {size n : Nat} {v : Value} {xs : List Value} (h : w.ownsRow base e size v n xs) (k : Later w w') : w'.ownsRow base e size v n xs :=
  owns_block h (fun g _ hg => k.block g hg)
theorem TriVs.later {w w' : World} {base : Nat} {vs : List Value} {pss : List (List Pt)} (h : TriVs w base vs pss) (k : Later w w') : TriVs w' base vs pss :=
  h.keep (fun g cs _ hb => hb.later k)
theorem gp_erase {l : List Pt} {i : Nat} (h : AllIn l) : AllIn (l.eraseIdx i) := by
  intro j
  unfold gp
  by_cases hj : j < (l.eraseIdx i).length
  · rw [List.getD_eq_getElem?_getD, List.getElem?_eq_getElem hj, Option.getD_some]
    have hm : (l.eraseIdx i)[j] ∈ l := List.mem_of_mem_eraseIdx (List.getElem_mem hj)
    obtain ⟨k, hk, he⟩ := List.getElem_of_mem hm
    rw [← he, ← gp_eq hk]
    exact h k
  · rw [List.getD_eq_getElem?_getD, List.getElem?_eq_none (by omega), Option.getD_none]
    rfl
/-- The sources' cells of what is moved. -/
theorem drop_cells {w : World} {B j : Nat} {l : List Pt} (h : PtsAt w B 0 l) : ∀ i u, (flat (l.drop (j + 1)))[i]? = some u → w.cell? ((⟨B, (j + 1) * 2, none⟩ : Addr).add i) = some u := by
  refine src_cells (A := some ⟨B, (j + 1) * 2, none⟩) (l := l.drop (j + 1)) (fun _ => ⟨B, (j + 1) * 2, rfl, ?_⟩) _ rfl
  intro i p hi
  rw [List.getElem?_drop] at hi
  obtain ⟨z1, z2⟩ := h _ _ hi
  rw [show 0 + (j + 1 + i) * 2 = (j + 1) * 2 + i * 2 by omega] at z1 z2
  exact ⟨z1, z2⟩
theorem drop_len {l : List Pt} {j : Nat} (h : j < l.length) : (flat (l.drop (j + 1))).length = Nat.min (l.length - (j + 1)) (l.length - j) * 2 := by
  rw [flat_length, List.length_drop, show Nat.min (l.length - (j + 1)) (l.length - j) = l.length - (j + 1) from Nat.min_eq_left (by omega)]

theorem own_ne {w : World} {base : Nat} {e t : TypeId} {size n g : Nat} {v : Value} {xs : List Value} {cs : Array Value} (h : w.ownsRow base e size v n xs) (hg : Blk w g t cs) (hne : e ≠ t) : some g ≠ v.ownBlock := by
  rcases h.2 with ⟨rfl, _⟩ | ⟨g', cap, cur, rfl, _, hh, _⟩
  · simp [Value.ownBlock]
  · intro he
    have : g = g' := by simpa [Value.ownBlock] using he
    subst this
    unfold Blk at hg
    rw [hg] at hh
    cases hh
    exact hne rfl
theorem TriVs.grown {w w' : World} {base : Nat} {vs : List Value} {pss : List (List Pt)} {row : Option Nat} (h : TriVs w base vs pss) (hg : w.grownBy w' row) (hne : ∀ g cs, Blk w g 68 cs → some g ≠ row) : TriVs w' base vs pss :=
  h.keep (fun g cs _ hb => (hg.block g hb.lt (hne g cs hb)).trans hb)
theorem grown_cell {w w' : World} {row : Option Nat} {g o : Nat} {v : Value} (hg : w.grownBy w' row) (hne : some g ≠ row) (h : w.cell? ⟨g, o, none⟩ = some v) : w'.cell? ⟨g, o, none⟩ = some v := hg.cell h hne
theorem Own.grown {w w' : World} {base B N n : Nat} {l : List Pt} {row : Option Nat} (h : Own w base (.slice (some ⟨B, 0, none⟩) n N) l) (hg : w.grownBy w' row) (hne : some B ≠ row) : Own w' base (.slice (some ⟨B, 0, none⟩) n N) l := by
  refine ⟨h.1, ?_⟩
  rcases h.2 with ⟨h1, h2⟩ | ⟨g, cap, cur, hv, hb, hh, r⟩
  · exact .inl ⟨h1, h2⟩
  · cases hv
    exact .inr ⟨B, _, cur, rfl, hb, (hg.block B (by
      rcases Nat.lt_or_ge B w.heap.size with hlt | hge
      · exact hlt
      · rw [Array.getElem?_eq_none hge] at hh; cases hh) hne).trans hh, r⟩
theorem polys_of_owns {w : World} {base n : Nat} {v : Value} {vs : List Value} {pss : List (List Pt)} (h : w.ownsRow base 82 1 v n vs) (hp : PolyVs w vs pss) (hn : n = pss.length) (h0 : 0 < n) : ∃ A c, v = .slice A pss.length c ∧ pss.length ≤ c ∧ Polys w A pss := by
  rcases h.2 with ⟨_, h2⟩ | ⟨g, cap, cur, hv, hb, hh, hnc, hcm, hcs, htk⟩
  · omega
  · subst hv
    refine ⟨_, cap, by rw [hn], by omega, fun _ => ⟨g, 0, rfl, fun i ps hi => ?_⟩⟩
    obtain ⟨v, hv, hpv⟩ := hp.get hi
    have hlt : i < pss.length := by
      rcases Nat.lt_or_ge i pss.length with hh | hh
      · exact hh
      · rw [List.getElem?_eq_none hh] at hi; cases hi
    exact ⟨v, by rw [Nat.zero_add, h.cellAt i (by omega)]; exact hv, hpv⟩
theorem Own.poly {w : World} {base B N : Nat} {l : List Pt} (h : Own w base (.slice (some ⟨B, 0, none⟩) l.length N) l) : PolyV w (.slice (some ⟨B, 0, none⟩) l.length N) l := by
  obtain ⟨A, c, e, h1, h2, h3, _⟩ := h.form
  cases e
  exact ⟨_, _, rfl, h1, h2, h3⟩

end Go.Proofs.Ytdhakoecjmaebaa

/- Plain facts on the normal form: how long it is, that its points are the polygon's, that a simple polygon has a corner. -/
namespace Go.Proofs.Ytdhakoecjmaebaa
open Go.RowKit
set_option linter.unusedSimpArgs false
set_option linter.unusedVariables false

theorem cornGo_all {Q : Pt → Prop} (ps : List Pt) (hps : ∀ j, Q (gp ps j)) : ∀ f i acc, (∀ p ∈ acc, Q p) → ∀ p ∈ cornGo ps f i acc, Q p := by
  intro f
  induction f with
  | zero => intro i acc h; exact h
  | succ f ih =>
    intro i acc h
    rw [cornGo]
    apply ih
    split
    · exact h
    · intro p hp
      rcases List.mem_append.1 hp with hp | hp
      · exact h p hp
      · rw [List.mem_singleton.1 hp]; exact hps i
theorem cornGo_len (ps : List Pt) : ∀ f i acc, (cornGo ps f i acc).length ≤ acc.length + f := by
  intro f
  induction f with
  | zero => intro i acc; simp [cornGo]
  | succ f ih =>
    intro i acc
    rw [cornGo]
    have := ih (i + 1) (if bendI ps i = 0 then acc else acc ++ [gp ps i])
    split at this
    · rename_i h; rw [if_pos h]; omega
    · rename_i h; rw [if_neg h]; simp at this; omega
theorem gp_all {Q : Pt → Prop} {l : List Pt} (h0 : Q ⟨0, 0⟩) (h : ∀ p ∈ l, Q p) (j : Nat) : Q (gp l j) := by
  by_cases hj : j < l.length
  · rw [gp_eq hj]; exact h _ (List.getElem_mem hj)
  · unfold gp
    rw [List.getD_eq_getElem?_getD, List.getElem?_eq_none (by omega), Option.getD_none]
    exact h0
theorem revGo_all {Q : Pt → Prop} (h0 : Q ⟨0, 0⟩) : ∀ f i j l, (∀ p ∈ l, Q p) → ∀ p ∈ revGo f i j l, Q p := by
  intro f
  induction f with
  | zero => intro i j l h; exact h
  | succ f ih =>
    intro i j l h
    rw [revGo]
    split
    · apply ih
      intro p hp
      rcases List.mem_or_eq_of_mem_set hp with hp | rfl
      · rcases List.mem_or_eq_of_mem_set hp with hp | rfl
        · exact h p hp
        · exact gp_all h0 h _
      · exact gp_all h0 h _
    · exact h
theorem revGo_len : ∀ f i j l, (revGo f i j l).length = l.length := by
  intro f
  induction f with
  | zero => intro i j l; rfl
  | succ f ih =>
    intro i j l
    rw [revGo]
    split
    · rw [ih]; simp
    · rfl
theorem ccw_len (ps : List Pt) : (ccwOf ps).length = (cornersOf ps).length := by
  unfold ccwOf revOf
  split
  · exact revGo_len _ _ _ _
  · rfl
theorem rot_len (l : List Pt) : (rotOf l).length = l.length := by
  unfold rotOf
  simp
  omega
theorem normal_len (ps : List Pt) : (normalOf ps).length = (cornersOf ps).length := by rw [normalOf, rot_len, ccw_len]
theorem corners_le (ps : List Pt) : (cornersOf ps).length ≤ ps.length := by
  have := cornGo_len ps ps.length 0 []
  simpa [cornersOf] using this
theorem normal_all {Q : Pt → Prop} (h0 : Q ⟨0, 0⟩) (ps : List Pt) (h : ∀ p ∈ ps, Q p) : ∀ p ∈ normalOf ps, Q p := by
  have h1 : ∀ p ∈ cornersOf ps, Q p := cornGo_all ps (gp_all h0 h) _ _ _ (by intro p hp; cases hp)
  have h2 : ∀ p ∈ ccwOf ps, Q p := by
    unfold ccwOf
    split
    · exact revGo_all h0 _ _ _ _ h1
    · exact h1
  intro p hp
  unfold normalOf rotOf at hp
  rcases List.mem_append.1 hp with hp | hp
  · exact h2 p (List.mem_of_mem_drop hp)
  · exact h2 p (List.mem_of_mem_take hp)
theorem normal_in {ps : List Pt} (h : checkI ps = 0) : AllIn (normalOf ps) := by
  have h1 : ∀ p ∈ ps, outP p = false := by
    unfold checkI at h
    split at h
    · cases h
    · split at h
      · cases h
      · split at h
        · cases h
        · rename_i h'
          intro p hp
          have h'' : ps.any (fun p => outsideB p.x p.y) = false := by simpa using h'
          rw [List.any_eq_false] at h''
          simpa [outP] using h'' p hp
  exact gp_all (Q := fun p => outP p = false) rfl (normal_all (Q := fun p => outP p = false) rfl ps h1)

end Go.Proofs.Ytdhakoecjmaebaa

/- A simple polygon turns somewhere. -/
namespace Go.Proofs.Ytdhakoecjmaebaa
open Go.RowKit
set_option linter.unusedSimpArgs false
set_option linter.unusedVariables false

theorem sq_nonneg (x : Int) : 0 ≤ x * x := by
  rcases Int.le_total 0 x with h | h
  · exact Int.mul_nonneg h h
  · have := Int.mul_nonneg (show 0 ≤ -x by omega) (show 0 ≤ -x by omega)
    rwa [Int.neg_mul_neg] at this
theorem sq_zero {x : Int} (h : x * x = 0) : x = 0 := by
  rcases Int.mul_eq_zero.1 h with h | h <;> exact h
theorem vec_pos {x y : Int} (h : x ≠ 0 ∨ y ≠ 0) : 0 < x * x + y * y := by
  have a := sq_nonneg x
  have b := sq_nonneg y
  rcases Int.lt_or_eq_of_le (show 0 ≤ x * x + y * y by omega) with k | k
  · exact k
  · have a' : x = 0 := sq_zero (by omega)
    have b' : y = 0 := sq_zero (by omega)
    rcases h with h | h <;> contradiction
theorem pos_of_mul {a b : Int} (hb : 0 < b) (h : 0 < a * b) : 0 < a := by
  rcases Int.lt_or_le 0 a with k | k
  · exact k
  · have := Int.mul_nonneg (show 0 ≤ -a by omega) (Int.le_of_lt hb)
    rw [Int.neg_mul] at this
    omega
theorem vec_step (ux uy vx vy wx wy : Int) (h1 : ux * vy - uy * vx = 0) (h2 : 0 < ux * vx + uy * vy) (h3 : vx * wy - vy * wx = 0) (h4 : 0 ≤ vx * wx + vy * wy) (hw : wx ≠ 0 ∨ wy ≠ 0) : ux * wy - uy * wx = 0 ∧ 0 < ux * wx + uy * wy := by
  have hv0 : vx ≠ 0 ∨ vy ≠ 0 := by
    rcases Classical.em (vx = 0) with a | a
    · rcases Classical.em (vy = 0) with b | b
      · subst a b; simp at h2
      · exact .inr b
    · exact .inl a
  have hv := vec_pos hv0
  have hww := vec_pos hw
  have e1 : (ux * wy - uy * wx) * (vx * vx + vy * vy) = (ux * vy - uy * vx) * (vx * wx + vy * wy) + (ux * vx + uy * vy) * (vx * wy - vy * wx) := by grind
  have e2 : (ux * wx + uy * wy) * (vx * vx + vy * vy) = (ux * vx + uy * vy) * (vx * wx + vy * wy) - (ux * vy - uy * vx) * (vx * wy - vy * wx) := by grind
  have e3 : (vx * vx + vy * vy) * (wx * wx + wy * wy) = (vx * wx + vy * wy) * (vx * wx + vy * wy) + (vx * wy - vy * wx) * (vx * wy - vy * wx) := by grind
  rw [h1, h3] at e1 e2
  rw [h3] at e3
  have h5 : 0 < vx * wx + vy * wy := by
    rcases Int.lt_or_eq_of_le h4 with k | k
    · exact k
    · rw [← k] at e3
      have := Int.mul_pos hv hww
      simp at e3
      omega
  constructor
  · simp only [Int.zero_mul, Int.mul_zero, Int.add_zero] at e1
    rcases Int.mul_eq_zero.1 e1 with k | k
    · exact k
    · omega
  · have := Int.mul_pos h2 h5
    simp only [Int.zero_mul, Int.sub_zero] at e2
    exact pos_of_mul hv (by omega)

theorem cornGo_nil (ps : List Pt) : ∀ f i acc, cornGo ps f i acc = [] → acc = [] ∧ ∀ k, i ≤ k → k < i + f → bendI ps k = 0 := by
  intro f
  induction f with
  | zero => intro i acc h; exact ⟨h, fun k h1 h2 => by omega⟩
  | succ f ih =>
    intro i acc h
    rw [cornGo] at h
    obtain ⟨h1, h2⟩ := ih _ _ h
    split at h1
    · rename_i hb
      refine ⟨h1, fun k k1 k2 => ?_⟩
      rcases Nat.lt_or_ge i k with hh | hh
      · exact h2 k (by omega) (by omega)
      · rw [show k = i by omega]; exact hb
    · simp at h1
theorem outerGo_true (ps : List Pt) : ∀ f i, outerGo ps f i = true → ∀ k, i ≤ k → k < i + f → foldedP (gp ps k) (gp ps ((k + 1) % ps.length)) (gp ps ((k + 2) % ps.length)) = false ∧ innerGo ps k (ps.length - (k + 2)) (k + 2) = false := by
  intro f
  induction f with
  | zero => intro i h k k1 k2; omega
  | succ f ih =>
    intro i h k k1 k2
    rw [outerGo] at h
    split at h
    · cases h
    · split at h
      · cases h
      · rename_i a b
        rcases Nat.lt_or_ge i k with hh | hh
        · exact ih (i + 1) h k (by omega) (by omega)
        · rw [show k = i by omega]; exact ⟨by simpa using a, by simpa using b⟩
theorem dupGo_false (l : List Pt) : ∀ pre, dupGo pre l = false → ∀ i j (hi : i < l.length) (hj : j < l.length), i < j → l[i] ≠ l[j] := by
  have key : ∀ (l : List Pt) (pre : List Pt), dupGo pre l = false → ∀ p ∈ pre, p ∉ l := by
    intro l
    induction l with
    | nil => intro pre h p hp; simp
    | cons q l ih =>
      intro pre h p hp
      rw [dupGo] at h
      split at h
      · cases h
      · rename_i hq
        intro hm
        rcases List.mem_cons.1 hm with rfl | hm
        · exact hq hp
        · exact ih _ h p (by simp [hp]) hm
  induction l with
  | nil => intro pre h i j hi; simp at hi
  | cons q l ih =>
    intro pre h i j hi hj hij
    rw [dupGo] at h
    split at h
    · cases h
    · cases j with
      | zero => omega
      | succ j =>
        cases i with
        | zero =>
          intro he
          exact key l (pre ++ [q]) h q (by simp) (by simp at he; rw [he]; exact List.getElem_mem _)
        | succ i =>
          exact ih _ h i j (by simpa using hi) (by simpa using hj) (by omega)

theorem simple_of_check {ps : List Pt} (h : checkI ps = 0) : simpleB ps = true ∧ 3 ≤ ps.length ∧ ps.length ≤ 40 := by
  unfold checkI at h
  split at h
  · cases h
  · split at h
    · cases h
    · split at h
      · cases h
      · split at h
        · exact ⟨by assumption, by omega, by omega⟩
        · cases h
theorem distinct_of_simple {ps : List Pt} (h : simpleB ps = true) {i j : Nat} (hi : i < ps.length) (hj : j < ps.length) (hne : i ≠ j) : gp ps i ≠ gp ps j := by
  unfold simpleB at h
  split at h
  · cases h
  · rename_i hd
    have hd' : dupGo [] ps = false := by simpa using hd
    rw [gp_eq hi, gp_eq hj]
    rcases Nat.lt_or_ge i j with k | k
    · exact dupGo_false ps [] hd' i j hi hj k
    · exact fun e => dupGo_false ps [] hd' j i hj hi (by omega) e.symm

theorem corners_ne {ps : List Pt} (h : checkI ps = 0) : 0 < (cornersOf ps).length := by
  obtain ⟨hs, h3, h40⟩ := simple_of_check h
  rcases Nat.eq_zero_or_pos (cornersOf ps).length with h0 | h0
  case inr => exact h0
  exfalso
  have hnil : cornersOf ps = [] := List.eq_nil_of_length_eq_zero h0
  obtain ⟨_, hb⟩ := cornGo_nil ps _ _ _ hnil
  have ho : outerGo ps ps.length 0 = true := by
    have hs' := hs
    unfold simpleB at hs'
    split at hs'
    · cases hs'
    · exact hs'
  have hfold := outerGo_true ps _ _ ho
  -- the ways from vertex to vertex
  have step : ∀ k, k < ps.length → ((gp ps 1).x - (gp ps 0).x) * ((gp ps ((k + 1) % ps.length)).y - (gp ps k).y) - ((gp ps 1).y - (gp ps 0).y) * ((gp ps ((k + 1) % ps.length)).x - (gp ps k).x) = 0 ∧
      0 < ((gp ps 1).x - (gp ps 0).x) * ((gp ps ((k + 1) % ps.length)).x - (gp ps k).x) + ((gp ps 1).y - (gp ps 0).y) * ((gp ps ((k + 1) % ps.length)).y - (gp ps k).y) := by
    intro k
    induction k with
    | zero =>
      intro _
      rw [show (0 + 1) % ps.length = 1 from Nat.mod_eq_of_lt (by omega)]
      refine ⟨by grind, vec_pos ?_⟩
      have hd := distinct_of_simple hs (i := 0) (j := 1) (by omega) (by omega) (by omega)
      rw [Ne, pt_eq] at hd
      omega
    | succ k ih =>
      intro hk
      obtain ⟨i1, i2⟩ := ih (by omega)
      have hm : (k + 1) % ps.length = k + 1 := Nat.mod_eq_of_lt hk
      rw [hm] at i1 i2
      have hbend := hb (k + 1) (by omega) (by omega)
      unfold bendI crossP at hbend
      rw [show (k + 1 + ps.length - 1) % ps.length = k by rw [show k + 1 + ps.length - 1 = k + ps.length by omega, Nat.add_mod_right]; exact Nat.mod_eq_of_lt (by omega)] at hbend
      have hf := (hfold k (by omega) (by omega)).1
      rw [hm, show k + 2 = k + 1 + 1 by omega] at hf
      unfold foldedP foldedB at hf
      rw [hbend] at hf
      have hd := distinct_of_simple hs (i := k + 1) (j := (k + 1 + 1) % ps.length) (by omega) (Nat.mod_lt _ (by omega)) (by
        rcases Nat.lt_or_ge (k + 1 + 1) ps.length with q | q
        · rw [Nat.mod_eq_of_lt q]; omega
        · rw [show k + 1 + 1 = ps.length by omega, Nat.mod_self]; omega)
      rw [Ne, pt_eq] at hd
      generalize gp ps ((k + 1 + 1) % ps.length) = c at *
      generalize gp ps (k + 1) = b at *
      generalize gp ps k = a at *
      generalize (gp ps 1).x - (gp ps 0).x = ux at *
      generalize (gp ps 1).y - (gp ps 0).y = uy at *
      unfold crossI at hbend
      simp only [decide_true, Bool.true_and, decide_eq_false_iff_not, Int.not_lt] at hf
      refine vec_step ux uy (b.x - a.x) (b.y - a.y) (c.x - b.x) (c.y - b.y) i1 i2 (by grind) (by grind) (by omega)
  -- along the first way all vertices come one behind the other
  have mono : ∀ k, k < ps.length → ((gp ps 1).x - (gp ps 0).x) * (gp ps 0).x + ((gp ps 1).y - (gp ps 0).y) * (gp ps 0).y ≤ ((gp ps 1).x - (gp ps 0).x) * (gp ps k).x + ((gp ps 1).y - (gp ps 0).y) * (gp ps k).y := by
    intro k
    induction k with
    | zero => intro _; exact Int.le_refl _
    | succ k ih =>
      intro hk
      have i1 := ih (by omega)
      have i2 := (step k (by omega)).2
      rw [Nat.mod_eq_of_lt hk] at i2
      simp only [Int.mul_sub] at i2
      omega
  have last := (step (ps.length - 1) (by omega)).2
  rw [show ps.length - 1 + 1 = ps.length by omega, Nat.mod_self] at last
  have m := mono (ps.length - 1) (by omega)
  simp only [Int.mul_sub] at last
  omega

end Go.Proofs.Ytdhakoecjmaebaa

/- The walk of triangle.Split. -/
namespace Go.Proofs.Ytdhakoecjmaebaa
open Go.RowKit
set_option linter.unusedSimpArgs false
set_option linter.unusedVariables false

theorem run_make_rows {P : Program} (t e : TypeId) (i : TypeInfo) (z : Value) (ht : P.underlying t = some (.slice e)) (hi : P.info? e = some i) (hz : i.zero = some z)
    (n : Nat) (hbytes : i.bytes * n ≤ 281474976710656) (h63 : n ≤ 9223372036854775807) (w : World) :
    (Instr.makeSlice t (.int .i64 (n : Int)) (.int .i64 (n : Int))).run P w = .ok (.slice (some ⟨w.heap.size, 0, none⟩) n n) (w.alloc (.cells (madeCells z.cells (n * i.size)) e)) := by
  have hb : (i.bytes : Int) * (n : Int) ≤ 281474976710656 := by
    have h : ((i.bytes * n : Nat) : Int) ≤ 281474976710656 := by omega
    rwa [Int.natCast_mul] at h
  have hr := run_make (P := P) w t e i z ht hi hz .i64 .i64 n n (by omega) (by omega) hb (by omega)
  simp only [Int.toNat_natCast] at hr
  exact hr

def SplitPost (r : Option (List (List Pt))) (w : World) (e : Ending) (w' : World) : Prop :=
  match r with
  | some ts => ∃ A c, e = .returned (.tuple #[.slice A ts.length c, .int .i64 0]) ∧ ts.length ≤ c ∧ Polys w' A ts ∧ Later w w'
  | none => e = .returned (.tuple #[.slice none 0 0, .int .i64 11]) ∧ Later w w'

theorem info_poly : (Try.prog.info? 82).map (fun i => (i.zero, i.size, i.bytes)) = some (some (.slice none 0 0), 1, 24) := by kernel_rfl
theorem new_one (w : World) (x : Value) (t : TypeId) : ∀ j u, ([x] : List Value)[j]? = some u → (w.alloc (.cells #[x] t)).cell? ((⟨w.heap.size, 0, none⟩ : Addr).add j) = some u := by
  intro j u hu
  have h := Blk.new w t #[x]
  rcases j with _ | j
  · simp at hu; subst hu; exact h.cell 0
  · simp at hu
end Go.Proofs.Ytdhakoecjmaebaa

/- triangle.Split at every list of points. -/
namespace Go.Proofs.Ytdhakoecjmaebaa
open Go.RowKit
set_option linter.unusedSimpArgs false
set_option linter.unusedVariables false

/-- What triangle.Split returns: the triangles and the error. -/
def splitR (ps : List Pt) : List (List Pt) × Int :=
  if checkI ps = 0 then (match splitOf ps with | some ts => (ts, 0) | none => ([], 11)) else ([], checkI ps)
def SplitPost2 (r : List (List Pt) × Int) (w : World) (e : Ending) (w' : World) : Prop :=
  ∃ A c, e = .returned (.tuple #[.slice A r.1.length c, .int .i64 r.2]) ∧ r.1.length ≤ c ∧ Polys w' A r.1 ∧ Later w w'

theorem polys_nil (w : World) (A : Option Addr) : Polys w A [] := fun h => by simp at h

theorem eraseIdx_all {Q : Pt → Prop} {l : List Pt} {i : Nat} (h : ∀ p ∈ l, Q p) : ∀ p ∈ l.eraseIdx i, Q p := fun p hp => h p (List.mem_of_mem_eraseIdx hp)
theorem splitGo_all {Q : Pt → Prop} (h0 : Q ⟨0, 0⟩) : ∀ f l acc ts, (∀ p ∈ l, Q p) → (∀ t ∈ acc, ∀ p ∈ t, Q p) → splitGo f l acc = some ts → ∀ t ∈ ts, ∀ p ∈ t, Q p := by
  have last : ∀ (l : List Pt) (acc ts : List (List Pt)), (∀ p ∈ l, Q p) → (∀ t ∈ acc, ∀ p ∈ t, Q p) → some (acc ++ [l]) = some ts → ∀ t ∈ ts, ∀ p ∈ t, Q p := by
    intro l acc ts hl ha he t ht
    cases he
    rcases List.mem_append.1 ht with ht | ht
    · exact ha t ht
    · rw [List.mem_singleton.1 ht]; exact hl
  intro f
  induction f with
  | zero => intro l acc ts hl ha he; exact last l acc ts hl ha he
  | succ f ih =>
    intro l acc ts hl ha he
    rw [splitGo] at he
    split at he
    · exact last l acc ts hl ha he
    · split at he
      · exact ih _ _ _ (eraseIdx_all hl) ha he
      · split at he
        · refine ih _ _ _ (eraseIdx_all hl) ?_ he
          intro t ht
          rcases List.mem_append.1 ht with ht | ht
          · exact ha t ht
          · rw [List.mem_singleton.1 ht]
            intro p hp
            simp only [triOf, List.mem_cons, List.not_mem_nil, or_false] at hp
            rcases hp with rfl | rfl | rfl <;> exact gp_all h0 hl _
        · cases he
theorem splitGo_len : ∀ f l acc ts, l.length ≤ 40 → (∀ t ∈ acc, t.length ≤ 40) → splitGo f l acc = some ts → ∀ t ∈ ts, t.length ≤ 40 := by
  have last : ∀ (l : List Pt) (acc ts : List (List Pt)), l.length ≤ 40 → (∀ t ∈ acc, t.length ≤ 40) → some (acc ++ [l]) = some ts → ∀ t ∈ ts, t.length ≤ 40 := by
    intro l acc ts hl ha he t ht
    cases he
    rcases List.mem_append.1 ht with ht | ht
    · exact ha t ht
    · rw [List.mem_singleton.1 ht]; exact hl
  have el : ∀ (l : List Pt) (i : Nat), l.length ≤ 40 → (l.eraseIdx i).length ≤ 40 := by
    intro l i h
    rw [List.length_eraseIdx]
    split <;> omega
  intro f
  induction f with
  | zero => intro l acc ts hl ha he; exact last l acc ts hl ha he
  | succ f ih =>
    intro l acc ts hl ha he
    rw [splitGo] at he
    split at he
    · exact last l acc ts hl ha he
    · split at he
      · exact ih _ _ _ (el _ _ hl) ha he
      · split at he
        · refine ih _ _ _ (el _ _ hl) ?_ he
          intro t ht
          rcases List.mem_append.1 ht with ht | ht
          · exact ha t ht
          · rw [List.mem_singleton.1 ht]; simp [triOf]
        · cases he
theorem splitR_sm (ps : List Pt) : ∀ t ∈ (splitR ps).1, AllSm t ∧ t.length ≤ 40 := by
  unfold splitR
  by_cases hok : checkI ps = 0
  · rw [if_pos hok]
    cases hs : splitOf ps with
    | none => intro t ht; cases ht
    | some ts =>
      intro t ht
      have hin : ∀ p ∈ normalOf ps, outP p = false := by
        intro p hp
        obtain ⟨k, hk, he⟩ := List.getElem_of_mem hp
        rw [← he, ← gp_eq hk]
        exact normal_in hok k
      have hlen := normal_len ps
      have hle := corners_le ps
      have h40 := (simple_of_check hok).2.2
      have h1 := splitGo_all (Q := fun p => outP p = false) rfl _ _ _ ts hin (by intro t ht; cases ht) hs t ht
      exact ⟨fun j => out_sm (gp_all (Q := fun p => outP p = false) rfl h1 j), splitGo_len _ _ _ ts (by omega) (by intro t ht; cases ht) hs t ht⟩
  · rw [if_neg hok]
    intro t ht; cases ht

end Go.Proofs.Ytdhakoecjmaebaa
