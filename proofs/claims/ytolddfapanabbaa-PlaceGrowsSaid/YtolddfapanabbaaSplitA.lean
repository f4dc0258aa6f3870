/-
  Words for the walk of triangle.Split: the triangles so far, the polygon that is left, one vertex taken out.
-/
import Derived.Test.YtolddfapanabbaaCopy
import Derived.Test.YtolddfapanabbaaFree
namespace Go.Proofs.Ytolddfapanabbaa
open Go.RowKit
set_option linter.unusedSimpArgs false
set_option linter.unusedVariables false

def triOf (l : List Pt) (j : Nat) : List Pt := [gp l ((j + l.length - 1) % l.length), gp l j, gp l ((j + 1) % l.length)]
def straightAt (l : List Pt) : Int := firstGo (fun k => decide (bendI l k = 0)) l.length 0
def freeAt (l : List Pt) : Int := firstGo (freeB l) l.length 0
/-- triangle.Split, from the normal form on: none if no vertex can be cut off. -/
def splitGo : Nat → List Pt → List (List Pt) → Option (List (List Pt))
  | 0, l, acc => some (acc ++ [l])
  | f + 1, l, acc =>
    if l.length ≤ 3 then some (acc ++ [l])
    else if 0 ≤ straightAt l then splitGo f (l.eraseIdx (straightAt l).toNat) acc
    else if 0 ≤ freeAt l then splitGo f (l.eraseIdx (freeAt l).toNat) (acc ++ [triOf l (freeAt l).toNat])
    else none
def splitOf (ps : List Pt) : Option (List (List Pt)) := splitGo (normalOf ps).length (normalOf ps) []

theorem first_bd (t : Nat → Bool) : ∀ f k, firstGo t f k = -1 ∨ ∃ j, k ≤ j ∧ j < k + f ∧ firstGo t f k = (j : Int) ∧ t j = true := by
  intro f
  induction f with
  | zero => intro k; exact .inl rfl
  | succ f ih =>
    intro k
    rw [firstGo]
    split
    · exact .inr ⟨k, by omega, by omega, rfl, by assumption⟩
    · rcases ih (k + 1) with h | ⟨j, h1, h2, h3, h4⟩
      · exact .inl h
      · exact .inr ⟨j, by omega, by omega, h3, h4⟩
theorem straight_bd (l : List Pt) : straightAt l = -1 ∨ ∃ j, j < l.length ∧ straightAt l = (j : Int) := by
  rcases first_bd (fun k => decide (bendI l k = 0)) l.length 0 with h | ⟨j, _, h2, h3, _⟩
  · exact .inl h
  · exact .inr ⟨j, by omega, h3⟩
theorem free_bd (l : List Pt) : freeAt l = -1 ∨ ∃ j, j < l.length ∧ freeAt l = (j : Int) ∧ freeB l j = true := by
  rcases first_bd (freeB l) l.length 0 with h | ⟨j, _, h2, h3, h4⟩
  · exact .inl h
  · exact .inr ⟨j, by omega, h3, h4⟩

theorem split_small {f : Nat} {l : List Pt} {acc : List (List Pt)} (h : l.length ≤ 3) : splitGo f l acc = some (acc ++ [l]) := by
  cases f with
  | zero => rfl
  | succ f => rw [splitGo, if_pos h]
theorem split_straight_step {f j : Nat} {l : List Pt} {acc : List (List Pt)} (h : ¬ l.length ≤ 3) (hf : l.length ≤ f + 3) (hs : straightAt l = (j : Int)) :
    ∃ f', f = f' + 1 ∧ splitGo f l acc = splitGo f' (l.eraseIdx j) acc := by
  obtain ⟨f', rfl⟩ : ∃ f', f = f' + 1 := ⟨f - 1, by omega⟩
  exact ⟨f', rfl, by rw [splitGo, if_neg h, hs, if_pos (by omega)]; rfl⟩
theorem split_free_step {f j : Nat} {l : List Pt} {acc : List (List Pt)} (h : ¬ l.length ≤ 3) (hf : l.length ≤ f + 3) (hs : straightAt l = -1) (ht : freeAt l = (j : Int)) :
    ∃ f', f = f' + 1 ∧ splitGo f l acc = splitGo f' (l.eraseIdx j) (acc ++ [triOf l j]) := by
  obtain ⟨f', rfl⟩ : ∃ f', f = f' + 1 := ⟨f - 1, by omega⟩
  exact ⟨f', rfl, by rw [splitGo, if_neg h, hs, if_neg (by omega), ht, if_pos (by omega)]; rfl⟩
theorem split_none {f : Nat} {l : List Pt} {acc : List (List Pt)} (h : ¬ l.length ≤ 3) (hf : l.length ≤ f + 3) (hs : straightAt l = -1) (ht : freeAt l = -1) : splitGo f l acc = none := by
  obtain ⟨f', rfl⟩ : ∃ f', f = f' + 1 := ⟨f - 1, by omega⟩
  rw [splitGo, if_neg h, hs, if_neg (by omega), ht, if_neg (by omega)]

/-- A triangle in a block of its own from base on. -/
def TriV (w : World) (base : Nat) (v : Value) (t : List Pt) : Prop := ∃ (g : Nat) (a b c : Pt), t = [a, b, c] ∧ v = .slice (some ⟨g, 0, none⟩) 3 3 ∧ base ≤ g ∧
  Blk w g 78 #[.int .i64 a.x, .int .i64 a.y, .int .i64 b.x, .int .i64 b.y, .int .i64 c.x, .int .i64 c.y]
def TriVs (w : World) (base : Nat) : List Value → List (List Pt) → Prop
  | [], [] => True
  | v :: vs, ps :: pss => TriV w base v ps ∧ TriVs w base vs pss
  | _, _ => False
theorem TriV.poly {w : World} {base : Nat} {v : Value} {t : List Pt} (h : TriV w base v t) : PolyV w v t := by
  obtain ⟨g, a, b, c, rfl, rfl, _, hb⟩ := h
  exact ⟨_, _, rfl, by simp, by unfold maxLen; omega, fun _ => ⟨g, 0, rfl, pts_three hb⟩⟩
theorem TriVs.keep {w w' : World} {base : Nat} {vs : List Value} {pss : List (List Pt)} (h : TriVs w base vs pss)
    (k : ∀ g cs, base ≤ g → Blk w g 78 cs → Blk w' g 78 cs) : TriVs w' base vs pss := by
  induction vs generalizing pss with
  | nil => cases pss with
    | nil => trivial
    | cons => exact h.elim
  | cons v vs ih => cases pss with
    | nil => exact h.elim
    | cons ps pss =>
      refine ⟨?_, ih h.2⟩
      obtain ⟨g, a, b, c, e1, e2, e3, hb⟩ := h.1
      exact ⟨g, a, b, c, e1, e2, e3, k _ _ e3 hb⟩
theorem TriVs.snoc {w : World} {base : Nat} {vs : List Value} {pss : List (List Pt)} {v : Value} {ps : List Pt} (h : TriVs w base vs pss) (k : TriV w base v ps) : TriVs w base (vs ++ [v]) (pss ++ [ps]) := by
  induction vs generalizing pss with
  | nil => cases pss with
    | nil => exact ⟨k, trivial⟩
    | cons => exact h.elim
  | cons u vs ih => cases pss with
    | nil => exact h.elim
    | cons ps pss => exact ⟨h.1, ih h.2⟩
theorem TriVs.polys {w : World} {base : Nat} {vs : List Value} {pss : List (List Pt)} (h : TriVs w base vs pss) : PolyVs w vs pss := by
  induction vs generalizing pss with
  | nil => cases pss with
    | nil => trivial
    | cons => exact h.elim
  | cons v vs ih => cases pss with
    | nil => exact h.elim
    | cons ps pss => exact ⟨h.1.poly, ih h.2⟩
theorem TriVs.one {w : World} {base : Nat} {vs : List Value} {pss : List (List Pt)} (h : TriVs w base vs pss) : ∀ u ∈ vs, u.oneCell' = true := by
  induction vs generalizing pss with
  | nil => intro u hu; cases hu
  | cons v vs ih => cases pss with
    | nil => exact h.elim
    | cons ps pss =>
      intro u hu
      rcases List.mem_cons.1 hu with rfl | hu
      · obtain ⟨g, a, b, c, _, rfl, _⟩ := h.1; rfl
      · exact ih h.2 u hu

/-- The row of what is left, as an array of cells. -/
theorem Own.row {w : World} {base g N : Nat} {l : List Pt} (h : Own w base (.slice (some ⟨g, 0, none⟩) l.length N) l) :
    ∃ cur : Array Value, w.heap[g]? = some (.cells cur 78 (0, 0)) ∧ base ≤ g ∧ l.length ≤ N ∧ N ≤ maxLen ∧ cur.size = N * 2 ∧ cur.toList.take (l.length * 2) = flat l := by
  rcases h.2 with ⟨h1, _⟩ | ⟨g', cap, cur, hv, hb, hg, h1, h2, h3, h4⟩
  · cases h1
  · cases hv
    exact ⟨cur, hg, hb, h1, h2, h3, h4⟩
theorem flat_take (l : List Pt) (i : Nat) : flat (l.take i) = (flat l).take (i * 2) := by
  induction l generalizing i with
  | nil => simp [flat]
  | cons p l ih =>
    cases i with
    | zero => simp [flat]
    | succ i =>
      rw [show (i + 1) * 2 = i * 2 + 1 + 1 by omega]
      simp [flat, ih]
theorem flat_drop (l : List Pt) (i : Nat) : flat (l.drop i) = (flat l).drop (i * 2) := by
  induction l generalizing i with
  | nil => simp [flat]
  | cons p l ih =>
    cases i with
    | zero => simp [flat]
    | succ i =>
      rw [show (i + 1) * 2 = i * 2 + 1 + 1 by omega]
      simp [flat, ih]
/-- copy(left[i:], left[i+1:]) and left[:len(left)-1] take vertex i out. -/
theorem Own.erase {w : World} {base g N i : Nat} {l : List Pt} {cur : Array Value} (hi : i < l.length) (hg : w.heap[g]? = some (.cells cur 78 (0, 0))) (hb : base ≤ g) (hN : l.length ≤ N) (hm : N ≤ maxLen) (hs : cur.size = N * 2) (ht : cur.toList.take (l.length * 2) = flat l) :
    Own (w.setRow g (cur.toList.take (i * 2) ++ flat (l.drop (i + 1)) ++ cur.toList.drop (i * 2 + (flat (l.drop (i + 1))).length)).toArray) base (.slice (some ⟨g, 0, none⟩) (l.length - 1) N) (l.eraseIdx i) := by
  have hel : (l.eraseIdx i).length = l.length - 1 := by rw [List.length_eraseIdx, if_pos hi]
  have hfl : (flat (l.drop (i + 1))).length = (l.length - (i + 1)) * 2 := by rw [flat_length, List.length_drop]
  refine ⟨by rw [flat_length], .inr ⟨g, N, _, by rw [hel], hb, setRow_heap w g cur _ 78 _ hg, by omega, hm, ?_, ?_⟩⟩
  · simp only [List.size_toArray, List.length_append, List.length_take, List.length_drop, hfl, Array.length_toList, hs]
    omega
  · have e1 : cur.toList.take (i * 2) = flat (l.take i) := by
      rw [flat_take, ← ht, List.take_take]
      congr 1
      omega
    rw [e1, List.eraseIdx_eq_take_drop_succ, flat_append]
    have hlen : (flat (l.take i) ++ flat (l.drop (i + 1))).length = (l.take i ++ l.drop (i + 1)).length * 2 := by
      rw [← flat_append, flat_length]
    exact List.take_left' hlen

end Go.Proofs.Ytolddfapanabbaa
