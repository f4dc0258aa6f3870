/-
  Words for the walk of triangle.Split: the triangles so far, the polygon that is left, one vertex taken out.
  What stays as it is when triangle.Split takes a vertex out.
  Plain facts on the normal form: how long it is, that its points are the polygon's, that a simple polygon has a corner.
  A simple polygon turns somewhere.
  The walk of triangle.Split.
  triangle.Split at every list of points.
-/
import Derived.Test.YtehfpjlcbhimkaaZNorm
import Derived.Test.YtehfpjlcbhimkaaZFree
import Derived.Laws.EntriesVeiled
import Derived.Deep.LoopGhost
/- Words for the walk of triangle.Split: the triangles so far, the polygon that is left, one vertex taken out. -/
namespace Go.Proofs.Ytehfpjlcbhimkaa
open Go.RowKit
set_option linter.unusedSimpArgs false
set_option linter.unusedVariables false

def triOf (l : List Pt) (j : Nat) : List Pt := [gp l ((j + l.length - 1) % l.length), gp l j, gp l ((j + 1) % l.length)]
def straightAt (l : List Pt) : Int := firstGo (fun k => decide (bendI l k = 0)) l.length 0
def freeAt (l : List Pt) : Int := firstGo (freeB l) l.length 0
/-- triangle.Split, from the normal form on: none if no vertex can be cut off. -/
def splitGo : Nat → List Pt → List (List Pt) → Option (List (List Pt))
  | 0, l, acc => some (acc ++ [l])
  | f + 1, l, acc =>
    if l.length ≤ 3 then some (acc ++ [l])
    else if 0 ≤ straightAt l then splitGo f (l.eraseIdx (straightAt l).toNat) acc
    else if 0 ≤ freeAt l then splitGo f (l.eraseIdx (freeAt l).toNat) (acc ++ [triOf l (freeAt l).toNat])
    else none
def splitOf (ps : List Pt) : Option (List (List Pt)) := splitGo (normalOf ps).length (normalOf ps) []

/-- A triangle in a block of its own from base on. -/
def TriV (w : World) (base : Nat) (v : Value) (t : List Pt) : Prop := ∃ (g : Nat) (a b c : Pt), t = [a, b, c] ∧ v = .slice (some ⟨g, 0, none⟩) 3 3 ∧ base ≤ g ∧
  Blk w g 85 #[.int .i64 a.x, .int .i64 a.y, .int .i64 b.x, .int .i64 b.y, .int .i64 c.x, .int .i64 c.y]
def TriVs (w : World) (base : Nat) : List Value → List (List Pt) → Prop
  | [], [] => True
  | v :: vs, ps :: pss => TriV w base v ps ∧ TriVs w base vs pss
  | _, _ => False
theorem TriV.poly {w : World} {base : Nat} {v : Value} {t : List Pt} (h : TriV w base v t) : PolyV w v t := by
  obtain ⟨g, a, b, c, rfl, rfl, _, hb⟩ := h
  exact ⟨_, _, rfl, by simp, by unfold maxLen; omega, fun _ => ⟨g, 0, rfl, pts_three hb⟩⟩
theorem TriVs.keep {w w' : World} {base : Nat} {vs : List Value} {pss : List (List Pt)} (h : TriVs w base vs pss)
    (k : ∀ g cs, base ≤ g → Blk w g 85 cs → Blk w' g 85 cs) : TriVs w' base vs pss := by
  induction vs generalizing pss with
  | nil => cases pss with
    | nil => trivial
    | cons => exact h.elim
  | cons v vs ih => cases pss with
    | nil => exact h.elim
    | cons ps pss =>
      refine ⟨?_, ih h.2⟩
      obtain ⟨g, a, b, c, e1, e2, e3, hb⟩ := h.1
      exact ⟨g, a, b, c, e1, e2, e3, k _ _ e3 hb⟩
theorem TriVs.polys {w : World} {base : Nat} {vs : List Value} {pss : List (List Pt)} (h : TriVs w base vs pss) : PolyVs w vs pss := by
  induction vs generalizing pss with
  | nil => cases pss with
    | nil => trivial
    | cons => exact h.elim
  | cons v vs ih => cases pss with
    | nil => exact h.elim
    | cons ps pss => exact ⟨h.1.poly, ih h.2⟩
/-- The row of what is left, as an array of cells. -/
theorem Own.row {w : World} {base g N : Nat} {l : List Pt} (h : Own w base (.slice (some ⟨g, 0, none⟩) l.length N) l) :
    ∃ cur : Array Value, w.heap[g]? = some (.cells cur 85 (0, 0)) ∧ base ≤ g ∧ l.length ≤ N ∧ N ≤ maxLen ∧ cur.size = N * 2 ∧ cur.toList.take (l.length * 2) = flat l := by
  rcases h.2 with ⟨h1, _⟩ | ⟨g', cap, cur, hv, hb, hg, h1, h2, h3, h4⟩
  · cases h1
  · cases hv
    exact ⟨cur, hg, hb, h1, h2, h3, h4⟩
end Go.Proofs.Ytehfpjlcbhimkaa

/- What stays as it is when triangle.Split takes a vertex out. -/
namespace Go.Proofs.Ytehfpjlcbhimkaa
open Go.RowKit
set_option linter.unusedSimpArgs false
set_option linter.unusedVariables false

/-- The world behind the vertex's removal: row B anew, the variable in block Lv anew. -/
structure Cut (w w' : World) (B Lv : Nat) : Prop where
  block : ∀ g, g ≠ B → g ≠ Lv → w'.heap[g]? = w.heap[g]?
theorem Cut.cell {w w' : World} {B Lv : Nat} (h : Cut w w' B Lv) {g o : Nat} {v : Value} (h1 : g ≠ B) (h2 : g ≠ Lv) (k : w.cell? ⟨g, o, none⟩ = some v) : w'.cell? ⟨g, o, none⟩ = some v :=
  (World.cell?_of_block (a := ⟨g, o, none⟩) (h.block g h1 h2)).trans k
theorem Own.far {w : World} {base B N Lv o : Nat} {l : List Pt} {u : Value} {n : Nat} (h : Own w base (.slice (some ⟨B, 0, none⟩) n N) l) (hne : B ≠ Lv) : Own (w.setCell ⟨Lv, o, none⟩ u) base (.slice (some ⟨B, 0, none⟩) n N) l := by
  refine ⟨h.1, ?_⟩
  rcases h.2 with ⟨h1, h2⟩ | ⟨g, cap, cur, hv, hb, hg, r⟩
  · exact .inl ⟨h1, h2⟩
  · cases hv
    exact .inr ⟨B, _, cur, rfl, hb, (Below.heap_setCell w ⟨Lv, o, none⟩ u B hne).trans hg, r⟩
theorem TriVs.later {w w' : World} {base : Nat} {vs : List Value} {pss : List (List Pt)} (h : TriVs w base vs pss) (k : Later w w') : TriVs w' base vs pss :=
  h.keep (fun g cs _ hb => hb.later k)
theorem TriVs.grown {w w' : World} {base : Nat} {vs : List Value} {pss : List (List Pt)} {row : Option Nat} (h : TriVs w base vs pss) (hg : w.grownBy w' row) (hne : ∀ g cs, Blk w g 85 cs → some g ≠ row) : TriVs w' base vs pss :=
  h.keep (fun g cs _ hb => (hg.block g hb.lt (hne g cs hb)).trans hb)
theorem Own.grown {w w' : World} {base B N n : Nat} {l : List Pt} {row : Option Nat} (h : Own w base (.slice (some ⟨B, 0, none⟩) n N) l) (hg : w.grownBy w' row) (hne : some B ≠ row) : Own w' base (.slice (some ⟨B, 0, none⟩) n N) l := by
  refine ⟨h.1, ?_⟩
  rcases h.2 with ⟨h1, h2⟩ | ⟨g, cap, cur, hv, hb, hh, r⟩
  · exact .inl ⟨h1, h2⟩
  · cases hv
    exact .inr ⟨B, _, cur, rfl, hb, (hg.block B (by
      rcases Nat.lt_or_ge B w.heap.size with hlt | hge
      · exact hlt
      · rw [Array.getElem?_eq_none hge] at hh; cases hh) hne).trans hh, r⟩
theorem Own.poly {w : World} {base B N : Nat} {l : List Pt} (h : Own w base (.slice (some ⟨B, 0, none⟩) l.length N) l) : PolyV w (.slice (some ⟨B, 0, none⟩) l.length N) l := by
  obtain ⟨A, c, e, h1, h2, h3, _⟩ := h.form
  cases e
  exact ⟨_, _, rfl, h1, h2, h3⟩

end Go.Proofs.Ytehfpjlcbhimkaa

/- Plain facts on the normal form: how long it is, that its points are the polygon's, that a simple polygon has a corner. -/
namespace Go.Proofs.Ytehfpjlcbhimkaa
open Go.RowKit
set_option linter.unusedSimpArgs false
set_option linter.unusedVariables false

end Go.Proofs.Ytehfpjlcbhimkaa

/- A simple polygon turns somewhere. -/
namespace Go.Proofs.Ytehfpjlcbhimkaa
open Go.RowKit
set_option linter.unusedSimpArgs false
set_option linter.unusedVariables false

theorem sq_nonneg (x : Int) : 0 ≤ x * x := by
  rcases Int.le_total 0 x with h | h
  · exact Int.mul_nonneg h h
  · have := Int.mul_nonneg (show 0 ≤ -x by omega) (show 0 ≤ -x by omega)
    rwa [Int.neg_mul_neg] at this
theorem outerGo_true (ps : List Pt) : ∀ f i, outerGo ps f i = true → ∀ k, i ≤ k → k < i + f → foldedP (gp ps k) (gp ps ((k + 1) % ps.length)) (gp ps ((k + 2) % ps.length)) = false ∧ innerGo ps k (ps.length - (k + 2)) (k + 2) = false := by
  intro f
  induction f with
  | zero => intro i h k k1 k2; omega
  | succ f ih =>
    intro i h k k1 k2
    rw [outerGo] at h
    split at h
    · cases h
    · split at h
      · cases h
      · rename_i a b
        rcases Nat.lt_or_ge i k with hh | hh
        · exact ih (i + 1) h k (by omega) (by omega)
        · rw [show k = i by omega]; exact ⟨by simpa using a, by simpa using b⟩
theorem dupGo_false (l : List Pt) : ∀ pre, dupGo pre l = false → ∀ i j (hi : i < l.length) (hj : j < l.length), i < j → l[i] ≠ l[j] := by
  have key : ∀ (l : List Pt) (pre : List Pt), dupGo pre l = false → ∀ p ∈ pre, p ∉ l := by
    intro l
    induction l with
    | nil => intro pre h p hp; simp
    | cons q l ih =>
      intro pre h p hp
      rw [dupGo] at h
      split at h
      · cases h
      · rename_i hq
        intro hm
        rcases List.mem_cons.1 hm with rfl | hm
        · exact hq hp
        · exact ih _ h p (by simp [hp]) hm
  induction l with
  | nil => intro pre h i j hi; simp at hi
  | cons q l ih =>
    intro pre h i j hi hj hij
    rw [dupGo] at h
    split at h
    · cases h
    · cases j with
      | zero => omega
      | succ j =>
        cases i with
        | zero =>
          intro he
          exact key l (pre ++ [q]) h q (by simp) (by simp at he; rw [he]; exact List.getElem_mem _)
        | succ i =>
          exact ih _ h i j (by simpa using hi) (by simpa using hj) (by omega)

end Go.Proofs.Ytehfpjlcbhimkaa

/- The walk of triangle.Split. -/
namespace Go.Proofs.Ytehfpjlcbhimkaa
open Go.RowKit
set_option linter.unusedSimpArgs false
set_option linter.unusedVariables false

theorem run_make_rows {P : Program} (t e : TypeId) (i : TypeInfo) (z : Value) (ht : P.underlying t = some (.slice e)) (hi : P.info? e = some i) (hz : i.zero = some z)
    (n : Nat) (hbytes : i.bytes * n ≤ 281474976710656) (h63 : n ≤ 9223372036854775807) (w : World) :
    (Instr.makeSlice t (.int .i64 (n : Int)) (.int .i64 (n : Int))).run P w = .ok (.slice (some ⟨w.heap.size, 0, none⟩) n n) (w.alloc (.cells (madeCells z.cells (n * i.size)) e)) := by
  have hb : (i.bytes : Int) * (n : Int) ≤ 281474976710656 := by
    have h : ((i.bytes * n : Nat) : Int) ≤ 281474976710656 := by omega
    rwa [Int.natCast_mul] at h
  have hr := run_make (P := P) w t e i z ht hi hz .i64 .i64 n n (by omega) (by omega) hb (by omega)
  simp only [Int.toNat_natCast] at hr
  exact hr

end Go.Proofs.Ytehfpjlcbhimkaa

/- triangle.Split at every list of points. -/
namespace Go.Proofs.Ytehfpjlcbhimkaa
open Go.RowKit
set_option linter.unusedSimpArgs false
set_option linter.unusedVariables false

/-- What triangle.Split returns: the triangles and the error. -/
def splitR (ps : List Pt) : List (List Pt) × Int :=
  if checkI ps = 0 then (match splitOf ps with | some ts => (ts, 0) | none => ([], 11)) else ([], checkI ps)
end Go.Proofs.Ytehfpjlcbhimkaa
