/-
  What stays as it is when triangle.Split takes a vertex out.
-/
import Derived.Test.YtolddfapanabbaaSplitA
namespace Go.Proofs.Ytolddfapanabbaa
open Go.RowKit
set_option linter.unusedSimpArgs false
set_option linter.unusedVariables false

theorem owns_block {w w' : World} {base : Nat} {e : TypeId} {size n : Nat} {v : Value} {xs : List Value} (h : w.ownsRow base e size v n xs) (k : ∀ g, base ≤ g → g < w.heap.size → w'.heap[g]? = w.heap[g]?) : w'.ownsRow base e size v n xs := by
  refine ⟨h.1, ?_⟩
  rcases h.2 with ⟨h1, h2⟩ | ⟨g, cap, cur, hv, hb, hg, r⟩
  · exact .inl ⟨h1, h2⟩
  · exact .inr ⟨g, cap, cur, hv, hb, (k g hb (by
      rcases Nat.lt_or_ge g w.heap.size with hlt | hge
      · exact hlt
      · rw [Array.getElem?_eq_none hge] at hg; cases hg)).trans hg, r⟩

/-- The world behind the vertex's removal: row B anew, the variable in block Lv anew. -/
structure Cut (w w' : World) (B Lv : Nat) : Prop where
  block : ∀ g, g ≠ B → g ≠ Lv → w'.heap[g]? = w.heap[g]?
theorem Cut.mk' (w : World) (B Lv o : Nat) (cs : Array Value) (u : Value) : Cut w ((w.setRow B cs).setCell ⟨Lv, o, none⟩ u) B Lv :=
  ⟨fun g h1 h2 => (Below.heap_setCell (w.setRow B cs) ⟨Lv, o, none⟩ u g h2).trans (setRow_other w B g cs h1)⟩
theorem Cut.owns {w w' : World} {B Lv base : Nat} (h : Cut w w' B Lv) (hB : B < base) (hL : Lv < base) {e : TypeId} {size n : Nat} {v : Value} {xs : List Value} (k : w.ownsRow base e size v n xs) : w'.ownsRow base e size v n xs :=
  owns_block k (fun g hg _ => h.block g (by omega) (by omega))
theorem Cut.tris {w w' : World} {B Lv base : Nat} (h : Cut w w' B Lv) (hB : B < base) (hL : Lv < base) {vs : List Value} {pss : List (List Pt)} (k : TriVs w base vs pss) : TriVs w' base vs pss :=
  k.keep (fun g cs hg hb => (h.block g (by omega) (by omega)).trans hb)
theorem Cut.cell {w w' : World} {B Lv : Nat} (h : Cut w w' B Lv) {g o : Nat} {v : Value} (h1 : g ≠ B) (h2 : g ≠ Lv) (k : w.cell? ⟨g, o, none⟩ = some v) : w'.cell? ⟨g, o, none⟩ = some v :=
  (World.cell?_of_block (a := ⟨g, o, none⟩) (h.block g h1 h2)).trans k
theorem Own.far {w : World} {base B N Lv o : Nat} {l : List Pt} {u : Value} {n : Nat} (h : Own w base (.slice (some ⟨B, 0, none⟩) n N) l) (hne : B ≠ Lv) : Own (w.setCell ⟨Lv, o, none⟩ u) base (.slice (some ⟨B, 0, none⟩) n N) l := by
  refine ⟨h.1, ?_⟩
  rcases h.2 with ⟨h1, h2⟩ | ⟨g, cap, cur, hv, hb, hg, r⟩
  · exact .inl ⟨h1, h2⟩
  · cases hv
    exact .inr ⟨B, _, cur, rfl, hb, (Below.heap_setCell w ⟨Lv, o, none⟩ u B hne).trans hg, r⟩
theorem owns_later {w w' : World} {base : Nat} {e : TypeId} {size n : Nat} {v : Value} {xs : List Value} (h : w.ownsRow base e size v n xs) (k : Later w w') : w'.ownsRow base e size v n xs :=
  owns_block h (fun g _ hg => k.block g hg)
theorem TriVs.later {w w' : World} {base : Nat} {vs : List Value} {pss : List (List Pt)} (h : TriVs w base vs pss) (k : Later w w') : TriVs w' base vs pss :=
  h.keep (fun g cs _ hb => hb.later k)
theorem gp_erase {l : List Pt} {i : Nat} (h : AllIn l) : AllIn (l.eraseIdx i) := by
  intro j
  unfold gp
  by_cases hj : j < (l.eraseIdx i).length
  · rw [List.getD_eq_getElem?_getD, List.getElem?_eq_getElem hj, Option.getD_some]
    have hm : (l.eraseIdx i)[j] ∈ l := List.mem_of_mem_eraseIdx (List.getElem_mem hj)
    obtain ⟨k, hk, he⟩ := List.getElem_of_mem hm
    rw [← he, ← gp_eq hk]
    exact h k
  · rw [List.getD_eq_getElem?_getD, List.getElem?_eq_none (by omega), Option.getD_none]
    rfl
/-- The sources' cells of what is moved. -/
theorem drop_cells {w : World} {B j : Nat} {l : List Pt} (h : PtsAt w B 0 l) : ∀ i u, (flat (l.drop (j + 1)))[i]? = some u → w.cell? ((⟨B, (j + 1) * 2, none⟩ : Addr).add i) = some u := by
  refine src_cells (A := some ⟨B, (j + 1) * 2, none⟩) (l := l.drop (j + 1)) (fun _ => ⟨B, (j + 1) * 2, rfl, ?_⟩) _ rfl
  intro i p hi
  rw [List.getElem?_drop] at hi
  obtain ⟨z1, z2⟩ := h _ _ hi
  rw [show 0 + (j + 1 + i) * 2 = (j + 1) * 2 + i * 2 by omega] at z1 z2
  exact ⟨z1, z2⟩
theorem drop_len {l : List Pt} {j : Nat} (h : j < l.length) : (flat (l.drop (j + 1))).length = Nat.min (l.length - (j + 1)) (l.length - j) * 2 := by
  rw [flat_length, List.length_drop, show Nat.min (l.length - (j + 1)) (l.length - j) = l.length - (j + 1) from Nat.min_eq_left (by omega)]

theorem own_ne {w : World} {base : Nat} {e t : TypeId} {size n g : Nat} {v : Value} {xs : List Value} {cs : Array Value} (h : w.ownsRow base e size v n xs) (hg : Blk w g t cs) (hne : e ≠ t) : some g ≠ v.ownBlock := by
  rcases h.2 with ⟨rfl, _⟩ | ⟨g', cap, cur, rfl, _, hh, _⟩
  · simp [Value.ownBlock]
  · intro he
    have : g = g' := by simpa [Value.ownBlock] using he
    subst this
    unfold Blk at hg
    rw [hg] at hh
    cases hh
    exact hne rfl
theorem TriVs.grown {w w' : World} {base : Nat} {vs : List Value} {pss : List (List Pt)} {row : Option Nat} (h : TriVs w base vs pss) (hg : w.grownBy w' row) (hne : ∀ g cs, Blk w g 78 cs → some g ≠ row) : TriVs w' base vs pss :=
  h.keep (fun g cs _ hb => (hg.block g hb.lt (hne g cs hb)).trans hb)
theorem grown_cell {w w' : World} {row : Option Nat} {g o : Nat} {v : Value} (hg : w.grownBy w' row) (hne : some g ≠ row) (h : w.cell? ⟨g, o, none⟩ = some v) : w'.cell? ⟨g, o, none⟩ = some v := hg.cell h hne
theorem Own.grown {w w' : World} {base B N n : Nat} {l : List Pt} {row : Option Nat} (h : Own w base (.slice (some ⟨B, 0, none⟩) n N) l) (hg : w.grownBy w' row) (hne : some B ≠ row) : Own w' base (.slice (some ⟨B, 0, none⟩) n N) l := by
  refine ⟨h.1, ?_⟩
  rcases h.2 with ⟨h1, h2⟩ | ⟨g, cap, cur, hv, hb, hh, r⟩
  · exact .inl ⟨h1, h2⟩
  · cases hv
    exact .inr ⟨B, _, cur, rfl, hb, (hg.block B (by
      rcases Nat.lt_or_ge B w.heap.size with hlt | hge
      · exact hlt
      · rw [Array.getElem?_eq_none hge] at hh; cases hh) hne).trans hh, r⟩
theorem polys_of_owns {w : World} {base n : Nat} {v : Value} {vs : List Value} {pss : List (List Pt)} (h : w.ownsRow base 25 1 v n vs) (hp : PolyVs w vs pss) (hn : n = pss.length) (h0 : 0 < n) : ∃ A c, v = .slice A pss.length c ∧ pss.length ≤ c ∧ Polys w A pss := by
  rcases h.2 with ⟨_, h2⟩ | ⟨g, cap, cur, hv, hb, hh, hnc, hcm, hcs, htk⟩
  · omega
  · subst hv
    refine ⟨_, cap, by rw [hn], by omega, fun _ => ⟨g, 0, rfl, fun i ps hi => ?_⟩⟩
    obtain ⟨v, hv, hpv⟩ := hp.get hi
    have hlt : i < pss.length := by
      rcases Nat.lt_or_ge i pss.length with hh | hh
      · exact hh
      · rw [List.getElem?_eq_none hh] at hi; cases hi
    exact ⟨v, by rw [Nat.zero_add, h.cellAt i (by omega)]; exact hv, hpv⟩
theorem Own.poly {w : World} {base B N : Nat} {l : List Pt} (h : Own w base (.slice (some ⟨B, 0, none⟩) l.length N) l) : PolyV w (.slice (some ⟨B, 0, none⟩) l.length N) l := by
  obtain ⟨A, c, e, h1, h2, h3, _⟩ := h.form
  cases e
  exact ⟨_, _, rfl, h1, h2, h3⟩

end Go.Proofs.Ytolddfapanabbaa
