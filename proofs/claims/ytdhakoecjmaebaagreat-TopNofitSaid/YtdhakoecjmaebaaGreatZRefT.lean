/-
  Plain facts on contacts: when two convex polygons have inner points in common by their sides; a rectangle that reaches beyond the limits is as good as one that ends there; the triangles of a polygon turn to the left.
-/
import Derived.Test.YtdhakoecjmaebaaGreatZHits
import Derived.Test.YtdhakoecjmaebaaGreatZGeoT
import Derived.Test.YtdhakoecjmaebaaGreatZSprQ
import Derived.Test.YtdhakoecjmaebaaGreatZSplit
import Derived.Test.YtdhakoecjmaebaaGreatZPoly
import Derived.BigRegion
namespace Go.Proofs.YtdhakoecjmaebaaGreat
open Go.RowKit
set_option linter.unusedSimpArgs false
set_option linter.unusedVariables false

theorem sgn_one (n : Int) : sgn n = 1 ↔ 0 < n := by unfold sgn; split; omega; split <;> omega
theorem most_one (p q : Pt) : ∀ (l : List Pt) (m : Int), m ≤ 1 → mostGo p q l m ≤ 1 ∧ (mostGo p q l m = 1 ↔ m = 1 ∨ ∃ v ∈ l, 0 < crossP p q v) := by
  intro l
  induction l with
  | nil => intro m h; exact ⟨h, by simp [mostGo]⟩
  | cons v l ih =>
    intro m h
    have hb := sgn_bd (crossI p.x p.y q.x q.y v.x v.y)
    have hs := sgn_one (crossI p.x p.y q.x q.y v.x v.y)
    obtain ⟨h1, h2⟩ := ih (max m (sgn (crossI p.x p.y q.x q.y v.x v.y))) (by omega)
    rw [mostGo]
    refine ⟨h1, h2.trans ?_⟩
    constructor
    · rintro (hh | ⟨u, hu, hc⟩)
      · rcases Int.le_total m (sgn (crossI p.x p.y q.x q.y v.x v.y)) with k | k
        · exact .inr ⟨v, by simp, hs.1 (by omega)⟩
        · exact .inl (by omega)
      · exact .inr ⟨u, List.mem_cons_of_mem _ hu, hc⟩
    · rintro (hh | ⟨u, hu, hc⟩)
      · exact .inl (by omega)
      · rcases List.mem_cons.1 hu with rfl | hu
        · left
          have := hs.2 hc
          omega
        · exact .inr ⟨u, hu, hc⟩
/-- Each side of a, from place i on, has a point of b on its left. -/
def Reaches (a b : List Pt) : Prop := ∀ i, i < a.length → ∃ v ∈ b, 0 < crossP (gp a i) (gp a ((i + 1) % a.length)) v
theorem reachGo_one (a b : List Pt) : ∀ f i m, m ≤ 1 → reachGo a b f i m ≤ 1 ∧ (reachGo a b f i m = 1 ↔ m = 1 ∧ ∀ k, i ≤ k → k < i + f → ∃ v ∈ b, 0 < crossP (gp a k) (gp a ((k + 1) % a.length)) v) := by
  intro f
  induction f with
  | zero => intro i m h; exact ⟨h, ⟨fun h => ⟨h, fun k h1 h2 => by omega⟩, fun h => h.1⟩⟩
  | succ f ih =>
    intro i m h
    obtain ⟨k1, k2⟩ := most_one (gp a i) (gp a ((i + 1) % a.length)) b (-1) (by omega)
    obtain ⟨h1, h2⟩ := ih (i + 1) (min m (mostGo (gp a i) (gp a ((i + 1) % a.length)) b (-1))) (by omega)
    rw [reachGo]
    refine ⟨h1, h2.trans ?_⟩
    constructor
    · rintro ⟨hm, hr⟩
      refine ⟨by omega, fun k a1 a2 => ?_⟩
      rcases Nat.lt_or_ge i k with q | q
      · exact hr k q (by omega)
      · rw [show k = i by omega]
        rcases k2.1 (by omega) with hh | hh
        · omega
        · exact hh
    · rintro ⟨hm, hr⟩
      have := k2.2 (.inr (hr i (Nat.le_refl _) (by omega)))
      exact ⟨by omega, fun k a1 a2 => hr k (by omega) (by omega)⟩
theorem reach_one (a b : List Pt) : reachI a b ≤ 1 ∧ (reachI a b = 1 ↔ Reaches a b) := by
  unfold reachI Reaches
  obtain ⟨h1, h2⟩ := reachGo_one a b a.length 0 1 (by omega)
  exact ⟨h1, h2.trans ⟨fun h i hi => h.2 i (by omega) (by omega), fun h => ⟨rfl, fun k _ hk => h k (by omega)⟩⟩⟩
theorem contact_one (a b : List Pt) : contactI a b = 1 ↔ Reaches a b ∧ Reaches b a := by
  unfold contactI
  obtain ⟨h1, h2⟩ := reach_one a b
  obtain ⟨h3, h4⟩ := reach_one b a
  rw [← h2, ← h4]
  omega
theorem reaches3 {a b c : Pt} {l : List Pt} : Reaches [a, b, c] l ↔ (∃ v ∈ l, 0 < crossP a b v) ∧ (∃ v ∈ l, 0 < crossP b c v) ∧ (∃ v ∈ l, 0 < crossP c a v) := by
  unfold Reaches
  constructor
  · intro h
    exact ⟨h 0 (by simp), h 1 (by simp), by simpa [gp] using h 2 (by simp)⟩
  · rintro ⟨h0, h1, h2⟩ i hi
    simp at hi
    rcases i with _ | _ | _ | i
    · exact h0
    · exact h1
    · simpa [gp] using h2
    · omega
/- The triangles of a polygon. -/
def TriL (t : List Pt) : Prop := ∃ a b c, t = [a, b, c] ∧ 0 < crossP a b c
theorem good_tri {l : List Pt} (h : Good l) (h3 : l.length ≤ 3) : TriL l := by
  have hl : l.length = 3 := by have := h.1.1; simp at this; omega
  match l, hl with
  | [v, w, u], _ =>
    refine ⟨v, w, u, rfl, ?_⟩
    have hs : Geo.Simple (vp v :: vp w :: ([] ++ [vp u])) := h.1
    have := Geo.ar_pos _ _ rfl h.1 h.2
    have e : Geo.ar (Geo.poly ([v, w, u].map vp)) = Geo.ar (Geo.poly (vp v :: vp w :: ([] ++ [vp u]))) := rfl
    rw [e, Geo.ar_cut] at this
    have e0 : Geo.ar (Geo.poly (vp w :: ([] ++ [vp u]))) = 0 := by simp [Geo.poly, Geo.edg, Geo.ar]; grind
    rw [e0] at this
    have h1 : 0 < crossP u v w := cr_pos.1 (by grind)
    have e1 : crossP v w u = crossP u v w := by unfold crossP crossI; grind
    rw [e1]; exact h1
theorem splitGo_tri : ∀ (f : Nat) (l : List Pt) (acc ts : List (List Pt)), Good l → l.length ≤ f + 3 → (∀ t ∈ acc, TriL t) → splitGo f l acc = some ts → ∀ t ∈ ts, TriL t := by
  intro f
  induction f with
  | zero =>
    intro l acc ts hg hf ha he t ht
    cases he
    rcases List.mem_append.1 ht with k | k
    · exact ha t k
    · rw [List.mem_singleton.1 k]; exact good_tri hg (by omega)
  | succ f ih =>
    intro l acc ts hg hf ha he
    rw [splitGo] at he
    split at he
    · rename_i h3
      cases he
      intro t ht
      rcases List.mem_append.1 ht with k | k
      · exact ha t k
      · rw [List.mem_singleton.1 k]; exact good_tri hg h3
    · rename_i h3
      have hel : ∀ j, j < l.length → (l.eraseIdx j).length ≤ f + 3 := fun j hj => by rw [List.length_eraseIdx, if_pos hj]; omega
      split at he
      · rename_i hs
        obtain ⟨k1, k2⟩ := straight_flat hs
        exact ih _ _ ts (good_flat hg (by omega) k1 k2) (hel _ k1) ha he
      · split at he
        · rcases free_bd l with k | ⟨j', k1, k2, k3⟩
          · rename_i hf2; omega
          · rw [k2, Int.toNat_natCast] at he
            refine ih _ _ ts (good_free hg (by omega) k1 k3) (hel _ k1) ?_ he
            intro t ht
            rcases List.mem_append.1 ht with q | q
            · exact ha t q
            · rw [List.mem_singleton.1 q]
              unfold freeB at k3
              rw [Bool.and_eq_true, decide_eq_true_eq] at k3
              exact ⟨_, _, _, rfl, k3.1⟩
        · cases he
theorem splitR_tri (ps : List Pt) : ∀ t ∈ (splitR ps).1, TriL t := by
  unfold splitR
  by_cases h : checkI ps = 0
  · rw [if_pos h]
    cases hs : splitOf ps with
    | none => intro t ht; cases ht
    | some ts => exact splitGo_tri _ _ _ ts (normal_good h) (by omega) (by intro t ht; cases ht) hs
  · rw [if_neg h]; intro t ht; cases ht
theorem splitR_in (ps : List Pt) : ∀ t ∈ (splitR ps).1, ∀ p ∈ t, outP p = false := by
  unfold splitR
  by_cases h : checkI ps = 0
  · rw [if_pos h]
    cases hs : splitOf ps with
    | none => intro t ht; cases ht
    | some ts =>
      have hin : ∀ p ∈ normalOf ps, outP p = false := by
        intro p hp
        obtain ⟨k, hk, he⟩ := List.getElem_of_mem hp
        rw [← he, ← gp_eq hk]
        exact normal_in h k
      exact splitGo_all (Q := fun p => outP p = false) rfl _ _ _ ts hin (by intro t ht; cases ht) hs
  · rw [if_neg h]; intro t ht; cases ht

end Go.Proofs.YtdhakoecjmaebaaGreat
/-
  The reference of layer 13: the triangles of a polygon.
-/
namespace Go.Proofs.YtdhakoecjmaebaaGreat
open Go.RowKit
set_option linter.unusedSimpArgs false
set_option linter.unusedVariables false

/- Appends whose row is known to be the old one or a new one. -/
section
variable {α : Type} {cells : α → List Value} {sz : Nat}
theorem run_append_recf {P : Program} {t e : TypeId} (hT : SlT P t e sz) (hc : ∀ a, (cells a).length = sz) (ho : ∀ a, ∀ u ∈ cells a, u.oneCell' = true) (ty : TypeId) {w : World} {base : Nat} {v : Value} {l : List α} (hown : OwnR w base e sz cells v l)
    {ad : Addr} {c : Nat} {news : List α} (hs : SrcAt w (some ad) (news.flatMap cells)) (hn : l.length + news.length ≤ 65536) (hb : base ≤ w.heap.size) :
    ∃ A' c' w', (Builtin.append_ #[t, t] ty #[v, .slice (some ad) news.length c]).run P w = .ok (.slice A' (l ++ news).length c') w' ∧ OwnR w' base e sz cells (.slice A' (l ++ news).length c') (l ++ news) ∧ w.grownBy w' v.ownBlock ∧
      ((Value.slice A' (l ++ news).length c').ownBlock = v.ownBlock ∨ (Value.slice A' (l ++ news).length c').ownBlock = some w.heap.size) := by
  obtain ⟨i, z, h1, h2, h3, h4, h5, h6, h7⟩ := hT
  obtain ⟨v', w', hr, hw, hg, _, hf⟩ := run_append_own_at (P := P) w base t ty e i z sz i.bytes h1 h2 h3 h4 rfl h6 h7 v l.length _ hown ad news.length c (news.flatMap cells) (flat_len hc _) (hs ad rfl) (one_flat ho _) (by unfold maxLen; omega) (by
    have : (l.length + news.length) * i.bytes ≤ 65536 * 1024 := Nat.mul_le_mul hn h5
    omega) hb
  have hw2 : OwnR w' base e sz cells v' (l ++ news) := by unfold OwnR; rw [List.flatMap_append, List.length_append]; exact hw
  obtain ⟨A', c', rfl, _⟩ := hw2.form hc
  exact ⟨A', c', w', hr, hw2, hg, hf⟩
theorem wpList_append_recf {P : Program} {t e : TypeId} (hT : SlT P t e sz) (hc : ∀ a, (cells a).length = sz) (hon : ∀ a, ∀ u ∈ cells a, u.oneCell' = true) {w : World} {ops : Array Oper} {rest : List Oper} {o : Oper} {a : Act} {Q : Exit → Act → World → Prop} (hgd : o.guard = none) (s x : Operand)
    (ho : o.op = .call { callee := .builtin .append, args := #[s, x], argTypes := #[t, t] }) {base : Nat} {v : Value} {l : List α} (hv : a.eval s = v) (hown : OwnR w base e sz cells v l)
    {ad : Addr} {c : Nat} (news : List α) (hx : a.eval x = .slice (some ad) news.length c) (hs : SrcAt w (some ad) (news.flatMap cells)) (hn : l.length + news.length ≤ 65536) (hb : base ≤ w.heap.size)
    (h : ∀ A' c' w', OwnR w' base e sz cells (.slice A' (l ++ news).length c') (l ++ news) → w.grownBy w' v.ownBlock → ((Value.slice A' (l ++ news).length c').ownBlock = v.ownBlock ∨ (Value.slice A' (l ++ news).length c').ownBlock = some w.heap.size) → wpList P ops Q rest (a.put o.dst (.slice A' (l ++ news).length c')) w') : wpList P ops Q (o :: rest) a w := by
  refine wpList_plain hgd fun _ hK => ?_
  obtain ⟨A', c', w', hr, h2, h3, h4⟩ := run_append_recf (P := P) hT hc hon o.type hown (c := c) hs hn hb
  unfold Oper.wp execOp
  simp only [ho, resolve, invoke, builtin, Sem.run_bind, Sem.run_pure, Result.andThen_ok, List.map_toArray, List.map_cons, List.map_nil, hv, hx, hr]
  exact hK _ _ (h A' c' w' h2 h3 h4)
end
/-- A slice of that address does not lie in the row, but in memory that is there. -/
def Fence (row : Option Nat) (n : Nat) (A : Option Addr) : Prop := ∀ b o, A = some ⟨b, o, none⟩ → some b ≠ row ∧ b < n
theorem Fence.mono {row : Option Nat} {n m : Nat} {A : Option Addr} (h : Fence row n A) (k : n ≤ m) : Fence row m A := fun b o e => ⟨(h b o e).1, by have := (h b o e).2; omega⟩
theorem Fence.fresh {row : Option Nat} {n m : Nat} {A : Option Addr} (h : Fence row n A) {row' : Option Nat} (hr : row' = row ∨ row' = some m) (k : n ≤ m) {k' : Nat} (hk : m ≤ k') : Fence row' k' A := fun b o e => by
  have := h b o e
  refine ⟨?_, by omega⟩
  rcases hr with rfl | rfl
  · exact this.1
  · intro q; cases q; omega
theorem Pts.grown {w w' : World} {row : Option Nat} {A : Option Addr} {ps : List Pt} (h : Pts w A ps) (hg : w.grownBy w' row) (hf : Fence row w.heap.size A) : Pts w' A ps := fun hn => by
  obtain ⟨b, o, e, hx⟩ := h hn
  obtain ⟨f1, f2⟩ := hf b o e
  have hc : ∀ k, w'.cell? ⟨b, k, Option.none⟩ = w.cell? ⟨b, k, Option.none⟩ := fun k => World.cell?_of_block (a := ⟨b, k, Option.none⟩) (hg.block b f2 f1)
  exact ⟨b, o, e, fun i p hp => ⟨by rw [hc]; exact (hx i p hp).1, by rw [hc]; exact (hx i p hp).2⟩⟩
/- Lists of polygons in a row of one's own. -/
structure PV where
  A : Option Addr
  c : Nat
  ps : List Pt
def PV.cells (v : PV) : List Value := [.slice v.A v.ps.length v.c]
def PvOk (w : World) (v : PV) : Prop := v.ps.length ≤ v.c ∧ v.c ≤ maxLen ∧ Pts w v.A v.ps
theorem pv_len (v : PV) : v.cells.length = 1 := rfl
theorem pv_one (v : PV) : ∀ u ∈ v.cells, u.oneCell' = true := by
  intro u hu
  simp only [PV.cells, List.mem_cons, List.not_mem_nil, or_false] at hu
  rw [hu]; rfl
theorem slt_polys : SlT Tryz.prog 63 28 1 := SlT.mk (z := .slice none 0 0) (by_ := 24) Tryz.underlying63 (by kernel_rfl) (by omega) rfl (by omega)
theorem PvOk.later {w w' : World} {v : PV} (h : PvOk w v) (k : Later w w') : PvOk w' v := ⟨h.1, h.2.1, h.2.2.later k⟩
theorem OwnR.polys {w : World} {base : Nat} {v : Value} {l : List PV} (h : OwnR w base 28 1 PV.cells v l) (hok : ∀ p ∈ l, PvOk w p) : ∃ A c, v = .slice A l.length c ∧ l.length ≤ c ∧ c ≤ maxLen ∧ Polys w A (l.map PV.ps) := by
  obtain ⟨A, c, e, h1, h2, h3⟩ := h.form pv_len
  refine ⟨A, c, e, h1, h2, fun hn => ?_⟩
  obtain ⟨g, rfl, _, _, _, hx⟩ := h3 (by simpa using hn)
  refine ⟨g, 0, rfl, fun i ps hi => ?_⟩
  rw [List.getElem?_map] at hi
  obtain ⟨p, hp, rfl⟩ := Option.map_eq_some_iff.1 hi
  have hm := hok p (List.mem_of_getElem? hp)
  exact ⟨.slice p.A p.ps.length p.c, by have := hx i p hp 0 _ rfl; simpa using this, p.A, p.c, rfl, hm.1, hm.2.1, hm.2.2⟩
end Go.Proofs.YtdhakoecjmaebaaGreat
