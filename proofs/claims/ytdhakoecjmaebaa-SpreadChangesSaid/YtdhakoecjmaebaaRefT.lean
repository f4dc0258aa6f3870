/-
  The reference of layer 13: the triangles of a polygon.
-/
import Derived.Test.YtdhakoecjmaebaaRefS
namespace Go.Proofs.Ytdhakoecjmaebaa
open Go.RowKit
set_option linter.unusedSimpArgs false
set_option linter.unusedVariables false

theorem rnormal_eq {ps : List Pt} (h : checkI ps = 0) : rnormalOf ps = normalOf ps := by
  have hs := check_simple h
  obtain ⟨c1, c2⟩ := corners_simple hs
  have a1 := (area_lam hs).1
  have a2 := (area_lam c1).1
  rw [c2] at a2
  unfold rnormalOf normalOf ccwOf
  rw [rev_reverse]
  by_cases k : areaI ps < 0
  · rw [if_pos k, if_pos (a2.2 (a1.1 k))]
  · rw [if_neg k, if_neg (fun q => k (a1.2 (a2.1 q)))]

/- Appends whose row is known to be the old one or a new one. -/
section
variable {α : Type} {cells : α → List Value} {sz : Nat}
theorem run_append_recf {P : Program} {t e : TypeId} (hT : SlT P t e sz) (hc : ∀ a, (cells a).length = sz) (ho : ∀ a, ∀ u ∈ cells a, u.oneCell' = true) (ty : TypeId) {w : World} {base : Nat} {v : Value} {l : List α} (hown : OwnR w base e sz cells v l)
    {ad : Addr} {c : Nat} {news : List α} (hs : SrcAt w (some ad) (news.flatMap cells)) (hn : l.length + news.length ≤ 65536) (hb : base ≤ w.heap.size) :
    ∃ A' c' w', (Builtin.append_ #[t, t] ty #[v, .slice (some ad) news.length c]).run P w = .ok (.slice A' (l ++ news).length c') w' ∧ OwnR w' base e sz cells (.slice A' (l ++ news).length c') (l ++ news) ∧ w.grownBy w' v.ownBlock ∧
      ((Value.slice A' (l ++ news).length c').ownBlock = v.ownBlock ∨ (Value.slice A' (l ++ news).length c').ownBlock = some w.heap.size) := by
  obtain ⟨i, z, h1, h2, h3, h4, h5, h6, h7⟩ := hT
  obtain ⟨v', w', hr, hw, hg, _, hf⟩ := run_append_own_at (P := P) w base t ty e i z sz i.bytes h1 h2 h3 h4 rfl h6 h7 v l.length _ hown ad news.length c (news.flatMap cells) (flat_len hc _) (hs ad rfl) (one_flat ho _) (by unfold maxLen; omega) (by
    have : (l.length + news.length) * i.bytes ≤ 65536 * 1024 := Nat.mul_le_mul hn h5
    omega) hb
  have hw2 : OwnR w' base e sz cells v' (l ++ news) := by unfold OwnR; rw [List.flatMap_append, List.length_append]; exact hw
  obtain ⟨A', c', rfl, _⟩ := hw2.form hc
  exact ⟨A', c', w', hr, hw2, hg, hf⟩
theorem wpList_append_recf {P : Program} {t e : TypeId} (hT : SlT P t e sz) (hc : ∀ a, (cells a).length = sz) (hon : ∀ a, ∀ u ∈ cells a, u.oneCell' = true) {w : World} {ops : Array Oper} {rest : List Oper} {o : Oper} {a : Act} {Q : Exit → Act → World → Prop} (hgd : o.guard = none) (s x : Operand)
    (ho : o.op = .call { callee := .builtin .append, args := #[s, x], argTypes := #[t, t] }) {base : Nat} {v : Value} {l : List α} (hv : a.eval s = v) (hown : OwnR w base e sz cells v l)
    {ad : Addr} {c : Nat} (news : List α) (hx : a.eval x = .slice (some ad) news.length c) (hs : SrcAt w (some ad) (news.flatMap cells)) (hn : l.length + news.length ≤ 65536) (hb : base ≤ w.heap.size)
    (h : ∀ A' c' w', OwnR w' base e sz cells (.slice A' (l ++ news).length c') (l ++ news) → w.grownBy w' v.ownBlock → ((Value.slice A' (l ++ news).length c').ownBlock = v.ownBlock ∨ (Value.slice A' (l ++ news).length c').ownBlock = some w.heap.size) → wpList P ops Q rest (a.put o.dst (.slice A' (l ++ news).length c')) w') : wpList P ops Q (o :: rest) a w := by
  refine wpList_plain hgd fun _ hK => ?_
  obtain ⟨A', c', w', hr, h2, h3, h4⟩ := run_append_recf (P := P) hT hc hon o.type hown (c := c) hs hn hb
  unfold Oper.wp execOp
  simp only [ho, resolve, invoke, builtin, Sem.run_bind, Sem.run_pure, Result.andThen_ok, List.map_toArray, List.map_cons, List.map_nil, hv, hx, hr]
  exact hK _ _ (h A' c' w' h2 h3 h4)
end
/-- A slice of that address does not lie in the row, but in memory that is there. -/
def Fence (row : Option Nat) (n : Nat) (A : Option Addr) : Prop := ∀ b o, A = some ⟨b, o, none⟩ → some b ≠ row ∧ b < n
theorem Fence.mono {row : Option Nat} {n m : Nat} {A : Option Addr} (h : Fence row n A) (k : n ≤ m) : Fence row m A := fun b o e => ⟨(h b o e).1, by have := (h b o e).2; omega⟩
theorem Fence.fresh {row : Option Nat} {n m : Nat} {A : Option Addr} (h : Fence row n A) {row' : Option Nat} (hr : row' = row ∨ row' = some m) (k : n ≤ m) {k' : Nat} (hk : m ≤ k') : Fence row' k' A := fun b o e => by
  have := h b o e
  refine ⟨?_, by omega⟩
  rcases hr with rfl | rfl
  · exact this.1
  · intro q; cases q; omega
theorem Pts.grown {w w' : World} {row : Option Nat} {A : Option Addr} {ps : List Pt} (h : Pts w A ps) (hg : w.grownBy w' row) (hf : Fence row w.heap.size A) : Pts w' A ps := fun hn => by
  obtain ⟨b, o, e, hx⟩ := h hn
  obtain ⟨f1, f2⟩ := hf b o e
  have hc : ∀ k, w'.cell? ⟨b, k, Option.none⟩ = w.cell? ⟨b, k, Option.none⟩ := fun k => World.cell?_of_block (a := ⟨b, k, Option.none⟩) (hg.block b f2 f1)
  exact ⟨b, o, e, fun i p hp => ⟨by rw [hc]; exact (hx i p hp).1, by rw [hc]; exact (hx i p hp).2⟩⟩
/-- The result is a slice in new memory that reads as ps. -/
def RetNew (ps : List Pt) (w : World) (e : Ending) (w' : World) : Prop := ∃ g c, e = .returned (.slice (some ⟨g, 0, none⟩) ps.length c) ∧ ps.length ≤ c ∧ c ≤ maxLen ∧ Pts w' (some ⟨g, 0, none⟩) ps ∧ w.heap.size ≤ g ∧ g < w'.heap.size ∧ Later w w'

/- Lists of polygons in a row of one's own. -/
structure PV where
  A : Option Addr
  c : Nat
  ps : List Pt
def PV.cells (v : PV) : List Value := [.slice v.A v.ps.length v.c]
def PvOk (w : World) (v : PV) : Prop := v.ps.length ≤ v.c ∧ v.c ≤ maxLen ∧ Pts w v.A v.ps
theorem pv_len (v : PV) : v.cells.length = 1 := rfl
theorem pv_one (v : PV) : ∀ u ∈ v.cells, u.oneCell' = true := by
  intro u hu
  simp only [PV.cells, List.mem_cons, List.not_mem_nil, or_false] at hu
  rw [hu]; rfl
theorem slt_polys : SlT Try.prog 28 82 1 := SlT.mk (z := .slice none 0 0) (by_ := 24) Try.underlying28 (by kernel_rfl) (by omega) rfl (by omega)
theorem PvOk.later {w w' : World} {v : PV} (h : PvOk w v) (k : Later w w') : PvOk w' v := ⟨h.1, h.2.1, h.2.2.later k⟩
theorem OwnR.polys {w : World} {base : Nat} {v : Value} {l : List PV} (h : OwnR w base 82 1 PV.cells v l) (hok : ∀ p ∈ l, PvOk w p) : ∃ A c, v = .slice A l.length c ∧ l.length ≤ c ∧ c ≤ maxLen ∧ Polys w A (l.map PV.ps) := by
  obtain ⟨A, c, e, h1, h2, h3⟩ := h.form pv_len
  refine ⟨A, c, e, h1, h2, fun hn => ?_⟩
  obtain ⟨g, rfl, _, _, _, hx⟩ := h3 (by simpa using hn)
  refine ⟨g, 0, rfl, fun i ps hi => ?_⟩
  rw [List.getElem?_map] at hi
  obtain ⟨p, hp, rfl⟩ := Option.map_eq_some_iff.1 hi
  have hm := hok p (List.mem_of_getElem? hp)
  exact ⟨.slice p.A p.ps.length p.c, by have := hx i p hp 0 _ rfl; simpa using this, p.A, p.c, rfl, hm.1, hm.2.1, hm.2.2⟩
def lenOfV : Value → Nat
  | .slice _ n _ => n
  | _ => 0
theorem all_in_mem {l : List Pt} (h : ∀ p ∈ l, outP p = false) : AllIn l := gp_all (Q := fun p => outP p = false) rfl h

end Go.Proofs.Ytdhakoecjmaebaa
