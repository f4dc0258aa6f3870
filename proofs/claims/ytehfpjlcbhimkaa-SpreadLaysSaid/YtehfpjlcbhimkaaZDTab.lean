/-
  The walk of damage.Hit.
  The walk of damage.Table.
-/
import Derived.Test.YtehfpjlcbhimkaaZRoll
import Derived.Deep.OwnRows
/- The walk of damage.Hit. -/
namespace Go.Proofs.Ytehfpjlcbhimkaa
open Go.RowKit
set_option linter.unusedSimpArgs false
set_option linter.unusedVariables false

/-- Whether one of the flaws hits, and the error. -/
def flawGo (ps : List Pt) (d : Int) : List Qd → Bool × Int
  | [] => (false, 0)
  | f :: l => if (hitsR ps (f.a + d) f.b f.c f.d).2 ≠ 0 then (false, (hitsR ps (f.a + d) f.b f.c f.d).2) else if (hitsR ps (f.a + d) f.b f.c f.d).1 = true then (true, 0) else flawGo ps d l
def rollHit (ps : List Pt) (x : Qd) (r : Rl) : Bool × Int := if rollI r ≠ 0 then (false, rollI r) else flawGo ps (x.d - x.b) r.fl
def gq (qs : List Qd) (j : Nat) : Qd := qs.getD j ⟨0, 0, 0, 0⟩
def gr (rs : List Rl) (j : Nat) : Rl := rs.getD j ⟨⟨#[]⟩, 0, 0, 0, 0, 0, none, 0, []⟩
/-- What damage.Hit returns. -/
def hitR (qs : List Qd) (rs : List Rl) (ps : List Pt) : Bool × Int :=
  if (carrierR qs ps).2 ≠ 0 then (false, (carrierR qs ps).2)
  else if (gq qs (carrierR qs ps).1.toNat).a < 0 ∨ (rs.length : Int) ≤ (gq qs (carrierR qs ps).1.toNat).a then (false, 3)
  else rollHit ps (gq qs (carrierR qs ps).1.toNat) (gr rs (gq qs (carrierR qs ps).1.toNat).a.toNat)

section
variable (A B C : Option Addr) (c cb cc : Nat) (lot : Int) (qs : List Qd) (rs : List Rl) (ps : List Pt) (w : World)

end

end Go.Proofs.Ytehfpjlcbhimkaa

/- The walk of damage.Table. -/
namespace Go.Proofs.Ytehfpjlcbhimkaa
open Go.RowKit
set_option linter.unusedSimpArgs false
set_option linter.unusedVariables false

def tabRows (rs : List Rl) (polys : List (List Pt)) (ys : List Py) : List (List Bool) := ys.map fun y => polys.map fun q => (hitR y.parts rs q).1

/-- A slice of bools. -/
def BoolsV (w : World) (v : Value) (bs : List Bool) : Prop :=
  ∃ A c, v = .slice A bs.length c ∧ bs.length ≤ c ∧ (0 < bs.length → ∃ b o, A = some ⟨b, o, none⟩ ∧ ∀ i x, bs[i]? = some x → w.cell? ⟨b, o + i, none⟩ = some (.bool x))
theorem BoolsV.later {w w' : World} {v : Value} {bs : List Bool} (h : BoolsV w v bs) (k : Later w w') : BoolsV w' v bs :=
  let ⟨A, c, e, h1, h2⟩ := h; ⟨A, c, e, h1, fun hn => let ⟨b, o, e', h3⟩ := h2 hn; ⟨b, o, e', fun i x hx => k.cell (h3 i x hx)⟩⟩
def Tab (w : World) (A : Option Addr) (rows : List (List Bool)) : Prop :=
  0 < rows.length → ∃ b o, A = some ⟨b, o, none⟩ ∧ ∀ i r, rows[i]? = some r → ∃ v, w.cell? ⟨b, o + i, none⟩ = some v ∧ BoolsV w v r
theorem Tab.later {w w' : World} {A : Option Addr} {rows : List (List Bool)} (h : Tab w A rows) (k : Later w w') : Tab w' A rows :=
  fun hn => let ⟨b, o, e, h1⟩ := h hn; ⟨b, o, e, fun i r hr => let ⟨v, hv, hb⟩ := h1 i r hr; ⟨v, k.cell hv, hb.later k⟩⟩
theorem rowIs_later {w w' : World} {b : Nat} {t : TypeId} {n : Nat} {f : Nat → Value} (h : w.rowIs b t n f) (k : Later w w') : w'.rowIs b t n f := h.of_block (k.block b h.lt)

/-- The table's block and its rows behind k plies. -/
def TabRel (w wr : World) (T n m k : Nat) (rs : List Rl) (polys : List (List Pt)) (ys : List Py) : Prop :=
  ∃ F : Nat → Nat, wr.rowIs T 109 n (fun j => if j < k then .slice (some ⟨F j, 0, none⟩) m m else .slice none 0 0) ∧
    ∀ j y, ys[j]? = some y → j < k → wr.rowIs (F j) 4 m (fun i => .bool (hitR y.parts rs (polys.getD i [])).1) ∧ F j ≠ T ∧ w.heap.size ≤ F j
theorem TabRel.later {w wr w' : World} {T n m k : Nat} {rs : List Rl} {polys : List (List Pt)} {ys : List Py} (h : TabRel w wr T n m k rs polys ys) (hk : Later wr w') : TabRel w w' T n m k rs polys ys :=
  let ⟨F, h1, h2⟩ := h; ⟨F, rowIs_later h1 hk, fun j y hy hj => ⟨rowIs_later (h2 j y hy hj).1 hk, (h2 j y hy hj).2⟩⟩
theorem TabRel.done {w wr : World} {T m : Nat} {rs : List Rl} {polys : List (List Pt)} {ys : List Py} (hm : m = polys.length) (h : TabRel w wr T ys.length m ys.length rs polys ys) : Tab wr (some ⟨T, 0, none⟩) (tabRows rs polys ys) := by
  subst hm
  intro h0
  obtain ⟨F, h1, h2⟩ := h
  refine ⟨T, 0, rfl, fun i r hr => ?_⟩
  simp only [tabRows, List.getElem?_map, Option.map_eq_some_iff] at hr
  obtain ⟨y, hy, rfl⟩ := hr
  have hi : i < ys.length := (List.getElem?_eq_some_iff.1 hy).1
  have h3 := h1.cell hi
  rw [if_pos hi] at h3
  refine ⟨_, by rw [Nat.zero_add]; exact h3, some ⟨F i, 0, none⟩, polys.length, by simp, by simp, fun hp => ⟨F i, 0, rfl, fun j x hx => ?_⟩⟩
  simp only [List.getElem?_map, Option.map_eq_some_iff] at hx
  obtain ⟨q, hq, rfl⟩ := hx
  have hj : j < polys.length := (List.getElem?_eq_some_iff.1 hq).1
  have h4 := (h2 i y hy hi).1.cell hj
  rw [Nat.zero_add, h4]
  congr 2
  rw [List.getD_eq_getElem?_getD, hq]
  rfl
/-- One more row is done. -/
theorem TabRel.step {w wr wq : World} {T n m k g : Nat} {rs : List Rl} {polys : List (List Pt)} {ys : List Py} {y : Py} (hy : ys[k]? = some y) (F : Nat → Nat)
    (h1 : wq.rowIs T 109 n (fun j => if j = k then .slice (some ⟨g, 0, none⟩) m m else if j < k then .slice (some ⟨F j, 0, none⟩) m m else .slice none 0 0))
    (h2 : ∀ j y, ys[j]? = some y → j < k → wq.rowIs (F j) 4 m (fun i => .bool (hitR y.parts rs (polys.getD i [])).1) ∧ F j ≠ T ∧ w.heap.size ≤ F j)
    (hg : wq.rowIs g 4 m (fun i => if i < m then .bool (hitR y.parts rs (polys.getD i [])).1 else .bool false)) (hgT : g ≠ T) (hgw : w.heap.size ≤ g) : TabRel w wq T n m (k + 1) rs polys ys := by
  refine ⟨fun j => if j = k then g else F j, h1.congr fun j hj => ?_, fun j y' hy' hj => ?_⟩
  · by_cases h : j = k
    · subst h; simp
    · rw [if_neg h]
      by_cases h' : j < k
      · rw [if_pos h', if_pos (by omega)]; simp only [if_neg h]
      · rw [if_neg h', if_neg (by omega)]
  · by_cases h : j = k
    · subst h
      rw [hy] at hy'
      cases hy'
      simp only [if_true]
      exact ⟨hg.congr fun i hi => by rw [if_pos hi], hgT, hgw⟩
    · simp only [if_neg h]
      exact h2 j y' hy' (by omega)

/-- The state inside the row of ply k, behind i polygons: the ply's own copy in block G, the new row in the next. -/
def InRel (w wq : World) (T n m k G : Nat) (F : Nat → Nat) (rs : List Rl) (polys : List (List Pt)) (ys : List Py) (y : Py) (i : Nat) : Prop :=
  wq.cell? ⟨G, 0, none⟩ = some (.int .i64 y.lot) ∧ wq.cell? ⟨G, 1, none⟩ = some (.slice y.pa y.parts.length y.pc) ∧
  wq.rowIs T 109 n (fun j => if j = k then .slice (some ⟨G + 1, 0, none⟩) m m else if j < k then .slice (some ⟨F j, 0, none⟩) m m else .slice none 0 0) ∧
  (∀ j y', ys[j]? = some y' → j < k → wq.rowIs (F j) 4 m (fun i => .bool (hitR y'.parts rs (polys.getD i [])).1) ∧ F j ≠ T ∧ w.heap.size ≤ F j ∧ F j < G) ∧
  wq.rowIs (G + 1) 4 m (fun j => if j < i then .bool (hitR y.parts rs (polys.getD j [])).1 else .bool false) ∧ T < G
theorem InRel.later {w wq w' : World} {T n m k G : Nat} {F : Nat → Nat} {rs : List Rl} {polys : List (List Pt)} {ys : List Py} {y : Py} {i : Nat} (h : InRel w wq T n m k G F rs polys ys y i) (hk : Later wq w') : InRel w w' T n m k G F rs polys ys y i :=
  ⟨hk.cell h.1, hk.cell h.2.1, rowIs_later h.2.2.1 hk, fun j y' hy hj => ⟨rowIs_later (h.2.2.2.1 j y' hy hj).1 hk, (h.2.2.2.1 j y' hy hj).2⟩, rowIs_later h.2.2.2.2.1 hk, h.2.2.2.2.2⟩
theorem InRel.put {w wq : World} {T n m k G : Nat} {F : Nat → Nat} {rs : List Rl} {polys : List (List Pt)} {ys : List Py} {y : Py} {i : Nat} (h : InRel w wq T n m k G F rs polys ys y i) {x : Bool} (hx : x = (hitR y.parts rs (polys.getD i [])).1) :
    InRel w (wq.setCell ⟨G + 1, i, none⟩ (.bool x)) T n m k G F rs polys ys y (i + 1) := by
  obtain ⟨h1, h2, h3, h4, h5, h6⟩ := h
  refine ⟨?_, ?_, h3.setOther (by simp; omega) _, fun j y' hy hj => ⟨(h4 j y' hy hj).1.setOther (by have := (h4 j y' hy hj).2.2.2; simp; omega) _, (h4 j y' hy hj).2⟩, ?_, h6⟩
  · rw [World.cell?_setCell_far _ _ _ _ (by simp)]; exact h1
  · rw [World.cell?_setCell_far _ _ _ _ (by simp)]; exact h2
  · refine (h5.set i _).congr fun j hj => ?_
    by_cases e : j = i
    · subst e; rw [if_pos rfl, if_pos (by omega), hx]
    · rw [if_neg e]
      by_cases e' : j < i
      · rw [if_pos e', if_pos (by omega)]
      · rw [if_neg e', if_neg (by omega)]
theorem InRel.done {w wq : World} {T n m k G : Nat} {F : Nat → Nat} {rs : List Rl} {polys : List (List Pt)} {ys : List Py} {y : Py} (h : InRel w wq T n m k G F rs polys ys y m) (hy : ys[k]? = some y) (hG : w.heap.size ≤ G) : TabRel w wq T n m (k + 1) rs polys ys := by
  obtain ⟨h1, h2, h3, h4, h5, h6⟩ := h
  exact TabRel.step (wr := w) hy F h3 (fun j y' hy hj => ⟨(h4 j y' hy hj).1, (h4 j y' hy hj).2.1, (h4 j y' hy hj).2.2.1⟩) h5 (by omega) (by omega)

theorem Polys.at_ {w : World} {A : Option Addr} {l : List (List Pt)} (h : Polys w A l) {k : Nat} (hk : k < l.length) :
    ∃ b o A' c', A = some ⟨b, o, none⟩ ∧ w.cell? ⟨b, o + k, none⟩ = some (.slice A' (l[k]).length c') ∧ (l[k]).length ≤ c' ∧ Pts w A' (l[k]) := by
  obtain ⟨b, o, e, hc⟩ := h (by omega)
  obtain ⟨v, hv, A', c', rfl, h1, h2, h3⟩ := hc k _ (List.getElem?_eq_getElem hk)
  exact ⟨b, o, A', c', e, hv, h1, h3⟩

end Go.Proofs.Ytehfpjlcbhimkaa
