/-
  The walks of polygon.bend and polygon.area.
  Points in a row of the call's own: append, reversal.
  The walks of slices.Grow at nil and slices.Concat of two lists of points.
  The walk of polygon.Normal.
  The builtin copy at elements of several cells; make of points; slices of slices of points.
-/
import Derived.Test.YtdhakoecjmaebaaPoly
import Derived.Laws.OwnMore
import Derived.Deep.AppendLies
import Derived.OwnWalk
import Derived.Lib.AppendZeros
import Derived.Deep.DeepCutAuto
import Derived.Laws.CopyOwn
import Derived.Laws.MakeOwn
/- The walks of polygon.bend and polygon.area. -/
namespace Go.Proofs.Ytdhakoecjmaebaa
open Go.RowKit
set_option linter.unusedSimpArgs false
set_option linter.unusedVariables false

def crossP (a b c : Pt) : Int := crossI a.x a.y b.x b.y c.x c.y
/-- The cross product at vertex i. -/
def bendI (ps : List Pt) (i : Nat) : Int := crossP (gp ps ((i + ps.length - 1) % ps.length)) (gp ps i) (gp ps ((i + 1) % ps.length))

theorem toNat_emod' (i j n : Nat) (h : 1 ≤ i + j) : (((i : Int) + (j : Int) - 1) % (n : Int)).toNat = (i + j - 1) % n := by
  rw [show ((i : Int) + (j : Int) - 1) = ((i + j - 1 : Nat) : Int) by omega, ← Int.natCast_emod]
  exact Int.toNat_natCast _

/-- Twice the signed area, the rest from vertex i on. -/
def areaGo (ps : List Pt) : Nat → Nat → Int → Int
  | 0, _, s => s
  | f + 1, i, s => areaGo ps f (i + 1) (s + ((gp ps i).x * (gp ps ((i + 1) % ps.length)).y - (gp ps i).y * (gp ps ((i + 1) % ps.length)).x))
def areaI (ps : List Pt) : Int := areaGo ps ps.length 0 0
theorem area_step {ps : List Pt} {i : Nat} {s x : Int} (he : x = areaGo ps (ps.length - i) i s) (h : i < ps.length) :
    x = areaGo ps (ps.length - (i + 1)) (i + 1) (s + ((gp ps i).x * (gp ps ((i + 1) % ps.length)).y - (gp ps i).y * (gp ps ((i + 1) % ps.length)).x)) := by
  obtain ⟨f, hf'⟩ : ∃ f, ps.length - i = f + 1 := ⟨ps.length - i - 1, by omega⟩
  rw [he, hf', areaGo, show ps.length - (i + 1) = f by omega]
theorem area_term (a b : Pt) (ha : SmP a) (hb : SmP b) : (-17592186044416 ≤ a.x * b.y ∧ a.x * b.y ≤ 17592186044416) ∧ (-17592186044416 ≤ a.y * b.x ∧ a.y * b.x ≤ 17592186044416) := by
  unfold SmP Sm at *
  have h1 := mul_bd (a := a.x) (b := b.y) 4194304 (by omega) (by omega)
  have h2 := mul_bd (a := a.y) (b := b.x) 4194304 (by omega) (by omega)
  omega

end Go.Proofs.Ytdhakoecjmaebaa

/- Points in a row of the call's own: append, reversal. -/
namespace Go.Proofs.Ytdhakoecjmaebaa
open Go.RowKit
set_option linter.unusedSimpArgs false
set_option linter.unusedVariables false

def flat : List Pt → List Value
  | [] => []
  | p :: l => .int .i64 p.x :: .int .i64 p.y :: flat l
theorem flat_length (l : List Pt) : (flat l).length = l.length * 2 := by
  induction l with
  | nil => rfl
  | cons p l ih => simp [flat, ih]; omega
theorem flat_append (l m : List Pt) : flat (l ++ m) = flat l ++ flat m := by
  induction l with
  | nil => rfl
  | cons p l ih => simp [flat, ih]
theorem flat_one (l : List Pt) : ∀ u ∈ flat l, u.oneCell' = true := by
  induction l with
  | nil => intro u h; cases h
  | cons p l ih =>
    intro u h
    simp only [flat, List.mem_cons] at h
    rcases h with rfl | rfl | h
    · rfl
    · rfl
    · exact ih u h
theorem flat_get {l : List Pt} {i : Nat} {p : Pt} (h : l[i]? = some p) : (flat l)[i * 2]? = some (.int .i64 p.x) ∧ (flat l)[i * 2 + 1]? = some (.int .i64 p.y) := by
  induction l generalizing i with
  | nil => simp at h
  | cons q l ih =>
    rcases i with _ | i
    · simp at h; subst h; simp [flat]
    · have := ih (i := i) (by simpa using h)
      rw [show (i + 1) * 2 = i * 2 + 1 + 1 by omega]
      simpa [flat] using this
theorem flat_set (l : List Pt) (i : Nat) (p : Pt) : flat (l.set i p) = ((flat l).set (i * 2) (.int .i64 p.x)).set (i * 2 + 1) (.int .i64 p.y) := by
  induction l generalizing i with
  | nil => simp [flat]
  | cons q l ih =>
    rcases i with _ | i
    · simp [flat]
    · rw [show (i + 1) * 2 = i * 2 + 1 + 1 by omega]
      simp [flat, ih]

/-- v is a slice of a row from base on that nobody else holds, and reads as ps. -/
def Own (w : World) (base : Nat) (v : Value) (ps : List Pt) : Prop := w.ownsRow base 68 2 v ps.length (flat ps)
theorem Own.later {w w' : World} {base : Nat} {v : Value} {ps : List Pt} (h : Own w base v ps) (k : Later w w') : Own w' base v ps := by
  refine ⟨h.1, ?_⟩
  rcases h.2 with ⟨h1, h2⟩ | ⟨g, cap, cur, hv, hb, hg, r⟩
  · exact .inl ⟨h1, h2⟩
  · exact .inr ⟨g, cap, cur, hv, hb, (k.block g (by
      rcases Nat.lt_or_ge g w.heap.size with hlt | hge
      · exact hlt
      · rw [Array.getElem?_eq_none hge] at hg; cases hg)).trans hg, r⟩
theorem Own.form {w : World} {base : Nat} {v : Value} {ps : List Pt} (h : Own w base v ps) : ∃ A c, v = .slice A ps.length c ∧ ps.length ≤ c ∧ c ≤ maxLen ∧ Pts w A ps ∧ (∀ a, A = some a → ∃ g, a = ⟨g, 0, none⟩ ∧ base ≤ g ∧ g < w.heap.size) := by
  rcases h.2 with ⟨h1, h2⟩ | ⟨g, cap, cur, hv, hb, hg, hnc, hcm, hcs, htake⟩
  · exact ⟨none, 0, by rw [h1, h2], by omega, by unfold maxLen; omega, fun hn => by omega, by intro a ha; cases ha⟩
  · have hlt : g < w.heap.size := by
      rcases Nat.lt_or_ge g w.heap.size with hlt | hge
      · exact hlt
      · rw [Array.getElem?_eq_none hge] at hg; cases hg
    refine ⟨some ⟨g, 0, none⟩, cap, hv, hnc, hcm, fun _ => ⟨g, 0, rfl, fun i p hp => ?_⟩, by intro a ha; cases ha; exact ⟨g, rfl, hb, hlt⟩⟩
    obtain ⟨h1, h2⟩ := flat_get hp
    have hi : i < ps.length := by
      rcases Nat.lt_or_ge i ps.length with hh | hh
      · exact hh
      · rw [List.getElem?_eq_none hh] at hp; cases hp
    subst hv
    have hown : w.ownsRow base 68 2 (.slice (some ⟨g, 0, none⟩) ps.length cap) ps.length (flat ps) := h
    rw [Nat.zero_add, hown.cellAt _ (by omega), hown.cellAt _ (by omega)]
    exact ⟨h1, h2⟩

theorem Own.drew {w : World} {base : Nat} {v : Value} {ps : List Pt} (h : Own w base v ps) : Own w.drew base v ps := h
theorem grown_drew {w w' : World} {r : Option Nat} (h : w.grownBy w' r) : w.grownBy w'.drew r := ⟨h.os, h.tape, h.output, h.size, h.block⟩
/-- slices.Reverse, from both ends. -/
def revGo : Nat → Nat → Nat → List Pt → List Pt
  | 0, _, _, l => l
  | f + 1, i, j, l => if i < j then revGo f (i + 1) (j - 1) ((l.set i (gp l j)).set j (gp l i)) else l
def revOf (ps : List Pt) : List Pt := revGo ps.length 0 (ps.length - 1) ps

theorem Own.swap {w : World} {base g cap i j : Nat} {l : List Pt} (h : Own w base (.slice (some ⟨g, 0, none⟩) l.length cap) l) (p q : Pt) :
    Own ((((w.setCell ⟨g, i * 2, none⟩ (.int .i64 p.x)).setCell ⟨g, i * 2 + 1, none⟩ (.int .i64 p.y)).setCell ⟨g, j * 2, none⟩ (.int .i64 q.x)).setCell ⟨g, j * 2 + 1, none⟩ (.int .i64 q.y)) base (.slice (some ⟨g, 0, none⟩) l.length cap) ((l.set i p).set j q) ∧
    w.grownBy ((((w.setCell ⟨g, i * 2, none⟩ (.int .i64 p.x)).setCell ⟨g, i * 2 + 1, none⟩ (.int .i64 p.y)).setCell ⟨g, j * 2, none⟩ (.int .i64 q.x)).setCell ⟨g, j * 2 + 1, none⟩ (.int .i64 q.y)) (some g) := by
  obtain ⟨h1, g1⟩ := World.ownsRow.stored (show w.ownsRow base 68 2 _ l.length (flat l) from h) (i * 2) (.int .i64 p.x)
  obtain ⟨h2, g2⟩ := h1.stored (i * 2 + 1) (.int .i64 p.y)
  obtain ⟨h3, g3⟩ := h2.stored (j * 2) (.int .i64 q.x)
  obtain ⟨h4, g4⟩ := h3.stored (j * 2 + 1) (.int .i64 q.y)
  refine ⟨?_, ((g1.trans g2).trans g3).trans g4⟩
  unfold Own
  rw [flat_set, flat_set]
  simpa using h4

theorem rev_stop {f i j : Nat} {l : List Pt} (h : ¬ i < j) : revGo f i j l = l := by
  cases f with
  | zero => rfl
  | succ f => rw [revGo, if_neg h]
theorem rev_step {f i j : Nat} {l : List Pt} (h : i < j) (hf : j < i + f) : ∃ f', f = f' + 1 ∧ revGo f i j l = revGo f' (i + 1) (j - 1) ((l.set i (gp l j)).set j (gp l i)) := by
  obtain ⟨f', rfl⟩ : ∃ f', f = f' + 1 := ⟨f - 1, by omega⟩
  exact ⟨f', rfl, by rw [revGo, if_pos h]⟩

end Go.Proofs.Ytdhakoecjmaebaa

/- The walks of slices.Grow at nil and slices.Concat of two lists of points. -/
namespace Go.Proofs.Ytdhakoecjmaebaa
open Go.RowKit
set_option linter.unusedSimpArgs false
set_option linter.unusedVariables false

theorem info_spot : (Try.prog.info? 68).map (fun i => (i.zero, i.size, i.bytes)) = some (some (.agg #[.int .i64 0, .int .i64 0]), 2, 16) := by kernel_rfl

/-- A row of the call's own without an element, with room for n. -/
def Room (n : Nat) (w : World) (e : Ending) (w' : World) : Prop := ∃ g cap, e = .returned (.slice (some ⟨g, 0, none⟩) 0 cap) ∧ n ≤ cap ∧ Own w' w.heap.size (.slice (some ⟨g, 0, none⟩) 0 cap) [] ∧ Later w w'

/-- The result is a slice that reads as ps. -/
def RetPts (ps : List Pt) (w : World) (e : Ending) (w' : World) : Prop := ∃ A c, e = .returned (.slice A ps.length c) ∧ ps.length ≤ c ∧ c ≤ maxLen ∧ Pts w' A ps ∧ Later w w'

theorem src_cells {w : World} {A : Option Addr} {l : List Pt} (h : Pts w A l) : ∀ ad, A = some ad → ∀ j u, (flat l)[j]? = some u → w.cell? (ad.add j) = some u := by
  intro ad had j u hu
  have hj : j < (flat l).length := by
    rcases Nat.lt_or_ge j (flat l).length with hh | hh
    · exact hh
    · rw [List.getElem?_eq_none hh] at hu; cases hu
  rw [flat_length] at hj
  obtain ⟨b, o, e, hc⟩ := h (by omega)
  rw [e] at had
  cases had
  have hk : j / 2 < l.length := by omega
  obtain ⟨c1, c2⟩ := hc (j / 2) _ (List.getElem?_eq_getElem hk)
  obtain ⟨f1, f2⟩ := flat_get (List.getElem?_eq_getElem hk)
  rcases Nat.mod_two_eq_zero_or_one j with h0 | h0
  · rw [show j / 2 * 2 = j by omega] at c1 f1
    rw [f1] at hu
    cases hu
    have : (⟨b, o, none⟩ : Addr).add j = ⟨b, o + j, none⟩ := by unfold Addr.add; split <;> simp_all
    rw [this]; exact c1
  · rw [show j / 2 * 2 + 1 = j by omega] at f2
    rw [show o + j / 2 * 2 + 1 = o + j by omega] at c2
    rw [f2] at hu
    cases hu
    have : (⟨b, o, none⟩ : Addr).add j = ⟨b, o + j, none⟩ := by unfold Addr.add; split <;> simp_all
    rw [this]; exact c2

end Go.Proofs.Ytdhakoecjmaebaa

/- The walk of polygon.Normal. -/
namespace Go.Proofs.Ytdhakoecjmaebaa
open Go.RowKit
set_option linter.unusedSimpArgs false
set_option linter.unusedVariables false

/-- The vertices at which a polygon turns. -/
def cornGo (ps : List Pt) : Nat → Nat → List Pt → List Pt
  | 0, _, acc => acc
  | f + 1, i, acc => cornGo ps f (i + 1) (if bendI ps i = 0 then acc else acc ++ [gp ps i])
def cornersOf (ps : List Pt) : List Pt := cornGo ps ps.length 0 []
def lessP (a b : Pt) : Bool := decide (a.x < b.x) || (decide (a.x = b.x) && decide (a.y < b.y))
def leastGo (l : List Pt) : Nat → Nat → Nat → Nat
  | 0, _, m => m
  | f + 1, i, m => leastGo l f (i + 1) (if lessP (gp l i) (gp l m) then i else m)
def leastOf (l : List Pt) : Nat := leastGo l l.length 0 0
def ccwOf (ps : List Pt) : List Pt := if areaI ps < 0 then revOf (cornersOf ps) else cornersOf ps
def rotOf (l : List Pt) : List Pt := l.drop (leastOf l) ++ l.take (leastOf l)
def normalOf (ps : List Pt) : List Pt := rotOf (ccwOf ps)

theorem corn_step {ps : List Pt} {i : Nat} {acc x : List Pt} (he : x = cornGo ps (ps.length - i) i acc) (h : i < ps.length) :
    x = cornGo ps (ps.length - (i + 1)) (i + 1) (if bendI ps i = 0 then acc else acc ++ [gp ps i]) := by
  obtain ⟨f, hf'⟩ : ∃ f, ps.length - i = f + 1 := ⟨ps.length - i - 1, by omega⟩
  rw [he, hf', cornGo, show ps.length - (i + 1) = f by omega]
theorem least_step {l : List Pt} {i m x : Nat} (he : x = leastGo l (l.length - i) i m) (h : i < l.length) :
    x = leastGo l (l.length - (i + 1)) (i + 1) (if lessP (gp l i) (gp l m) then i else m) := by
  obtain ⟨f, hf'⟩ : ∃ f, l.length - i = f + 1 := ⟨l.length - i - 1, by omega⟩
  rw [he, hf', leastGo, show l.length - (i + 1) = f by omega]

theorem least_hit {l : List Pt} {i m x : Nat} (he : x = leastGo l (l.length - i) i m) (h : i < l.length) (hl : lessP (gp l i) (gp l m) = true) : x = leastGo l (l.length - (i + 1)) (i + 1) i := by
  have := least_step he h; rwa [if_pos hl] at this
theorem least_miss {l : List Pt} {i m x : Nat} (he : x = leastGo l (l.length - i) i m) (h : i < l.length) (hl : lessP (gp l i) (gp l m) = false) : x = leastGo l (l.length - (i + 1)) (i + 1) m := by
  have := least_step he h; rwa [hl] at this
theorem Own.at0 {w : World} {base g c : Nat} {ps : List Pt} (h : Own w base (.slice (some ⟨g, 0, none⟩) ps.length c) ps) (hn : 0 < ps.length) : PtsAt w g 0 ps := by
  obtain ⟨A, c', e, _, _, hP, hA⟩ := h.form
  obtain ⟨b', o', e2, hp⟩ := hP hn
  cases e
  cases e2
  exact hp
theorem new_two (w : World) (x y : Value) (t : TypeId) : ∀ j u, ([x, y] : List Value)[j]? = some u → (w.alloc (.cells #[x, y] t)).cell? ((⟨w.heap.size, 0, none⟩ : Addr).add j) = some u := by
  intro j u hu
  have h := Blk.new w t #[x, y]
  rcases j with _ | _ | j
  · simp at hu; subst hu; exact h.cell 0
  · simp at hu; subst hu; exact h.cell 1
  · simp at hu

/-- Two results: a slice that reads as ps, and no error. -/
def RetPts0 (ps : List Pt) (w : World) (e : Ending) (w' : World) : Prop := ∃ A c, e = .returned (.tuple #[.slice A ps.length c, .int .i64 0]) ∧ ps.length ≤ c ∧ c ≤ maxLen ∧ Pts w' A ps ∧ Later w w'


end Go.Proofs.Ytdhakoecjmaebaa

/- The builtin copy at elements of several cells; make of points; slices of slices of points. -/
namespace Go.Proofs.Ytdhakoecjmaebaa
open Go.RowKit
set_option linter.unusedSimpArgs false
set_option linter.unusedVariables false

theorem run_copy_rowN {P : Program} (w : World) (dT sT ty elem : TypeId) (size : Nat) (g o dLen dCap : Nat) (a : Addr) (sLen sCap : Nat) (cur : Array Value) (t : TypeId) (cs : List Value)
    (hu : P.underlying dT = some (.slice elem)) (hs : (P.info? elem).map (·.size) = some size)
    (hg : w.heap[g]? = some (.cells cur t (0, 0))) (hn : cs.length = Nat.min sLen dLen * size)
    (hsrc : ∀ j v, cs[j]? = some v → w.cell? (a.add j) = some v) (hfit : o + cs.length ≤ cur.size) (h1 : ∀ v ∈ cs, v.oneCell' = true) :
    (Builtin.copy_ #[dT, sT] ty #[.slice (some ⟨g, o, none⟩) dLen dCap, .slice (some a) sLen sCap]).run P w =
      .ok (goInt (Nat.min sLen dLen)) (w.setRow g (cur.toList.take o ++ cs ++ cur.toList.drop (o + cs.length)).toArray) := by
  have hl := run_loadCells_list (P := P) w a cs hsrc
  have hst := run_storeCells_at P g o t cs 0 cur w hg (by simpa using hfit) h1
  cases hq : P.info? elem with
  | none => simp [hq] at hs
  | some i =>
    have hi : i.size = size := by simpa [hq] using hs
    simp [Builtin.copy_, run_underlying hu, Builtin.lenOf, Builtin.firstCells, sizeOf, typeInfo, hq, hi, ← hn, hl, hst]

theorem wp_copy_run {P : Program} (w : World) {o : Oper} {a : Act} {K : Act → World → Prop} {Q : Exit → Act → World → Prop} (s x : Operand) (t tn : TypeId)
    (ho : o.op = .call { callee := .builtin .copy, args := #[s, x], argTypes := #[t, tn] }) (vs vx : Value) (hs : a.eval s = vs) (hx : a.eval x = vx)
    (v' : Value) (w' : World) (hr : (Builtin.copy_ #[t, tn] o.type #[vs, vx]).run P w = .ok v' w') (h : K (a.put o.dst v') w') : o.wp P a w K Q := by
  unfold Oper.wp execOp
  simp only [ho, resolve, invoke, builtin, Sem.run_bind, Sem.run_pure, Result.andThen_ok, List.map_toArray, List.map_cons, List.map_nil, hs, hx, hr]
  exact h
theorem wpList_copy_run {P : Program} (w : World) {ops : Array Oper} {rest : List Oper} {o : Oper} {a : Act} {Q : Exit → Act → World → Prop} (hgd : o.guard = none) (s x : Operand) (t tn : TypeId)
    (ho : o.op = .call { callee := .builtin .copy, args := #[s, x], argTypes := #[t, tn] }) (vs vx : Value) (hs : a.eval s = vs) (hx : a.eval x = vx)
    (v' : Value) (w' : World) (hr : (Builtin.copy_ #[t, tn] o.type #[vs, vx]).run P w = .ok v' w') (h : wpList P ops Q rest (a.put o.dst v') w') : wpList P ops Q (o :: rest) a w :=
  wpList_plain hgd fun _ hK => wp_copy_run w s x t tn ho vs vx hs hx v' w' hr (hK _ _ h)
theorem step_copy_run {P : Program} (w : World) {ops : Array Oper} {o : Oper} {a : Act} {K : Act → World → Prop} {Q : Exit → Act → World → Prop} {E : Prop} (hgd : o.guard = none) (s x : Operand) (t tn : TypeId)
    (ho : o.op = .call { callee := .builtin .copy, args := #[s, x], argTypes := #[t, tn] }) (vs vx : Value) (hs : a.eval s = vs) (hx : a.eval x = vx)
    (v' : Value) (w' : World) (hr : (Builtin.copy_ #[t, tn] o.type #[vs, vx]).run P w = .ok v' w') (h : K (a.put o.dst v') w') :
    if Region.wanted o (yielded ops a.tmps) = true then Oper.wp P o a w K Q else E := by
  have hw : Region.wanted o (yielded ops a.tmps) = true := by simp [Region.wanted, hgd]
  rw [if_pos hw]
  exact wp_copy_run w s x t tn ho vs vx hs hx v' w' hr h

theorem Later.setRow {a w : World} (h : Later a w) {g : Nat} (hg : a.heap.size ≤ g) (cs : Array Value) : Later a (w.setRow g cs) := below_setRow h hg cs
theorem cell_setRow {w : World} {g b o : Nat} {cs : Array Value} (hne : b ≠ g) : (w.setRow g cs).cell? ⟨b, o, none⟩ = w.cell? ⟨b, o, none⟩ := World.cell?_of_block (setRow_other w g b cs hne)

/-- v is a slice that reads as ps. -/
def PolyV (w : World) (v : Value) (ps : List Pt) : Prop := ∃ A c, v = .slice A ps.length c ∧ ps.length ≤ c ∧ c ≤ maxLen ∧ Pts w A ps
theorem PolyV.later {w w' : World} {v : Value} {ps : List Pt} (h : PolyV w v ps) (k : Later w w') : PolyV w' v ps :=
  let ⟨A, c, h1, h2, h3, h4⟩ := h; ⟨A, c, h1, h2, h3, h4.later k⟩
/-- The values vs are slices that read as pss. -/
def PolyVs (w : World) : List Value → List (List Pt) → Prop
  | [], [] => True
  | v :: vs, ps :: pss => PolyV w v ps ∧ PolyVs w vs pss
  | _, _ => False
theorem PolyVs.later {w w' : World} {vs : List Value} {pss : List (List Pt)} (h : PolyVs w vs pss) (k : Later w w') : PolyVs w' vs pss := by
  induction vs generalizing pss with
  | nil => cases pss with
    | nil => trivial
    | cons => exact h.elim
  | cons v vs ih => cases pss with
    | nil => exact h.elim
    | cons ps pss => exact ⟨h.1.later k, ih h.2⟩
theorem PolyVs.length {w : World} {vs : List Value} {pss : List (List Pt)} (h : PolyVs w vs pss) : vs.length = pss.length := by
  induction vs generalizing pss with
  | nil => cases pss with
    | nil => rfl
    | cons => exact h.elim
  | cons v vs ih => cases pss with
    | nil => exact h.elim
    | cons ps pss => simp [ih h.2]
theorem PolyVs.snoc {w : World} {vs : List Value} {pss : List (List Pt)} {v : Value} {ps : List Pt} (h : PolyVs w vs pss) (k : PolyV w v ps) : PolyVs w (vs ++ [v]) (pss ++ [ps]) := by
  induction vs generalizing pss with
  | nil => cases pss with
    | nil => exact ⟨k, trivial⟩
    | cons => exact h.elim
  | cons u vs ih => cases pss with
    | nil => exact h.elim
    | cons ps pss => exact ⟨h.1, ih h.2⟩
theorem PolyVs.get {w : World} {vs : List Value} {pss : List (List Pt)} (h : PolyVs w vs pss) {i : Nat} {ps : List Pt} (hi : pss[i]? = some ps) : ∃ v, vs[i]? = some v ∧ PolyV w v ps := by
  induction vs generalizing pss i with
  | nil => cases pss with
    | nil => simp at hi
    | cons => exact h.elim
  | cons u vs ih => cases pss with
    | nil => exact h.elim
    | cons qs pss =>
      cases i with
      | zero => simp at hi; subst hi; exact ⟨u, rfl, h.1⟩
      | succ i => exact ih h.2 (i := i) (by simpa using hi)
/-- A slice of that address, as long as pss, reads as pss. -/
def Polys (w : World) (A : Option Addr) (pss : List (List Pt)) : Prop :=
  0 < pss.length → ∃ b o, A = some ⟨b, o, none⟩ ∧ ∀ i ps, pss[i]? = some ps → ∃ v, w.cell? ⟨b, o + i, none⟩ = some v ∧ PolyV w v ps
theorem Polys.later {w w' : World} {A : Option Addr} {pss : List (List Pt)} (h : Polys w A pss) (k : Later w w') : Polys w' A pss := fun hn => by
  obtain ⟨b, o, e, hc⟩ := h hn
  refine ⟨b, o, e, fun i ps hi => ?_⟩
  obtain ⟨v, hv, hp⟩ := hc i ps hi
  exact ⟨v, k.cell hv, hp.later k⟩

end Go.Proofs.Ytdhakoecjmaebaa
