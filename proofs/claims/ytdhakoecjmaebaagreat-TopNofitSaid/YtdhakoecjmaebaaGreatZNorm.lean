/-
  The walks of polygon.bend and polygon.area.
  Points in a row of the call's own: append, reversal.
  The walks of slices.Grow at nil and slices.Concat of two lists of points.
  The walk of polygon.Normal.
  The builtin copy at elements of several cells; make of points; slices of slices of points.
-/
import Derived.Test.YtdhakoecjmaebaaGreatZPoly
import Derived.Laws.OwnMore
import Derived.Deep.AppendLies
import Derived.OwnWalk
import Derived.Lib.AppendZeros
import Derived.Deep.DeepCutAuto
import Derived.Laws.CopyOwn
import Derived.Laws.MakeOwn
/- The walks of polygon.bend and polygon.area. -/
namespace Go.Proofs.YtdhakoecjmaebaaGreat
open Go.RowKit
set_option linter.unusedSimpArgs false
set_option linter.unusedVariables false

def crossP (a b c : Pt) : Int := crossI a.x a.y b.x b.y c.x c.y
/-- The cross product at vertex i. -/
def bendI (ps : List Pt) (i : Nat) : Int := crossP (gp ps ((i + ps.length - 1) % ps.length)) (gp ps i) (gp ps ((i + 1) % ps.length))

theorem toNat_emod' (i j n : Nat) (h : 1 ≤ i + j) : (((i : Int) + (j : Int) - 1) % (n : Int)).toNat = (i + j - 1) % n := by
  rw [show ((i : Int) + (j : Int) - 1) = ((i + j - 1 : Nat) : Int) by omega, ← Int.natCast_emod]
  exact Int.toNat_natCast _

set_option maxHeartbeats 1000000 in
theorem polygon_bend (b o c i : Nat) (ps : List Pt) (w : World) (hn : ps.length ≤ 1099511627776) (hi : i < ps.length) (hp : PtsAt w b o ps) (hsm : AllSm ps) :
    Calls Tryz.prog 146 #[.slice (some ⟨b, o, none⟩) ps.length c, .int .i64 i] w (Ret (.int .i64 (bendI ps i)) w) := by
  have hnil : ¬ ps = [] := by intro h; rw [h] at hi; simp at hi
  have hm0 : (i + ps.length - 1) % ps.length < ps.length := Nat.mod_lt _ (by omega)
  have hm1 : (i + 1) % ps.length < ps.length := Nat.mod_lt _ (by omega)
  obtain ⟨d1, d2⟩ := hp.get hm0
  obtain ⟨e1, e2⟩ := hp.get hi
  obtain ⟨f1, f2⟩ := hp.get hm1
  rw [← gp_eq] at d1 d2 e1 e2 f1 f2
  have s0 := hsm ((i + ps.length - 1) % ps.length)
  have s1 := hsm i
  have s2 := hsm ((i + 1) % ps.length)
  have hw0 : IntKind.i64.wrap ((i : Int) + ps.length) = (i : Int) + ps.length := IntWalk.i64_in _ (by omega)
  have hw0' : IntKind.i64.wrap ((i : Int) + ps.length - 1) = (i : Int) + ps.length - 1 := IntWalk.i64_in _ (by omega)
  have ht0 : ((i : Int) + ps.length - 1).tmod (ps.length : Int) = ((i : Int) + ps.length - 1) % (ps.length : Int) := Int.tmod_eq_emod_of_nonneg (by omega)
  have hi0 : (0 : Int) ≤ ((i : Int) + ps.length - 1) % (ps.length : Int) ∧ ((i : Int) + ps.length - 1) % (ps.length : Int) < (ps.length : Int) := ⟨Int.emod_nonneg _ (by omega), Int.emod_lt_of_pos _ (by omega)⟩
  have hn0 : (((i : Int) + ps.length - 1) % (ps.length : Int)).toNat = (i + ps.length - 1) % ps.length := toNat_emod' i ps.length ps.length (by omega)
  have hw1 : IntKind.i64.wrap ((i : Int) + 1) = (i : Int) + 1 := IntWalk.i64_in _ (by omega)
  have ht1 : ((i : Int) + 1).tmod (ps.length : Int) = ((i : Int) + 1) % (ps.length : Int) := Int.tmod_eq_emod_of_nonneg (by omega)
  have hi1 : (0 : Int) ≤ ((i : Int) + 1) % (ps.length : Int) ∧ ((i : Int) + 1) % (ps.length : Int) < (ps.length : Int) := ⟨Int.emod_nonneg _ (by omega), Int.emod_lt_of_pos _ (by omega)⟩
  have hn1 : (((i : Int) + 1) % (ps.length : Int)).toNat = (i + 1) % ps.length := toNat_emod i 1 ps.length
  go_enter Tryz.func146, Tryz.ntmps146
  go_wp2
  go_region_held3 (fun w' : World => (∀ a : Addr, (w.cell? a).isSome = true → w'.cell? a = w.cell? a) ∧ Later w w') (first | assumption | exact keep_call (by assumption) (by assumption) | exact keep_call (by assumption) ((Later.refl _).alloc _) | exact keep_init _)
    (first | (go_at_call 143; refine (polygon_cross _ _ _ _ _ _ _ s0.1 s0.2 s1.1 s1.2 s2.1 s2.2).mono ?_; rintro e w1 ⟨rfl, hb1⟩))
  rename_i hHw
  go_wp2
  go_ret
  exact ⟨ret_int rfl, hHw.2⟩

/-- Twice the signed area, the rest from vertex i on. -/
def areaGo (ps : List Pt) : Nat → Nat → Int → Int
  | 0, _, s => s
  | f + 1, i, s => areaGo ps f (i + 1) (s + ((gp ps i).x * (gp ps ((i + 1) % ps.length)).y - (gp ps i).y * (gp ps ((i + 1) % ps.length)).x))
def areaI (ps : List Pt) : Int := areaGo ps ps.length 0 0
theorem area_step {ps : List Pt} {i : Nat} {s x : Int} (he : x = areaGo ps (ps.length - i) i s) (h : i < ps.length) :
    x = areaGo ps (ps.length - (i + 1)) (i + 1) (s + ((gp ps i).x * (gp ps ((i + 1) % ps.length)).y - (gp ps i).y * (gp ps ((i + 1) % ps.length)).x)) := by
  obtain ⟨f, hf'⟩ : ∃ f, ps.length - i = f + 1 := ⟨ps.length - i - 1, by omega⟩
  rw [he, hf', areaGo, show ps.length - (i + 1) = f by omega]
theorem area_term (a b : Pt) (ha : SmP a) (hb : SmP b) : (-17592186044416 ≤ a.x * b.y ∧ a.x * b.y ≤ 17592186044416) ∧ (-17592186044416 ≤ a.y * b.x ∧ a.y * b.x ≤ 17592186044416) := by
  unfold SmP Sm at *
  have h1 := mul_bd (a := a.x) (b := b.y) 4194304 (by omega) (by omega)
  have h2 := mul_bd (a := a.y) (b := b.x) 4194304 (by omega) (by omega)
  omega

set_option maxHeartbeats 1000000 in
theorem polygon_area (b o c : Nat) (ps : List Pt) (w : World) (hn : ps.length ≤ 64) (hp : PtsAt w b o ps) (hsm : AllSm ps) :
    Calls Tryz.prog 31 #[.slice (some ⟨b, o, none⟩) ps.length c] w (Ret (.int .i64 (areaI ps)) w) := by
  go_enter Tryz.func31, Tryz.ntmps31
  go_wp2
  go_loopw [3, 9] (fun sv i wr => ∃ (k : Nat) (s : Int), k ≤ ps.length ∧ i = .int .i64 k ∧ sv = .int .i64 s ∧ areaI ps = areaGo ps (ps.length - k) k s ∧ Later w wr ∧ (-35184372088832 * (k : Int) ≤ s ∧ s ≤ 35184372088832 * (k : Int))) (fun _ i _ => ps.length - (intOf i).toNat)
  case atStart => exact ⟨0, 0, by omega, rfl, rfl, rfl, Later.refl _, by omega, by omega⟩
  case round =>
    obtain ⟨k, s, hk, rfl, rfl, he, hb, hs⟩ := hrel
    have He := Lib.hid he
    clear he
    by_cases hlt : k < ps.length
    · have hm1 : (k + 1) % ps.length < ps.length := Nat.mod_lt _ (by omega)
      obtain ⟨e1, e2⟩ := (hp.later hb).get hlt
      obtain ⟨f1, f2⟩ := (hp.later hb).get hm1
      rw [← gp_eq] at e1 e2 f1 f2
      have hbz : b < wr.heap.size := World.block_lt_of_cell? _ _ e1
      have hi1 : (0 : Int) ≤ ((k : Int) + 1) % (ps.length : Int) ∧ ((k : Int) + 1) % (ps.length : Int) < (ps.length : Int) := ⟨Int.emod_nonneg _ (by omega), Int.emod_lt_of_pos _ (by omega)⟩
      have ht := area_term (gp ps k) (gp ps ((k + 1) % ps.length)) (hsm _) (hsm _)
      go_wp2
      go_roundw
      case rel => exact ⟨k + 1, _, by omega, by go_num, rfl, area_step He.out hlt, (hb.alloc _).alloc _, by omega, by omega⟩
      case measure => simp [intOf]; omega
    · go_wp2
      go_ret
      exact ⟨ret_int (by rw [He.out, show ps.length - k = 0 by omega]; rfl), hb⟩

end Go.Proofs.YtdhakoecjmaebaaGreat

/- Points in a row of the call's own: append, reversal. -/
namespace Go.Proofs.YtdhakoecjmaebaaGreat
open Go.RowKit
set_option linter.unusedSimpArgs false
set_option linter.unusedVariables false

def flat : List Pt → List Value
  | [] => []
  | p :: l => .int .i64 p.x :: .int .i64 p.y :: flat l
theorem flat_length (l : List Pt) : (flat l).length = l.length * 2 := by
  induction l with
  | nil => rfl
  | cons p l ih => simp [flat, ih]; omega
theorem flat_append (l m : List Pt) : flat (l ++ m) = flat l ++ flat m := by
  induction l with
  | nil => rfl
  | cons p l ih => simp [flat, ih]
theorem flat_one (l : List Pt) : ∀ u ∈ flat l, u.oneCell' = true := by
  induction l with
  | nil => intro u h; cases h
  | cons p l ih =>
    intro u h
    simp only [flat, List.mem_cons] at h
    rcases h with rfl | rfl | h
    · rfl
    · rfl
    · exact ih u h
theorem flat_get {l : List Pt} {i : Nat} {p : Pt} (h : l[i]? = some p) : (flat l)[i * 2]? = some (.int .i64 p.x) ∧ (flat l)[i * 2 + 1]? = some (.int .i64 p.y) := by
  induction l generalizing i with
  | nil => simp at h
  | cons q l ih =>
    rcases i with _ | i
    · simp at h; subst h; simp [flat]
    · have := ih (i := i) (by simpa using h)
      rw [show (i + 1) * 2 = i * 2 + 1 + 1 by omega]
      simpa [flat] using this
theorem flat_set (l : List Pt) (i : Nat) (p : Pt) : flat (l.set i p) = ((flat l).set (i * 2) (.int .i64 p.x)).set (i * 2 + 1) (.int .i64 p.y) := by
  induction l generalizing i with
  | nil => simp [flat]
  | cons q l ih =>
    rcases i with _ | i
    · simp [flat]
    · rw [show (i + 1) * 2 = i * 2 + 1 + 1 by omega]
      simp [flat, ih]

/-- v is a slice of a row from base on that nobody else holds, and reads as ps. -/
def Own (w : World) (base : Nat) (v : Value) (ps : List Pt) : Prop := w.ownsRow base 29 2 v ps.length (flat ps)
theorem Own.later {w w' : World} {base : Nat} {v : Value} {ps : List Pt} (h : Own w base v ps) (k : Later w w') : Own w' base v ps := by
  refine ⟨h.1, ?_⟩
  rcases h.2 with ⟨h1, h2⟩ | ⟨g, cap, cur, hv, hb, hg, r⟩
  · exact .inl ⟨h1, h2⟩
  · exact .inr ⟨g, cap, cur, hv, hb, (k.block g (by
      rcases Nat.lt_or_ge g w.heap.size with hlt | hge
      · exact hlt
      · rw [Array.getElem?_eq_none hge] at hg; cases hg)).trans hg, r⟩
theorem Own.form {w : World} {base : Nat} {v : Value} {ps : List Pt} (h : Own w base v ps) : ∃ A c, v = .slice A ps.length c ∧ ps.length ≤ c ∧ c ≤ maxLen ∧ Pts w A ps ∧ (∀ a, A = some a → ∃ g, a = ⟨g, 0, none⟩ ∧ base ≤ g ∧ g < w.heap.size) := by
  rcases h.2 with ⟨h1, h2⟩ | ⟨g, cap, cur, hv, hb, hg, hnc, hcm, hcs, htake⟩
  · exact ⟨none, 0, by rw [h1, h2], by omega, by unfold maxLen; omega, fun hn => by omega, by intro a ha; cases ha⟩
  · have hlt : g < w.heap.size := by
      rcases Nat.lt_or_ge g w.heap.size with hlt | hge
      · exact hlt
      · rw [Array.getElem?_eq_none hge] at hg; cases hg
    refine ⟨some ⟨g, 0, none⟩, cap, hv, hnc, hcm, fun _ => ⟨g, 0, rfl, fun i p hp => ?_⟩, by intro a ha; cases ha; exact ⟨g, rfl, hb, hlt⟩⟩
    obtain ⟨h1, h2⟩ := flat_get hp
    have hi : i < ps.length := by
      rcases Nat.lt_or_ge i ps.length with hh | hh
      · exact hh
      · rw [List.getElem?_eq_none hh] at hp; cases hp
    subst hv
    have hown : w.ownsRow base 29 2 (.slice (some ⟨g, 0, none⟩) ps.length cap) ps.length (flat ps) := h
    rw [Nat.zero_add, hown.cellAt _ (by omega), hown.cellAt _ (by omega)]
    exact ⟨h1, h2⟩

theorem Own.drew {w : World} {base : Nat} {v : Value} {ps : List Pt} (h : Own w base v ps) : Own w.drew base v ps := h
theorem grown_drew {w w' : World} {r : Option Nat} (h : w.grownBy w' r) : w.grownBy w'.drew r := ⟨h.os, h.tape, h.output, h.size, h.block⟩
/-- slices.Reverse, from both ends. -/
def revGo : Nat → Nat → Nat → List Pt → List Pt
  | 0, _, _, l => l
  | f + 1, i, j, l => if i < j then revGo f (i + 1) (j - 1) ((l.set i (gp l j)).set j (gp l i)) else l
def revOf (ps : List Pt) : List Pt := revGo ps.length 0 (ps.length - 1) ps

theorem Own.swap {w : World} {base g cap i j : Nat} {l : List Pt} (h : Own w base (.slice (some ⟨g, 0, none⟩) l.length cap) l) (p q : Pt) :
    Own ((((w.setCell ⟨g, i * 2, none⟩ (.int .i64 p.x)).setCell ⟨g, i * 2 + 1, none⟩ (.int .i64 p.y)).setCell ⟨g, j * 2, none⟩ (.int .i64 q.x)).setCell ⟨g, j * 2 + 1, none⟩ (.int .i64 q.y)) base (.slice (some ⟨g, 0, none⟩) l.length cap) ((l.set i p).set j q) ∧
    w.grownBy ((((w.setCell ⟨g, i * 2, none⟩ (.int .i64 p.x)).setCell ⟨g, i * 2 + 1, none⟩ (.int .i64 p.y)).setCell ⟨g, j * 2, none⟩ (.int .i64 q.x)).setCell ⟨g, j * 2 + 1, none⟩ (.int .i64 q.y)) (some g) := by
  obtain ⟨h1, g1⟩ := World.ownsRow.stored (show w.ownsRow base 29 2 _ l.length (flat l) from h) (i * 2) (.int .i64 p.x)
  obtain ⟨h2, g2⟩ := h1.stored (i * 2 + 1) (.int .i64 p.y)
  obtain ⟨h3, g3⟩ := h2.stored (j * 2) (.int .i64 q.x)
  obtain ⟨h4, g4⟩ := h3.stored (j * 2 + 1) (.int .i64 q.y)
  refine ⟨?_, ((g1.trans g2).trans g3).trans g4⟩
  unfold Own
  rw [flat_set, flat_set]
  simpa using h4

theorem rev_stop {f i j : Nat} {l : List Pt} (h : ¬ i < j) : revGo f i j l = l := by
  cases f with
  | zero => rfl
  | succ f => rw [revGo, if_neg h]
theorem rev_step {f i j : Nat} {l : List Pt} (h : i < j) (hf : j < i + f) : ∃ f', f = f' + 1 ∧ revGo f i j l = revGo f' (i + 1) (j - 1) ((l.set i (gp l j)).set j (gp l i)) := by
  obtain ⟨f', rfl⟩ : ∃ f', f = f' + 1 := ⟨f - 1, by omega⟩
  exact ⟨f', rfl, by rw [revGo, if_pos h]⟩

set_option maxHeartbeats 2000000 in
theorem slices_Reverse (base g cap : Nat) (ps : List Pt) (w : World) (hn : ps.length ≤ 1099511627776) (h0 : 0 < ps.length) (h : Own w base (.slice (some ⟨g, 0, none⟩) ps.length cap) ps) :
    Calls Tryz.prog 147 #[.slice (some ⟨g, 0, none⟩) ps.length cap] w fun e w' => e = .returned (.tuple #[]) ∧ Own w' base (.slice (some ⟨g, 0, none⟩) (revOf ps).length cap) (revOf ps) ∧ (revOf ps).length = ps.length ∧ w.grownBy w' (some g) := by
  go_enter Tryz.func147, Tryz.ntmps147
  go_wp2
  go_loopw [2, 3] (fun iv jv wr => ∃ (i j f : Nat) (l : List Pt), iv = .int .i64 i ∧ jv = .int .i64 j ∧ j < i + f ∧ j < ps.length ∧ l.length = ps.length ∧ i ≤ ps.length ∧ revOf ps = revGo f i j l ∧ Own wr base (.slice (some ⟨g, 0, none⟩) l.length cap) l ∧ w.grownBy wr (some g)) (fun iv _ _ => ps.length - (intOf iv).toNat)
  case atStart => exact ⟨0, ps.length - 1, ps.length, ps, rfl, by rw [show ((ps.length - 1 : Nat) : Int) = (ps.length : Int) - 1 by omega], by omega, by omega, rfl, by omega, rfl, h, World.grownBy.refl _ _⟩
  case round =>
    obtain ⟨i, j, f, l, rfl, rfl, hf, hj, hl, hi, he, hown, hg⟩ := hrel
    have He := Lib.hid he
    have Hl := Lib.hid hl
    have hj1 : (j : Int) ≤ 1099511627776 := by omega
    clear he
    by_cases hlt : i < j
    · have hil : i < l.length := by omega
      have hjl : j < l.length := by omega
      have ho : wr.ownsRow base 29 2 (.slice (some ⟨g, 0, none⟩) l.length cap) l.length (flat l) := hown
      obtain ⟨t1, t2⟩ := flat_get (List.getElem?_eq_getElem hil)
      obtain ⟨u1, u2⟩ := flat_get (List.getElem?_eq_getElem hjl)
      have c1 := (ho.cellAt (i * 2) (by omega)).trans t1
      have c2 := (ho.cellAt (i * 2 + 1) (by omega)).trans t2
      have d1 := (ho.cellAt (j * 2) (by omega)).trans u1
      have d2 := (ho.cellAt (j * 2 + 1) (by omega)).trans u2
      have f1 := ho.frozenAt (i * 2)
      have f2 := ho.frozenAt (i * 2 + 1)
      have f3 := ho.frozenAt (j * 2)
      have f4 := ho.frozenAt (j * 2 + 1)
      rw [← gp_eq hil] at c1 c2
      rw [← gp_eq hjl] at d1 d2
      obtain ⟨sw, gsw⟩ := Own.swap (i := i) (j := j) hown (gp l j) (gp l i)
      obtain ⟨f', hf', hst⟩ := rev_step (l := l) hlt hf
      have Hf := Lib.hid hf'
      have Hst := Lib.hid hst
      have Hsw := Lib.hid sw
      have Hgs := Lib.hid gsw
      clear hf' hst sw gsw t1 t2 u1 u2
      rw [← hl] at *
      clear hl
      go_wp2
      go_region
      go_wp2
      go_roundw
      case rel =>
        exact ⟨i + 1, j - 1, f', (l.set i (gp l j)).set j (gp l i), by go_num, by rw [show ((j - 1 : Nat) : Int) = (j : Int) - 1 by omega], by have := Hf.out; omega, by omega, by simp, by omega, by rw [He.out, Hst.out], by simpa using Hsw.out.drew, grown_drew (hg.trans Hgs.out)⟩
      case measure => simp [intOf]; omega
    · go_wp2
      go_end0
      have e1 : revOf ps = l := by rw [He.out]; exact rev_stop hlt
      exact ⟨rfl, by rw [e1]; exact hown, by rw [e1]; exact Hl.out, hg⟩

end Go.Proofs.YtdhakoecjmaebaaGreat

/- The walks of slices.Grow at nil and slices.Concat of two lists of points. -/
namespace Go.Proofs.YtdhakoecjmaebaaGreat
open Go.RowKit
set_option linter.unusedSimpArgs false
set_option linter.unusedVariables false

theorem info_spot : (Tryz.prog.info? 29).map (fun i => (i.zero, i.size, i.bytes)) = some (some (.agg #[.int .i64 0, .int .i64 0]), 2, 16) := by kernel_rfl

/-- A row of the call's own without an element, with room for n. -/
def Room (n : Nat) (w : World) (e : Ending) (w' : World) : Prop := ∃ g cap, e = .returned (.slice (some ⟨g, 0, none⟩) 0 cap) ∧ n ≤ cap ∧ Own w' w.heap.size (.slice (some ⟨g, 0, none⟩) 0 cap) [] ∧ Later w w'

set_option maxHeartbeats 1000000 in
set_option maxRecDepth 100000 in
theorem slices_Grow (n : Nat) (w : World) (h0 : 0 < n) (hn : n ≤ 65536) :
    Calls Tryz.prog 196 #[.slice none 0 0, .int .i64 n] w (Room n w) := by
  obtain ⟨i0, hi, hz0, hz1, hz2⟩ := info_parts info_spot
  have hap := fun W : World => Lib.run_append_nil_zeros (P := Tryz.prog) W 28 3 28 29 i0 _ .i64 .i64 Tryz.underlying28 Tryz.underlying3 hi hz0 n h0 (by omega) (by omega) (by rw [hz2]; omega)
  have hcap := grownCap_ge w n 0 29
  have hcm := grownCap_le_maxLen w n 0 29 (by unfold maxLen; omega)
  have hap := hap w
  generalize grownCap w n 0 29 = cap at *
  have hsz : (Builtin.zeroCells (Value.agg #[Value.int IntKind.i64 0, Value.int IntKind.i64 0]).cells n ++ Builtin.zeroCells (Value.agg #[Value.int IntKind.i64 0, Value.int IntKind.i64 0]).cells (cap - n)).size = cap * 2 := by
    rw [Array.size_append, size_zeroCells, size_zeroCells, show (Value.agg #[Value.int IntKind.i64 0, Value.int IntKind.i64 0]).cells.size = 2 from rfl]
    omega
  generalize (Builtin.zeroCells (Value.agg #[Value.int IntKind.i64 0, Value.int IntKind.i64 0]).cells n ++ Builtin.zeroCells (Value.agg #[Value.int IntKind.i64 0, Value.int IntKind.i64 0]).cells (cap - n)) = cur at *
  have hown : Own (w.alloc (.cells cur 29)).drew w.heap.size (.slice (some ⟨w.heap.size, 0, none⟩) 0 cap) [] := ⟨rfl, .inr ⟨w.heap.size, cap, cur, rfl, Nat.le_refl _, heap_alloc_new w _, Nat.zero_le _, hcm, hsz, by simp [flat]⟩⟩
  have Hap := Lib.hid hap
  have Hown := Lib.hid hown
  clear hap hown hsz
  go_enter Tryz.func196, Tryz.ntmps196
  go_wp2_with (at_builtin; refine Lib.wpList_append_run _ rfl (.tmp 20) (.tmp 21) 28 3 rfl _ _ rfl rfl _ _ Hap.out ?_)
  go_ret
  exact ⟨_, _, rfl, hcap, Hown.out, ((Later.refl _).alloc _).drew⟩

/-- The result is a slice that reads as ps. -/
def RetPts (ps : List Pt) (w : World) (e : Ending) (w' : World) : Prop := ∃ A c, e = .returned (.slice A ps.length c) ∧ ps.length ≤ c ∧ c ≤ maxLen ∧ Pts w' A ps ∧ Later w w'

theorem src_cells {w : World} {A : Option Addr} {l : List Pt} (h : Pts w A l) : ∀ ad, A = some ad → ∀ j u, (flat l)[j]? = some u → w.cell? (ad.add j) = some u := by
  intro ad had j u hu
  have hj : j < (flat l).length := by
    rcases Nat.lt_or_ge j (flat l).length with hh | hh
    · exact hh
    · rw [List.getElem?_eq_none hh] at hu; cases hu
  rw [flat_length] at hj
  obtain ⟨b, o, e, hc⟩ := h (by omega)
  rw [e] at had
  cases had
  have hk : j / 2 < l.length := by omega
  obtain ⟨c1, c2⟩ := hc (j / 2) _ (List.getElem?_eq_getElem hk)
  obtain ⟨f1, f2⟩ := flat_get (List.getElem?_eq_getElem hk)
  rcases Nat.mod_two_eq_zero_or_one j with h0 | h0
  · rw [show j / 2 * 2 = j by omega] at c1 f1
    rw [f1] at hu
    cases hu
    have : (⟨b, o, none⟩ : Addr).add j = ⟨b, o + j, none⟩ := by unfold Addr.add; split <;> simp_all
    rw [this]; exact c1
  · rw [show j / 2 * 2 + 1 = j by omega] at f2
    rw [show o + j / 2 * 2 + 1 = o + j by omega] at c2
    rw [f2] at hu
    cases hu
    have : (⟨b, o, none⟩ : Addr).add j = ⟨b, o + j, none⟩ := by unfold Addr.add; split <;> simp_all
    rw [this]; exact c2

set_option maxHeartbeats 2000000 in
set_option maxRecDepth 100000 in
theorem slices_Concat (g c : Nat) (A1 A2 : Option Addr) (c1 c2 : Nat) (l1 l2 : List Pt) (w : World) (hs : l1.length + l2.length ≤ 65536) (h0 : 0 < l1.length + l2.length)
    (x1 : w.cell? ⟨g, 0, none⟩ = some (.slice A1 l1.length c1)) (x2 : w.cell? ⟨g, 1, none⟩ = some (.slice A2 l2.length c2)) (p1 : Pts w A1 l1) (p2 : Pts w A2 l2)
    (q1 : A1 = none → l1.length = 0 ∧ c1 = 0) (q2 : A2 = none → l2.length = 0 ∧ c2 = 0) :
    Calls Tryz.prog 148 #[.slice (some ⟨g, 0, none⟩) 2 c] w (RetPts (l1 ++ l2) w) := by
  obtain ⟨i0, hi, hz0, hz1, hz2⟩ := info_parts info_spot
  have Q1 := Lib.hid q1
  have Q2 := Lib.hid q2
  clear q1 q2
  have hg := slices_Grow (l1.length + l2.length) w h0 hs
  rw [show ((l1.length + l2.length : Nat) : Int) = (l1.length : Int) + (l2.length : Int) by omega] at hg
  have HG := Lib.hid hg
  clear hg
  go_enter Tryz.func148, Tryz.ntmps148
  go_wp2
  go_loop [3, 11] (fun sv kv => (kv = .int .i64 0 ∧ sv = .int .i64 0) ∨ (kv = .int .i64 1 ∧ sv = .int .i64 l1.length) ∨ (kv = .int .i64 2 ∧ sv = .int .i64 ((l1.length : Int) + (l2.length : Int)))) (fun _ kv => 2 - (intOf kv).toNat)
  case atStart => exact .inl ⟨rfl, rfl⟩
  case round =>
    rcases hrel with ⟨rfl, rfl⟩ | ⟨rfl, rfl⟩ | ⟨rfl, rfl⟩
    · go_wp2
      go_round
      case rel => exact .inr (.inl ⟨rfl, rfl⟩)
      case measure => simp [intOf]
    · go_wp2
      go_round
      case rel => exact .inr (.inr ⟨rfl, rfl⟩)
      case measure => simp [intOf]
    · go_wp2_with (first | (go_at_call 196; refine HG.out.mono ?_; rintro e w1 ⟨G, cap, rfl, hcap, hown, hl⟩))
      have hG : w.heap.size ≤ G := (World.ownsRow.lt hown G rfl).1
      go_loopw [6, 27] (fun sv kv wq => ∃ l : List Pt, sv = .slice (some ⟨G, 0, none⟩) l.length cap ∧ Own wq w.heap.size (.slice (some ⟨G, 0, none⟩) l.length cap) l ∧ Later w wq ∧ ((kv = .int .i64 0 ∧ l = []) ∨ (kv = .int .i64 1 ∧ l = l1) ∨ (kv = .int .i64 2 ∧ l = l1 ++ l2))) (fun _ kv _ => 2 - (intOf kv).toNat)
      case atStart => exact ⟨[], rfl, hown, hl, .inl ⟨rfl, rfl⟩⟩
      case round =>
        clear hown hl
        obtain ⟨l, rfl, hown, hl, h3⟩ := hrel
        have y1 := hl.cell x1
        have y2 := hl.cell x2
        rcases h3 with ⟨rfl, rfl⟩ | ⟨rfl, rfl⟩ | ⟨rfl, rfl⟩
        · have s1 := src_cells (p1.later hl)
          have S1 := Lib.hid s1
          have Ho := Lib.hid hown
          clear s1 hown
          go_wp2_with (at_builtin; refine wpList_append_fits_any _ rfl (.tmp 31) (.tmp 32) 28 rfl w.heap.size 29 i0 2 Tryz.underlying28 hi hz1 G 0 cap (flat []) rfl Ho.out A1 l1.length c1 (flat l1) rfl (flat_length _) Q1.out S1.out (flat_one _) (by omega) ?_; intro w2 ho2 hg2)
          have ho3 : Own w2 w.heap.size (.slice (some ⟨G, 0, none⟩) l1.length cap) l1 := by
            have := ho2; simp only [Nat.zero_add] at this; exact this
          have hl2 : Later w w2 := Below.grown hl hg2 hl.size (by intro k hk; cases hk; exact hG)
          clear ho2 hg2
          go_roundw
          case rel => exact ⟨l1, by simp, ho3, hl2, .inr (.inl ⟨rfl, rfl⟩)⟩
          case measure => simp [intOf]
        · have s2 := src_cells (p2.later hl)
          have S2 := Lib.hid s2
          have Ho := Lib.hid hown
          clear s2 hown
          go_wp2_with (at_builtin; refine wpList_append_fits_any _ rfl (.tmp 31) (.tmp 32) 28 rfl w.heap.size 29 i0 2 Tryz.underlying28 hi hz1 G l.length cap (flat l) rfl Ho.out A2 l2.length c2 (flat l2) rfl (flat_length _) Q2.out S2.out (flat_one _) (by omega) ?_; intro w2 ho2 hg2)
          have ho3 : Own w2 w.heap.size (.slice (some ⟨G, 0, none⟩) (l ++ l2).length cap) (l ++ l2) := by
            unfold Own; rw [flat_append, List.length_append]; exact ho2
          have hl2 : Later w w2 := Below.grown hl hg2 hl.size (by intro k hk; cases hk; exact hG)
          clear ho2 hg2
          go_roundw
          case rel => exact ⟨l ++ l2, by simp, ho3, hl2, .inr (.inr ⟨rfl, rfl⟩)⟩
          case measure => simp [intOf]
        · go_wp2
          go_ret
          obtain ⟨A, c', e, hc1, hc2, hP, _⟩ := hown.form
          exact ⟨A, c', by rw [← e]; rfl, hc1, hc2, hP, hl⟩

end Go.Proofs.YtdhakoecjmaebaaGreat

/- The walk of polygon.Normal. -/
namespace Go.Proofs.YtdhakoecjmaebaaGreat
open Go.RowKit
set_option linter.unusedSimpArgs false
set_option linter.unusedVariables false

/-- The vertices at which a polygon turns. -/
def cornGo (ps : List Pt) : Nat → Nat → List Pt → List Pt
  | 0, _, acc => acc
  | f + 1, i, acc => cornGo ps f (i + 1) (if bendI ps i = 0 then acc else acc ++ [gp ps i])
def cornersOf (ps : List Pt) : List Pt := cornGo ps ps.length 0 []
def lessP (a b : Pt) : Bool := decide (a.x < b.x) || (decide (a.x = b.x) && decide (a.y < b.y))
def leastGo (l : List Pt) : Nat → Nat → Nat → Nat
  | 0, _, m => m
  | f + 1, i, m => leastGo l f (i + 1) (if lessP (gp l i) (gp l m) then i else m)
def leastOf (l : List Pt) : Nat := leastGo l l.length 0 0
def ccwOf (ps : List Pt) : List Pt := if areaI ps < 0 then revOf (cornersOf ps) else cornersOf ps
def rotOf (l : List Pt) : List Pt := l.drop (leastOf l) ++ l.take (leastOf l)
def normalOf (ps : List Pt) : List Pt := rotOf (ccwOf ps)

theorem corn_step {ps : List Pt} {i : Nat} {acc x : List Pt} (he : x = cornGo ps (ps.length - i) i acc) (h : i < ps.length) :
    x = cornGo ps (ps.length - (i + 1)) (i + 1) (if bendI ps i = 0 then acc else acc ++ [gp ps i]) := by
  obtain ⟨f, hf'⟩ : ∃ f, ps.length - i = f + 1 := ⟨ps.length - i - 1, by omega⟩
  rw [he, hf', cornGo, show ps.length - (i + 1) = f by omega]
theorem least_step {l : List Pt} {i m x : Nat} (he : x = leastGo l (l.length - i) i m) (h : i < l.length) :
    x = leastGo l (l.length - (i + 1)) (i + 1) (if lessP (gp l i) (gp l m) then i else m) := by
  obtain ⟨f, hf'⟩ : ∃ f, l.length - i = f + 1 := ⟨l.length - i - 1, by omega⟩
  rw [he, hf', leastGo, show l.length - (i + 1) = f by omega]

theorem least_hit {l : List Pt} {i m x : Nat} (he : x = leastGo l (l.length - i) i m) (h : i < l.length) (hl : lessP (gp l i) (gp l m) = true) : x = leastGo l (l.length - (i + 1)) (i + 1) i := by
  have := least_step he h; rwa [if_pos hl] at this
theorem least_miss {l : List Pt} {i m x : Nat} (he : x = leastGo l (l.length - i) i m) (h : i < l.length) (hl : lessP (gp l i) (gp l m) = false) : x = leastGo l (l.length - (i + 1)) (i + 1) m := by
  have := least_step he h; rwa [hl] at this
theorem Own.at0 {w : World} {base g c : Nat} {ps : List Pt} (h : Own w base (.slice (some ⟨g, 0, none⟩) ps.length c) ps) (hn : 0 < ps.length) : PtsAt w g 0 ps := by
  obtain ⟨A, c', e, _, _, hP, hA⟩ := h.form
  obtain ⟨b', o', e2, hp⟩ := hP hn
  cases e
  cases e2
  exact hp
theorem new_two (w : World) (x y : Value) (t : TypeId) : ∀ j u, ([x, y] : List Value)[j]? = some u → (w.alloc (.cells #[x, y] t)).cell? ((⟨w.heap.size, 0, none⟩ : Addr).add j) = some u := by
  intro j u hu
  have h := Blk.new w t #[x, y]
  rcases j with _ | _ | j
  · simp at hu; subst hu; exact h.cell 0
  · simp at hu; subst hu; exact h.cell 1
  · simp at hu

/-- Two results: a slice that reads as ps, and no error. -/
def RetPts0 (ps : List Pt) (w : World) (e : Ending) (w' : World) : Prop := ∃ A c, e = .returned (.tuple #[.slice A ps.length c, .int .i64 0]) ∧ ps.length ≤ c ∧ c ≤ maxLen ∧ Pts w' A ps ∧ Later w w'


set_option maxHeartbeats 4000000 in
set_option maxRecDepth 100000 in
theorem polygon_Normal_ok (A : Option Addr) (c : Nat) (ps : List Pt) (w : World) (hcap : ps.length ≤ c) (hp : Pts w A ps) (hok : checkI ps = 0) (hne : 0 < (cornersOf ps).length) :
    Calls Tryz.prog 101 #[.slice A ps.length c] w (RetPts0 (normalOf ps) w) := by
  have hn : ps.length ≤ 40 := by
    unfold checkI at hok
    split at hok
    · cases hok
    · omega
  have h3 : 3 ≤ ps.length := by
    unfold checkI at hok
    split at hok
    · cases hok
    · split at hok
      · cases hok
      · omega
  have hsm := small_of_check hok
  obtain ⟨i0, hi, hz0, hz1, hz2⟩ := info_parts info_spot
  obtain ⟨b, o, rfl, hat⟩ := hp (by omega)
  have hC := polygon_Check (some ⟨b, o, none⟩) c ps w (by omega) hcap hp
  rw [hok] at hC
  have HC := Lib.hid hC
  clear hC hok
  have Hne := Lib.hid hne
  clear hne
  go_enter Tryz.func101, Tryz.ntmps101
  go_wp2_with (first | (go_at_call 27; refine HC.out.mono ?_; rintro e w1 ⟨rfl, hb1⟩))
  go_loopw [5, 19] (fun v ii wr => ∃ (k : Nat) (acc : List Pt), k ≤ ps.length ∧ ii = .int .i64 k ∧ Own wr w.heap.size v acc ∧ cornersOf ps = cornGo ps (ps.length - k) k acc ∧ Later w wr ∧ acc.length ≤ k) (fun _ ii _ => ps.length - (intOf ii).toNat)
  case atStart => exact ⟨0, [], by omega, rfl, World.ownsRow_nil _ _ _ _, rfl, hb1, by simp⟩
  case round =>
    clear hb1
    obtain ⟨k, acc, hk, rfl, hown, he, hb, hal⟩ := hrel
    have He := Lib.hid he
    have Ho := Lib.hid hown
    clear he hown
    by_cases hlt : k < ps.length
    · obtain ⟨e1, e2⟩ := (hat.later hb).get hlt
      rw [← gp_eq] at e1 e2
      have hbz : b < wr.heap.size := World.block_lt_of_cell? _ _ e1
      by_cases hbd : bendI ps k = 0
      · have t1 : (bendI ps k != 0) = false := by simp [hbd]
        have Hst := Lib.hid (corn_step He.out hlt)
        rw [if_pos hbd] at Hst
        clear hbd
        go_wp2_with (first | (go_at_call 146; refine (polygon_bend _ _ _ _ _ _ (by omega) hlt (hat.later (by exact (by repeat' (first | exact Later.refl _ | assumption | refine Later.drew ?_ | refine Later.drewN ?_ _ | refine Later.alloc ?_ _ | refine Later.put ?_ (by omega) _ | refine Later.trans ?_ (by assumption))))) hsm).mono ?_; rintro e w2 ⟨rfl, hb2⟩))
        go_roundw
        case rel => exact ⟨k + 1, acc, by omega, by go_num, Ho.out.later (by repeat' (first | exact Later.refl _ | assumption | refine Later.drew ?_ | refine Later.drewN ?_ _ | refine Later.alloc ?_ _ | refine Later.put ?_ (by omega) _ | refine Later.trans ?_ (by assumption))), Hst.out, (by repeat' (first | exact Later.refl _ | assumption | refine Later.drew ?_ | refine Later.drewN ?_ _ | refine Later.alloc ?_ _ | refine Later.put ?_ (by omega) _ | refine Later.trans ?_ (by assumption))), by omega⟩
        case measure => simp [intOf]; omega
      · have t1 : (bendI ps k != 0) = true := by simp [hbd]
        have Hst := Lib.hid (corn_step He.out hlt)
        rw [if_neg hbd] at Hst
        clear hbd
        go_upto_region 9 with (first | (go_at_call 146; refine (polygon_bend _ _ _ _ _ _ (by omega) hlt (hat.later (by exact (by repeat' (first | exact Later.refl _ | assumption | refine Later.drew ?_ | refine Later.drewN ?_ _ | refine Later.alloc ?_ _ | refine Later.put ?_ (by omega) _ | refine Later.trans ?_ (by assumption))))) hsm).mono ?_; rintro e w2 ⟨rfl, hb2⟩; have xax : w2.cell? ⟨wr.heap.size, 0, none⟩ = some (.int .i64 (gp ps k).x) := hb2.cell (by first | assumption | simp [go_sem]); have xay : w2.cell? ⟨wr.heap.size, 1, none⟩ = some (.int .i64 (gp ps k).y) := hb2.cell (by first | assumption | simp [go_sem])))
        have ho2 := Ho.out.later (w' := w2) (by repeat' (first | exact Later.refl _ | assumption | refine Later.drew ?_ | refine Later.drewN ?_ _ | refine Later.alloc ?_ _ | refine Later.put ?_ (by omega) _ | refine Later.trans ?_ (by assumption)))
        have hlw2 : Later w w2 := (by repeat' (first | exact Later.refl _ | assumption | refine Later.drew ?_ | refine Later.drewN ?_ _ | refine Later.alloc ?_ _ | refine Later.put ?_ (by omega) _ | refine Later.trans ?_ (by assumption)))
        have a63 : acc.length + 1 ≤ maxLen := by unfold maxLen; omega
        have a47 : (acc.length + 1) * 16 ≤ 140737488355328 := by omega
        have hnw := new_two w2 (.int .i64 (gp ps k).x) (.int .i64 (gp ps k).y) 29
        have Hnw := Lib.hid hnw
        have Ho2 := Lib.hid ho2
        clear hnw ho2
        go_wp2_with (at_builtin; refine wpList_append_own _ rfl (.tmp 28) (.tmp 30) 28 rfl w.heap.size 29 i0 (.agg #[.int .i64 0, .int .i64 0]) 2 16 Tryz.underlying28 hi hz0 hz1 hz2 rfl (by decide) _ acc.length (flat acc) rfl (World.ownsRow.alloc Ho2.out _) ⟨w2.heap.size, 0, none⟩ 1 1 [.int .i64 (gp ps k).x, .int .i64 (gp ps k).y] rfl rfl Hnw.out (flat_one [gp ps k]) a63 a47 (hlw2.alloc _).size ?_; intro v' w3 hown' hgrow _)
        have hlt2 := World.ownsRow.lt Ho.out
        have hl3 : Later w w3 := Below.grown (hlw2.alloc _) hgrow (hlw2.alloc _).size (fun g hg => (hlt2 g hg).1)
        have ho4 : Own w3 w.heap.size v' (acc ++ [gp ps k]) := by
          unfold Own; rw [flat_append, List.length_append]; exact hown'
        go_roundw
        case rel => exact ⟨k + 1, acc ++ [gp ps k], by omega, by go_num, ho4, Hst.out, hl3, by simp; omega⟩
        case measure => simp [intOf]; omega
    · have hcr : cornersOf ps = acc := by rw [He.out, show ps.length - k = 0 by omega]; rfl
      have hne : 0 < acc.length := by rw [← hcr]; exact Hne.out
      obtain ⟨A', c', rfl, hc1, hcm, hP, hA⟩ := Ho.out.form
      obtain ⟨b', o', rfl, _⟩ := hP hne
      obtain ⟨g, hgg, hgl, hgu⟩ := hA _ rfl
      cases hgg
      have Hcr := Lib.hid hcr
      clear hcr hA He
      have hatr := hat.later hb
      rcases har : decide (areaI ps < 0) with _ | _
      · have ha1 : ¬ areaI ps < 0 := by simpa using har
        have hcc : ccwOf ps = acc := by rw [ccwOf, if_neg ha1, Hcr.out]
        have Hcc := Lib.hid hcc
        clear hcc
        go_wp2_with (first | (go_at_call 31; refine (polygon_area _ _ _ _ _ (by omega) hatr hsm).mono ?_; rintro e w2 ⟨rfl, hb2⟩))
        have hpt := (Ho.out.later hb2).at0 hne
        have hl2 := hb.trans hb2
        clear Ho hP hb2 ha1 har
        go_loopw [8, 40] (fun mv ii wr => ∃ k m : Nat, k ≤ (acc).length ∧ m < (acc).length ∧ ii = .int .i64 k ∧ mv = .int .i64 m ∧ leastOf (acc) = leastGo (acc) ((acc).length - k) k m ∧ Later w2 wr) (fun _ ii _ => (acc).length - (intOf ii).toNat)
        case atStart => exact ⟨0, 0, by omega, by omega, rfl, rfl, rfl, Later.refl _⟩
        case round =>
          obtain ⟨k2, m, hk2, hm, rfl, rfl, he, hlw⟩ := hrel
          have He := Lib.hid he
          clear he
          have hpw := hpt.later hlw
          obtain ⟨f1, f2⟩ := hpw.get hm
          rw [← gp_eq] at f1 f2
          simp only [Nat.zero_add] at f1 f2
          have hbw : b' < wr.heap.size := World.block_lt_of_cell? _ _ f1
          by_cases hlt2 : k2 < (acc).length
          · obtain ⟨e1, e2⟩ := hpw.get hlt2
            rw [← gp_eq] at e1 e2
            simp only [Nat.zero_add] at e1 e2
            go_wp2
            all_goals
              go_roundw
              case rel => first | exact ⟨k2 + 1, k2, by omega, hlt2, by go_num, rfl, least_hit He.out hlt2 (by unfold lessP; simp; omega), (by repeat' (first | exact Later.refl _ | assumption | refine Later.drew ?_ | refine Later.drewN ?_ _ | refine Later.alloc ?_ _ | refine Later.put ?_ (by omega) _ | refine Later.trans ?_ (by assumption)))⟩ | exact ⟨k2 + 1, m, by omega, hm, by go_num, rfl, least_miss He.out hlt2 (by unfold lessP; simp; omega), (by repeat' (first | exact Later.refl _ | assumption | refine Later.drew ?_ | refine Later.drewN ?_ _ | refine Later.alloc ?_ _ | refine Later.put ?_ (by omega) _ | refine Later.trans ?_ (by assumption)))⟩
              case measure => simp [intOf]; omega
          · have hlm : leastOf (acc) = m := by rw [He.out, show (acc).length - k2 = 0 by omega]; rfl
            have hrot : rotOf (acc) = (acc).drop m ++ (acc).take m := by rw [rotOf, hlm]
            have hnn : normalOf ps = (acc).drop m ++ (acc).take m := by rw [normalOf, Hcc.out, hrot]
            have hCc : ∀ (W : World) (G : Nat), W.cell? ⟨G, 0, none⟩ = some (.slice (some ⟨b', m * 2, none⟩) ((acc).length - m) (c' - m)) → W.cell? ⟨G, 1, none⟩ = some (.slice (some ⟨b', 0, none⟩) m c') → Later wr W → Calls Tryz.prog 148 #[.slice (some ⟨G, 0, none⟩) 2 2] W (RetPts (normalOf ps) W) := by
              intro W G y1 y2 hW
              rw [hnn]
              have l1 : ((acc).drop m).length = (acc).length - m := by simp
              have l2 : ((acc).take m).length = m := by simp; omega
              refine slices_Concat G 2 (some ⟨b', m * 2, none⟩) (some ⟨b', 0, none⟩) (c' - m) c' ((acc).drop m) ((acc).take m) W (by omega) (by omega) (by rw [l1]; exact y1) (by rw [l2]; exact y2) (fun _ => ⟨b', m * 2, rfl, ?_⟩) (fun _ => ⟨b', 0, rfl, (hpw.later hW).take m⟩) (by intro h; cases h) (by intro h; cases h)
              intro i p hi
              rw [List.getElem?_drop] at hi
              obtain ⟨z1, z2⟩ := (hpw.later hW) _ _ hi
              rw [show 0 + (m + i) * 2 = m * 2 + i * 2 by omega] at z1 z2
              exact ⟨z1, z2⟩
            have HCc := Lib.hid hCc
            have hmc : ¬ c' = m := by omega
            have hm0 : (0 : Int) ≤ (m : Int) := by omega
            have hm1 : (m : Int) ≤ ((acc).length : Int) := by omega
            have hm2 : (m : Int) ≤ (c' : Int) := by omega
            have hm3 : (((acc).length : Nat) : Int) ≤ (c' : Int) := by omega
            clear hnn hrot hlm hCc f1 f2
            go_wp2
            go_region_held3 (fun w' : World => (∀ a : Addr, (wr.cell? a).isSome = true → w'.cell? a = wr.cell? a) ∧ Later wr w') (first | assumption | exact keep_call (by assumption) (by assumption) | exact keep_call (by assumption) ((Later.refl _).alloc _) | exact keep_init _)
              (first | (go_at_call 148; refine (HCc.out _ _ (by simp [go_sem]) (by simp [go_sem]) (by repeat' (first | exact Later.refl _ | assumption | refine Later.drew ?_ | refine Later.drewN ?_ _ | refine Later.alloc ?_ _ | refine Later.put ?_ (by omega) _ | refine Later.trans ?_ (by assumption)))).mono ?_; rintro e w3 ⟨A3, c3, rfl, q1, q2, q3, hb3⟩))
            rename_i hHw
            have hl9 : Later w w3 := hl2.trans (hlw.trans hHw.2)
            go_wp2
            go_ret2
            exact ⟨A3, c3, rfl, q1, q2, q3, hl9⟩
      · have ha1 : areaI ps < 0 := by simpa using har
        have hcc : ccwOf ps = revOf acc := by rw [ccwOf, if_pos ha1, Hcr.out]
        have Hcc := Lib.hid hcc
        clear hcc
        go_wp2_with (first | (go_at_call 31; refine (polygon_area _ _ _ _ _ (by omega) hatr hsm).mono ?_; rintro e w2 ⟨rfl, hb2⟩) | (go_at_call 147; refine (slices_Reverse w.heap.size b' c' acc _ (by omega) hne (Ho.out.later hb2)).mono ?_; rintro e w4 ⟨rfl, ho4, hlen, hg4⟩))
        generalize revOf acc = R at *
        rw [← hlen]
        have hne2 : 0 < R.length := by omega
        have hc2 : R.length ≤ c' := by omega
        have hr40 : R.length ≤ 40 := by omega
        have hpt := ho4.at0 hne2
        have hl2 : Later w w4 := Below.grown (hb.trans hb2) hg4 (hb.trans hb2).size (by intro g hg; cases hg; exact hgl)
        clear Ho hP hb2 ha1 har hlen hg4 ho4 hne hc1
        go_loopw [8, 40] (fun mv ii wr => ∃ k m : Nat, k ≤ (R).length ∧ m < (R).length ∧ ii = .int .i64 k ∧ mv = .int .i64 m ∧ leastOf (R) = leastGo (R) ((R).length - k) k m ∧ Later w4 wr) (fun _ ii _ => (R).length - (intOf ii).toNat)
        case atStart => exact ⟨0, 0, by omega, by omega, rfl, rfl, rfl, Later.refl _⟩
        case round =>
          obtain ⟨k2, m, hk2, hm, rfl, rfl, he, hlw⟩ := hrel
          have He := Lib.hid he
          clear he
          have hpw := hpt.later hlw
          obtain ⟨f1, f2⟩ := hpw.get hm
          rw [← gp_eq] at f1 f2
          simp only [Nat.zero_add] at f1 f2
          have hbw : b' < wr.heap.size := World.block_lt_of_cell? _ _ f1
          by_cases hlt2 : k2 < (R).length
          · obtain ⟨e1, e2⟩ := hpw.get hlt2
            rw [← gp_eq] at e1 e2
            simp only [Nat.zero_add] at e1 e2
            go_wp2
            all_goals
              go_roundw
              case rel => first | exact ⟨k2 + 1, k2, by omega, hlt2, by go_num, rfl, least_hit He.out hlt2 (by unfold lessP; simp; omega), (by repeat' (first | exact Later.refl _ | assumption | refine Later.drew ?_ | refine Later.drewN ?_ _ | refine Later.alloc ?_ _ | refine Later.put ?_ (by omega) _ | refine Later.trans ?_ (by assumption)))⟩ | exact ⟨k2 + 1, m, by omega, hm, by go_num, rfl, least_miss He.out hlt2 (by unfold lessP; simp; omega), (by repeat' (first | exact Later.refl _ | assumption | refine Later.drew ?_ | refine Later.drewN ?_ _ | refine Later.alloc ?_ _ | refine Later.put ?_ (by omega) _ | refine Later.trans ?_ (by assumption)))⟩
              case measure => simp [intOf]; omega
          · have hlm : leastOf (R) = m := by rw [He.out, show (R).length - k2 = 0 by omega]; rfl
            have hrot : rotOf (R) = (R).drop m ++ (R).take m := by rw [rotOf, hlm]
            have hnn : normalOf ps = (R).drop m ++ (R).take m := by rw [normalOf, Hcc.out, hrot]
            have hCc : ∀ (W : World) (G : Nat), W.cell? ⟨G, 0, none⟩ = some (.slice (some ⟨b', m * 2, none⟩) ((R).length - m) (c' - m)) → W.cell? ⟨G, 1, none⟩ = some (.slice (some ⟨b', 0, none⟩) m c') → Later wr W → Calls Tryz.prog 148 #[.slice (some ⟨G, 0, none⟩) 2 2] W (RetPts (normalOf ps) W) := by
              intro W G y1 y2 hW
              rw [hnn]
              have l1 : ((R).drop m).length = (R).length - m := by simp
              have l2 : ((R).take m).length = m := by simp; omega
              refine slices_Concat G 2 (some ⟨b', m * 2, none⟩) (some ⟨b', 0, none⟩) (c' - m) c' ((R).drop m) ((R).take m) W (by omega) (by omega) (by rw [l1]; exact y1) (by rw [l2]; exact y2) (fun _ => ⟨b', m * 2, rfl, ?_⟩) (fun _ => ⟨b', 0, rfl, (hpw.later hW).take m⟩) (by intro h; cases h) (by intro h; cases h)
              intro i p hi
              rw [List.getElem?_drop] at hi
              obtain ⟨z1, z2⟩ := (hpw.later hW) _ _ hi
              rw [show 0 + (m + i) * 2 = m * 2 + i * 2 by omega] at z1 z2
              exact ⟨z1, z2⟩
            have HCc := Lib.hid hCc
            have hmc : ¬ c' = m := by omega
            have hm0 : (0 : Int) ≤ (m : Int) := by omega
            have hm1 : (m : Int) ≤ ((R).length : Int) := by omega
            have hm2 : (m : Int) ≤ (c' : Int) := by omega
            have hm3 : (((R).length : Nat) : Int) ≤ (c' : Int) := by omega
            clear hnn hrot hlm hCc f1 f2
            go_wp2
            go_region_held3 (fun w' : World => (∀ a : Addr, (wr.cell? a).isSome = true → w'.cell? a = wr.cell? a) ∧ Later wr w') (first | assumption | exact keep_call (by assumption) (by assumption) | exact keep_call (by assumption) ((Later.refl _).alloc _) | exact keep_init _)
              (first | (go_at_call 148; refine (HCc.out _ _ (by simp [go_sem]) (by simp [go_sem]) (by repeat' (first | exact Later.refl _ | assumption | refine Later.drew ?_ | refine Later.drewN ?_ _ | refine Later.alloc ?_ _ | refine Later.put ?_ (by omega) _ | refine Later.trans ?_ (by assumption)))).mono ?_; rintro e w3 ⟨A3, c3, rfl, q1, q2, q3, hb3⟩))
            rename_i hHw
            have hl9 : Later w w3 := hl2.trans (hlw.trans hHw.2)
            go_wp2
            go_ret2
            exact ⟨A3, c3, rfl, q1, q2, q3, hl9⟩

end Go.Proofs.YtdhakoecjmaebaaGreat

/- The builtin copy at elements of several cells; make of points; slices of slices of points. -/
namespace Go.Proofs.YtdhakoecjmaebaaGreat
open Go.RowKit
set_option linter.unusedSimpArgs false
set_option linter.unusedVariables false

theorem run_copy_rowN {P : Program} (w : World) (dT sT ty elem : TypeId) (size : Nat) (g o dLen dCap : Nat) (a : Addr) (sLen sCap : Nat) (cur : Array Value) (t : TypeId) (cs : List Value)
    (hu : P.underlying dT = some (.slice elem)) (hs : (P.info? elem).map (·.size) = some size)
    (hg : w.heap[g]? = some (.cells cur t (0, 0))) (hn : cs.length = Nat.min sLen dLen * size)
    (hsrc : ∀ j v, cs[j]? = some v → w.cell? (a.add j) = some v) (hfit : o + cs.length ≤ cur.size) (h1 : ∀ v ∈ cs, v.oneCell' = true) :
    (Builtin.copy_ #[dT, sT] ty #[.slice (some ⟨g, o, none⟩) dLen dCap, .slice (some a) sLen sCap]).run P w =
      .ok (goInt (Nat.min sLen dLen)) (w.setRow g (cur.toList.take o ++ cs ++ cur.toList.drop (o + cs.length)).toArray) := by
  have hl := run_loadCells_list (P := P) w a cs hsrc
  have hst := run_storeCells_at P g o t cs 0 cur w hg (by simpa using hfit) h1
  cases hq : P.info? elem with
  | none => simp [hq] at hs
  | some i =>
    have hi : i.size = size := by simpa [hq] using hs
    simp [Builtin.copy_, run_underlying hu, Builtin.lenOf, Builtin.firstCells, sizeOf, typeInfo, hq, hi, ← hn, hl, hst]

theorem wp_copy_run {P : Program} (w : World) {o : Oper} {a : Act} {K : Act → World → Prop} {Q : Exit → Act → World → Prop} (s x : Operand) (t tn : TypeId)
    (ho : o.op = .call { callee := .builtin .copy, args := #[s, x], argTypes := #[t, tn] }) (vs vx : Value) (hs : a.eval s = vs) (hx : a.eval x = vx)
    (v' : Value) (w' : World) (hr : (Builtin.copy_ #[t, tn] o.type #[vs, vx]).run P w = .ok v' w') (h : K (a.put o.dst v') w') : o.wp P a w K Q := by
  unfold Oper.wp execOp
  simp only [ho, resolve, invoke, builtin, Sem.run_bind, Sem.run_pure, Result.andThen_ok, List.map_toArray, List.map_cons, List.map_nil, hs, hx, hr]
  exact h
theorem wpList_copy_run {P : Program} (w : World) {ops : Array Oper} {rest : List Oper} {o : Oper} {a : Act} {Q : Exit → Act → World → Prop} (hgd : o.guard = none) (s x : Operand) (t tn : TypeId)
    (ho : o.op = .call { callee := .builtin .copy, args := #[s, x], argTypes := #[t, tn] }) (vs vx : Value) (hs : a.eval s = vs) (hx : a.eval x = vx)
    (v' : Value) (w' : World) (hr : (Builtin.copy_ #[t, tn] o.type #[vs, vx]).run P w = .ok v' w') (h : wpList P ops Q rest (a.put o.dst v') w') : wpList P ops Q (o :: rest) a w :=
  wpList_plain hgd fun _ hK => wp_copy_run w s x t tn ho vs vx hs hx v' w' hr (hK _ _ h)
theorem step_copy_run {P : Program} (w : World) {ops : Array Oper} {o : Oper} {a : Act} {K : Act → World → Prop} {Q : Exit → Act → World → Prop} {E : Prop} (hgd : o.guard = none) (s x : Operand) (t tn : TypeId)
    (ho : o.op = .call { callee := .builtin .copy, args := #[s, x], argTypes := #[t, tn] }) (vs vx : Value) (hs : a.eval s = vs) (hx : a.eval x = vx)
    (v' : Value) (w' : World) (hr : (Builtin.copy_ #[t, tn] o.type #[vs, vx]).run P w = .ok v' w') (h : K (a.put o.dst v') w') :
    if Region.wanted o (yielded ops a.tmps) = true then Oper.wp P o a w K Q else E := by
  have hw : Region.wanted o (yielded ops a.tmps) = true := by simp [Region.wanted, hgd]
  rw [if_pos hw]
  exact wp_copy_run w s x t tn ho vs vx hs hx v' w' hr h

theorem Later.setRow {a w : World} (h : Later a w) {g : Nat} (hg : a.heap.size ≤ g) (cs : Array Value) : Later a (w.setRow g cs) := below_setRow h hg cs
/-- v is a slice that reads as ps. -/
def PolyV (w : World) (v : Value) (ps : List Pt) : Prop := ∃ A c, v = .slice A ps.length c ∧ ps.length ≤ c ∧ c ≤ maxLen ∧ Pts w A ps
theorem PolyV.later {w w' : World} {v : Value} {ps : List Pt} (h : PolyV w v ps) (k : Later w w') : PolyV w' v ps :=
  let ⟨A, c, h1, h2, h3, h4⟩ := h; ⟨A, c, h1, h2, h3, h4.later k⟩
/-- The values vs are slices that read as pss. -/
def PolyVs (w : World) : List Value → List (List Pt) → Prop
  | [], [] => True
  | v :: vs, ps :: pss => PolyV w v ps ∧ PolyVs w vs pss
  | _, _ => False
theorem PolyVs.later {w w' : World} {vs : List Value} {pss : List (List Pt)} (h : PolyVs w vs pss) (k : Later w w') : PolyVs w' vs pss := by
  induction vs generalizing pss with
  | nil => cases pss with
    | nil => trivial
    | cons => exact h.elim
  | cons v vs ih => cases pss with
    | nil => exact h.elim
    | cons ps pss => exact ⟨h.1.later k, ih h.2⟩
theorem PolyVs.length {w : World} {vs : List Value} {pss : List (List Pt)} (h : PolyVs w vs pss) : vs.length = pss.length := by
  induction vs generalizing pss with
  | nil => cases pss with
    | nil => rfl
    | cons => exact h.elim
  | cons v vs ih => cases pss with
    | nil => exact h.elim
    | cons ps pss => simp [ih h.2]
theorem PolyVs.snoc {w : World} {vs : List Value} {pss : List (List Pt)} {v : Value} {ps : List Pt} (h : PolyVs w vs pss) (k : PolyV w v ps) : PolyVs w (vs ++ [v]) (pss ++ [ps]) := by
  induction vs generalizing pss with
  | nil => cases pss with
    | nil => exact ⟨k, trivial⟩
    | cons => exact h.elim
  | cons u vs ih => cases pss with
    | nil => exact h.elim
    | cons ps pss => exact ⟨h.1, ih h.2⟩
theorem PolyVs.get {w : World} {vs : List Value} {pss : List (List Pt)} (h : PolyVs w vs pss) {i : Nat} {ps : List Pt} (hi : pss[i]? = some ps) : ∃ v, vs[i]? = some v ∧ PolyV w v ps := by
  induction vs generalizing pss i with
  | nil => cases pss with
    | nil => simp at hi
    | cons => exact h.elim
  | cons u vs ih => cases pss with
    | nil => exact h.elim
    | cons qs pss =>
      cases i with
      | zero => simp at hi; subst hi; exact ⟨u, rfl, h.1⟩
      | succ i => exact ih h.2 (i := i) (by simpa using hi)
/-- A slice of that address, as long as pss, reads as pss. -/
def Polys (w : World) (A : Option Addr) (pss : List (List Pt)) : Prop :=
  0 < pss.length → ∃ b o, A = some ⟨b, o, none⟩ ∧ ∀ i ps, pss[i]? = some ps → ∃ v, w.cell? ⟨b, o + i, none⟩ = some v ∧ PolyV w v ps
theorem Polys.later {w w' : World} {A : Option Addr} {pss : List (List Pt)} (h : Polys w A pss) (k : Later w w') : Polys w' A pss := fun hn => by
  obtain ⟨b, o, e, hc⟩ := h hn
  refine ⟨b, o, e, fun i ps hi => ?_⟩
  obtain ⟨v, hv, hp⟩ := hc i ps hi
  exact ⟨v, k.cell hv, hp.later k⟩

end Go.Proofs.YtdhakoecjmaebaaGreat
