/-
  Points in a row of the call's own: append, reversal.
-/
import Derived.Test.YtolddfapanabbaaNormA
import Derived.Laws.OwnMore
import Derived.Deep.AppendLies
import Derived.OwnWalk
namespace Go.Proofs.Ytolddfapanabbaa
open Go.RowKit
set_option linter.unusedSimpArgs false
set_option linter.unusedVariables false

def flat : List Pt → List Value
  | [] => []
  | p :: l => .int .i64 p.x :: .int .i64 p.y :: flat l
theorem flat_length (l : List Pt) : (flat l).length = l.length * 2 := by
  induction l with
  | nil => rfl
  | cons p l ih => simp [flat, ih]; omega
theorem flat_append (l m : List Pt) : flat (l ++ m) = flat l ++ flat m := by
  induction l with
  | nil => rfl
  | cons p l ih => simp [flat, ih]
theorem flat_one (l : List Pt) : ∀ u ∈ flat l, u.oneCell' = true := by
  induction l with
  | nil => intro u h; cases h
  | cons p l ih =>
    intro u h
    simp only [flat, List.mem_cons] at h
    rcases h with rfl | rfl | h
    · rfl
    · rfl
    · exact ih u h
theorem flat_get {l : List Pt} {i : Nat} {p : Pt} (h : l[i]? = some p) : (flat l)[i * 2]? = some (.int .i64 p.x) ∧ (flat l)[i * 2 + 1]? = some (.int .i64 p.y) := by
  induction l generalizing i with
  | nil => simp at h
  | cons q l ih =>
    rcases i with _ | i
    · simp at h; subst h; simp [flat]
    · have := ih (i := i) (by simpa using h)
      rw [show (i + 1) * 2 = i * 2 + 1 + 1 by omega]
      simpa [flat] using this
theorem flat_set (l : List Pt) (i : Nat) (p : Pt) : flat (l.set i p) = ((flat l).set (i * 2) (.int .i64 p.x)).set (i * 2 + 1) (.int .i64 p.y) := by
  induction l generalizing i with
  | nil => simp [flat]
  | cons q l ih =>
    rcases i with _ | i
    · simp [flat]
    · rw [show (i + 1) * 2 = i * 2 + 1 + 1 by omega]
      simp [flat, ih]

/-- v is a slice of a row from base on that nobody else holds, and reads as ps. -/
def Own (w : World) (base : Nat) (v : Value) (ps : List Pt) : Prop := w.ownsRow base 78 2 v ps.length (flat ps)
theorem Own.later {w w' : World} {base : Nat} {v : Value} {ps : List Pt} (h : Own w base v ps) (k : Later w w') : Own w' base v ps := by
  refine ⟨h.1, ?_⟩
  rcases h.2 with ⟨h1, h2⟩ | ⟨g, cap, cur, hv, hb, hg, r⟩
  · exact .inl ⟨h1, h2⟩
  · exact .inr ⟨g, cap, cur, hv, hb, (k.block g (by
      rcases Nat.lt_or_ge g w.heap.size with hlt | hge
      · exact hlt
      · rw [Array.getElem?_eq_none hge] at hg; cases hg)).trans hg, r⟩
theorem Own.form {w : World} {base : Nat} {v : Value} {ps : List Pt} (h : Own w base v ps) : ∃ A c, v = .slice A ps.length c ∧ ps.length ≤ c ∧ c ≤ maxLen ∧ Pts w A ps ∧ (∀ a, A = some a → ∃ g, a = ⟨g, 0, none⟩ ∧ base ≤ g ∧ g < w.heap.size) := by
  rcases h.2 with ⟨h1, h2⟩ | ⟨g, cap, cur, hv, hb, hg, hnc, hcm, hcs, htake⟩
  · exact ⟨none, 0, by rw [h1, h2], by omega, by unfold maxLen; omega, fun hn => by omega, by intro a ha; cases ha⟩
  · have hlt : g < w.heap.size := by
      rcases Nat.lt_or_ge g w.heap.size with hlt | hge
      · exact hlt
      · rw [Array.getElem?_eq_none hge] at hg; cases hg
    refine ⟨some ⟨g, 0, none⟩, cap, hv, hnc, hcm, fun _ => ⟨g, 0, rfl, fun i p hp => ?_⟩, by intro a ha; cases ha; exact ⟨g, rfl, hb, hlt⟩⟩
    obtain ⟨h1, h2⟩ := flat_get hp
    have hi : i < ps.length := by
      rcases Nat.lt_or_ge i ps.length with hh | hh
      · exact hh
      · rw [List.getElem?_eq_none hh] at hp; cases hp
    subst hv
    have hown : w.ownsRow base 78 2 (.slice (some ⟨g, 0, none⟩) ps.length cap) ps.length (flat ps) := h
    rw [Nat.zero_add, hown.cellAt _ (by omega), hown.cellAt _ (by omega)]
    exact ⟨h1, h2⟩

theorem Own.drew {w : World} {base : Nat} {v : Value} {ps : List Pt} (h : Own w base v ps) : Own w.drew base v ps := h
theorem grown_drew {w w' : World} {r : Option Nat} (h : w.grownBy w' r) : w.grownBy w'.drew r := ⟨h.os, h.tape, h.output, h.size, h.block⟩
/-- slices.Reverse, from both ends. -/
def revGo : Nat → Nat → Nat → List Pt → List Pt
  | 0, _, _, l => l
  | f + 1, i, j, l => if i < j then revGo f (i + 1) (j - 1) ((l.set i (gp l j)).set j (gp l i)) else l
def revOf (ps : List Pt) : List Pt := revGo ps.length 0 (ps.length - 1) ps

theorem Own.swap {w : World} {base g cap i j : Nat} {l : List Pt} (h : Own w base (.slice (some ⟨g, 0, none⟩) l.length cap) l) (p q : Pt) :
    Own ((((w.setCell ⟨g, i * 2, none⟩ (.int .i64 p.x)).setCell ⟨g, i * 2 + 1, none⟩ (.int .i64 p.y)).setCell ⟨g, j * 2, none⟩ (.int .i64 q.x)).setCell ⟨g, j * 2 + 1, none⟩ (.int .i64 q.y)) base (.slice (some ⟨g, 0, none⟩) l.length cap) ((l.set i p).set j q) ∧
    w.grownBy ((((w.setCell ⟨g, i * 2, none⟩ (.int .i64 p.x)).setCell ⟨g, i * 2 + 1, none⟩ (.int .i64 p.y)).setCell ⟨g, j * 2, none⟩ (.int .i64 q.x)).setCell ⟨g, j * 2 + 1, none⟩ (.int .i64 q.y)) (some g) := by
  obtain ⟨h1, g1⟩ := World.ownsRow.stored (show w.ownsRow base 78 2 _ l.length (flat l) from h) (i * 2) (.int .i64 p.x)
  obtain ⟨h2, g2⟩ := h1.stored (i * 2 + 1) (.int .i64 p.y)
  obtain ⟨h3, g3⟩ := h2.stored (j * 2) (.int .i64 q.x)
  obtain ⟨h4, g4⟩ := h3.stored (j * 2 + 1) (.int .i64 q.y)
  refine ⟨?_, ((g1.trans g2).trans g3).trans g4⟩
  unfold Own
  rw [flat_set, flat_set]
  simpa using h4

theorem rev_stop {f i j : Nat} {l : List Pt} (h : ¬ i < j) : revGo f i j l = l := by
  cases f with
  | zero => rfl
  | succ f => rw [revGo, if_neg h]
theorem rev_step {f i j : Nat} {l : List Pt} (h : i < j) (hf : j < i + f) : ∃ f', f = f' + 1 ∧ revGo f i j l = revGo f' (i + 1) (j - 1) ((l.set i (gp l j)).set j (gp l i)) := by
  obtain ⟨f', rfl⟩ : ∃ f', f = f' + 1 := ⟨f - 1, by omega⟩
  exact ⟨f', rfl, by rw [revGo, if_pos h]⟩

set_option maxHeartbeats 2000000 in
theorem slices_Reverse (base g cap : Nat) (ps : List Pt) (w : World) (hn : ps.length ≤ 1099511627776) (h0 : 0 < ps.length) (h : Own w base (.slice (some ⟨g, 0, none⟩) ps.length cap) ps) :
    Calls Try.prog 112 #[.slice (some ⟨g, 0, none⟩) ps.length cap] w fun e w' => e = .returned (.tuple #[]) ∧ Own w' base (.slice (some ⟨g, 0, none⟩) (revOf ps).length cap) (revOf ps) ∧ (revOf ps).length = ps.length ∧ w.grownBy w' (some g) := by
  go_enter Try.func112, Try.ntmps112
  go_wp2
  go_loopw [2, 3] (fun iv jv wr => ∃ (i j f : Nat) (l : List Pt), iv = .int .i64 i ∧ jv = .int .i64 j ∧ j < i + f ∧ j < ps.length ∧ l.length = ps.length ∧ i ≤ ps.length ∧ revOf ps = revGo f i j l ∧ Own wr base (.slice (some ⟨g, 0, none⟩) l.length cap) l ∧ w.grownBy wr (some g)) (fun iv _ _ => ps.length - (intOf iv).toNat)
  case atStart => exact ⟨0, ps.length - 1, ps.length, ps, rfl, by rw [show ((ps.length - 1 : Nat) : Int) = (ps.length : Int) - 1 by omega], by omega, by omega, rfl, by omega, rfl, h, World.grownBy.refl _ _⟩
  case round =>
    obtain ⟨i, j, f, l, rfl, rfl, hf, hj, hl, hi, he, hown, hg⟩ := hrel
    have He := Lib.hid he
    have Hl := Lib.hid hl
    have hj1 : (j : Int) ≤ 1099511627776 := by omega
    clear he
    by_cases hlt : i < j
    · have hil : i < l.length := by omega
      have hjl : j < l.length := by omega
      have ho : wr.ownsRow base 78 2 (.slice (some ⟨g, 0, none⟩) l.length cap) l.length (flat l) := hown
      obtain ⟨t1, t2⟩ := flat_get (List.getElem?_eq_getElem hil)
      obtain ⟨u1, u2⟩ := flat_get (List.getElem?_eq_getElem hjl)
      have c1 := (ho.cellAt (i * 2) (by omega)).trans t1
      have c2 := (ho.cellAt (i * 2 + 1) (by omega)).trans t2
      have d1 := (ho.cellAt (j * 2) (by omega)).trans u1
      have d2 := (ho.cellAt (j * 2 + 1) (by omega)).trans u2
      have f1 := ho.frozenAt (i * 2)
      have f2 := ho.frozenAt (i * 2 + 1)
      have f3 := ho.frozenAt (j * 2)
      have f4 := ho.frozenAt (j * 2 + 1)
      rw [← gp_eq hil] at c1 c2
      rw [← gp_eq hjl] at d1 d2
      obtain ⟨sw, gsw⟩ := Own.swap (i := i) (j := j) hown (gp l j) (gp l i)
      obtain ⟨f', hf', hst⟩ := rev_step (l := l) hlt hf
      have Hf := Lib.hid hf'
      have Hst := Lib.hid hst
      have Hsw := Lib.hid sw
      have Hgs := Lib.hid gsw
      clear hf' hst sw gsw t1 t2 u1 u2
      rw [← hl] at *
      clear hl
      go_wp2
      go_region
      go_wp2
      go_roundw
      case rel =>
        exact ⟨i + 1, j - 1, f', (l.set i (gp l j)).set j (gp l i), by go_num, by rw [show ((j - 1 : Nat) : Int) = (j : Int) - 1 by omega], by have := Hf.out; omega, by omega, by simp, by omega, by rw [He.out, Hst.out], by simpa using Hsw.out.drew, grown_drew (hg.trans Hgs.out)⟩
      case measure => simp [intOf]; omega
    · go_wp2
      go_end0
      have e1 : revOf ps = l := by rw [He.out]; exact rev_stop hlt
      exact ⟨rfl, by rw [e1]; exact hown, by rw [e1]; exact Hl.out, hg⟩

end Go.Proofs.Ytolddfapanabbaa
