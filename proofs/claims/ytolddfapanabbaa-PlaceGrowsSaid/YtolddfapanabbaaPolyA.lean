/-
  The walks of slices.Index, Contains, IndexFunc, ContainsFunc at points.
-/
import Derived.Test.YtolddfapanabbaaFacts
namespace Go.Proofs.Ytolddfapanabbaa
open Go.RowKit
set_option linter.unusedSimpArgs false
set_option linter.unusedVariables false

/-- The first place of q, from k on; -1 if there is none. -/
def idxFrom (q : Pt) : List Pt → Nat → Int
  | [], _ => -1
  | p :: l, k => if q.x = p.x ∧ q.y = p.y then k else idxFrom q l (k + 1)

theorem idx_neg (q : Pt) (l : List Pt) (k : Nat) : 0 ≤ idxFrom q l k ↔ q ∈ l := by
  induction l generalizing k with
  | nil => simp [idxFrom]
  | cons p l ih =>
    unfold idxFrom
    split
    · rename_i h
      have : q = p := by cases q; cases p; simp_all
      simp [this]
    · rename_i h
      rw [ih]
      have : q ≠ p := by rintro rfl; simp at h
      simp [this]

theorem idx_hit {x y px py : Int} {l : List Pt} {k : Nat} (h : (x == px && y == py) = true) : idxFrom ⟨x, y⟩ (⟨px, py⟩ :: l) k = k := by
  simp at h
  rw [idxFrom, if_pos h]
theorem idx_miss {x y px py : Int} {l : List Pt} {k : Nat} (h : (x == px && y == py) = false) : idxFrom ⟨x, y⟩ (⟨px, py⟩ :: l) k = idxFrom ⟨x, y⟩ l (k + 1) := by
  simp at h
  rw [idxFrom, if_neg]
  rintro ⟨h1, h2⟩
  exact h h1 h2

theorem drop_cons {α : Type} (l : List α) (k : Nat) (h : k < l.length) : l.drop k = l[k] :: l.drop (k + 1) := List.drop_eq_getElem_cons h

set_option maxHeartbeats 1000000 in
theorem slices_Index (A : Option Addr) (c : Nat) (ps : List Pt) (x y : Int) (w : World) (hn : ps.length ≤ 1099511627776) (hp : Pts w A ps) :
    Calls Try.prog 127 #[.slice A ps.length c, .agg #[.int .i64 x, .int .i64 y]] w (Ret (.int .i64 (idxFrom ⟨x, y⟩ ps 0)) w) := by
  go_enter Try.func127, Try.ntmps127
  go_wp2
  go_loopw [4, 8] (fun r i wr => ∃ k : Nat, k ≤ ps.length ∧ i = .int .i64 k ∧ idxFrom ⟨x, y⟩ ps 0 = idxFrom ⟨x, y⟩ (ps.drop k) k ∧ Later w wr ∧ wr.cell? ⟨w.heap.size, 0, none⟩ = some (.int .i64 x) ∧ wr.cell? ⟨w.heap.size, 1, none⟩ = some (.int .i64 y)) (fun _ i _ => ps.length - (intOf i).toNat)
  case atStart => exact ⟨0, by omega, rfl, rfl, (Later.refl _).alloc _, by simp [go_sem], by simp [go_sem]⟩
  case round =>
    obtain ⟨k, hk, rfl, he, hb, hc0, hc1⟩ := hrel
    have He := Lib.hid he
    clear he
    by_cases hlt : k < ps.length
    · obtain ⟨b, o, rfl, e1, e2⟩ := (hp.later hb).at_ hlt
      have Hd := Lib.hid (drop_cons ps k hlt)
      generalize ps[k] = p at *
      obtain ⟨px, py⟩ := p
      have hq := eql_spot x y px py
      go_wp2
      go_quiet (fail)
      go_wp2
      · go_ret
        exact ⟨ret_int (by rw [He.out, Hd.out]; exact (idx_hit (by simp_all)).symm), hb.drewN _⟩
      · go_roundw
        case rel => exact ⟨k + 1, by omega, by go_num, by rw [He.out, Hd.out]; exact idx_miss (by simp_all <;> omega), hb.drewN _, hc0, hc1⟩
        case measure => simp [intOf]; omega
    · go_wp2
      go_ret
      exact ⟨ret_int (by rw [He.out, List.drop_eq_nil_of_le (by omega)]; rfl), hb⟩

set_option maxHeartbeats 1000000 in
theorem slices_Contains (A : Option Addr) (c : Nat) (ps : List Pt) (x y : Int) (w : World) (hn : ps.length ≤ 1099511627776) (hp : Pts w A ps) :
    Calls Try.prog 107 #[.slice A ps.length c, .agg #[.int .i64 x, .int .i64 y]] w (Ret (.bool (decide (⟨x, y⟩ ∈ ps))) w) := by
  go_enter Try.func107, Try.ntmps107
  go_wp2_with (go_at_call 127; refine (slices_Index _ _ _ _ _ _ hn (hp.later ((Later.refl _).alloc _))).mono ?_; rintro e w1 ⟨rfl, hb1⟩)
  go_ret
  exact ⟨ret_bool (by simp [idx_neg]), ((Later.refl _).alloc _).trans hb1⟩

/-- The first place that is outside, from k on; -1 if there is none. -/
def outFrom : List Pt → Nat → Int
  | [], _ => -1
  | p :: l, k => if outsideB p.x p.y then k else outFrom l (k + 1)
theorem out_neg (l : List Pt) (k : Nat) : 0 ≤ outFrom l k ↔ l.any (fun p => outsideB p.x p.y) = true := by
  induction l generalizing k with
  | nil => simp [outFrom]
  | cons p l ih =>
    unfold outFrom
    split
    · simp_all
    · rw [ih]
      simp_all

set_option maxHeartbeats 1000000 in
theorem slices_IndexFunc (A : Option Addr) (c : Nat) (ps : List Pt) (w : World) (hn : ps.length ≤ 1099511627776) (hp : Pts w A ps) :
    Calls Try.prog 106 #[.slice A ps.length c, .func (.func 76) #[] #[]] w (Ret (.int .i64 (outFrom ps 0)) w) := by
  go_enter Try.func106, Try.ntmps106
  go_wp2
  go_loopw [4, 8] (fun r i wr => ∃ k : Nat, k ≤ ps.length ∧ i = .int .i64 k ∧ outFrom ps 0 = outFrom (ps.drop k) k ∧ Later w wr) (fun _ i _ => ps.length - (intOf i).toNat)
  case atStart => exact ⟨0, by omega, rfl, rfl, Later.refl _⟩
  case round =>
    obtain ⟨k, hk, rfl, he, hb⟩ := hrel
    have He := Lib.hid he
    clear he
    by_cases hlt : k < ps.length
    · obtain ⟨b, o, rfl, e1, e2⟩ := (hp.later hb).at_ hlt
      have Hd := Lib.hid (drop_cons ps k hlt)
      generalize ps[k] = p at *
      obtain ⟨px, py⟩ := p
      go_wp2_with (go_at_call 76; refine (polygon_outside _ _ _).mono ?_; rintro e w1 ⟨rfl, hb1⟩)
      · go_ret
        exact ⟨ret_int (by rw [He.out, Hd.out]; simp_all [outFrom]), hb.trans (by assumption)⟩
      · go_roundw
        case rel => exact ⟨k + 1, by omega, by go_num, by rw [He.out, Hd.out]; simp_all [outFrom], hb.trans (by assumption)⟩
        case measure => simp [intOf]; omega
    · go_wp2
      go_ret
      exact ⟨ret_int (by rw [He.out, List.drop_eq_nil_of_le (by omega)]; rfl), hb⟩

set_option maxHeartbeats 1000000 in
theorem slices_ContainsFunc (A : Option Addr) (c : Nat) (ps : List Pt) (w : World) (hn : ps.length ≤ 1099511627776) (hp : Pts w A ps) :
    Calls Try.prog 75 #[.slice A ps.length c, .func (.func 76) #[] #[]] w (Ret (.bool (ps.any (fun p => outsideB p.x p.y))) w) := by
  go_enter Try.func75, Try.ntmps75
  go_wp2_with (go_at_call 106; refine (slices_IndexFunc _ _ _ _ hn hp).mono ?_; rintro e w1 ⟨rfl, hb1⟩)
  go_ret
  exact ⟨ret_bool (by rw [Bool.eq_iff_iff, ← out_neg ps 0]; simp), hb1⟩

end Go.Proofs.Ytolddfapanabbaa
