/-
  The walk of triangle.Holds, at a triangle that turns to the left and points that are not outside.
-/
import Derived.Test.YtolddfapanabbaaNormA
import Derived.Deep.DeepCutAuto
namespace Go.Proofs.Ytolddfapanabbaa
open Go.RowKit
set_option linter.unusedSimpArgs false
set_option linter.unusedVariables false

theorem Blk.new2 (w : World) (o o' : Obj) (t : TypeId) (cs : Array Value) : Blk (((w.alloc o).alloc o').alloc (.cells cs t)) (w.heap.size + 1 + 1) t cs := by
  have := Blk.new ((w.alloc o).alloc o') t cs
  simpa using this

def outP (p : Pt) : Bool := outsideB p.x p.y
theorem out_sm {p : Pt} (h : outP p = false) : SmP p := by
  unfold outP outsideB at h
  simp only [Bool.or_eq_false_iff, decide_eq_false_iff_not] at h
  unfold SmP Sm
  omega
/-- Where q lies in respect of the triangle abc, which turns to the left. -/
def holdsI (a b c q : Pt) : Int :=
  if 0 < crossP a b q ∧ 0 < crossP b c q ∧ 0 < crossP c a q then 1 else if 0 ≤ crossP a b q ∧ 0 ≤ crossP b c q ∧ 0 ≤ crossP c a q then 0 else -1

set_option maxHeartbeats 4000000 in
theorem triangle_Holds (g o k : Nat) (a b c q : Pt) (w : World) (hp : PtsAt w g o [a, b, c]) (ha : outP a = false) (hb : outP b = false) (hc : outP c = false) (hq : outP q = false) (ht : 0 < crossP a b c) :
    Calls Try.prog 83 #[.slice (some ⟨g, o, none⟩) 3 k, .agg #[.int .i64 q.x, .int .i64 q.y]] w (Ret (.int .i64 (holdsI a b c q)) w) := by
  have sa := out_sm ha
  have sb := out_sm hb
  have sc := out_sm hc
  have sq := out_sm hq
  have a1 : w.cell? ⟨g, o, none⟩ = some (.int .i64 a.x) := (hp 0 a rfl).1
  have a2 : w.cell? ⟨g, o + 1, none⟩ = some (.int .i64 a.y) := (hp 0 a rfl).2
  have b1 : w.cell? ⟨g, o + 2, none⟩ = some (.int .i64 b.x) := (hp 1 b rfl).1
  have b2 : w.cell? ⟨g, o + 2 + 1, none⟩ = some (.int .i64 b.y) := (hp 1 b rfl).2
  have c1 : w.cell? ⟨g, o + 4, none⟩ = some (.int .i64 c.x) := (hp 2 c rfl).1
  have c2 : w.cell? ⟨g, o + 4 + 1, none⟩ = some (.int .i64 c.y) := (hp 2 c rfl).2
  have hgz : g < w.heap.size := World.block_lt_of_cell? _ _ a1
  have t1 : (crossP a b c == 0) = false := by rw [beq_eq_false_iff_ne]; omega
  unfold outP at ha hb hc hq
  unfold crossP at ht t1
  go_enter Try.func83, Try.ntmps83
  go_upto_region 3 with (go_at_call 114; refine (triangle_outside _ _ _).mono ?_; rintro e w1 ⟨rfl, hb1⟩; have hL : Later w w1 := (by repeat' (first | exact Later.refl _ | assumption | refine Later.drew ?_ | refine Later.drewN ?_ _ | refine Later.alloc ?_ _ | refine Later.put ?_ (by omega) _ | refine Later.trans ?_ (by assumption))); have a1' := hL.cell a1; have a2' := hL.cell a2; have b1' := hL.cell b1; have b2' := hL.cell b2; have c1' := hL.cell c1; have c2' := hL.cell c2; have qqx : w1.cell? ⟨w.heap.size, 0, none⟩ = some (.int .i64 (q).x) := hb1.cell (by first | assumption | simp [go_sem]); have qqy : w1.cell? ⟨w.heap.size, 1, none⟩ = some (.int .i64 (q).y) := hb1.cell (by first | assumption | simp [go_sem]); clear hb1)
  have hgz1 : g < w1.heap.size := World.block_lt_of_cell? _ _ a1'
  have hgz2 : g < w1.heap.size + 1 := by omega
  have hgz3 : g < w1.heap.size + 1 + 1 := by omega
  go_cut [5, 6, 7] (fun v5 v6 v7 wx => ∃ B5 B6 B7 : Nat, v5 = .pointer (some ⟨B5, 0, none⟩) ∧ v6 = .pointer (some ⟨B6, 0, none⟩) ∧ v7 = .pointer (some ⟨B7, 0, none⟩) ∧ Later w1 wx ∧ Blk wx B5 78 #[.int .i64 a.x, .int .i64 a.y] ∧ Blk wx B6 78 #[.int .i64 b.x, .int .i64 b.y] ∧ Blk wx B7 78 #[.int .i64 c.x, .int .i64 c.y])
  case first =>
    go_region
    all_goals
      go_wp2_with fail
      go_meet
      refine ⟨_, _, _, rfl, rfl, rfl, (by repeat' (first | exact Later.refl _ | assumption | refine Later.drew ?_ | refine Later.drewN ?_ _ | refine Later.alloc ?_ _ | refine Later.put ?_ (by omega) _ | refine Later.trans ?_ (by assumption))), ?_, ?_, ?_⟩ <;> first | exact (((Blk.new _ _ _).alloc _).alloc _).drew | exact ((Blk.new1 _ _ _ _).alloc _).drew | exact (Blk.new2 _ _ _ _ _).drew
  case rest =>
    obtain ⟨B5, B6, B7, rfl, rfl, rfl, hLx, h5, h6, h7⟩ := hcut
    have x1 : wc.cell? ⟨B5, 0, none⟩ = some (.int .i64 a.x) := h5.cell 0
    have x2 : wc.cell? ⟨B5, 1, none⟩ = some (.int .i64 a.y) := h5.cell 1
    have x3 : wc.cell? ⟨B6, 0, none⟩ = some (.int .i64 b.x) := h6.cell 0
    have x4 : wc.cell? ⟨B6, 1, none⟩ = some (.int .i64 b.y) := h6.cell 1
    have x5 : wc.cell? ⟨B7, 0, none⟩ = some (.int .i64 c.x) := h7.cell 0
    have x6 : wc.cell? ⟨B7, 1, none⟩ = some (.int .i64 c.y) := h7.cell 1
    have x7 : wc.cell? ⟨w.heap.size, 0, none⟩ = some (.int .i64 q.x) := hLx.cell (by assumption)
    have x8 : wc.cell? ⟨w.heap.size, 1, none⟩ = some (.int .i64 q.y) := hLx.cell (by assumption)
    have hLc : Later w wc := Later.trans (by assumption) hLx
    go_wp2_with (first | (go_at_call 81; refine (triangle_cross _ _ _ _ _ _ _ sa.1 sa.2 sb.1 sb.2 sc.1 sc.2).mono ?_; rintro e w2 ⟨rfl, hb2⟩))
    have y1 := hb2.cell x1
    have y2 := hb2.cell x2
    have y3 := hb2.cell x3
    have y4 := hb2.cell x4
    have y5 := hb2.cell x5
    have y6 := hb2.cell x6
    have y7 := hb2.cell x7
    have y8 := hb2.cell x8
    have hL2 := hLc.trans hb2
    clear x1 x2 x3 x4 x5 x6 x7 x8
    by_cases hAB : crossI b.x b.y c.x c.y q.x q.y < crossI a.x a.y b.x b.y q.x q.y
    · by_cases hBC : crossI c.x c.y a.x a.y q.x q.y < crossI b.x b.y c.x c.y q.x q.y
      · go_region_held3 (fun w' : World => (∀ a : Addr, (w2.cell? a).isSome = true → w'.cell? a = w2.cell? a) ∧ Later w2 w') (first | assumption | exact keep_call (by assumption) (by assumption) | exact keep_call (by assumption) ((Later.refl _).alloc _) | exact keep_init _)
          (first | (go_at_call 81; refine (triangle_cross _ _ _ _ _ _ _ (by first | exact sa.1 | exact sb.1 | exact sc.1) (by first | exact sa.2 | exact sb.2 | exact sc.2) (by first | exact sa.1 | exact sb.1 | exact sc.1) (by first | exact sa.2 | exact sb.2 | exact sc.2) sq.1 sq.2).mono ?_; rintro e w3 ⟨rfl, hb3⟩))
        rename_i hHw
        have hL3 := hL2.trans hHw.2
        go_wp2
        all_goals
          go_ret
          exact ⟨ret_int (by clear hp hLx hLc hb2 hL2 hHw hL3 h5 h6 h7; (try simp only [beq_iff_eq, beq_eq_false_iff_ne, ne_eq] at *); unfold holdsI crossP; omega), hL3⟩
      · go_region_held3 (fun w' : World => (∀ a : Addr, (w2.cell? a).isSome = true → w'.cell? a = w2.cell? a) ∧ Later w2 w') (first | assumption | exact keep_call (by assumption) (by assumption) | exact keep_call (by assumption) ((Later.refl _).alloc _) | exact keep_init _)
          (first | (go_at_call 81; refine (triangle_cross _ _ _ _ _ _ _ (by first | exact sa.1 | exact sb.1 | exact sc.1) (by first | exact sa.2 | exact sb.2 | exact sc.2) (by first | exact sa.1 | exact sb.1 | exact sc.1) (by first | exact sa.2 | exact sb.2 | exact sc.2) sq.1 sq.2).mono ?_; rintro e w3 ⟨rfl, hb3⟩))
        rename_i hHw
        have hL3 := hL2.trans hHw.2
        go_wp2
        all_goals
          go_ret
          exact ⟨ret_int (by clear hp hLx hLc hb2 hL2 hHw hL3 h5 h6 h7; (try simp only [beq_iff_eq, beq_eq_false_iff_ne, ne_eq] at *); unfold holdsI crossP; omega), hL3⟩
    · by_cases hBC : crossI c.x c.y a.x a.y q.x q.y < crossI a.x a.y b.x b.y q.x q.y
      · go_region_held3 (fun w' : World => (∀ a : Addr, (w2.cell? a).isSome = true → w'.cell? a = w2.cell? a) ∧ Later w2 w') (first | assumption | exact keep_call (by assumption) (by assumption) | exact keep_call (by assumption) ((Later.refl _).alloc _) | exact keep_init _)
          (first | (go_at_call 81; refine (triangle_cross _ _ _ _ _ _ _ (by first | exact sa.1 | exact sb.1 | exact sc.1) (by first | exact sa.2 | exact sb.2 | exact sc.2) (by first | exact sa.1 | exact sb.1 | exact sc.1) (by first | exact sa.2 | exact sb.2 | exact sc.2) sq.1 sq.2).mono ?_; rintro e w3 ⟨rfl, hb3⟩))
        rename_i hHw
        have hL3 := hL2.trans hHw.2
        go_wp2
        all_goals
          go_ret
          exact ⟨ret_int (by clear hp hLx hLc hb2 hL2 hHw hL3 h5 h6 h7; (try simp only [beq_iff_eq, beq_eq_false_iff_ne, ne_eq] at *); unfold holdsI crossP; omega), hL3⟩
      · go_region_held3 (fun w' : World => (∀ a : Addr, (w2.cell? a).isSome = true → w'.cell? a = w2.cell? a) ∧ Later w2 w') (first | assumption | exact keep_call (by assumption) (by assumption) | exact keep_call (by assumption) ((Later.refl _).alloc _) | exact keep_init _)
          (first | (go_at_call 81; refine (triangle_cross _ _ _ _ _ _ _ (by first | exact sa.1 | exact sb.1 | exact sc.1) (by first | exact sa.2 | exact sb.2 | exact sc.2) (by first | exact sa.1 | exact sb.1 | exact sc.1) (by first | exact sa.2 | exact sb.2 | exact sc.2) sq.1 sq.2).mono ?_; rintro e w3 ⟨rfl, hb3⟩))
        rename_i hHw
        have hL3 := hL2.trans hHw.2
        go_wp2
        all_goals
          go_ret
          exact ⟨ret_int (by clear hp hLx hLc hb2 hL2 hHw hL3 h5 h6 h7; (try simp only [beq_iff_eq, beq_eq_false_iff_ne, ne_eq] at *); unfold holdsI crossP; omega), hL3⟩

end Go.Proofs.Ytolddfapanabbaa
