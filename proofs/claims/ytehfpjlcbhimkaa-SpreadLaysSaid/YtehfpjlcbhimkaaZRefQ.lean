/-
  The reference of layer 27: Check.
-/
import Derived.Test.YtehfpjlcbhimkaaZRefR
namespace Go.Proofs.Ytehfpjlcbhimkaa
open Go.RowKit
set_option linter.unusedSimpArgs false
set_option linter.unusedVariables false

theorem tones_iff (a b c : Int) : tonesBad [a, b, c] = true ↔ (a < -1000 ∨ 1000 < a) ∨ (b < -1000 ∨ 1000 < b) ∨ (c < -1000 ∨ 1000 < c) := by
  simp only [tonesBad, toneBad, Bool.or_eq_true, decide_eq_true_eq]
  split
  · rename_i h; simp [h]
  · rename_i h
    split
    · rename_i h2; simp [h2]
    · rename_i h2
      split
      · rename_i h3; simp [h3]
      · rename_i h3; simp only [Bool.false_eq_true, false_iff]; omega
theorem base_bad {r : Rl} (hi : idB r.id = true) (hb : baseI r ≠ 0) : baseI r = 3 ∧ (r.ln < 1 ∨ 1048576 < r.ln ∨ r.wd < 1 ∨ 1048576 < r.wd ∨ r.tl < -1000 ∨ 1000 < r.tl ∨ r.ta < -1000 ∨ 1000 < r.ta ∨ r.tb < -1000 ∨ 1000 < r.tb) := by
  unfold baseI at *
  rw [if_neg (by simp [hi])] at hb ⊢
  by_cases h : r.ln < 1 ∨ 1048576 < r.ln ∨ r.wd < 1 ∨ 1048576 < r.wd
  · rw [if_pos h]; exact ⟨rfl, by omega⟩
  · rw [if_neg h] at hb ⊢
    by_cases h2 : tonesBad [r.tl, r.ta, r.tb] = true
    · rw [if_pos h2]
      rw [tones_iff] at h2
      exact ⟨rfl, by omega⟩
    · rw [if_neg h2] at hb; exact absurd rfl hb

set_option maxHeartbeats 4000000 in
theorem ref27_Check_pre (r : Rl) (w : World) (hr : RlOk w r) (hb : baseI r ≠ 0) :
    Calls Try.prog 81 #[r.agg] w (Ret (.int .i64 (rollI r)) w) := by
  have HI := Lib.hid (fun W => ref27_id r.id W hr.1)
  have hro : rollI r = baseI r := by unfold rollI; rw [if_pos hb]
  rw [hro]
  clear hro
  cases hi : idB r.id with
  | false =>
    have hbe : baseI r = 1 := by unfold baseI; rw [if_pos hi]
    rw [hbe]
    rw [hi] at HI
    obtain ⟨rid, rwd, rln, rtl, rta, rtb, fa, fc, fl⟩ := r
    unfold Rl.agg
    simp only [] at *
    clear hb hi hbe
    go_enter Try.func81, Try.ntmps81
    go_wp2_with (first | (go_at_call 93; refine (HI.out _).mono ?_; rintro e w1 ⟨rfl, hb1⟩))
    go_ret
    exact ⟨rfl, (by repeat' (with_reducible first | exact Later.refl _ | assumption | refine Later.drew ?_ | refine Later.drewN ?_ _ | refine Later.alloc ?_ _ | refine Later.put ?_ (by omega) _ | refine Later.trans ?_ (by assumption)))⟩
  | true =>
    obtain ⟨h3, hbad⟩ := base_bad hi hb
    rw [h3]
    rw [hi] at HI
    obtain ⟨rid, rwd, rln, rtl, rta, rtb, fa, fc, fl⟩ := r
    unfold Rl.agg
    simp only [] at *
    clear hb hi h3
    have Hbad := Lib.hid hbad
    clear hbad
    go_enter Try.func81, Try.ntmps81
    go_wp2_with (first | (go_at_call 93; refine (HI.out _).mono ?_; rintro e w1 ⟨rfl, hb1⟩; have B0 : Blk w1 w.heap.size 55 #[.string rid, .int .i64 rwd, .int .i64 rln, .int .i64 rtl, .int .i64 rta, .int .i64 rtb, .slice fa fl.length fc] := Blk.later (by repeat' (with_reducible first | assumption | (refine Blk.newAt ?_; simp; done) | refine Blk.alloc ?_ _ | refine Blk.drew ?_ | refine Blk.drewN ?_ _ | refine Blk.later ?_ (by assumption))) hb1; have d1 : w1.cell? ⟨w.heap.size, 1, none⟩ = some (.int .i64 rwd) := B0.cell 1; have d2 : w1.cell? ⟨w.heap.size, 2, none⟩ = some (.int .i64 rln) := B0.cell 2; have d3 : w1.cell? ⟨w.heap.size, 3, none⟩ = some (.int .i64 rtl) := B0.cell 3; have d4 : w1.cell? ⟨w.heap.size, 4, none⟩ = some (.int .i64 rta) := B0.cell 4; have d5 : w1.cell? ⟨w.heap.size, 5, none⟩ = some (.int .i64 rtb) := B0.cell 5; have d6 : w1.cell? ⟨w.heap.size, 6, none⟩ = some (.slice fa fl.length fc) := B0.cell 6) | (go_at_call 94; refine (ref27_in _ _ _ _).mono ?_; rintro e w2 ⟨rfl, rfl⟩))
    all_goals
      first
      | (go_ret; exact ⟨rfl, (by repeat' (with_reducible first | exact Later.refl _ | assumption | refine Later.drew ?_ | refine Later.drewN ?_ _ | refine Later.alloc ?_ _ | refine Later.put ?_ (by omega) _ | refine Later.trans ?_ (by assumption)))⟩)
      | (exfalso; have hbad := Hbad.out; omega)
      | (exfalso; have hbad := Hbad.out; simp at *; omega)
      | (exfalso; have hbad := Hbad.out; simp_all; omega)

end Go.Proofs.Ytehfpjlcbhimkaa
