/-
  AccountRolls, walked.
-/
import Derived.Test.YtpiniflhaokkaaaZLawAOr
import Derived.Test.YtpiniflhaokkaaaZRefAc
namespace Go.Proofs.Ytpiniflhaokkaaa
open Go.RowKit
set_option linter.unusedSimpArgs false
set_option linter.unusedVariables false

theorem rolls_len {rs : List Rl} {lots : List Int} {ys : List Py} : (accRollsR rs lots ys).1.length ≤ rs.length := by
  unfold accRollsR
  split
  · simp
  · simp only [used_len]; omega
section
attribute [local go_sem] build_lay9
set_option maxHeartbeats 8000000 in
set_option maxRecDepth 100000 in
theorem law40_AccountRolls (hex : ∀ W, Calls Try.prog 17 #[] W (Ret (.bool true) W)) (c : C8) (YA : Option Addr) (yc : Nat) (ys : List Py) (w : World) (hc : C8Ok w c) (hy : ys.length ≤ yc ∧ yc ≤ maxLen ∧ Plys w YA ys) :
    Calls Try.prog 5 #[c.agg, .slice YA ys.length yc] w (Ret (.bool true) w) := by
  have HX := Lib.hid hex
  obtain ⟨hy1, hy2, hyp⟩ := hy
  have HF := Lib.hid (fun W (hW : Later w W) => law40_few c YA yc ys W (hc.later hW) (hyp.later hW))
  rcases hfew : few40 c ys with _ | _
  · rw [hfew] at HF
    unfold C8.agg at HF ⊢
    clear hfew
    obtain ⟨len, wd, rx, ry, s1, c1, sz, s2, c2, pl, qa, qc, ps, ra, rc, rs, la, lc, lots, aa, ac, plies⟩ := c
    simp only [] at HF ⊢
    go_enter Try.func5, Try.ntmps5
    go_wp2_with (first | (go_at_call 16; (with_reducible refine (HF.out _ (by repeat' (with_reducible first | exact Later.refl _ | assumption | refine Later.drew ?_ | refine Later.drewN ?_ _ | refine Later.alloc ?_ _ | refine Later.put ?_ (by omega) _ | refine Later.trans ?_ (by assumption)))).mono ?_); rintro e w2 ⟨rfl, hb2⟩) | (go_at_call 17; (with_reducible refine (HX.out _).mono ?_); rintro e w10 ⟨rfl, hb10⟩))
    go_ret
    exact ⟨rfl, (by repeat' (with_reducible first | exact Later.refl _ | assumption | refine Later.drew ?_ | refine Later.drewN ?_ _ | refine Later.alloc ?_ _ | refine Later.put ?_ (by omega) _ | refine Later.trans ?_ (by assumption)))⟩
  rw [hfew] at HF
  obtain ⟨h6, h38⟩ := few40_all hfew
  obtain ⟨a1, a2, a3, a4, a5, a6, a7⟩ := f38_all h38
  have hp := f40_parts h38
  have HR1 := Lib.hid (fun W (hW : Later w W) => account_Rolls c.ra c.la c.s1 c.s2 YA c.rc c.lc c.sz.length c.c1 c.pl.length c.c2 yc c.len c.wd c.rx c.ry c.rs c.lots ys W (hc.rs.later hW) (by omega) (hc.lots.later hW) (by omega) (hyp.later hW) (by omega) (fun y hy => by have := hp y hy; omega))
  have HR2 := Lib.hid (fun W (hW : Later w W) => ref40_Rolls c.ra c.la c.s1 c.s2 YA c.rc c.lc c.sz.length c.c1 c.pl.length c.c2 yc c.len c.wd c.rx c.ry c.rs c.lots ys W (hc.rs.later hW) (by omega) (hc.lots.later hW) (by omega) (hyp.later hW) (by omega) (fun y hy => by have := hp y hy; omega))
  have hrl : (accRollsR c.rs c.lots ys).1.length ≤ 6 := Nat.le_trans rolls_len a2
  unfold UseRPost at HR1 HR2
  unfold C8.agg at HF ⊢
  generalize accRollsR c.rs c.lots ys = R at *
  obtain ⟨l, re⟩ := R
  clear hfew hc h38 hp a1 a2 a3 a4 a5 a6 a7
  obtain ⟨len, wd, rx, ry, s1, c1, sz, s2, c2, pl, qa, qc, ps, ra, rc, rs, la, lc, lots, aa, ac, plies⟩ := c
  simp only [] at HF HR1 HR2 hrl ⊢
  go_enter Try.func5, Try.ntmps5
  go_upto_region 1 with fail
  refine name_world (fun W1 hW1 => ?_)
  have hl1 : Later w W1 := by rw [hW1]; exact (by repeat' (with_reducible first | exact Later.refl _ | assumption | refine Later.drew ?_ | refine Later.drewN ?_ _ | refine Later.alloc ?_ _ | refine Later.put ?_ (by omega) _ | refine Later.trans ?_ (by assumption)))
  have D1 : Blk W1 w.heap.size 31 #[.int .i64 len, .int .i64 wd, .int .i64 rx, .int .i64 ry, .slice s1 sz.length c1, .slice s2 pl.length c2, .slice qa ps.length qc, .slice ra rs.length rc, .slice la lots.length lc, .slice aa plies.length ac] := by rw [hW1]; exact (by repeat' (with_reducible first | assumption | (refine Blk.newAt ?_; simp; done) | refine Blk.alloc ?_ _ | refine Blk.drew ?_ | refine Blk.drewN ?_ _ | refine Blk.later ?_ (by assumption)))
  clear hW1
  have k0 : W1.cell? ⟨w.heap.size, 0, none⟩ = some (.int .i64 len) := D1.cell 0
  have k1 : W1.cell? ⟨w.heap.size, 1, none⟩ = some (.int .i64 wd) := D1.cell 1
  have k2 : W1.cell? ⟨w.heap.size, 2, none⟩ = some (.int .i64 rx) := D1.cell 2
  have k3 : W1.cell? ⟨w.heap.size, 3, none⟩ = some (.int .i64 ry) := D1.cell 3
  have k4 : W1.cell? ⟨w.heap.size, 4, none⟩ = some (.slice s1 sz.length c1) := D1.cell 4
  have k5 : W1.cell? ⟨w.heap.size, 5, none⟩ = some (.slice s2 pl.length c2) := D1.cell 5
  have k6 : W1.cell? ⟨w.heap.size, 6, none⟩ = some (.slice qa ps.length qc) := D1.cell 6
  have k7 : W1.cell? ⟨w.heap.size, 7, none⟩ = some (.slice ra rs.length rc) := D1.cell 7
  have k8 : W1.cell? ⟨w.heap.size, 8, none⟩ = some (.slice la lots.length lc) := D1.cell 8
  have k9 : W1.cell? ⟨w.heap.size, 9, none⟩ = some (.slice aa plies.length ac) := D1.cell 9
  have zk := D1.lt
  go_upto_region 3 with (first | (go_at_call 16; (with_reducible refine (HF.out _ hl1).mono ?_); rintro e w2 ⟨rfl, hb2⟩))
  have D2 := D1.later hb2
  clear k0 k1 k2 k3 k4 k5 k6 k7 k8 k9 zk
  have k0 : w2.cell? ⟨w.heap.size, 0, none⟩ = some (.int .i64 len) := D2.cell 0
  have k1 : w2.cell? ⟨w.heap.size, 1, none⟩ = some (.int .i64 wd) := D2.cell 1
  have k2 : w2.cell? ⟨w.heap.size, 2, none⟩ = some (.int .i64 rx) := D2.cell 2
  have k3 : w2.cell? ⟨w.heap.size, 3, none⟩ = some (.int .i64 ry) := D2.cell 3
  have k4 : w2.cell? ⟨w.heap.size, 4, none⟩ = some (.slice s1 sz.length c1) := D2.cell 4
  have k5 : w2.cell? ⟨w.heap.size, 5, none⟩ = some (.slice s2 pl.length c2) := D2.cell 5
  have k6 : w2.cell? ⟨w.heap.size, 6, none⟩ = some (.slice qa ps.length qc) := D2.cell 6
  have k7 : w2.cell? ⟨w.heap.size, 7, none⟩ = some (.slice ra rs.length rc) := D2.cell 7
  have k8 : w2.cell? ⟨w.heap.size, 8, none⟩ = some (.slice la lots.length lc) := D2.cell 8
  have k9 : w2.cell? ⟨w.heap.size, 9, none⟩ = some (.slice aa plies.length ac) := D2.cell 9
  have zk := D2.lt
  go_upto_region 4 with fail
  refine name_world (fun W3 hW3 => ?_)
  have hl23 : Later w2 W3 := by rw [hW3]; exact (by repeat' (with_reducible first | exact Later.refl _ | assumption | refine Later.drew ?_ | refine Later.drewN ?_ _ | refine Later.alloc ?_ _ | refine Later.put ?_ (by omega) _ | refine Later.trans ?_ (by assumption)))
  have hl3 := (hl1.trans hb2).trans hl23
  have D2b := D2.later hl23
  have DL : Blk W3 w2.heap.size 39 #[.int .i64 len, .int .i64 wd, .int .i64 rx, .int .i64 ry, .slice s1 sz.length c1, .slice s2 pl.length c2, .slice YA ys.length yc] := by rw [hW3]; exact (by repeat' (with_reducible first | assumption | (refine Blk.newAt ?_; simp; done) | refine Blk.alloc ?_ _ | refine Blk.drew ?_ | refine Blk.drewN ?_ _ | refine Blk.later ?_ (by assumption)))
  clear hW3 k0 k1 k2 k3 k4 k5 k6 k7 k8 k9 zk hb2 hl1 hl23 D1 D2
  generalize w2.heap.size = g2 at *
  have k0 : W3.cell? ⟨w.heap.size, 0, none⟩ = some (.int .i64 len) := D2b.cell 0
  have k1 : W3.cell? ⟨w.heap.size, 1, none⟩ = some (.int .i64 wd) := D2b.cell 1
  have k2 : W3.cell? ⟨w.heap.size, 2, none⟩ = some (.int .i64 rx) := D2b.cell 2
  have k3 : W3.cell? ⟨w.heap.size, 3, none⟩ = some (.int .i64 ry) := D2b.cell 3
  have k4 : W3.cell? ⟨w.heap.size, 4, none⟩ = some (.slice s1 sz.length c1) := D2b.cell 4
  have k5 : W3.cell? ⟨w.heap.size, 5, none⟩ = some (.slice s2 pl.length c2) := D2b.cell 5
  have k6 : W3.cell? ⟨w.heap.size, 6, none⟩ = some (.slice qa ps.length qc) := D2b.cell 6
  have k7 : W3.cell? ⟨w.heap.size, 7, none⟩ = some (.slice ra rs.length rc) := D2b.cell 7
  have k8 : W3.cell? ⟨w.heap.size, 8, none⟩ = some (.slice la lots.length lc) := D2b.cell 8
  have k9 : W3.cell? ⟨w.heap.size, 9, none⟩ = some (.slice aa plies.length ac) := D2b.cell 9
  have zk := D2b.lt
  have q0 : W3.cell? ⟨g2, 0, none⟩ = some (.int .i64 len) := DL.cell 0
  have q1 : W3.cell? ⟨g2, 1, none⟩ = some (.int .i64 wd) := DL.cell 1
  have q2 : W3.cell? ⟨g2, 2, none⟩ = some (.int .i64 rx) := DL.cell 2
  have q3 : W3.cell? ⟨g2, 3, none⟩ = some (.int .i64 ry) := DL.cell 3
  have q4 : W3.cell? ⟨g2, 4, none⟩ = some (.slice s1 sz.length c1) := DL.cell 4
  have q5 : W3.cell? ⟨g2, 5, none⟩ = some (.slice s2 pl.length c2) := DL.cell 5
  have q6 : W3.cell? ⟨g2, 6, none⟩ = some (.slice YA ys.length yc) := DL.cell 6
  have z2 := DL.lt
  go_upto_region 5 with (first | (go_at_call 18; (with_reducible refine (HR1.out _ hl3).mono ?_); rintro e w4 ⟨A4, c4, rfl, ho4, hb4⟩))
  have hX := ho4.ints2
  have D2c := D2b.later hb4
  have DLc := DL.later hb4
  have hl4 := hl3.trans hb4
  clear k0 k1 k2 k3 k4 k5 k6 k7 k8 k9 zk q0 q1 q2 q3 q4 q5 q6 z2 hb4 ho4
  have k0 : w4.cell? ⟨w.heap.size, 0, none⟩ = some (.int .i64 len) := D2c.cell 0
  have k1 : w4.cell? ⟨w.heap.size, 1, none⟩ = some (.int .i64 wd) := D2c.cell 1
  have k2 : w4.cell? ⟨w.heap.size, 2, none⟩ = some (.int .i64 rx) := D2c.cell 2
  have k3 : w4.cell? ⟨w.heap.size, 3, none⟩ = some (.int .i64 ry) := D2c.cell 3
  have k4 : w4.cell? ⟨w.heap.size, 4, none⟩ = some (.slice s1 sz.length c1) := D2c.cell 4
  have k5 : w4.cell? ⟨w.heap.size, 5, none⟩ = some (.slice s2 pl.length c2) := D2c.cell 5
  have k6 : w4.cell? ⟨w.heap.size, 6, none⟩ = some (.slice qa ps.length qc) := D2c.cell 6
  have k7 : w4.cell? ⟨w.heap.size, 7, none⟩ = some (.slice ra rs.length rc) := D2c.cell 7
  have k8 : w4.cell? ⟨w.heap.size, 8, none⟩ = some (.slice la lots.length lc) := D2c.cell 8
  have k9 : w4.cell? ⟨w.heap.size, 9, none⟩ = some (.slice aa plies.length ac) := D2c.cell 9
  have zk := D2c.lt
  have q0 : w4.cell? ⟨g2, 0, none⟩ = some (.int .i64 len) := DLc.cell 0
  have q1 : w4.cell? ⟨g2, 1, none⟩ = some (.int .i64 wd) := DLc.cell 1
  have q2 : w4.cell? ⟨g2, 2, none⟩ = some (.int .i64 rx) := DLc.cell 2
  have q3 : w4.cell? ⟨g2, 3, none⟩ = some (.int .i64 ry) := DLc.cell 3
  have q4 : w4.cell? ⟨g2, 4, none⟩ = some (.slice s1 sz.length c1) := DLc.cell 4
  have q5 : w4.cell? ⟨g2, 5, none⟩ = some (.slice s2 pl.length c2) := DLc.cell 5
  have q6 : w4.cell? ⟨g2, 6, none⟩ = some (.slice YA ys.length yc) := DLc.cell 6
  have z2 := DLc.lt
  go_upto_region 6 with (first | (go_at_call 19; (with_reducible refine (HR2.out _ hl4).mono ?_); rintro e w5 ⟨A5, c5, rfl, ho5, hb5⟩))
  have hY := ho5.ints2
  have hX5 := hX.later hb5
  have hl5 := hl4.trans hb5
  clear k0 k1 k2 k3 k4 k5 k6 k7 k8 k9 zk q0 q1 q2 q3 q4 q5 q6 z2 hb5 ho5 hX
  go_upto_region 9 with fail
  go_loopw [10] (fun iv wr => ∃ i : Nat, i ≤ l.length ∧ iv = .int .i64 i ∧ Later w5 wr) (fun iv _ => l.length - (intOf iv).toNat)
  case atStart => exact ⟨0, by omega, rfl, Later.refl _⟩
  case round =>
    obtain ⟨i, hi, rfl, hb⟩ := hrel
    by_cases hlt : i < l.length
    · obtain ⟨b1, o1, rfl, x1⟩ := (hX5.later hb).at_ hlt
      obtain ⟨b2, o2, rfl, x2⟩ := (hY.later hb).at_ hlt
      have z1 := World.block_lt_of_cell? _ _ x1
      have z2 := World.block_lt_of_cell? _ _ x2
      have hi0 : (0 : Int) ≤ (i : Int) := by omega
      have hi1 : (i : Int) < (l.length : Int) := by omega
      generalize l[i] = n at *
      have dn : (n != n) = false := by simp
      go_upto_region 11 with fail
      go_quiet (fail)
      go_wp2
      go_roundw
      case rel => exact ⟨i + 1, by omega, by go_num, hb.trans (by repeat' (with_reducible first | exact Later.refl _ | assumption | refine Later.drew ?_ | refine Later.drewN ?_ _ | refine Later.alloc ?_ _ | refine Later.put ?_ (by omega) _ | refine Later.trans ?_ (by assumption)))⟩
      case measure => simp [intOf]; omega
    · go_wp2_with (first | (go_at_call 17; (with_reducible refine (HX.out _).mono ?_); rintro e w10 ⟨rfl, hb10⟩))
      go_ret
      exact ⟨rfl, (hl5.trans hb).trans (by repeat' (with_reducible first | exact Later.refl _ | assumption | refine Later.drew ?_ | refine Later.drewN ?_ _ | refine Later.alloc ?_ _ | refine Later.put ?_ (by omega) _ | refine Later.trans ?_ (by assumption)))⟩
end

end Go.Proofs.Ytpiniflhaokkaaa
