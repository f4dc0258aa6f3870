/-
  AccountCovers, walked.
-/
import Derived.Test.YtpiniflhaokkaaaZOpen41
namespace Go.Proofs.Ytpiniflhaokkaaa
open Go.RowKit
set_option linter.unusedSimpArgs false
set_option linter.unusedVariables false

set_option maxHeartbeats 4000000 in
set_option maxRecDepth 100000 in
theorem law40_AccountCovers (hex : ∀ W, Calls Try.prog 17 #[] W (Ret (.bool true) W)) (c : C8) (w : World) (hc : C8Ok w c) :
    Calls Try.prog 9 #[c.agg] w (Ret (.bool true) w) := by
  have HX := Lib.hid hex
  by_cases hok : Ok40 c
  · have HL := Lib.hid (fun W (hW : Later w W) => law40_yes c W (hc.later hW) hok)
    have Ha := Lib.hid (fun ys hys => Ok40.acc hok (ys := ys) hys)
    have Hp := Lib.hid (fun ys hys => Ok40.parts hok (ys := ys) hys)
    unfold C8.agg LaidY40 at HL
    unfold C8.agg
    generalize (spR c).1 = yl at *
    clear hok hc
    obtain ⟨len, wd, rx, ry, s1, c1, sz, s2, c2, pl, qa, qc, ps, ra, rc, rs, la, lc, lots, aa, ac, plies⟩ := c
    simp only [] at HL Ha Hp ⊢
    go_enter Try.func9, Try.ntmps9
    go_upto_region 1 with fail
    refine name_world (fun W1 hW1 => ?_)
    have hl1 : Later w W1 := by rw [hW1]; exact (by repeat' (with_reducible first | exact Later.refl _ | assumption | refine Later.drew ?_ | refine Later.drewN ?_ _ | refine Later.alloc ?_ _ | refine Later.put ?_ (by omega) _ | refine Later.trans ?_ (by assumption)))
    have D1 : Blk W1 w.heap.size 31 #[.int .i64 len, .int .i64 wd, .int .i64 rx, .int .i64 ry, .slice s1 sz.length c1, .slice s2 pl.length c2, .slice qa ps.length qc, .slice ra rs.length rc, .slice la lots.length lc, .slice aa plies.length ac] := by rw [hW1]; exact (by repeat' (with_reducible first | assumption | (refine Blk.newAt ?_; simp; done) | refine Blk.alloc ?_ _ | refine Blk.drew ?_ | refine Blk.drewN ?_ _ | refine Blk.later ?_ (by assumption)))
    clear hW1
    have k0 : W1.cell? ⟨w.heap.size, 0, none⟩ = some (.int .i64 len) := D1.cell 0
    have k1 : W1.cell? ⟨w.heap.size, 1, none⟩ = some (.int .i64 wd) := D1.cell 1
    have k2 : W1.cell? ⟨w.heap.size, 2, none⟩ = some (.int .i64 rx) := D1.cell 2
    have k3 : W1.cell? ⟨w.heap.size, 3, none⟩ = some (.int .i64 ry) := D1.cell 3
    have k4 : W1.cell? ⟨w.heap.size, 4, none⟩ = some (.slice s1 sz.length c1) := D1.cell 4
    have k5 : W1.cell? ⟨w.heap.size, 5, none⟩ = some (.slice s2 pl.length c2) := D1.cell 5
    have k6 : W1.cell? ⟨w.heap.size, 6, none⟩ = some (.slice qa ps.length qc) := D1.cell 6
    have k7 : W1.cell? ⟨w.heap.size, 7, none⟩ = some (.slice ra rs.length rc) := D1.cell 7
    have k8 : W1.cell? ⟨w.heap.size, 8, none⟩ = some (.slice la lots.length lc) := D1.cell 8
    have k9 : W1.cell? ⟨w.heap.size, 9, none⟩ = some (.slice aa plies.length ac) := D1.cell 9
    have zk := D1.lt
    go_upto_region 2 with (first | (go_at_call 21; (with_reducible refine (HL.out _ hl1).mono ?_); rintro e w2 ⟨S1, d1, S2, d2, P, pc, ys, bt, bp, bd, bw, bs, rfl, hB, hys, h8, hpc, hpm, hP, hb2⟩))
    obtain ⟨ha1, ha2, ha3⟩ := Ha.out ys hys
    have hbd := bal_bd ha2 ha3 h8 (Hp.out ys hys)
    have hpos := bal_pos ha2 ha3
    obtain ⟨_, _, _, _, _, hl0, hl1', hw0, hw1⟩ := acc_parts ha2

    rw [hB] at hbd hpos
    simp only [] at hbd hpos
    obtain ⟨⟨t1, t2⟩, ⟨u1, u2⟩, -, -, -⟩ := hbd
    have hcov := hpos.2.2.2.2
    have hm := two_nn ⟨hl0, hl1'⟩ ⟨hw0, hw1⟩
    have hm2 := two_bd (a := 2 * len * wd) (b := (ys.length : Int)) (M := 2199023255552) (N := 8) (by omega) (by omega) (by omega)
    clear ha1 ha2 ha3 hpos hB hys hP Ha Hp HL
    go_upto_region 4 with fail
    refine name_world (fun W3 hW3 => ?_)
    have hl3 : Later w2 W3 := by rw [hW3]; exact (by repeat' (with_reducible first | exact Later.refl _ | assumption | refine Later.drew ?_ | refine Later.drewN ?_ _ | refine Later.alloc ?_ _ | refine Later.put ?_ (by omega) _ | refine Later.trans ?_ (by assumption)))
    have D3 : Blk W3 w2.heap.size 39 #[.int .i64 len, .int .i64 wd, .int .i64 rx, .int .i64 ry, .slice S1 sz.length d1, .slice S2 pl.length d2, .slice P ys.length pc] := by rw [hW3]; exact (by repeat' (with_reducible first | assumption | (refine Blk.newAt ?_; simp; done) | refine Blk.alloc ?_ _ | refine Blk.drew ?_ | refine Blk.drewN ?_ _ | refine Blk.later ?_ (by assumption)))
    have D4 : Blk W3 (w2.heap.size + 1) 58 #[.int .i64 bt, .int .i64 bp, .int .i64 bd, .int .i64 bw, .int .i64 bs] := by rw [hW3]; exact (by repeat' (with_reducible first | assumption | (refine Blk.newAt ?_; simp; done) | refine Blk.alloc ?_ _ | refine Blk.drew ?_ | refine Blk.drewN ?_ _ | refine Blk.later ?_ (by assumption)))
    have D1b := (D1.later hb2).later hl3
    have hlw := (hl1.trans hb2).trans hl3
    clear hW3 k0 k1 k2 k3 k4 k5 k6 k7 k8 k9 zk hb2 hl1 hl3
    generalize w2.heap.size + 1 = g4 at *
    generalize w2.heap.size = g3 at *
    have k0 : W3.cell? ⟨w.heap.size, 0, none⟩ = some (.int .i64 len) := D1b.cell 0
    have k1 : W3.cell? ⟨w.heap.size, 1, none⟩ = some (.int .i64 wd) := D1b.cell 1
    have zk := D1b.lt
    have l6 : W3.cell? ⟨g3, 6, none⟩ = some (.slice P ys.length pc) := D3.cell 6
    have zl := D3.lt
    have q0 : W3.cell? ⟨g4, 0, none⟩ = some (.int .i64 bt) := D4.cell 0
    have q4 : W3.cell? ⟨g4, 4, none⟩ = some (.int .i64 bs) := D4.cell 4
    have zq := D4.lt
    have v1 : IntKind.i64.wrap (bt - bs) = bt - bs := IntWalk.i64_in _ (by omega)
    have v2 : IntKind.i64.wrap (2 * len) = 2 * len := IntWalk.i64_in _ (by omega)
    have v3 : IntKind.i64.wrap (2 * len * wd) = 2 * len * wd := IntWalk.i64_in _ (by omega)
    have v4 : IntKind.i64.wrap (2 * len * wd * (ys.length : Int)) = 2 * len * wd * (ys.length : Int) := IntWalk.i64_in _ (by omega)
    have dc : decide (bt - bs ≥ 2 * len * wd * (ys.length : Int)) = true := by simpa using hcov
    have dc' : decide (2 * len * wd * (ys.length : Int) ≤ bt - bs) = true := by simpa using hcov
    go_wp2_with (first | (go_at_call 17; (with_reducible refine (HX.out _).mono ?_); rintro e w10 ⟨rfl, hb10⟩))
    go_ret
    exact ⟨rfl, hlw.trans (by repeat' (with_reducible first | exact Later.refl _ | assumption | refine Later.drew ?_ | refine Later.drewN ?_ _ | refine Later.alloc ?_ _ | refine Later.put ?_ (by omega) _ | refine Later.trans ?_ (by assumption)))⟩
  · have HL := Lib.hid (fun W (hW : Later w W) => law40_no c W (hc.later hW) hok)
    unfold C8.agg at HL ⊢
    clear hok
    obtain ⟨len, wd, rx, ry, s1, c1, sz, s2, c2, pl, qa, qc, ps, ra, rc, rs, la, lc, lots, aa, ac, plies⟩ := c
    simp only [] at HL ⊢
    go_enter Try.func9, Try.ntmps9
    go_wp2_with (first | (go_at_call 21; (with_reducible refine (HL.out _ (by repeat' (with_reducible first | exact Later.refl _ | assumption | refine Later.drew ?_ | refine Later.drewN ?_ _ | refine Later.alloc ?_ _ | refine Later.put ?_ (by omega) _ | refine Later.trans ?_ (by assumption)))).mono ?_); rintro e w2 ⟨l0, l1, l2, l3, A1, n1, d1, A2, n2, d2, A3, n3, d3, b0, b1, b2, b3, b4, rfl, hb2⟩) | (go_at_call 17; (with_reducible refine (HX.out _).mono ?_); rintro e w10 ⟨rfl, hb10⟩))
    go_ret
    exact ⟨rfl, (by repeat' (with_reducible first | exact Later.refl _ | assumption | refine Later.drew ?_ | refine Later.drewN ?_ _ | refine Later.alloc ?_ _ | refine Later.put ?_ (by omega) _ | refine Later.trans ?_ (by assumption)))⟩

end Go.Proofs.Ytpiniflhaokkaaa
