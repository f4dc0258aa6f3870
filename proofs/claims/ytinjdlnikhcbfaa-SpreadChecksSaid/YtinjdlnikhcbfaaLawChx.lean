/-
  SpreadChecks, walked.
-/
import Derived.Test.YtinjdlnikhcbfaaRefPl
import Derived.Test.YtinjdlnikhcbfaaSameP
import Derived.Test.YtinjdlnikhcbfaaAwk8
namespace Go.Proofs.Ytinjdlnikhcbfaa
open Go.RowKit
set_option linter.unusedSimpArgs false
set_option linter.unusedVariables false

theorem f38_parts {n1 n2 nl : Nat} {ps : List (List Pt)} {rs : List Rl} {ys : List Py} (h : few38 n1 n2 nl ps rs ys = true) : ∀ y ∈ ys, y.parts.length ≤ 6 := by
  unfold few38 at h
  split at h
  · cases h
  · split at h
    · cases h
    · split at h
      · cases h
      · exact pliesB_all h

@[go_sem] theorem build_layMP (a b c d : Int) (A : Option Addr) (n k : Nat) (B : Option Addr) (m l : Nat) (C : Option Addr) (o p : Nat) (w : World) : (Instr.build 36 #[(0, .agg #[.int .i64 a, .int .i64 b, .int .i64 c, .int .i64 d, .slice A n k, .slice B m l]), (1, .slice C o p)]).run Try.prog w = .ok (.agg #[.int .i64 a, .int .i64 b, .int .i64 c, .int .i64 d, .slice A n k, .slice B m l, .slice C o p]) w := run_build w 36 _ _ (by kernel_rfl)
set_option maxHeartbeats 8000000 in
set_option maxRecDepth 100000 in
theorem law38_SpreadChecks (hex : ∀ W, Calls Try.prog 16 #[] W (Ret (.bool true) W)) (c : C8) (YA : Option Addr) (yc : Nat) (ys : List Py) (w : World) (hc : C8Ok w c) (hy : ys.length ≤ yc ∧ yc ≤ maxLen ∧ Plys w YA ys) :
    Calls Try.prog 4 #[c.agg, .slice YA ys.length yc] w (Ret (.bool true) w) := by
  have HX := Lib.hid hex
  obtain ⟨hy1, hy2, hyp⟩ := hy
  have HF := Lib.hid (fun W (hW : Later w W) => ref38_Few YA c.ra c.qa c.s1 c.s2 c.la yc c.rc c.qc c.c1 c.c2 c.lc c.sz.length c.pl.length c.lots.length c.len c.wd c.rx c.ry ys c.rs c.ps W (hyp.later hW) (hc.rs.later hW) (hc.ps.later hW))
  rcases hfew : few38 c.sz.length c.pl.length c.lots.length c.ps c.rs ys with _ | _
  · rw [hfew] at HF
    unfold C8.agg
    clear hfew
    obtain ⟨len, wd, rx, ry, s1, c1, sz, s2, c2, pl, qa, qc, ps, ra, rc, rs, la, lc, lots, aa, ac, plies⟩ := c
    simp only [] at HF ⊢
    go_enter Try.func4, Try.ntmps4
    go_wp2_with (first | (go_at_call 22; (with_reducible refine (HF.out _ (by repeat' (with_reducible first | exact Later.refl _ | assumption | refine Later.drew ?_ | refine Later.drewN ?_ _ | refine Later.alloc ?_ _ | refine Later.put ?_ (by omega) _ | refine Later.trans ?_ (by assumption)))).mono ?_); rintro e w2 ⟨rfl, hb2⟩) | (go_at_call 16; (with_reducible refine (HX.out _).mono ?_); rintro e w10 ⟨rfl, hb10⟩))
    go_ret
    exact ⟨rfl, (by repeat' (with_reducible first | exact Later.refl _ | assumption | refine Later.drew ?_ | refine Later.drewN ?_ _ | refine Later.alloc ?_ _ | refine Later.put ?_ (by omega) _ | refine Later.trans ?_ (by assumption)))⟩
  rw [hfew] at HF
  obtain ⟨a1, a2, a3, a4, a5, a6, a7⟩ := f38_all hfew
  have hparts := f38_parts hfew
  have HC1 := Lib.hid (fun W (hW : Later w W) => spread_Check c.qa c.ra c.la c.s1 c.s2 YA c.qc c.rc c.lc c.sz.length c.c1 c.pl.length c.c2 yc c.len c.wd c.rx c.ry c.ps c.rs c.lots ys W (hc.ps.later hW) (fun p hp => by have := a7 p hp; omega) (hc.rs.later hW) (by omega) (hc.lots.later hW) (by omega) (hyp.later hW) (by omega) (fun y hy => by have := hparts y hy; omega))
  have HC2 := Lib.hid (fun W (hW : Later w W) => ref38_Check c.qa c.ra c.la c.s1 c.s2 YA c.qc c.rc c.lc c.sz.length c.c1 c.pl.length c.c2 yc c.len c.wd c.rx c.ry c.ps c.rs c.lots ys W (hc.ps.later hW) (fun p hp => by have := a7 p hp; omega) (hc.rs.later hW) (by omega) (hc.lots.later hW) (by omega) (hyp.later hW) (by omega) (fun y hy => by have := hparts y hy; omega))
  have HR1 := Lib.hid (fun W (hW : Later w W) => spread_Rests c.ra c.la c.s1 c.s2 YA c.rc c.lc c.sz.length c.c1 c.pl.length c.c2 yc c.len c.wd c.rx c.ry c.rs c.lots ys W (hc.rs.later hW) (by omega) (hc.lots.later hW) (by omega) (hyp.later hW) (by omega) (fun y hy => by have := hparts y hy; omega))
  have HR2 := Lib.hid (fun W (hW : Later w W) => ref38_Rests c.ra c.la c.s1 c.s2 YA c.rc c.lc c.sz.length c.c1 c.pl.length c.c2 yc c.len c.wd c.rx c.ry c.rs c.lots ys W (hc.rs.later hW) (by omega) (hc.lots.later hW) (by omega) (hyp.later hW) (by omega) (fun y hy => by have := hparts y hy; omega))
  have hRl : (restsR c.rs c.lots (ys.map Py.pl)).1.length ≤ 1099511627776 := by
    unfold restsR
    split
    · simp
    · split
      · simp
      · split
        · simp
        · split
          · have h2 : (allQ (ys.map Py.pl)).length ≤ 1000 := by
              rw [allP_pl]
              have := allP_len (m := 6) hparts
              omega
            exact Nat.le_trans restsFrom_len (Nat.le_trans (Nat.mul_le_mul a2 (show (allQ (ys.map Py.pl)).length + 1 ≤ 1001 by omega)) (by decide))
          · simp
  unfold C8.agg
  generalize restsR c.rs c.lots (ys.map Py.pl) = R at *
  generalize scheckR c.len c.wd c.ps c.rs c.lots (ys.map Py.pl) = sc at *
  obtain ⟨rl, re⟩ := R
  unfold RestsPost at HR1 HR2
  clear hc hyp hfew hparts
  obtain ⟨len, wd, rx, ry, s1, c1, sz, s2, c2, pl, qa, qc, ps, ra, rc, rs, la, lc, lots, aa, ac, plies⟩ := c
  simp only [] at HF HC1 HC2 HR1 HR2 hRl ⊢
  go_enter Try.func4, Try.ntmps4
  go_upto_region 2 with fail
  refine name_world (fun W1 hW1 => ?_)
  have hl1 : Later w W1 := by rw [hW1]; exact (by repeat' (with_reducible first | exact Later.refl _ | assumption | refine Later.drew ?_ | refine Later.drewN ?_ _ | refine Later.alloc ?_ _ | refine Later.put ?_ (by omega) _ | refine Later.trans ?_ (by assumption)))
  have D1 : Blk W1 w.heap.size 31 #[.int .i64 len, .int .i64 wd, .int .i64 rx, .int .i64 ry, .slice s1 sz.length c1, .slice s2 pl.length c2, .slice qa ps.length qc, .slice ra rs.length rc, .slice la lots.length lc, .slice aa plies.length ac] := by rw [hW1]; exact (by repeat' (with_reducible first | assumption | (refine Blk.newAt ?_; simp; done) | refine Blk.alloc ?_ _ | refine Blk.drew ?_ | refine Blk.drewN ?_ _ | refine Blk.later ?_ (by assumption)))
  have D2 : Blk W1 (w.heap.size + 1) 36 #[.int .i64 len, .int .i64 wd, .int .i64 rx, .int .i64 ry, .slice s1 sz.length c1, .slice s2 pl.length c2, .slice YA ys.length yc] := by rw [hW1]; exact (by repeat' (with_reducible first | assumption | (refine Blk.newAt ?_; simp; done) | refine Blk.alloc ?_ _ | refine Blk.drew ?_ | refine Blk.drewN ?_ _ | refine Blk.later ?_ (by assumption)))
  clear hW1
  have hg2 : w.heap.size ≠ w.heap.size + 1 := by omega
  generalize hg : w.heap.size + 1 = g2 at *
  clear hg
  have k0 : W1.cell? ⟨w.heap.size, 0, none⟩ = some (.int .i64 len) := D1.cell 0
  have k1 : W1.cell? ⟨w.heap.size, 1, none⟩ = some (.int .i64 wd) := D1.cell 1
  have k2 : W1.cell? ⟨w.heap.size, 2, none⟩ = some (.int .i64 rx) := D1.cell 2
  have k3 : W1.cell? ⟨w.heap.size, 3, none⟩ = some (.int .i64 ry) := D1.cell 3
  have k4 : W1.cell? ⟨w.heap.size, 4, none⟩ = some (.slice s1 sz.length c1) := D1.cell 4
  have k5 : W1.cell? ⟨w.heap.size, 5, none⟩ = some (.slice s2 pl.length c2) := D1.cell 5
  have k6 : W1.cell? ⟨w.heap.size, 6, none⟩ = some (.slice qa ps.length qc) := D1.cell 6
  have k7 : W1.cell? ⟨w.heap.size, 7, none⟩ = some (.slice ra rs.length rc) := D1.cell 7
  have k8 : W1.cell? ⟨w.heap.size, 8, none⟩ = some (.slice la lots.length lc) := D1.cell 8
  have zk := D1.lt
  have q0 : W1.cell? ⟨g2, 0, none⟩ = some (.int .i64 len) := D2.cell 0
  have q1 : W1.cell? ⟨g2, 1, none⟩ = some (.int .i64 wd) := D2.cell 1
  have q2 : W1.cell? ⟨g2, 2, none⟩ = some (.int .i64 rx) := D2.cell 2
  have q3 : W1.cell? ⟨g2, 3, none⟩ = some (.int .i64 ry) := D2.cell 3
  have q4 : W1.cell? ⟨g2, 4, none⟩ = some (.slice s1 sz.length c1) := D2.cell 4
  have q5 : W1.cell? ⟨g2, 5, none⟩ = some (.slice s2 pl.length c2) := D2.cell 5
  have q6 : W1.cell? ⟨g2, 6, none⟩ = some (.slice YA ys.length yc) := D2.cell 6
  have z2 := D2.lt
  go_upto_region 4 with (first | (go_at_call 22; (with_reducible refine (HF.out _ hl1).mono ?_); rintro e w2 ⟨rfl, hb2⟩))
  have hl2 : Later w w2 := hl1.trans hb2
  have D1b := D1.later hb2
  have D2b := D2.later hb2
  clear k0 k1 k2 k3 k4 k5 k6 k7 k8 zk q0 q1 q2 q3 q4 q5 q6 z2 hb2 hl1 D1 D2
  have k0 : w2.cell? ⟨w.heap.size, 0, none⟩ = some (.int .i64 len) := D1b.cell 0
  have k1 : w2.cell? ⟨w.heap.size, 1, none⟩ = some (.int .i64 wd) := D1b.cell 1
  have k2 : w2.cell? ⟨w.heap.size, 2, none⟩ = some (.int .i64 rx) := D1b.cell 2
  have k3 : w2.cell? ⟨w.heap.size, 3, none⟩ = some (.int .i64 ry) := D1b.cell 3
  have k4 : w2.cell? ⟨w.heap.size, 4, none⟩ = some (.slice s1 sz.length c1) := D1b.cell 4
  have k5 : w2.cell? ⟨w.heap.size, 5, none⟩ = some (.slice s2 pl.length c2) := D1b.cell 5
  have k6 : w2.cell? ⟨w.heap.size, 6, none⟩ = some (.slice qa ps.length qc) := D1b.cell 6
  have k7 : w2.cell? ⟨w.heap.size, 7, none⟩ = some (.slice ra rs.length rc) := D1b.cell 7
  have k8 : w2.cell? ⟨w.heap.size, 8, none⟩ = some (.slice la lots.length lc) := D1b.cell 8
  have zk := D1b.lt
  have q0 : w2.cell? ⟨g2, 0, none⟩ = some (.int .i64 len) := D2b.cell 0
  have q1 : w2.cell? ⟨g2, 1, none⟩ = some (.int .i64 wd) := D2b.cell 1
  have q2 : w2.cell? ⟨g2, 2, none⟩ = some (.int .i64 rx) := D2b.cell 2
  have q3 : w2.cell? ⟨g2, 3, none⟩ = some (.int .i64 ry) := D2b.cell 3
  have q4 : w2.cell? ⟨g2, 4, none⟩ = some (.slice s1 sz.length c1) := D2b.cell 4
  have q5 : w2.cell? ⟨g2, 5, none⟩ = some (.slice s2 pl.length c2) := D2b.cell 5
  have q6 : w2.cell? ⟨g2, 6, none⟩ = some (.slice YA ys.length yc) := D2b.cell 6
  have z2 := D2b.lt
  go_upto_region 5 with (first | (go_at_call 23; (with_reducible refine (HR1.out _ hl2).mono ?_); rintro e w3 ⟨A3, c3, rfl, ho3, hb3⟩))
  obtain ⟨A3', c3', e3, m1, m2, hX⟩ := ho3.qds
  cases e3
  have hl3 : Later w w3 := hl2.trans hb3
  have D1c := D1b.later hb3
  have D2c := D2b.later hb3
  clear k0 k1 k2 k3 k4 k5 k6 k7 k8 zk q0 q1 q2 q3 q4 q5 q6 z2 hb3 hl2 D1b D2b
  have k0 : w3.cell? ⟨w.heap.size, 0, none⟩ = some (.int .i64 len) := D1c.cell 0
  have k1 : w3.cell? ⟨w.heap.size, 1, none⟩ = some (.int .i64 wd) := D1c.cell 1
  have k2 : w3.cell? ⟨w.heap.size, 2, none⟩ = some (.int .i64 rx) := D1c.cell 2
  have k3 : w3.cell? ⟨w.heap.size, 3, none⟩ = some (.int .i64 ry) := D1c.cell 3
  have k4 : w3.cell? ⟨w.heap.size, 4, none⟩ = some (.slice s1 sz.length c1) := D1c.cell 4
  have k5 : w3.cell? ⟨w.heap.size, 5, none⟩ = some (.slice s2 pl.length c2) := D1c.cell 5
  have k6 : w3.cell? ⟨w.heap.size, 6, none⟩ = some (.slice qa ps.length qc) := D1c.cell 6
  have k7 : w3.cell? ⟨w.heap.size, 7, none⟩ = some (.slice ra rs.length rc) := D1c.cell 7
  have k8 : w3.cell? ⟨w.heap.size, 8, none⟩ = some (.slice la lots.length lc) := D1c.cell 8
  have zk := D1c.lt
  have q0 : w3.cell? ⟨g2, 0, none⟩ = some (.int .i64 len) := D2c.cell 0
  have q1 : w3.cell? ⟨g2, 1, none⟩ = some (.int .i64 wd) := D2c.cell 1
  have q2 : w3.cell? ⟨g2, 2, none⟩ = some (.int .i64 rx) := D2c.cell 2
  have q3 : w3.cell? ⟨g2, 3, none⟩ = some (.int .i64 ry) := D2c.cell 3
  have q4 : w3.cell? ⟨g2, 4, none⟩ = some (.slice s1 sz.length c1) := D2c.cell 4
  have q5 : w3.cell? ⟨g2, 5, none⟩ = some (.slice s2 pl.length c2) := D2c.cell 5
  have q6 : w3.cell? ⟨g2, 6, none⟩ = some (.slice YA ys.length yc) := D2c.cell 6
  have z2 := D2c.lt
  go_upto_region 6 with (first | (go_at_call 24; (with_reducible refine (HR2.out _ hl3).mono ?_); rintro e w4 ⟨A4, c4, rfl, ho4, hb4⟩))
  obtain ⟨A4', c4', e4, m3, m4, hY⟩ := ho4.qds
  cases e4
  have hl4 : Later w w4 := hl3.trans hb4
  have D1d := D1c.later hb4
  have D2d := D2c.later hb4
  have hX4 := hX.later hb4
  clear k0 k1 k2 k3 k4 k5 k6 k7 k8 zk q0 q1 q2 q3 q4 q5 q6 z2 hb4 hl3 D1c D2c hX ho3 ho4 m1 m2 m3 m4
  have k0 : w4.cell? ⟨w.heap.size, 0, none⟩ = some (.int .i64 len) := D1d.cell 0
  have k1 : w4.cell? ⟨w.heap.size, 1, none⟩ = some (.int .i64 wd) := D1d.cell 1
  have k2 : w4.cell? ⟨w.heap.size, 2, none⟩ = some (.int .i64 rx) := D1d.cell 2
  have k3 : w4.cell? ⟨w.heap.size, 3, none⟩ = some (.int .i64 ry) := D1d.cell 3
  have k4 : w4.cell? ⟨w.heap.size, 4, none⟩ = some (.slice s1 sz.length c1) := D1d.cell 4
  have k5 : w4.cell? ⟨w.heap.size, 5, none⟩ = some (.slice s2 pl.length c2) := D1d.cell 5
  have k6 : w4.cell? ⟨w.heap.size, 6, none⟩ = some (.slice qa ps.length qc) := D1d.cell 6
  have k7 : w4.cell? ⟨w.heap.size, 7, none⟩ = some (.slice ra rs.length rc) := D1d.cell 7
  have k8 : w4.cell? ⟨w.heap.size, 8, none⟩ = some (.slice la lots.length lc) := D1d.cell 8
  have zk := D1d.lt
  have q0 : w4.cell? ⟨g2, 0, none⟩ = some (.int .i64 len) := D2d.cell 0
  have q1 : w4.cell? ⟨g2, 1, none⟩ = some (.int .i64 wd) := D2d.cell 1
  have q2 : w4.cell? ⟨g2, 2, none⟩ = some (.int .i64 rx) := D2d.cell 2
  have q3 : w4.cell? ⟨g2, 3, none⟩ = some (.int .i64 ry) := D2d.cell 3
  have q4 : w4.cell? ⟨g2, 4, none⟩ = some (.slice s1 sz.length c1) := D2d.cell 4
  have q5 : w4.cell? ⟨g2, 5, none⟩ = some (.slice s2 pl.length c2) := D2d.cell 5
  have q6 : w4.cell? ⟨g2, 6, none⟩ = some (.slice YA ys.length yc) := D2d.cell 6
  have z2 := D2d.lt
  have HS := Lib.hid (fun W (hW : Later w4 W) => by
    have h := ref38_SameRests A3 A4 c3 c4 rl rl W hRl (hX4.later hW) (hY.later hW)
    rw [decide_eq_true_iff.2 rfl] at h
    exact h)
  have HC1' := Lib.hid (fun W (hW : Later w4 W) => HC1.out W (hl4.trans hW))
  have HC2' := Lib.hid (fun W (hW : Later w4 W) => HC2.out W (hl4.trans hW))
  clear HC1 HC2
  go_region_held3 (fun w' : World => (∀ a : Addr, (w4.cell? a).isSome = true → w'.cell? a = w4.cell? a) ∧ Later w4 w') (first | assumption | exact keep_call (by assumption) (by assumption) | exact keep_call (by assumption) ((Later.refl _).alloc _) | exact keep_init _)
    (first
    | (go_at_call 25; (with_reducible refine (HC1'.out _ (by (have hk := (by assumption : _ ∧ Later w4 _).2); exact hk)).mono ?_); rintro e w6 ⟨rfl, hb6⟩)
    | (go_at_call 26; (with_reducible refine (HC2'.out _ (by (have hk := (by assumption : _ ∧ Later w4 _).2); exact hk)).mono ?_); rintro e w7 ⟨rfl, hb7⟩)
    | (go_at_call 21; (with_reducible refine (HS.out _ (by (have hk := (by assumption : _ ∧ Later w4 _).2); exact hk)).mono ?_); rintro e w8 ⟨rfl, hb8⟩)
    | (go_at_call 16; (with_reducible refine (HX.out _).mono ?_); rintro e w9 ⟨rfl, hb9⟩))
  all_goals
    rename_i hHw
    go_wp2
    go_ret
    exact ⟨rfl, hl4.trans hHw.2⟩

end Go.Proofs.Ytinjdlnikhcbfaa
