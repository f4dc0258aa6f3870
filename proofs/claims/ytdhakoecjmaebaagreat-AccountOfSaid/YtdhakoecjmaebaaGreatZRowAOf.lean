/-
 AccountOf, walked.
-/
import Derived.Test.YtdhakoecjmaebaaGreatZStepC
import Derived.Test.YtdhakoecjmaebaaGreatZRefAe
namespace Go.Proofs.YtdhakoecjmaebaaGreat
open Go.RowKit
set_option linter.unusedSimpArgs false
set_option linter.unusedVariables false
section
attribute [local go_sem] build_lay9
set_option maxHeartbeats 8000000 in
set_option maxRecDepth 100000 in
theorem law40_AccountOf (hex : ∀ W, Calls Tryz.prog 19 #[] W (Ret (.bool true) W)) (c : C8) (YA : Option Addr) (yc : Nat) (ys : List Py) (w : World) (hc : C8Ok w c) (hy : ys.length ≤ yc ∧ yc ≤ maxLen ∧ Plys w YA ys) :
  Calls Tryz.prog 4 #[c.agg, .slice YA ys.length yc] w (Ret (.bool true) w) := by
 have HX := Lib.hid hex
 obtain ⟨hy1, hy2, hyp⟩ := hy
 have HF := Lib.hid (fun W (hW : Later w W) => law40_few c YA yc ys W (hc.later hW) (hyp.later hW))
 rcases hfew : few40 c ys with _ | _
 ·rw [hfew] at HF
  unfold C8.agg at HF ⊢
  clear hfew
  obtain ⟨len, wd, rx, ry, s1, c1, sz, s2, c2, pl, qa, qc, ps, ra, rc, rs, la, lc, lots, aa, ac, plies⟩ := c
  simp only [] at HF ⊢
  go_enter Tryz.func4, Tryz.ntmps4
  go_wp2_with (first | (go_at_call 18; (with_reducible refine (HF.out _ (by repeat' (with_reducible first | exact .refl _ | assumption | refine .drew ?_ | refine .drewN ?_ _ | refine .alloc ?_ _ | refine .put ?_ (by omega) _ | refine .trans ?_ (by assumption)))).mono ?_); rintro e w2 ⟨rfl, hb2⟩) | (go_at_call 19; (with_reducible refine (HX.out _).mono ?_); rintro e w10 ⟨rfl, hb10⟩))
  go_ret
  exact ⟨rfl, (by repeat' (with_reducible first | exact .refl _ | assumption | refine .drew ?_ | refine .drewN ?_ _ | refine .alloc ?_ _ | refine .put ?_ (by omega) _ | refine .trans ?_ (by assumption)))⟩
 rw [hfew] at HF
 obtain ⟨h6, h38⟩ := few40_all hfew
 obtain ⟨a1, a2, a3, a4, a5, a6, a7⟩ := f38_all h38
 have hp := f40_parts h38
 have HR1 := Lib.hid (fun W (hW : Later w W) => few40_of (c := c) (k := yc) (A := YA) (zs := ys) (hc.later hW) hfew (fun z h => h) (Nat.le_refl _) (hyp.later hW))
 have HR2 := Lib.hid (fun W (hW : Later w W) => ref40_Of c.qa c.ra c.la c.s1 c.s2 YA c.qc c.rc c.lc c.sz.length c.c1 c.pl.length c.c2 yc c.len c.wd c.rx c.ry c.ps c.rs c.lots ys W (hc.ps.later hW) (fun p hp => by have := a7 p hp; omega) (hc.rs.later hW) (by omega) (hc.lots.later hW) (by omega) (hyp.later hW) (by omega) (fun y hy => by have := hp y hy; omega) (by omega) hc.psc.1)
 unfold Bal.agg at HR1 HR2
 unfold C8.agg at HF ⊢
 generalize accR c.len c.wd c.ps c.rs c.lots ys = R at *
 obtain ⟨⟨bt, bp, bd, bw, bs⟩, re⟩ := R
 clear hfew hc h38 hp a1 a2 a3 a4 a5 a6 a7
 obtain ⟨len, wd, rx, ry, s1, c1, sz, s2, c2, pl, qa, qc, ps, ra, rc, rs, la, lc, lots, aa, ac, plies⟩ := c
 simp only [] at HF HR1 HR2 ⊢
 go_enter Tryz.func4, Tryz.ntmps4
 go_upto_region 1 with fail
 refine name_world (fun W1 hW1 => ?_)
 have hl1 : Later w W1 := by rw [hW1]; exact (by repeat' (with_reducible first | exact .refl _ | assumption | refine .drew ?_ | refine .drewN ?_ _ | refine .alloc ?_ _ | refine .put ?_ (by omega) _ | refine .trans ?_ (by assumption)))
 have D1 : Blk W1 w.heap.size 66 #[.int .i64 len, .int .i64 wd, .int .i64 rx, .int .i64 ry, .slice s1 sz.length c1, .slice s2 pl.length c2, .slice qa ps.length qc, .slice ra rs.length rc, .slice la lots.length lc, .slice aa plies.length ac] := by rw [hW1]; exact (by repeat' (with_reducible first | assumption | (refine Blk.newAt ?_; simp; done) | refine Blk.alloc ?_ _ | refine Blk.drew ?_ | refine Blk.drewN ?_ _ | refine Blk.later ?_ (by assumption)))
 clear hW1
 have k0 : W1.cell? ⟨w.heap.size, 0, none⟩ = some (.int .i64 len) := D1.cell 0
 have k1 : W1.cell? ⟨w.heap.size, 1, none⟩ = some (.int .i64 wd) := D1.cell 1
 have k2 : W1.cell? ⟨w.heap.size, 2, none⟩ = some (.int .i64 rx) := D1.cell 2
 have k3 : W1.cell? ⟨w.heap.size, 3, none⟩ = some (.int .i64 ry) := D1.cell 3
 have k4 : W1.cell? ⟨w.heap.size, 4, none⟩ = some (.slice s1 sz.length c1) := D1.cell 4
 have k5 : W1.cell? ⟨w.heap.size, 5, none⟩ = some (.slice s2 pl.length c2) := D1.cell 5
 have k6 : W1.cell? ⟨w.heap.size, 6, none⟩ = some (.slice qa ps.length qc) := D1.cell 6
 have k7 : W1.cell? ⟨w.heap.size, 7, none⟩ = some (.slice ra rs.length rc) := D1.cell 7
 have k8 : W1.cell? ⟨w.heap.size, 8, none⟩ = some (.slice la lots.length lc) := D1.cell 8
 have k9 : W1.cell? ⟨w.heap.size, 9, none⟩ = some (.slice aa plies.length ac) := D1.cell 9
 have zk := D1.lt
 go_upto_region 3 with (first | (go_at_call 18; (with_reducible refine (HF.out _ hl1).mono ?_); rintro e w2 ⟨rfl, hb2⟩))
 have D2 := D1.later hb2
 clear k0 k1 k2 k3 k4 k5 k6 k7 k8 k9 zk
 have k0 : w2.cell? ⟨w.heap.size, 0, none⟩ = some (.int .i64 len) := D2.cell 0
 have k1 : w2.cell? ⟨w.heap.size, 1, none⟩ = some (.int .i64 wd) := D2.cell 1
 have k2 : w2.cell? ⟨w.heap.size, 2, none⟩ = some (.int .i64 rx) := D2.cell 2
 have k3 : w2.cell? ⟨w.heap.size, 3, none⟩ = some (.int .i64 ry) := D2.cell 3
 have k4 : w2.cell? ⟨w.heap.size, 4, none⟩ = some (.slice s1 sz.length c1) := D2.cell 4
 have k5 : w2.cell? ⟨w.heap.size, 5, none⟩ = some (.slice s2 pl.length c2) := D2.cell 5
 have k6 : w2.cell? ⟨w.heap.size, 6, none⟩ = some (.slice qa ps.length qc) := D2.cell 6
 have k7 : w2.cell? ⟨w.heap.size, 7, none⟩ = some (.slice ra rs.length rc) := D2.cell 7
 have k8 : w2.cell? ⟨w.heap.size, 8, none⟩ = some (.slice la lots.length lc) := D2.cell 8
 have k9 : w2.cell? ⟨w.heap.size, 9, none⟩ = some (.slice aa plies.length ac) := D2.cell 9
 have zk := D2.lt
 go_upto_region 4 with fail
 refine name_world (fun W3 hW3 => ?_)
 have hl23 : Later w2 W3 := by rw [hW3]; exact (by repeat' (with_reducible first | exact .refl _ | assumption | refine .drew ?_ | refine .drewN ?_ _ | refine .alloc ?_ _ | refine .put ?_ (by omega) _ | refine .trans ?_ (by assumption)))
 have hl3 := (hl1.trans hb2).trans hl23
 have D2b := D2.later hl23
 have DL : Blk W3 w2.heap.size 70 #[.int .i64 len, .int .i64 wd, .int .i64 rx, .int .i64 ry, .slice s1 sz.length c1, .slice s2 pl.length c2, .slice YA ys.length yc] := by rw [hW3]; exact (by repeat' (with_reducible first | assumption | (refine Blk.newAt ?_; simp; done) | refine Blk.alloc ?_ _ | refine Blk.drew ?_ | refine Blk.drewN ?_ _ | refine Blk.later ?_ (by assumption)))
 clear hW3 k0 k1 k2 k3 k4 k5 k6 k7 k8 k9 zk hb2 hl1 hl23 D1 D2
 generalize w2.heap.size = g2 at *
 have k0 : W3.cell? ⟨w.heap.size, 0, none⟩ = some (.int .i64 len) := D2b.cell 0
 have k1 : W3.cell? ⟨w.heap.size, 1, none⟩ = some (.int .i64 wd) := D2b.cell 1
 have k2 : W3.cell? ⟨w.heap.size, 2, none⟩ = some (.int .i64 rx) := D2b.cell 2
 have k3 : W3.cell? ⟨w.heap.size, 3, none⟩ = some (.int .i64 ry) := D2b.cell 3
 have k4 : W3.cell? ⟨w.heap.size, 4, none⟩ = some (.slice s1 sz.length c1) := D2b.cell 4
 have k5 : W3.cell? ⟨w.heap.size, 5, none⟩ = some (.slice s2 pl.length c2) := D2b.cell 5
 have k6 : W3.cell? ⟨w.heap.size, 6, none⟩ = some (.slice qa ps.length qc) := D2b.cell 6
 have k7 : W3.cell? ⟨w.heap.size, 7, none⟩ = some (.slice ra rs.length rc) := D2b.cell 7
 have k8 : W3.cell? ⟨w.heap.size, 8, none⟩ = some (.slice la lots.length lc) := D2b.cell 8
 have k9 : W3.cell? ⟨w.heap.size, 9, none⟩ = some (.slice aa plies.length ac) := D2b.cell 9
 have zk := D2b.lt
 have q0 : W3.cell? ⟨g2, 0, none⟩ = some (.int .i64 len) := DL.cell 0
 have q1 : W3.cell? ⟨g2, 1, none⟩ = some (.int .i64 wd) := DL.cell 1
 have q2 : W3.cell? ⟨g2, 2, none⟩ = some (.int .i64 rx) := DL.cell 2
 have q3 : W3.cell? ⟨g2, 3, none⟩ = some (.int .i64 ry) := DL.cell 3
 have q4 : W3.cell? ⟨g2, 4, none⟩ = some (.slice s1 sz.length c1) := DL.cell 4
 have q5 : W3.cell? ⟨g2, 5, none⟩ = some (.slice s2 pl.length c2) := DL.cell 5
 have q6 : W3.cell? ⟨g2, 6, none⟩ = some (.slice YA ys.length yc) := DL.cell 6
 have z2 := DL.lt
 go_upto_region 5 with (first | (go_at_call 20; (with_reducible refine (HR1.out _ (hl3.trans (by repeat' (with_reducible first | exact .refl _ | assumption | refine .drew ?_ | refine .drewN ?_ _ | refine .alloc ?_ _ | refine .put ?_ (by omega) _ | refine .trans ?_ (by assumption))))).mono ?_); rintro e w4 ⟨rfl, hb4⟩))
 refine name_world (fun W5 hW5 => ?_)
 have hl45 : Later w4 W5 := by rw [hW5]; exact (by repeat' (with_reducible first | exact .refl _ | assumption | refine .drew ?_ | refine .drewN ?_ _ | refine .alloc ?_ _ | refine .put ?_ (by omega) _ | refine .trans ?_ (by assumption)))
 have hl5 : Later W3 W5 := by
  have : Later W3 w4 := (by repeat' (with_reducible first | exact .refl _ | assumption | refine .drew ?_ | refine .drewN ?_ _ | refine .alloc ?_ _ | refine .put ?_ (by omega) _ | refine .trans ?_ (by assumption)))
  exact this.trans hl45
 have B1 : Blk W5 w4.heap.size 72 #[.int .i64 bt, .int .i64 bp, .int .i64 bd, .int .i64 bw, .int .i64 bs] := by rw [hW5]; exact (by repeat' (with_reducible first | assumption | (refine Blk.newAt ?_; simp; done) | refine Blk.alloc ?_ _ | refine Blk.drew ?_ | refine Blk.drewN ?_ _ | refine Blk.later ?_ (by assumption)))
 have D2c := D2b.later hl5
 have DLc := DL.later hl5
 clear hW5 hb4 hl45 k0 k1 k2 k3 k4 k5 k6 k7 k8 k9 zk q0 q1 q2 q3 q4 q5 q6 z2
 generalize w4.heap.size = g1 at *
 have k0 : W5.cell? ⟨w.heap.size, 0, none⟩ = some (.int .i64 len) := D2c.cell 0
 have k1 : W5.cell? ⟨w.heap.size, 1, none⟩ = some (.int .i64 wd) := D2c.cell 1
 have k2 : W5.cell? ⟨w.heap.size, 2, none⟩ = some (.int .i64 rx) := D2c.cell 2
 have k3 : W5.cell? ⟨w.heap.size, 3, none⟩ = some (.int .i64 ry) := D2c.cell 3
 have k4 : W5.cell? ⟨w.heap.size, 4, none⟩ = some (.slice s1 sz.length c1) := D2c.cell 4
 have k5 : W5.cell? ⟨w.heap.size, 5, none⟩ = some (.slice s2 pl.length c2) := D2c.cell 5
 have k6 : W5.cell? ⟨w.heap.size, 6, none⟩ = some (.slice qa ps.length qc) := D2c.cell 6
 have k7 : W5.cell? ⟨w.heap.size, 7, none⟩ = some (.slice ra rs.length rc) := D2c.cell 7
 have k8 : W5.cell? ⟨w.heap.size, 8, none⟩ = some (.slice la lots.length lc) := D2c.cell 8
 have k9 : W5.cell? ⟨w.heap.size, 9, none⟩ = some (.slice aa plies.length ac) := D2c.cell 9
 have zk := D2c.lt
 have q0 : W5.cell? ⟨g2, 0, none⟩ = some (.int .i64 len) := DLc.cell 0
 have q1 : W5.cell? ⟨g2, 1, none⟩ = some (.int .i64 wd) := DLc.cell 1
 have q2 : W5.cell? ⟨g2, 2, none⟩ = some (.int .i64 rx) := DLc.cell 2
 have q3 : W5.cell? ⟨g2, 3, none⟩ = some (.int .i64 ry) := DLc.cell 3
 have q4 : W5.cell? ⟨g2, 4, none⟩ = some (.slice s1 sz.length c1) := DLc.cell 4
 have q5 : W5.cell? ⟨g2, 5, none⟩ = some (.slice s2 pl.length c2) := DLc.cell 5
 have q6 : W5.cell? ⟨g2, 6, none⟩ = some (.slice YA ys.length yc) := DLc.cell 6
 have z2 := DLc.lt
 go_upto_region 6 with (first | (go_at_call 21; (with_reducible refine (HR2.out _ (hl3.trans (hl5.trans (by repeat' (with_reducible first | exact .refl _ | assumption | refine .drew ?_ | refine .drewN ?_ _ | refine .alloc ?_ _ | refine .put ?_ (by omega) _ | refine .trans ?_ (by assumption)))))).mono ?_); rintro e w6 ⟨rfl, hb6⟩))
 refine name_world (fun W7 hW7 => ?_)
 have hl67 : Later w6 W7 := by rw [hW7]; exact (by repeat' (with_reducible first | exact .refl _ | assumption | refine .drew ?_ | refine .drewN ?_ _ | refine .alloc ?_ _ | refine .put ?_ (by omega) _ | refine .trans ?_ (by assumption)))
 have hl7 : Later W5 W7 := by
  have : Later W5 w6 := (by repeat' (with_reducible first | exact .refl _ | assumption | refine .drew ?_ | refine .drewN ?_ _ | refine .alloc ?_ _ | refine .put ?_ (by omega) _ | refine .trans ?_ (by assumption)))
  exact this.trans hl67
 have B2 : Blk W7 w6.heap.size 72 #[.int .i64 bt, .int .i64 bp, .int .i64 bd, .int .i64 bw, .int .i64 bs] := by rw [hW7]; exact (by repeat' (with_reducible first | assumption | (refine Blk.newAt ?_; simp; done) | refine Blk.alloc ?_ _ | refine Blk.drew ?_ | refine Blk.drewN ?_ _ | refine Blk.later ?_ (by assumption)))
 have B1b := B1.later hl7
 clear hW7 hb6 hl67 k0 k1 k2 k3 k4 k5 k6 k7 k8 k9 zk q0 q1 q2 q3 q4 q5 q6 z2
 generalize w6.heap.size = g2' at *
 have x0 : W7.cell? ⟨g1, 0, none⟩ = some (.int .i64 bt) := B1b.cell 0
 have x1 : W7.cell? ⟨g1, 1, none⟩ = some (.int .i64 bp) := B1b.cell 1
 have x2 : W7.cell? ⟨g1, 2, none⟩ = some (.int .i64 bd) := B1b.cell 2
 have x3 : W7.cell? ⟨g1, 3, none⟩ = some (.int .i64 bw) := B1b.cell 3
 have x4 : W7.cell? ⟨g1, 4, none⟩ = some (.int .i64 bs) := B1b.cell 4
 have zx := B1b.lt
 have y0 : W7.cell? ⟨g2', 0, none⟩ = some (.int .i64 bt) := B2.cell 0
 have y1 : W7.cell? ⟨g2', 1, none⟩ = some (.int .i64 bp) := B2.cell 1
 have y2 : W7.cell? ⟨g2', 2, none⟩ = some (.int .i64 bd) := B2.cell 2
 have y3 : W7.cell? ⟨g2', 3, none⟩ = some (.int .i64 bw) := B2.cell 3
 have y4 : W7.cell? ⟨g2', 4, none⟩ = some (.int .i64 bs) := B2.cell 4
 have zy := B2.lt
 go_wp2_with (first | (go_at_call 19; (with_reducible refine (HX.out _).mono ?_); rintro e w10 ⟨rfl, hb10⟩))
 go_ret
 exact ⟨rfl, ((hl3.trans hl5).trans hl7).trans (by repeat' (with_reducible first | exact .refl _ | assumption | refine .drew ?_ | refine .drewN ?_ _ | refine .alloc ?_ _ | refine .put ?_ (by omega) _ | refine .trans ?_ (by assumption)))⟩
end
end Go.Proofs.YtdhakoecjmaebaaGreat
namespace Go.Proofs.YtdhakoecjmaebaaGreat
open Go.ChangeShapes Go.WideShapes Go.ChangeAt Go.RowKit
set_option linter.unusedSimpArgs false
set_option linter.unusedVariables false
theorem readable_aof : ∀ t ∈ (Tryz.f4).params.toList, Tryz.prog.readableRec t = true ∧ t < Tryz.prog.types.size := by
 rw [Tryz.params4]
 intro t ht
 simp only [List.mem_cons, List.not_mem_nil, or_false] at ht
 rcases ht with rfl | rfl
 ·exact ⟨by kernel_rfl, of_decide_eq_true (by kernel_rfl)⟩
 ·exact ⟨by kernel_rfl, of_decide_eq_true (by kernel_rfl)⟩
set_option maxRecDepth 100000 in
theorem accountOf_lifted (hex : ∀ W, Calls Tryz.prog 19 #[] W (Ret (.bool true) W)) (os : Os) (started : os.Started) (H : Type) (enc : TypeId × Value → H) :
  ReturnsInHanded {} Tryz.checked os 4 .any (Rows.accountOfSpec.pre6 enc Tryz.prog Tryz.f4 Rows.accountOfRow.domain false) (Rows.accountOfSpec.post enc Tryz.prog Tryz.f4 false true false false) := by
 refine returnsInHanded_of_change (C := Tryz.checked) prog_own started (by kernel_rfl) Tryz.func4
  (ChangeSpec.witness6 (enc := enc) (C := Tryz.checked) false ⟨#[], #[.agg #[.int .i64 0, .int .i64 0, .int .i64 0, .int .i64 0, .slice none 0 0, .slice none 0 0, .slice none 0 0, .slice none 0 0, .slice none 0 0, .slice none 0 0], .slice none 0 0], []⟩ 8 (by kernel_rfl) (by kernel_rfl) (by kernel_rfl) (by kernel_rfl)) ?_
 intro W base args ds gs before hval0 hW hcnd _
 have hval : ∀ (j : Nat) t v, Tryz.f4.params[j]? = some t → args[j]? = some v → Value.okWide Tryz.prog W .any base t v := hval0
 have hW' := hW
 obtain ⟨p, q, hA0, hV, rfl, hfz, hnd⟩ := hW
 have hA : DataW.TrodAll enc Tryz.prog W 0 (fun _ => true) true Tryz.f4.params.toList args.toList ds p := hA0
 rw [Tryz.params4] at hA hval
 obtain ⟨v0, v1, d0, d1, p0, p1, rfl, rfl, rfl, h0, h1⟩ := trodAll_two hA
 obtain ⟨cs0, rfl, hs0⟩ := okWide_struct Tryz.underlying66 (hval 0 66 v0 rfl rfl)
 obtain ⟨a1, l1, c1, rfl⟩ := okWide_slice Tryz.underlying67 (hval 1 67 v1 rfl rfl)
 obtain ⟨f0, h0⟩ := h0
 obtain ⟨f1, h1⟩ := h1
 obtain ⟨c, e0, k0⟩ := case8_of_trod h0
 have e0' : Value.agg cs0 = c.agg := by
  unfold C8.agg
  try unfold C8.cells at e0
  congr 1
  rw [← Array.toList_inj]
  exact e0
 obtain ⟨A1, c1', plies, e1, k1⟩ := plies_of_trod h1
 have e1' : Value.slice a1 l1 c1 = .slice A1 plies.length c1' := by
  have : [Value.slice a1 l1 c1] = [.slice A1 plies.length c1'] := e1
  injection this
 rw [e0', e1'] at hW' ⊢
 refine (law40_AccountOf hex c A1 c1' plies W k0 k1).mono fun e W' ⟨he, hg⟩ => ?_
 subst he
 exact ⟨_, rfl, law_post rfl rfl rfl readable_aof hW' hg⟩
theorem accountOf_holds_of (hex : ∀ W, Calls Tryz.prog 19 #[] W (Ret (.bool true) W)) : Rows.AccountOfSaid :=
 OpenClaim.holds_of_wide 4 Tryz.f4 rfl rfl rfl rfl rfl rfl rfl ⟨rfl, rfl, rfl, rfl, rfl⟩ rfl rfl rfl rfl rfl (by kernel_rfl) Tryz.func4 (by kernel_rfl)
  (of_decide_eq_true (by kernel_rfl)) (by unfold Func.isWrapper; first | (rw [if_pos (by decide +kernel)]; kernel_rfl) | (rw [if_neg (by decide +kernel)]; exact ⟨rfl, rfl⟩))
  (fun os started H enc _ => accountOf_lifted hex os started H enc)
end Go.Proofs.YtdhakoecjmaebaaGreat
